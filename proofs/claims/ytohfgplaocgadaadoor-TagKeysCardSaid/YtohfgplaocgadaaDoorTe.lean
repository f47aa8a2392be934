/- tag: the anchor. -/
import Derived.Test.YtohfgplaocgadaaDoorTd
import Derived.Test.YtohfgplaocgadaaDoorWorks
namespace Go.Proofs.YtohfgplaocgadaaDoor
open Go.RowKit Go.Rat
def key20 : List UInt8 := List.replicate 20 11
def hiB : List UInt8 := [72, 105, 32, 84, 104, 101, 114, 101]
def jefeB : List UInt8 := [74, 101, 102, 101]
def wantB : List UInt8 := [119, 104, 97, 116, 32, 100, 111, 32, 121, 97, 32, 119, 97, 110, 116, 32, 102, 111, 114, 32, 110, 111, 116, 104, 105, 110, 103, 63]
theorem tev1 : (ofF 64 tblL key20 hiB).take 4 = [176, 52, 76, 97] := by decide +kernel
theorem tev2 : (ofF 64 tblL key20 hiB).drop 28 = [46, 50, 207, 247] := by decide +kernel
theorem tev3 : (ofF 64 tblL jefeB wantB).take 4 = [91, 220, 193, 70] := by decide +kernel
theorem tev4 : (ofF 64 tblL jefeB wantB).drop 28 = [100, 236, 56, 67] := by decide +kernel
theorem replica_some (n : Nat) (hn64 : n = 64) (w : World) (i : Nat) (hi1 : 1 ≤ i) (hi2 : i ≤ 11) (tb : List Int) (hT : Tab w tb) :
    Calls Tryd.prog 21 #[.int .i64 (i : Int)] w fun e w' => ∃ A c, e = .returned (.slice A 32 c) ∧ OB 5 w' w.heap.size A 32 c (keyB n tb ⟨#[114, 97, 116, 99, 104, 101, 116, 32, 114, 101, 112, 108, 105, 99, 97]⟩ i) ∧ Below w.heap.size w w' := by
  obtain ⟨K, hK⟩ : ∃ K, keyB n tb ⟨#[114, 97, 116, 99, 104, 101, 116, 32, 114, 101, 112, 108, 105, 99, 97]⟩ i = K := ⟨_, rfl⟩
  rw [hK]
  have HK := Lib.hid hK
  clear hK
  go_enter Tryd.func21, Tryd.ntmps21
  go_wp2_with (go_at_call 41; refine (key_some n hn64 w ⟨#[114, 97, 116, 99, 104, 101, 116, 32, 114, 101, 112, 108, 105, 99, 97]⟩ (by decide) i 11 hi1 (by omega) (by omega) tb hT).mono ?_; rw [HK.out]; rintro e w2 ⟨A, c, rfl, hO, hb⟩)
  go_ret
  exact ⟨A, c, rfl, hO, hb⟩
theorem replica_none (w : World) (i : Int) (hi : ¬ (1 ≤ i ∧ i ≤ 11)) :
    Calls Tryd.prog 21 #[.int .i64 i] w fun e w' => e = .returned (.slice none 0 0) ∧ w = w' := by
  go_enter Tryd.func21, Tryd.ntmps21
  go_wp2_with (go_at_call 41; refine (key_none w _ i 11 hi).mono ?_; rintro e w2 ⟨rfl, rfl⟩)
  go_ret
  exact ⟨rfl, rfl⟩
end Go.Proofs.YtohfgplaocgadaaDoor
