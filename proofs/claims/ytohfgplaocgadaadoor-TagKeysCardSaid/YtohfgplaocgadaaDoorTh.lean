/- tag: Replica, Client, slices.Concat, Numbered. -/
import Derived.Test.YtohfgplaocgadaaDoorTe
namespace Go.Proofs.YtohfgplaocgadaaDoor
open Go.RowKit Go.Rat
theorem client_some (n : Nat) (hn64 : n = 64) (w : World) (i : Nat) (hi1 : 1 ≤ i) (hi2 : i ≤ 8) (tb : List Int) (hT : Tab w tb) :
    Calls Tryd.prog 23 #[.int .i64 (i : Int)] w fun e w' => ∃ A c, e = .returned (.slice A 32 c) ∧ OB 5 w' w.heap.size A 32 c (keyB n tb ⟨#[114, 97, 116, 99, 104, 101, 116, 32, 99, 108, 105, 101, 110, 116]⟩ i) ∧ Below w.heap.size w w' := by
  obtain ⟨K, hK⟩ : ∃ K, keyB n tb ⟨#[114, 97, 116, 99, 104, 101, 116, 32, 99, 108, 105, 101, 110, 116]⟩ i = K := ⟨_, rfl⟩
  rw [hK]
  have HK := Lib.hid hK
  clear hK
  go_enter Tryd.func23, Tryd.ntmps23
  go_wp2_with (go_at_call 41; refine (key_some n hn64 w ⟨#[114, 97, 116, 99, 104, 101, 116, 32, 99, 108, 105, 101, 110, 116]⟩ (by decide) i 8 hi1 (by omega) (by omega) tb hT).mono ?_; rw [HK.out]; rintro e w2 ⟨A, c, rfl, hO, hb⟩)
  go_ret
  exact ⟨A, c, rfl, hO, hb⟩
theorem client_none (w : World) (i : Int) (hi : ¬ (1 ≤ i ∧ i ≤ 8)) :
    Calls Tryd.prog 23 #[.int .i64 i] w fun e w' => e = .returned (.slice none 0 0) ∧ w = w' := by
  go_enter Tryd.func23, Tryd.ntmps23
  go_wp2_with (go_at_call 41; refine (key_none w _ i 8 hi).mono ?_; rintro e w2 ⟨rfl, rfl⟩)
  go_ret
  exact ⟨rfl, rfl⟩
/-- The key of a replica, of a client; of a number that is none: no bytes. -/
def repK (n : Nat) (tb : List Int) (i : Int) : List UInt8 := if 1 ≤ i ∧ i ≤ 11 then keyB n tb ⟨#[114, 97, 116, 99, 104, 101, 116, 32, 114, 101, 112, 108, 105, 99, 97]⟩ i.toNat else []
def cliK (n : Nat) (tb : List Int) (i : Int) : List UInt8 := if 1 ≤ i ∧ i ≤ 8 then keyB n tb ⟨#[114, 97, 116, 99, 104, 101, 116, 32, 99, 108, 105, 101, 110, 116]⟩ i.toNat else []
def KeyAt (w : World) (xs : List UInt8) (e : Ending) (w' : World) : Prop := ∃ A m c, e = .returned (.slice A m c) ∧ m ≤ c ∧ m < 1000 ∧ xs.length = m ∧ OB 5 w' w.heap.size A m c xs ∧ Below w.heap.size w w'
theorem replica_any (n : Nat) (hn64 : n = 64) (w : World) (i : Int) (tb : List Int) (hT : Tab w tb) : Calls Tryd.prog 21 #[.int .i64 i] w (KeyAt w (repK n tb i)) := by
  by_cases hi : 1 ≤ i ∧ i ≤ 11
  · obtain ⟨k, rfl⟩ := Int.eq_ofNat_of_zero_le (by omega : 0 ≤ i)
    refine (replica_some n hn64 w k (by omega) (by omega) tb hT).mono ?_
    rintro e w' ⟨A, c, rfl, hO, hb⟩
    rw [repK, if_pos hi, Int.toNat_natCast]
    exact ⟨A, 32, c, rfl, hO.cap.1, by omega, hO.len, hO, hb⟩
  · refine (replica_none w i hi).mono ?_
    rintro e w' ⟨rfl, rfl⟩
    rw [repK, if_neg hi]
    exact ⟨none, 0, 0, rfl, Nat.le_refl _, by omega, rfl, OB.nil_ _ _ _, Below.refl _ _⟩
theorem client_any (n : Nat) (hn64 : n = 64) (w : World) (i : Int) (tb : List Int) (hT : Tab w tb) : Calls Tryd.prog 23 #[.int .i64 i] w (KeyAt w (cliK n tb i)) := by
  by_cases hi : 1 ≤ i ∧ i ≤ 8
  · obtain ⟨k, rfl⟩ := Int.eq_ofNat_of_zero_le (by omega : 0 ≤ i)
    refine (client_some n hn64 w k (by omega) (by omega) tb hT).mono ?_
    rintro e w' ⟨A, c, rfl, hO, hb⟩
    rw [cliK, if_pos hi, Int.toNat_natCast]
    exact ⟨A, 32, c, rfl, hO.cap.1, by omega, hO.len, hO, hb⟩
  · refine (client_none w i hi).mono ?_
    rintro e w' ⟨rfl, rfl⟩
    rw [cliK, if_neg hi]
    exact ⟨none, 0, 0, rfl, Nat.le_refl _, by omega, rfl, OB.nil_ _ _ _, Below.refl _ _⟩
set_option maxHeartbeats 400000 in
theorem grow0_any (w : World) (k : Int) (h0 : 0 ≤ k) (h1 : k ≤ 4398046511104) :
    Calls Tryd.prog 48 #[.slice none 0 0, .int .i64 k] w fun e w' => ∃ A' c', e = .returned (.slice A' 0 c') ∧ OB 5 w' w.heap.size A' 0 c' [] ∧ Below w.heap.size w w' := by
  by_cases hk : k ≤ 0
  · go_enter Tryd.func48, Tryd.ntmps48
    go_wp2_with fail
    go_ret
    exact ⟨none, 0, rfl, OB.nil_ _ _ _, Below.refl _ _⟩
  · have hz : w.ownsRow w.heap.size 5 1 (.slice none 0 0) 0 [] := World.ownsRow_nil _ _ _ _
    go_enter Tryd.func48, Tryd.ntmps48
    go_wp2_with (at_builtin; refine app_zeros rfl _ _ rfl w.heap.size _ _ [] rfl hz _ rfl (by omega) (by omega) (Nat.le_refl _) ?_; intro A2 N2 c2 w2 hc2 hc3 hO2 hG)
    go_ret
    refine ⟨A2, c2, rfl, ?_, hG.below (Below.refl _ _) (Nat.le_refl _) (by simp)⟩
    have := own_shorter hO2 (k := 0) (by omega)
    simpa [OB, bvs] using this
end Go.Proofs.YtohfgplaocgadaaDoor
