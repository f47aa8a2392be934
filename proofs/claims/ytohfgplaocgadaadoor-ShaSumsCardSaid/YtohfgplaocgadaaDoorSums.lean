/- The law ShaSums, walked. -/
import Derived.Test.YtohfgplaocgadaaDoorRsum
namespace Go.Proofs.YtohfgplaocgadaaDoor
open Go.RowKit Go.Rat
set_option maxHeartbeats 1200000 in
theorem shaSums_any (n : Nat) (hn64 : n = 64) (w : World) (tb : List Int) (htb : tblL = tb) (hT : Tab w tb) (A : Option Addr) (m c : Nat) (xs : List UInt8) (hr : RB w A m xs) (hm : m ≤ 140737488351232) :
    Calls Tryd.prog 4 #[.slice A m c] w fun e w' => e = .returned (.bool true) ∧ Below w.heap.size w w' := by
  have hdl := digest_length n tb xs
  obtain ⟨D, hD⟩ : ∃ D, digest n tb xs = D := ⟨_, rfl⟩
  rw [hD] at hdl
  have keq : ∀ w, (Op.equalIn 10000 29 (.agg (bvs D).toArray) (.agg (bvs D).toArray)).run Tryd.prog w = .ok true w := fun w => by rw [eql32 D D hdl hdl w, decide_eq_true rfl]
  have HD := Lib.hid hD
  have HN := Lib.hid hn64
  have HTB := Lib.hid htb
  clear hD hn64 htb
  have hl := hr.len
  have hm2 : (m : Int) ≤ 140737488351232 := by omega
  go_enter Tryd.func4, Tryd.ntmps4
  by_cases hbig : 8192 < m
  · have hbi : (8192 : Int) < (m : Int) := by omega
    go_wp2_with (go_at_call 13; refine (works_any n HN.out w tb HTB.out hT).mono ?_; rintro e w2 ⟨rfl, hb2⟩)
    go_ret
    exact ⟨rfl, hb2⟩
  · have hbi : ¬ (8192 : Int) < (m : Int) := by omega
    go_wp2_with (first
      | (at_builtin; refine app_bytes rfl _ _ rfl w.heap.size _ _ _ [] rfl (OB.empty _ _) _ _ _ xs rfl (hr.alloc _) (by omega) (by simp) ?_; intro A2 N2 c2 w2 hc2 hc3 hO2 hG2))
    rw [List.nil_append] at hO2
    have hb2 : Below w.heap.size w w2 := hG2.own (below_alloc _ _) (Nat.le_refl _) (OB.empty w 5)
    have hT2 := Tab.below hT hb2
    have hr2 := hr.below hb2
    have hrO := hO2.reads
    have hlO := hO2.len
    refine (sum_any n HN.out w2 A2 N2 c2 xs tb hT2 hrO hc2 (by omega)).mono ?_
    rw [HD.out]
    rintro e w3 ⟨rfl, hb3⟩
    simp only []
    have hr3 := hr2.below hb3
    have hrO3 := hrO.below hb3
    have hT3 := Tab.below hT2 hb3
    have hbb3 := hb2.trans (hb3.mono hb2.size)
    go_wp2_with fail
    refine (rsum_any n HN.out w3 A m c xs tb HTB.out hr3 (by omega)).mono ?_
    rw [HD.out]
    rintro e w4 ⟨rfl, hb4⟩
    simp only []
    have k1 := conv_str (hr3.below hb4) c
    have k2 := conv_str (hrO3.below hb4) c2
    have hT4 := Tab.below hT3 hb4
    have hbb4 := hbb3.trans (hb4.mono hbb3.size)
    go_wp2_with (go_at_call 13; refine (works_any n HN.out w4 tb HTB.out hT4).mono ?_; rintro e w5 ⟨rfl, hb5⟩)
    go_ret
    exact ⟨rfl, hbb4.trans (hb5.mono hbb4.size)⟩
theorem shaSums_walk (W : World) (hT : Tab W tblL) (A : Option Addr) (m c : Nat) (xs : List UInt8) (_ : xs.length = m) (hr : RB W A m xs) (_ : m ≤ c) (hm : m ≤ 140737488351232) (_ : ∀ ad, A = some ad → ad.block < W.heap.size) :
    Calls Tryd.prog 4 #[.slice A m c] W fun e w' => e = .returned (.bool true) ∧ Below W.heap.size W w' := shaSums_any 64 rfl W tblL rfl hT A m c xs hr hm
end Go.Proofs.YtohfgplaocgadaaDoor
