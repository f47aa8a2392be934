/- The law TagOthers, walked. -/
import Derived.Test.YtohfgplaocgadaaDoorTm
import Derived.Test.YtohfgplaocgadaaDoorTf
namespace Go.Proofs.YtohfgplaocgadaaDoor
open Go.RowKit Go.Rat
theorem below_next {a b c : World} (h : Below a.heap.size a b) (k : Below b.heap.size b c) : Below a.heap.size a c := h.trans (k.mono h.size)
theorem repK_none (n : Nat) (tb : List Int) (i : Int) (hi : ¬ (1 ≤ i ∧ i ≤ 11)) : repK n tb i = [] := by rw [repK, if_neg hi]
theorem keq32 (F : List UInt8) (hF : F.length = 32) (w : World) : (Op.equalIn 10000 29 (.agg (bvs F).toArray) (.agg (bvs F).toArray)).run Tryd.prog w = .ok true w := by rw [eql32 F F hF hF w, decide_eq_true rfl]
set_option maxRecDepth 8000 in
set_option maxHeartbeats 4000000 in
theorem tagOthers_any (n : Nat) (hn64 : n = 64) (w : World) (tb : List Int) (htb : tblL = tb) (hT : Tab w tb) (i : Int) (x : Nat) (hx : x < 2 ^ 64) (A : Option Addr) (m c : Nat) (b : List UInt8) (hr : RB w A m b) (hmc : m ≤ c) (hm : m ≤ 140737488351232) :
    Calls Tryd.prog 9 #[.int .i64 i, .int .u64 (x : Int), .slice A m c] w fun e w' => e = .returned (.bool true) ∧ Below w.heap.size w w' := by
  have HN := Lib.hid hn64
  have HTB := Lib.hid htb
  have HX := Lib.hid hx
  clear hn64 htb hx
  have hl := hr.len
  have h0 := Below.refl w.heap.size w
  by_cases hbig : 1024 < m
  · have hbi : (1024 : Int) < (m : Int) := by omega
    go_enter Tryd.func9, Tryd.ntmps9
    go_wp2_with (go_at_call 17; refine (works3_any n HN.out w tb HTB.out hT).mono ?_; rintro e w2 ⟨rfl, hb2⟩)
    go_ret
    exact ⟨rfl, hb2⟩
  · have hbi : ¬ (1024 : Int) < (m : Int) := by omega
    by_cases hi : 1 ≤ i ∧ i ≤ 11
    · obtain ⟨k, rfl⟩ := Int.eq_ofNat_of_zero_le (by omega : 0 ≤ i)
      have hi1 : (1 : Int) ≤ (k : Int) := by omega
      have hi2 : (k : Int) ≤ 11 := by omega
      by_cases hc : k ≤ 8
      · have hc1 : (k : Int) ≤ 8 := by omega
        go_enter Tryd.func9, Tryd.ntmps9
        go_wp2_with (first
          | (go_at_call 21; refine (replica_some n HN.out _ k (by omega) (by omega) tb (Tab.below hT (by assumption))).mono ?_; rintro e wn ⟨An, cn, rfl, hO, hb⟩; simp only []; have hbb := below_next (a := w) (by assumption) hb)
          | (go_at_call 23; refine (client_some n HN.out _ k (by omega) (by omega) tb (Tab.below hT (by assumption))).mono ?_; rintro e wn ⟨An, cn, rfl, hO, hb⟩; simp only []; have hbb := below_next (a := w) (by assumption) hb)
          | (go_at_call 17; refine (works3_any n HN.out _ tb HTB.out (Tab.below hT (by assumption))).mono ?_; rintro e wn ⟨rfl, hb⟩; simp only []; have hbb := below_next (a := w) (by assumption) hb))
        go_ret
        exact ⟨rfl, by assumption⟩
      · have hc1 : ¬ (k : Int) ≤ 8 := by omega
        have hcl : ¬ (1 ≤ (k : Int) ∧ (k : Int) ≤ 8) := by omega
        go_enter Tryd.func9, Tryd.ntmps9
        go_wp2_with (first
          | (go_at_call 21; refine (replica_some n HN.out _ k (by omega) (by omega) tb (Tab.below hT (by assumption))).mono ?_; rintro e wn ⟨An, cn, rfl, hO, hb⟩; simp only []; have hbb := below_next (a := w) (by assumption) hb)
          | (go_at_call 23; refine (client_none _ (k : Int) (by omega)).mono ?_; rintro e wn ⟨rfl, rfl⟩; simp only [])
          | (go_at_call 17; refine (works3_any n HN.out _ tb HTB.out (Tab.below hT (by assumption))).mono ?_; rintro e wn ⟨rfl, hb⟩; simp only []; have hbb := below_next (a := w) (by assumption) hb))
        go_ret
        exact ⟨rfl, by assumption⟩
    · have hF0 : numF n tb i x b = numF n tb 0 x b := by rw [numF, numF, repK_none n tb i hi, repK_none n tb 0 (by omega)]
      have hFl := numF_length n tb 0 x b
      obtain ⟨F, hF⟩ : ∃ F, numF n tb 0 x b = F := ⟨_, rfl⟩
      rw [hF] at hF0 hFl
      have keq := keq32 F hFl
      have HF := Lib.hid hF
      have HF0 := Lib.hid hF0
      clear hF hF0 hFl
      have hcl : ¬ (1 ≤ i ∧ i ≤ 8) := by omega
      by_cases hi1 : i < 1
      all_goals
        have hi2 : (i < 1 ∧ ¬ (1 ≤ i)) ∨ (1 ≤ i ∧ ¬ (i ≤ 11) ∧ ¬ (i ≤ 8)) := by omega
        go_enter Tryd.func9, Tryd.ntmps9
        go_wp2_with (first
          | (go_at_call 21; refine (replica_none _ i (by omega)).mono ?_; rintro e wn ⟨rfl, rfl⟩; simp only [])
          | (go_at_call 23; refine (client_none _ i (by omega)).mono ?_; rintro e wn ⟨rfl, rfl⟩; simp only [])
          | (go_at_call 25; ((with_reducible refine (numbered_any n HN.out _ i x HX.out A m c b (RB.below hr (by assumption)) hmc (by omega) tb (Tab.below hT (by assumption))).mono ?_); rw [HF0.out]; rintro e wn ⟨rfl, hb⟩; simp only []; have hbb := below_next (a := w) (by assumption) hb))
          | (go_at_call 25; ((with_reducible refine (numbered_any n HN.out _ 0 x HX.out A m c b (RB.below hr (by assumption)) hmc (by omega) tb (Tab.below hT (by assumption))).mono ?_); rw [HF.out]; rintro e wn ⟨rfl, hb⟩; simp only []; have hbb := below_next (a := w) (by assumption) hb))
          | (go_at_call 17; refine (works3_any n HN.out _ tb HTB.out (Tab.below hT (by assumption))).mono ?_; rintro e wn ⟨rfl, hb⟩; simp only []; have hbb := below_next (a := w) (by assumption) hb))
        go_ret
        exact ⟨rfl, by assumption⟩
theorem tagOthers_walk (W : World) (hT : Tab W tblL) (i : Int) (_ : -9223372036854775808 ≤ i ∧ i ≤ 9223372036854775807) (x : UInt64) (A : Option Addr) (m c : Nat) (xs : List UInt8) (_ : xs.length = m) (hr : RB W A m xs) (hmc : m ≤ c) (hm : m ≤ 140737488351232) (_ : ∀ ad, A = some ad → ad.block < W.heap.size) :
    Calls Tryd.prog 9 #[.int .i64 i, .int .u64 (x.toNat : Int), .slice A m c] W fun e w' => e = .returned (.bool true) ∧ Below W.heap.size W w' := tagOthers_any 64 rfl W tblL rfl hT i x.toNat x.toNat_lt A m c xs hr hmc hm
end Go.Proofs.YtohfgplaocgadaaDoor
