/- The law TagPlays, walked. -/
import Derived.Test.YtohfgplaocgadaaDoorTothers
import Derived.Deep.QuietTactic
import Derived.BigQuiet
namespace Go.Proofs.YtohfgplaocgadaaDoor
open Go.RowKit Go.Rat
theorem room_cells (n k : Nat) (xs : List UInt8) : (List.take 0 (List.replicate ((n : Int) + (k : Int)).toNat (Value.int .u8 0)) ++ bvs xs ++ List.drop (0 + n) (List.replicate ((n : Int) + (k : Int)).toNat (Value.int .u8 0))).toArray = (bvs xs ++ List.replicate k (Value.int .u8 0)).toArray := by
  simp only [List.take_zero, List.nil_append, Nat.zero_add, List.drop_replicate]
  rw [show ((n : Int) + (k : Int)).toNat - n = k by omega]
theorem below_drewN {w : World} {k : Nat} : Below w.heap.size w (w.drewN k) := ⟨rfl, rfl, rfl, Nat.le_refl _, fun _ _ => rfl⟩
theorem add_at (g k : Nat) : (⟨g, 0, none⟩ : Addr).add k = ⟨g, k, none⟩ := by unfold Addr.add; split <;> simp_all
set_option maxRecDepth 8000 in
set_option maxHeartbeats 8000000 in
theorem tagPlays_any (n : Nat) (hn64 : n = 64) (w : World) (tb : List Int) (htb : tblL = tb) (hT : Tab w tb) (A : Option Addr) (m c : Nat) (key : List UInt8) (hr : RB w A m key) (_hmc : m ≤ c) (hm : m ≤ 140737488351232)
    (A' : Option Addr) (m' c' : Nat) (b : List UInt8) (hr' : RB w A' m' b) (_hmc' : m' ≤ c') (hm' : m' ≤ 140737488351232) (i : Int) (x : Nat) (hx : x < 2 ^ 64) :
    Calls Tryd.prog 8 #[.slice A m c, .slice A' m' c', .int .i64 i, .int .u64 (x : Int)] w fun e w' => e = .returned (.bool true) ∧ Below w.heap.size w w' := by
  have HN := Lib.hid hn64
  have HTB := Lib.hid htb
  have HX := Lib.hid hx
  clear hn64 htb hx
  have hl := hr.len
  have hl' := hr'.len
  by_cases hbig : 4096 < m + m'
  · have hbi : (4096 : Int) < (m : Int) + (m' : Int) := by omega
    go_enter Tryd.func8, Tryd.ntmps8
    go_wp2_with (go_at_call 17; refine (works3_any n HN.out w tb HTB.out hT).mono ?_; rintro e w2 ⟨rfl, hb2⟩)
    go_ret
    exact ⟨rfl, hb2⟩
  have hbi : ¬ (4096 : Int) < (m : Int) + (m' : Int) := by omega
  have hFl := ofF_length n tb key b
  have hGl := numF_length n tb i x b
  obtain ⟨F, hF⟩ : ∃ F, ofF n tb key b = F := ⟨_, rfl⟩
  obtain ⟨G, hG⟩ : ∃ G, numF n tb i x b = G := ⟨_, rfl⟩
  rw [hF] at hFl
  rw [hG] at hGl
  have keq := keq32 F hFl
  have keq2 := keq32 G hGl
  have HF := Lib.hid hF
  have HG := Lib.hid hG
  clear hF hFl hG hGl
  go_enter Tryd.func8, Tryd.ntmps8
  go_wp2_with (first
    | (at_make; refine make_bytes rfl _ _ rfl _ _ rfl rfl (by omega) (by omega) (by omega) ?_; intro w1 hB1 hb1 hs1; have hs1' : w.heap.size < w1.heap.size := (by omega); clear hs1)
    | (at_builtin; refine app_room rfl _ _ rfl w.heap.size _ _ _ rfl hB1 (by simp <;> omega) _ _ _ key rfl (hr.below hb1) (by omega) ?_; intro w2 hB2 hg2; have hb2 : Below w.heap.size w w2 := hb1.trans (below_of_grownBy hg2 (fun k hk => by cases hk; omega) (by omega)); clear hB1)
    | (at_builtin; refine app_bytes rfl _ _ rfl w2.heap.size _ _ _ [] rfl (OB.empty w2 5) _ _ _ b rfl ((hr'.below hb2).alloc _) (by omega) (by simp) ?_; intro A3 N3 c3 w3 hc3 hc4 hO3 hG3))
  rw [show ((m : Int) + 80) = ((m : Int) + ((80 : Nat) : Int)) from rfl, room_cells] at hB2
  rw [List.nil_append] at hO3
  obtain rfl : m' = N3 := (hO3.len.symm.trans hl').symm
  have hb3 : Below w2.heap.size w2 w3 := hG3.own (below_alloc _ _) (Nat.le_refl _) (OB.empty w2 5)
  have hb03 := below_next hb2 hb3
  have hB3 := hB2.below hb3 hB2.lt
  have hrk3 := hB3.reads key (by simp [bvs_length])
  rw [hl] at hrk3
  have hrb3 := hO3.reads
  have hr3 := hr.below hb03
  have hr3' := hr'.below hb03
  have hT3 := Tab.below hT hb03
  clear hb1 hs1' hB2 hg2 hb2 hG3 hO3 hb3
  refine wp_region_plan [(0, true), (1, true), (3, true), (4, true), (2, false), (5, false), (6, true), (7, true), (8, true), (11, true), (9, false), (10, true), (12, false), (13, true), (14, true), (15, true), (16, true), (17, true), (20, true), (18, false), (19, true), (21, false), (22, true), (23, true), (24, true), (25, true), (26, true), (27, true), (28, true), (30, true), (31, true), (32, true), (29, false), (33, false), (34, true), (35, true), (36, true)]
    (fun x => Below w3.heap.size w3 x) (by kernel_rfl) (by kernel_rfl) (by kernel_rfl) (by kernel_rfl) (fun _ _ d _ _ h => by cases d <;> exact h) ((Below.refl _ _).drew) ?_
  simp only [planOps, List.getElem?_toArray, List.getElem?_cons_zero, List.getElem?_cons_succ]
  repeat (first
    | (refine wpS_skip (by rfl) ?_; simp only [Act.put, List.setIfInBounds_toArray, List.set_cons_zero, List.set_cons_succ])
    | (refine wpS_q ?_ (by rfl) ?_ ?_; rotate_left; (focus (intro z hz; (try dsimp only at hz); go_simp; rfl)); simp only [Act.put, List.setIfInBounds_toArray, List.set_cons_zero, List.set_cons_succ]))
  refine wpS_l (by rfl) (fun K hK => ?_)
  go_wp2_with fail
  have hs3 : Below w3.heap.size w3 w3.drew := drew_below
  refine (of_any n HN.out w3.drew _ m _ key (hrk3.below hs3) (by omega) (by omega) _ _ _ b (hrb3.below hs3) hc3 (by omega) tb (Tab.below hT3 hs3)).mono ?_
  rw [HF.out]
  rintro e w4 ⟨rfl, hb4⟩
  have hs4 : Below w3.heap.size w3 w4 := hs3.trans hb4
  refine hK _ _ (fun z => Below w4.heap.size w4 z) (Below.refl _ _) (below_step hs4) ?_
  clear hK hb4
  repeat (first
    | (refine wpS_skip (by rfl) ?_; simp only [Act.put, List.setIfInBounds_toArray, List.set_cons_zero, List.set_cons_succ])
    | (refine wpS_q ?_ (by rfl) ?_ ?_; rotate_left; (focus (intro z hz; (try dsimp only at hz); go_simp; rfl)); simp only [Act.put, List.setIfInBounds_toArray, List.set_cons_zero, List.set_cons_succ]))
  refine wpS_l (by rfl) (fun K hK => ?_)
  go_wp2_with fail
  refine (rof_any n HN.out w4 A m c key (hr3.below hs4) (by omega) A' _ c' b (hr3'.below hs4) (by omega) tb HTB.out).mono ?_
  rw [HF.out]
  rintro e w5 ⟨rfl, hb5⟩
  have hs5 := below_next hs4 hb5
  refine hK _ _ (fun z => Below w5.heap.size w5 z) (Below.refl _ _) (below_step hb5) ?_
  clear hK hb5
  repeat (first
    | (refine wpS_skip (by rfl) ?_; simp only [Act.put, List.setIfInBounds_toArray, List.set_cons_zero, List.set_cons_succ])
    | (refine wpS_q ?_ (by rfl) ?_ ?_; rotate_left; (focus (intro z hz; (try dsimp only at hz); go_simp; rfl)); simp only [Act.put, List.setIfInBounds_toArray, List.set_cons_zero, List.set_cons_succ]))
  refine wpS_l (by rfl) (fun K hK => ?_)
  go_wp2_with fail
  refine (replica_any n HN.out w5 i tb (Tab.below hT3 hs5)).mono ?_
  obtain ⟨RK, hRK⟩ : ∃ RK, repK n tb i = RK := ⟨_, rfl⟩
  rw [hRK]
  rintro e w6 ⟨A6, m6, c6, rfl, hmc6, hm6, _, hO6, hb6⟩
  have hs6 := below_next hs5 hb6
  have HRK := Lib.hid hRK
  refine hK _ _ (fun z => Below w6.heap.size w6 z) (Below.refl _ _) (below_step hb6) ?_
  clear hK hb6 hRK
  have hr6 := hO6.reads
  have q6 : ∀ z, Below w6.heap.size w6 z → (convert 28 9 (.slice A6 m6 c6)).run Tryd.prog z = .ok (.string (bstr RK)) z := fun z hx => conv_str (hr6.below hx) _
  repeat (first
    | (refine wpS_skip (by rfl) ?_; simp only [Act.put, List.setIfInBounds_toArray, List.set_cons_zero, List.set_cons_succ])
    | (refine wpS_q ?_ (by rfl) ?_ ?_; rotate_left; (focus (intro z hz; (try dsimp only at hz); go_simp; rfl)); simp only [Act.put, List.setIfInBounds_toArray, List.set_cons_zero, List.set_cons_succ]))
  refine wpS_l (by rfl) (fun K hK => ?_)
  go_wp2_with fail
  refine (rreplica_any n HN.out w6 i tb HTB.out).mono ?_
  rw [HRK.out]
  rintro e w7 ⟨A7, m7, c7, rfl, hmc7, hm7, _, hO7, hb7⟩
  have hs7 := below_next hs6 hb7
  refine hK _ _ (fun z => Below w7.heap.size w7 z) (Below.refl _ _) (below_step hb7) ?_
  clear hK hb7 q6
  have hr7 := hO7.reads
  have q7 : ∀ z, Below w7.heap.size w7 z → (convert 28 9 (.slice A7 m7 c7)).run Tryd.prog z = .ok (.string (bstr RK)) z := fun z hx => conv_str (hr7.below hx) _
  have hq := beq_self_eq_true (bstr RK).toList
  repeat (first
    | (refine wpS_skip (by rfl) ?_; simp only [Act.put, List.setIfInBounds_toArray, List.set_cons_zero, List.set_cons_succ])
    | (refine wpS_q ?_ (by rfl) ?_ ?_; rotate_left; (focus (intro z hz; (try dsimp only at hz); go_simp; rfl)); simp only [Act.put, List.setIfInBounds_toArray, List.set_cons_zero, List.set_cons_succ]))
  clear q7 hq
  refine wpS_l (by rfl) (fun K hK => ?_)
  go_wp2_with fail
  refine (client_any n HN.out w7 i tb (Tab.below hT3 hs7)).mono ?_
  obtain ⟨CK, hCK⟩ : ∃ CK, cliK n tb i = CK := ⟨_, rfl⟩
  rw [hCK]
  rintro e w8 ⟨A8, m8, c8, rfl, hmc8, hm8, _, hO8, hb8⟩
  have hs8 := below_next hs7 hb8
  have HCK := Lib.hid hCK
  refine hK _ _ (fun z => Below w8.heap.size w8 z) (Below.refl _ _) (below_step hb8) ?_
  clear hK hb8 hCK
  have hr8 := hO8.reads
  have q8 : ∀ z, Below w8.heap.size w8 z → (convert 28 9 (.slice A8 m8 c8)).run Tryd.prog z = .ok (.string (bstr CK)) z := fun z hx => conv_str (hr8.below hx) _
  repeat (first
    | (refine wpS_skip (by rfl) ?_; simp only [Act.put, List.setIfInBounds_toArray, List.set_cons_zero, List.set_cons_succ])
    | (refine wpS_q ?_ (by rfl) ?_ ?_; rotate_left; (focus (intro z hz; (try dsimp only at hz); go_simp; rfl)); simp only [Act.put, List.setIfInBounds_toArray, List.set_cons_zero, List.set_cons_succ]))
  refine wpS_l (by rfl) (fun K hK => ?_)
  go_wp2_with fail
  refine (rclient_any n HN.out w8 i tb HTB.out).mono ?_
  rw [HCK.out]
  rintro e w9 ⟨A9, m9, c9, rfl, hmc9, hm9, _, hO9, hb9⟩
  have hs9 := below_next hs8 hb9
  refine hK _ _ (fun z => Below w9.heap.size w9 z) (Below.refl _ _) (below_step hb9) ?_
  clear hK hb9 q8
  have hr9 := hO9.reads
  have q9 : ∀ z, Below w9.heap.size w9 z → (convert 28 9 (.slice A9 m9 c9)).run Tryd.prog z = .ok (.string (bstr CK)) z := fun z hx => conv_str (hr9.below hx) _
  have hq := beq_self_eq_true (bstr CK).toList
  repeat (first
    | (refine wpS_skip (by rfl) ?_; simp only [Act.put, List.setIfInBounds_toArray, List.set_cons_zero, List.set_cons_succ])
    | (refine wpS_q ?_ (by rfl) ?_ ?_; rotate_left; (focus (intro z hz; (try dsimp only at hz); go_simp; rfl)); simp only [Act.put, List.setIfInBounds_toArray, List.set_cons_zero, List.set_cons_succ]))
  clear q9 hq
  refine wpS_l (by rfl) (fun K hK => ?_)
  go_wp2_with fail
  refine (numbered_any n HN.out w9 i x HX.out _ _ _ b (hrb3.below hs9) hc3 (by omega) tb (Tab.below hT3 hs9)).mono ?_
  rw [HG.out]
  rintro e w10 ⟨rfl, hb10⟩
  have hs10 := below_next hs9 hb10
  refine hK _ _ (fun z => Below w10.heap.size w10 z) (Below.refl _ _) (below_step hb10) ?_
  clear hK hb10
  refine wpS_l (by rfl) (fun K hK => ?_)
  go_wp2_with fail
  refine (rnumbered_any n HN.out w10 i x HX.out A' _ c' b (hr3'.below hs10) (by omega) tb HTB.out).mono ?_
  rw [HG.out]
  rintro e w11 ⟨rfl, hb11⟩
  have hs11 := below_next hs10 hb11
  refine hK _ _ (fun z => Below w11.heap.size w11 z) (Below.refl _ _) (below_step hb11) ?_
  clear hK hb11
  repeat (first
    | (refine wpS_skip (by rfl) ?_; simp only [Act.put, List.setIfInBounds_toArray, List.set_cons_zero, List.set_cons_succ])
    | (refine wpS_q ?_ (by rfl) ?_ ?_; rotate_left; (focus (intro z hz; (try dsimp only at hz); go_simp; rfl)); simp only [Act.put, List.setIfInBounds_toArray, List.set_cons_zero, List.set_cons_succ]))
  refine wpS_nil ?_
  have hb0B : Below w.heap.size w w11 := below_next hb03 hs11
  have hB11 := hB3.below hs11 hB3.lt
  have hA11 := hr3.below hs11
  have hA11' := hr3'.below hs11
  have hI11 := hrb3.below hs11
  have hT11 := Tab.below hT3 hs11
  clear hs3 hs4 hs5 hs6 hs7 hs8 hs9 hs10 hs11 hO6 hO7 hO8 hO9 hr6 hr7 hr8 hr9 hb03 hB3 hrk3 hrb3 hr3 hr3' hT3 hT hr hr'
  go_wp2_with fail
  have hz := hB11.reads (key ++ List.replicate 80 0) (by simp [bvs, bv, -List.reduceReplicate]; rw [List.take_of_length_le (by simp)])
  rw [show (key ++ List.replicate 80 (0 : UInt8)).length = m + 80 by simp [hl]] at hz
  clear hB11
  clear HRK HCK HF HG keq keq2 hbig
  go_loopw [13] (fun i wr => ∃ k q : Nat, k ≤ m + 80 ∧ i = .int .i64 k ∧ wr = w11.drewN q) (fun i _ => m + 80 - (intOf i).toNat)
  case atStart => exact ⟨0, 0, by omega, rfl, rfl⟩
  case round =>
    obtain ⟨k, q, hkn, rfl, rfl⟩ := hrel
    by_cases h1 : k < m + 80
    · obtain ⟨ad, he, hb, hc⟩ := hz.at_ h1
      cases he
      rw [add_at] at hc
      by_cases h2 : k < m
      · obtain ⟨ad, rfl, hb2, hc2⟩ := hA11.at_ h2
        have e0 : (key ++ List.replicate 80 (0 : UInt8)).getD k 0 = key.getD k 0 := by simp [List.getD_eq_getElem?_getD, List.getElem?_append, hl, h2]
        rw [e0] at hc
        generalize key.getD k 0 = x at *
        have hq := bne_self_eq_false ((x.toNat : Int))
        have g1 : (0 : Int) ≤ (k : Int) := by omega
        have g2 : (k : Int) < (m : Int) := by omega
        have g3 : (k : Int) < (m : Int) + 80 := by omega
        have g4 : (m ≤ k) = False := by simp; omega
        go_wp2_with fail
        go_quiet (fail)
        go_wp2_with fail
        exact ⟨⟨k + 1, q + nq, by omega, by go_num, by first | rfl | rw [World.drewN_drewN]⟩, by simp [intOf]; omega⟩
      · have e0 : (key ++ List.replicate 80 (0 : UInt8)).getD k 0 = 0 := by
          rw [List.getD_eq_getElem?_getD, List.getElem?_append_right (by omega), List.getElem?_replicate]
          split <;> rfl
        rw [e0] at hc
        have hc : w11.cell? ⟨w.heap.size, k, none⟩ = some (.int .u8 0) := hc
        have g1 : (0 : Int) ≤ (k : Int) := by omega
        have g2 : ¬ (k : Int) < (m : Int) := by omega
        have g3 : (k : Int) < (m : Int) + 80 := by omega
        have g4 : (m : Int) ≤ (k : Int) := by omega
        go_wp2_with fail
        go_quiet (fail)
        go_wp2_with fail
        exact ⟨⟨k + 1, q + nq, by omega, by go_num, by first | rfl | rw [World.drewN_drewN]⟩, by simp [intOf]; omega⟩
    · have g3 : ¬ (k : Int) < (m : Int) + 80 := by omega
      have hbd : Below w11.heap.size w11 (w11.drewN q) := below_drewN
      have k1 := conv_str (hI11.below hbd) c3
      have k2 := conv_str (hA11'.below hbd) c'
      have hq := beq_self_eq_true (bstr b).toList
      have hTd := Tab.below hT11 hbd
      go_wp2_with (go_at_call 17; refine (works3_any n HN.out _ tb HTB.out hTd).mono ?_; rintro e w12 ⟨rfl, hb12⟩)
      go_ret
      exact ⟨rfl, below_next (below_next hb0B hbd) hb12⟩
theorem tagPlays_walk (W : World) (hT : Tab W tblL) (A : Option Addr) (m c : Nat) (xs : List UInt8) (_ : xs.length = m) (hr : RB W A m xs) (hmc : m ≤ c) (hm : m ≤ 140737488351232) (_ : ∀ ad, A = some ad → ad.block < W.heap.size)
    (A' : Option Addr) (m' c' : Nat) (xs' : List UInt8) (_ : xs'.length = m') (hr' : RB W A' m' xs') (hmc' : m' ≤ c') (hm' : m' ≤ 140737488351232) (_ : ∀ ad, A' = some ad → ad.block < W.heap.size) (i : Int) (_ : -9223372036854775808 ≤ i ∧ i ≤ 9223372036854775807) (x : UInt64) :
    Calls Tryd.prog 8 #[.slice A m c, .slice A' m' c', .int .i64 i, .int .u64 (x.toNat : Int)] W fun e w' => e = .returned (.bool true) ∧ Below W.heap.size W w' := tagPlays_any 64 rfl W tblL rfl hT A m c xs hr hmc hm A' m' c' xs' hr' hmc' hm' i x.toNat x.toNat_lt
end Go.Proofs.YtohfgplaocgadaaDoor
