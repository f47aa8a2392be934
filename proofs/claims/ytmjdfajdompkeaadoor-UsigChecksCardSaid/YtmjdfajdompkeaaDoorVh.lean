/- The law UsigChecks, walked. -/
import Derived.Test.YtmjdfajdompkeaaDoorVf
namespace Go.Proofs.YtmjdfajdompkeaaDoor
open Go.RowKit Go.Rat
set_option maxRecDepth 20000 in
set_option maxHeartbeats 8000000 in
theorem rcheck_any (n : Nat) (hn64 : n = 64) (w : World) (i : Int) (x : Nat) (A : Option Addr) (m cap : Nat) (b : List UInt8) (hr : RB w A m b) (t : List UInt8) (ht : t.length = 32) (tb : List Int) (htb : H.tblL = tb) :
    Calls Tryd.prog 12 #[.int .i64 i, .int .u64 (x : Int), .slice A m cap, .agg (bvs t).toArray] w fun e w' => e = .returned (.bool (checkU n tb i x b t)) ∧ Below w.heap.size w w' := by
  have hml : b.length = m := hr.len
  have HN := Lib.hid hn64
  have HTB := Lib.hid htb
  have hts : (bvs t).toArray.size = 32 := by rw [bvs_size, ht]
  have hZ := Blk.new w 24 (bvs t).toArray
  have hb1 := below_alloc w (.cells (bvs t).toArray 24)
  have hol := H.numF_length n tb i x b
  have hchk : checkU n tb i x b t = (decide (1 ≤ i) && (decide (i ≤ 11) && (decide (1 ≤ x) && (decide (x ≤ 65536) && (decide (m ≤ 1024) && decide (t = H.numF n tb i x b)))))) := by
    rw [checkU, hml, repB, numB]
    simp only [Bool.decide_and, Bool.and_assoc]
  obtain ⟨F, hF⟩ : ∃ F, H.numF n tb i x b = F := ⟨_, rfl⟩
  rw [hF] at hol hchk
  have HF := Lib.hid hF
  have heq := fun w => H.eql32 t F ht hol w
  obtain ⟨v6, hv6⟩ : ∃ v, decide (t = F) = v := ⟨_, rfl⟩
  rw [hv6] at heq hchk
  have HE := Lib.hid heq
  obtain ⟨v1, hv1⟩ : ∃ v, decide (1 ≤ i) = v := ⟨_, rfl⟩
  have HV1 := Lib.hid hv1
  obtain ⟨v2, hv2⟩ : ∃ v, decide (i ≤ 11) = v := ⟨_, rfl⟩
  have HV2 := Lib.hid hv2
  obtain ⟨v3, hv3⟩ : ∃ v, decide (1 ≤ x) = v := ⟨_, rfl⟩
  have HV3 := Lib.hid hv3
  obtain ⟨v4, hv4⟩ : ∃ v, decide (x ≤ 65536) = v := ⟨_, rfl⟩
  have HV4 := Lib.hid hv4
  obtain ⟨v5, hv5⟩ : ∃ v, decide (m ≤ 1024) = v := ⟨_, rfl⟩
  have HV5 := Lib.hid hv5
  rw [hv1, hv2, hv3, hv4, hv5] at hchk
  rw [hchk]
  clear hn64 htb hF heq hv6 hchk hv1 hv2 hv3 hv4 hv5
  have hr := hr.below hb1
  go_enter Tryd.func12, Tryd.ntmps12
  go_upto_region 1 with (fail)
  generalize w.alloc (.cells (bvs t).toArray 24) = w1 at *
  obtain ⟨G, hG⟩ : ∃ G, w.heap.size = G := ⟨_, rfl⟩
  rw [hG] at hZ ⊢
  clear hG
  refine wp_region_plan [(0, true), (1, true), (2, true), (3, true), (4, true), (5, true), (6, true), (7, true), (8, true), (9, true), (10, true), (11, true), (12, true), (13, true), (14, true), (15, true), (16, true), (17, true), (18, true), (19, true), (20, true), (21, true), (22, true), (23, true), (24, false), (25, true), (26, true), (27, true)] (fun z => Blk z G 24 (bvs t).toArray) (by kernel_rfl) (by kernel_rfl) (by kernel_rfl) (by kernel_rfl) (fun _ _ d _ _ h => by cases d <;> exact h) hZ ?_
  simp only [planOps, List.getElem?_toArray, List.getElem?_cons_zero, List.getElem?_cons_succ]
  have hbd : Below w.heap.size w w1.drew := below_next' hb1 drew_below
  cases v1
  · have g : ¬ (1 : Int) ≤ i := by have := HV1.out; rw [decide_eq_false_iff_not] at this; omega
    repeat (first
      | (refine wpS_skip (by rfl) ?_; simp only [Act.put, List.setIfInBounds_toArray, List.set_cons_zero, List.set_cons_succ])
      | (refine wpS_q ?_ (by rfl) ?_ ?_; rotate_left; (focus (intro z hz; (try dsimp only at hz); go_simp; rfl)); simp only [Act.put, List.setIfInBounds_toArray, List.set_cons_zero, List.set_cons_succ]))
    refine wpS_nil ?_
    go_wp2_with fail
    go_ret
    exact ⟨rfl, hbd⟩
  have g1 : (1 : Int) ≤ i := by have := HV1.out; rw [decide_eq_true_eq] at this; omega
  cases v2
  · have g : ¬ i ≤ 11 := by have := HV2.out; rw [decide_eq_false_iff_not] at this; omega
    repeat (first
      | (refine wpS_skip (by rfl) ?_; simp only [Act.put, List.setIfInBounds_toArray, List.set_cons_zero, List.set_cons_succ])
      | (refine wpS_q ?_ (by rfl) ?_ ?_; rotate_left; (focus (intro z hz; (try dsimp only at hz); go_simp; rfl)); simp only [Act.put, List.setIfInBounds_toArray, List.set_cons_zero, List.set_cons_succ]))
    refine wpS_nil ?_
    go_wp2_with fail
    go_ret
    exact ⟨rfl, hbd⟩
  have g2 : i ≤ 11 := by have := HV2.out; rw [decide_eq_true_eq] at this; omega
  cases v3
  · have g : ¬ (1 : Int) ≤ (x : Int) := by have := HV3.out; rw [decide_eq_false_iff_not] at this; omega
    repeat (first
      | (refine wpS_skip (by rfl) ?_; simp only [Act.put, List.setIfInBounds_toArray, List.set_cons_zero, List.set_cons_succ])
      | (refine wpS_q ?_ (by rfl) ?_ ?_; rotate_left; (focus (intro z hz; (try dsimp only at hz); go_simp; rfl)); simp only [Act.put, List.setIfInBounds_toArray, List.set_cons_zero, List.set_cons_succ]))
    refine wpS_nil ?_
    go_wp2_with fail
    go_ret
    exact ⟨rfl, hbd⟩
  have g3 : (1 : Int) ≤ (x : Int) := by have := HV3.out; rw [decide_eq_true_eq] at this; omega
  cases v4
  · have g : ¬ (x : Int) ≤ 65536 := by have := HV4.out; rw [decide_eq_false_iff_not] at this; omega
    repeat (first
      | (refine wpS_skip (by rfl) ?_; simp only [Act.put, List.setIfInBounds_toArray, List.set_cons_zero, List.set_cons_succ])
      | (refine wpS_q ?_ (by rfl) ?_ ?_; rotate_left; (focus (intro z hz; (try dsimp only at hz); go_simp; rfl)); simp only [Act.put, List.setIfInBounds_toArray, List.set_cons_zero, List.set_cons_succ]))
    refine wpS_nil ?_
    go_wp2_with fail
    go_ret
    exact ⟨rfl, hbd⟩
  have g4 : (x : Int) ≤ 65536 := by have := HV4.out; rw [decide_eq_true_eq] at this; omega
  cases v5
  · have g : ¬ (m : Int) ≤ 1024 := by have := HV5.out; rw [decide_eq_false_iff_not] at this; omega
    repeat (first
      | (refine wpS_skip (by rfl) ?_; simp only [Act.put, List.setIfInBounds_toArray, List.set_cons_zero, List.set_cons_succ])
      | (refine wpS_q ?_ (by rfl) ?_ ?_; rotate_left; (focus (intro z hz; (try dsimp only at hz); go_simp; rfl)); simp only [Act.put, List.setIfInBounds_toArray, List.set_cons_zero, List.set_cons_succ]))
    refine wpS_nil ?_
    go_wp2_with fail
    go_ret
    exact ⟨rfl, hbd⟩
  have g5 : (m : Int) ≤ 1024 := by have := HV5.out; rw [decide_eq_true_eq] at this; omega
  iterate 20 (refine wpS_q ?_ (by rfl) ?_ ?_; rotate_left; (focus (intro z hz; (try dsimp only at hz); go_simp; rfl)); simp only [Act.put, List.setIfInBounds_toArray, List.set_cons_zero, List.set_cons_succ])
  refine wpS_q (.agg (bvs t).toArray) (by rfl) (fun z hz => load_row_run rfl G (bvs t).toArray Tryd.underlying24 rfl i32 hz hts rfl) ?_
  simp only [Act.put, List.setIfInBounds_toArray, List.set_cons_zero, List.set_cons_succ]
  iterate 3 (refine wpS_q ?_ (by rfl) ?_ ?_; rotate_left; (focus (intro z hz; (try dsimp only at hz); go_simp; rfl)); simp only [Act.put, List.setIfInBounds_toArray, List.set_cons_zero, List.set_cons_succ])
  refine wpS_l (by rfl) (fun K hK => ?_)
  go_wp2_with fail
  refine (H.rnumbered_any n HN.out w1.drew i x (by omega) A m cap b (hr.below drew_below) (by omega) tb HTB.out).mono ?_
  rw [HF.out]
  rintro e w3 ⟨rfl, hb3⟩
  have hZ := hZ.below (drew_below.trans hb3) hZ.lt
  have hbb := below_next' hbd hb3
  refine hK _ _ _ hZ (fun _ h => h) ?_
  clear hK
  refine wpS_q (.bool v6) (by rfl) (fun z _ => by have := HE.out z; go_simp) ?_
  simp only [Act.put, List.setIfInBounds_toArray, List.set_cons_zero, List.set_cons_succ]
  iterate 2 (refine wpS_q ?_ (by rfl) ?_ ?_; rotate_left; (focus (intro z hz; (try dsimp only at hz); go_simp; rfl)); simp only [Act.put, List.setIfInBounds_toArray, List.set_cons_zero, List.set_cons_succ])
  refine wpS_nil ?_
  go_wp2_with fail
  go_ret
  exact ⟨rfl, hbb⟩
set_option maxRecDepth 20000 in
set_option maxHeartbeats 8000000 in
theorem usigChecks_any (n : Nat) (hn64 : n = 64) (w : World) (tb : List Int) (htb : H.tblL = tb) (hT : H.Tab w tb) (i : Int) (x : Nat) (hx64 : x < 2 ^ 64) (A : Option Addr) (m cap : Nat) (b : List UInt8) (hr : RB w A m b) (hmc : m ≤ cap) (t : List UInt8) (ht : t.length = 32) (own : Bool) :
    Calls Tryd.prog 3 #[.int .i64 i, .int .u64 (x : Int), .slice A m cap, .agg (bvs t).toArray, .bool own] w fun e w' => e = .returned (.bool true) ∧ Below w.heap.size w w' := by
  have hZ := Blk.new w 24 (bvs t).toArray
  have hb1 := below_alloc w (.cells (bvs t).toArray 24)
  have hts : (bvs t).toArray.size = 32 := by rw [bvs_size, ht]
  have hra : m ≠ 0 → ∀ q, A.map (·.block) = some q → q < w.heap.size := fun hm0 q hq => by
    obtain ⟨a1, hA, hlt, _⟩ := hr.2 (by omega)
    rw [hA] at hq
    have hxe : a1.block = q := Option.some.inj hq
    omega
  have hT0 := hT
  have hr := hr.below hb1
  have hT := H.Tab.below hT hb1
  by_cases hbig : 4096 < m
  · have hbi : (4096 : Int) < (m : Int) := by omega
    go_enter Tryd.func3, Tryd.ntmps3
    go_wp2_with (go_at_call 9; refine (works7_any n hn64 _ tb htb hT).mono ?_; rintro e w2 ⟨rfl, hb2⟩)
    go_ret
    exact ⟨rfl, below_next' hb1 hb2⟩
  have hbi : ¬ (4096 : Int) < (m : Int) := by omega
  have hol := H.numF_length n tb i x b
  obtain ⟨F, hF⟩ : ∃ F, H.numF n tb i x b = F := ⟨_, rfl⟩
  rw [hF] at hol
  have HF := Lib.hid hF
  have hFs : (bvs F).toArray.size = 32 := by rw [bvs_size, hol]
  clear hF
  go_enter Tryd.func3, Tryd.ntmps3
  go_upto_region 1 with (fail)
  generalize w.alloc (.cells (bvs t).toArray 24) = w1 at *
  obtain ⟨G, hG⟩ : ∃ G, w.heap.size = G := ⟨_, rfl⟩
  rw [hG] at hZ ⊢
  have HG := Lib.hid hG
  clear hG
  go_upto_if 15 with (fail)
  go_cut [] (fun wx => ∃ T : List UInt8, T.length = 32 ∧ Blk wx G 24 (bvs T).toArray ∧ Below w.heap.size w wx ∧ RB wx A m b ∧ H.Tab wx tb)
  case first =>
    cases own
    · go_wp2_with fail
      go_meet
      exact ⟨t, ht, hZ, hb1, hr, hT⟩
    · repeat (first
        | (go_at_call 10; refine (H.rnumbered_any n hn64 w1 i x hx64 A m cap b hr (by omega) tb htb).mono ?_; rw [HF.out]; rintro e w2 ⟨rfl, hb2⟩; simp only []; have hZ2 := hZ.below hb2 hZ.lt; have hbb2 := below_next' hb1 hb2; have hr2 := hr.below hb2; have hT2 := H.Tab.below hT hb2; clear hZ hb1 hr hT)
        | ((with_reducible refine wpl_store G _ _ (bvs F).toArray i32 hZ2 hts hFs (bvs_all _) ?_ ?_ ?_); (focus rfl); (focus rfl); simp only [Act.put])
        | go_values | go_skip | go_guarded | go_step | go_upon | go_back)
      go_meet
      have hgs := grownBy_setRow w2 G (bvs F).toArray
      have hbF := hbb2.grown hgs hbb2.size (fun q hq => by cases hq; exact Nat.le_of_eq HG.out)
      exact ⟨F, hol, hZ2.setRow _, hbF, (Chg.of_grown (F := fun q => q = G) hgs rfl).rbN hr2 (fun hm0 q hq e => by
        have := hra hm0 q hq
        have := HG.out
        omega), H.Tab.below hT0 hbF⟩
  case rest =>
    clear hZ hb1 hr hT
    obtain ⟨T, hTl, hZ, hb1, hr, hT⟩ := hcut
    have hTs : (bvs T).toArray.size = 32 := by rw [bvs_size, hTl]
    obtain ⟨v, hv⟩ : ∃ v, checkU n tb i x b T = v := ⟨_, rfl⟩
    have HV := Lib.hid hv
    have hvv : (v == v) = true := by cases v <;> rfl
    clear hv
    go_wp2_with fail
    refine wp_region_plan [(0, true), (1, true), (2, true), (3, true), (5, true), (6, true), (7, true), (8, true), (4, false), (9, false), (10, true), (11, true), (12, false), (13, true), (14, true)] (fun z => Blk z G 24 (bvs T).toArray) (by kernel_rfl) (by kernel_rfl) (by kernel_rfl) (by kernel_rfl) (fun _ _ d _ _ h => by cases d <;> exact h) hZ ?_
    simp only [planOps, List.getElem?_toArray, List.getElem?_cons_zero, List.getElem?_cons_succ]
    iterate 3 (refine wpS_q ?_ (by rfl) ?_ ?_; rotate_left; (focus (intro z hz; (try dsimp only at hz); go_simp; rfl)); simp only [Act.put, List.setIfInBounds_toArray, List.set_cons_zero, List.set_cons_succ])
    refine wpS_q (.agg (bvs T).toArray) (by rfl) (fun z hz => load_row_run rfl G (bvs T).toArray Tryd.underlying24 rfl i32 hz hTs rfl) ?_
    simp only [Act.put, List.setIfInBounds_toArray, List.set_cons_zero, List.set_cons_succ]
    iterate 3 (refine wpS_q ?_ (by rfl) ?_ ?_; rotate_left; (focus (intro z hz; (try dsimp only at hz); go_simp; rfl)); simp only [Act.put, List.setIfInBounds_toArray, List.set_cons_zero, List.set_cons_succ])
    refine wpS_q (.agg (bvs T).toArray) (by rfl) (fun z hz => load_row_run rfl G (bvs T).toArray Tryd.underlying24 rfl i32 hz hTs rfl) ?_
    simp only [Act.put, List.setIfInBounds_toArray, List.set_cons_zero, List.set_cons_succ]
    refine wpS_l (by rfl) (fun K hK => ?_)
    go_wp2_with fail
    refine (ucheck_any n hn64 wc.drew i x A m cap b (hr.below drew_below) hmc T hTl tb (H.Tab.below hT drew_below)).mono ?_
    rw [HV.out]
    rintro e w3 ⟨rfl, hb3⟩
    have hb13 : Below wc.heap.size wc w3 := drew_below.trans hb3
    have hZ := hZ.below hb13 hZ.lt
    have hr := hr.below hb13
    have hT := H.Tab.below hT hb13
    have hbb := below_next' hb1 hb13
    refine hK _ _ _ hZ (fun _ h => h) ?_
    clear hK hb3 hb13
    refine wpS_l (by rfl) (fun K hK => ?_)
    go_wp2_with fail
    refine (rcheck_any n hn64 w3 i x A m cap b hr T hTl tb htb).mono ?_
    rw [HV.out]
    rintro e w4 ⟨rfl, hb4⟩
    have hZ := hZ.below hb4 hZ.lt
    have hT := H.Tab.below hT hb4
    have hbb := below_next' hbb hb4
    refine hK _ _ _ hZ (fun _ h => h) ?_
    clear hK hb4
    iterate 2 (refine wpS_q ?_ (by rfl) ?_ ?_; rotate_left; (focus (intro z hz; (try dsimp only at hz); go_simp; rfl)); simp only [Act.put, List.setIfInBounds_toArray, List.set_cons_zero, List.set_cons_succ])
    refine wpS_l (by rfl) (fun K hK => ?_)
    go_wp2_with fail
    refine (works7_any n hn64 w4 tb htb hT).mono ?_
    rintro e w5 ⟨rfl, hb5⟩
    have hbb := below_next' hbb hb5
    refine hK _ _ _ (hZ.below hb5 hZ.lt) (fun _ h => h) ?_
    clear hK
    iterate 2 (refine wpS_q ?_ (by rfl) ?_ ?_; rotate_left; (focus (intro z hz; (try dsimp only at hz); go_simp; rfl)); simp only [Act.put, List.setIfInBounds_toArray, List.set_cons_zero, List.set_cons_succ])
    refine wpS_nil ?_
    go_wp2_with fail
    go_ret
    exact ⟨rfl, hbb⟩
theorem usigChecks_walk (W : World) (hT : H.Tab W H.tblL) (i : Int) (_ : -9223372036854775808 ≤ i ∧ i ≤ 9223372036854775807) (x : UInt64) (A : Option Addr) (m c : Nat) (b : List UInt8) (_ : b.length = m) (hr : RB W A m b) (hmc : m ≤ c) (_ : m ≤ 140737488351232) (_ : ∀ ad, A = some ad → ad.block < W.heap.size) (t : List UInt8) (ht : t.length = 32) (own : Bool) :
    Calls Tryd.prog 3 #[.int .i64 i, .int .u64 (x.toNat : Int), .slice A m c, .agg (bvs t).toArray, .bool own] W fun e w' => e = .returned (.bool true) ∧ Below W.heap.size W w' :=
  usigChecks_any 64 rfl W H.tblL rfl hT i x.toNat x.toNat_lt A m c b hr hmc t ht own
end Go.Proofs.YtmjdfajdompkeaaDoor
