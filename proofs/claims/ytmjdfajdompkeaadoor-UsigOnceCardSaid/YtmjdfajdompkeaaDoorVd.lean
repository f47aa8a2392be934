/- usig: Last, Check; where there is no counter. -/
import Derived.Test.YtmjdfajdompkeaaDoorVc
import Derived.Test.YtmjdfajdompkeaaDoorUg
namespace Go.Proofs.YtmjdfajdompkeaaDoor
open Go.RowKit Go.Rat
def lastB (s : US) : List UInt8 := if s.n = 0 then [] else s.b
def lastT (n : Nat) (tb : List Int) (s : US) : List UInt8 := if s.n = 0 then z32 else H.numF n tb s.i s.n s.b
/-- Two slots, a block's row. -/
theorem results_tmp_tmp_cell {P : Program} {fn : Func} {p q r : Tmp} {ty : TypeId} (h : fn.results = #[.tmp r, .tmp q, .cell p ty]) (tmps : Array Value) (w : World) (g : Nat) (t : TypeId) (cs : Array Value) (fr : Nat × Nat) (d : TypeDesc) (v u : Value)
    (hp : tmps.getD p undef = .pointer (some ⟨g, 0, none⟩)) (hq : tmps.getD q undef = v) (hr : tmps.getD r undef = u) (hg : w.heap[g]? = some (.cells cs t fr))
    (hu : P.underlying ty = some d) (hd : (match d with | .struct _ | .array _ _ => true | _ => false) = true) (hi : (P.info? ty).map (·.size) = some cs.size) :
    (results fn tmps).run P w = .ok (.tuple #[u, v, .agg cs]) w := by
  have hp' : tmps[p]?.getD undef = .pointer (some ⟨g, 0, none⟩) := by simpa using hp
  have hq' : tmps[q]?.getD undef = v := by simpa using hq
  have hr' : tmps[r]?.getD undef = u := by simpa using hr
  simp [results, h, hp', hq', hr', asAddr, run_loadVar_row w g t ty cs fr d hg hu hd hi]
set_option maxRecDepth 20000 in
set_option maxHeartbeats 8000000 in
theorem ulast_any (n : Nat) (hn64 : n = 64) (w : World) (base : Nat) (l : DL) (k kc : Nat) (s : US) (hU : UsigAt w base l k kc s) (tb : List Int) (hT : H.Tab w tb) :
    Calls Tryd.prog 20 #[.pointer (some ⟨k, 0, none⟩)] w fun e w' => ∃ A N c, e = .returned (.tuple #[.int .u64 (s.n : Int), .slice A N c, .agg (bvs (lastT n tb s)).toArray]) ∧ OB 5 w' w.heap.size A N c (lastB s) ∧ Below w.heap.size w w' := by
  have HN := Lib.hid hn64
  obtain ⟨A, N, c, hB, hO, _⟩ := hU.blk
  have hn65 := hU.n_
  have hbl := hU.b_
  have hr := hO.reads
  have hcap := hO.cap.1
  have hNl : s.b.length = N := hO.len
  obtain ⟨i, m, b, cs⟩ := s
  simp only at hB hr hn65 hbl hNl ⊢
  have hlT : lastT n tb ⟨i, m, b, cs⟩ = if m = 0 then z32 else H.numF n tb i m b := rfl
  have hlB : lastB ⟨i, m, b, cs⟩ = if m = 0 then [] else b := rfl
  rw [hlT, hlB]
  clear hn64 hU hO hlT hlB
  have hZ := Blk.new w 24 (bvs z32).toArray
  have hb1 := below_alloc w (.cells (bvs z32).toArray 24)
  obtain ⟨z, hz⟩ : ∃ z : Array Value, (bvs z32).toArray = z := ⟨_, rfl⟩
  have hzc := zc32
  rw [hz] at hZ hb1 hzc
  have hzs : z.size = 32 := by rw [← hz]; rfl
  have hz1l : ∀ v ∈ z.toList, v.oneCell' = true := by rw [← hz]; exact bvs_one _
  have HZ := Lib.hid hz
  clear hz
  have hr := hr.below hb1
  have hT := H.Tab.below hT hb1
  have hkG : w.heap.size ≠ k := by have := hB.lt; omega
  have hB := hB.below hb1 hB.lt
  have c1 := hB.cell 1
  have c2 := hB.cell 2
  have c3 := hB.cell 3
  simp only [List.getElem?_toArray, List.getElem?_cons_zero, List.getElem?_cons_succ] at c1 c2 c3
  by_cases hm : m = 0
  · subst hm
    rw [if_pos rfl, if_pos rfl]
    go_enter Tryd.func20, Tryd.ntmps20
    go_upto_region 1 with (fail)
    generalize w.alloc (.cells z 24) = w1 at *
    obtain ⟨G, hG⟩ : ∃ G, w.heap.size = G := ⟨_, rfl⟩
    rw [hG] at hZ ⊢
    have HG := Lib.hid hG
    clear hG hzc
    go_wp2_with fail
    refine wp_region_plan [(0, true), (1, true), (2, true), (3, false)] (fun x => Blk x G 24 z) (by kernel_rfl) (by kernel_rfl) (by kernel_rfl) (by kernel_rfl) (fun _ _ d _ _ h => by cases d <;> exact h) hZ ?_
    simp only [planOps, List.getElem?_toArray, List.getElem?_cons_zero, List.getElem?_cons_succ]
    refine wpS_q (.agg z) (by rfl) (fun x hx => load_row_run rfl G z Tryd.underlying24 rfl i32 hx hzs rfl) ?_
    simp only [Act.put, List.setIfInBounds_toArray, List.set_cons_zero, List.set_cons_succ]
    iterate 2 (refine wpS_q ?_ (by rfl) ?_ ?_; rotate_left; (focus (intro z hz; (try dsimp only at hz); go_simp; rfl)); simp only [Act.put, List.setIfInBounds_toArray, List.set_cons_zero, List.set_cons_succ])
    refine wpS_l (by rfl) (fun K hK => ?_)
    have hZd : Blk w1.drew G 24 z := hZ
    refine wp_storeRow rfl G _ z z i32 hZd hzs hzs hz1l rfl rfl ?_
    have hgs := grownBy_setRow w1.drew G z
    have hbF : Below w.heap.size w (w1.drew.setRow G z) := (hb1.trans (drew_below.mono hb1.size)).grown hgs hb1.size (fun q hq => by cases hq; exact Nat.le_of_eq HG.out)
    have hZF := hZd.setRow z
    refine hK _ _ (fun x => Blk x G 24 z) hZF (fun _ h => h) ?_
    clear hK hgs hZd
    refine wpS_nil ?_
    generalize w1.drew.setRow G z = wF at *
    go_wp2_with fail
    refine bodyPost_ret (results_tmp_tmp_cell rfl _ _ G _ _ (0, 0) _ _ _ rfl rfl rfl hZF Tryd.underlying24 rfl (by rw [hzs]; exact i32)) rfl ?_
    exact ⟨none, 0, 0, by rw [HZ.out]; rfl, OB.nil_ _ _ _, hbF⟩
  · have hm0 : ¬ (m : Int) = 0 := by omega
    rw [if_neg hm, if_neg hm]
    have hol := H.numF_length n tb i m b
    obtain ⟨F, hF⟩ : ∃ F, H.numF n tb i m b = F := ⟨_, rfl⟩
    rw [hF] at hol ⊢
    have HF := Lib.hid hF
    have hfs : (bvs F).toArray.size = 32 := by rw [bvs_size, hol]
    clear hF
    go_enter Tryd.func20, Tryd.ntmps20
    go_upto_region 1 with (fail)
    generalize w.alloc (.cells z 24) = w1 at *
    obtain ⟨G, hG⟩ : ∃ G, w.heap.size = G := ⟨_, rfl⟩
    rw [hG] at hZ hkG ⊢
    have HG := Lib.hid hG
    clear hG hzc
    go_wp2_with fail
    refine wp_region_plan [(0, true), (1, true), (2, true), (3, true), (4, true), (5, true), (6, true), (7, true), (9, true), (10, true), (11, true), (12, true), (13, true), (14, true), (15, true), (16, true), (17, true), (18, true), (19, true), (20, true), (8, false), (21, false), (22, true), (23, true), (24, false)] (fun x => x.cell? ⟨k, 1, none⟩ = some (.int .i64 i) ∧ x.cell? ⟨k, 2, none⟩ = some (.int .u64 (m : Int)) ∧ x.cell? ⟨k, 3, none⟩ = some (.slice A N c)) (by kernel_rfl) (by kernel_rfl) (by kernel_rfl) (by kernel_rfl) (fun _ _ d _ _ h => by cases d <;> exact h) ⟨c1, c2, c3⟩ ?_
    simp only [planOps, List.getElem?_toArray, List.getElem?_cons_zero, List.getElem?_cons_succ]
    iterate 20 (refine wpS_q ?_ (by rfl) ?_ ?_; rotate_left; (focus (intro z hz; (try dsimp only at hz); go_simp; rfl)); simp only [Act.put, List.setIfInBounds_toArray, List.set_cons_zero, List.set_cons_succ])
    refine wpS_l (by rfl) (fun K hK => ?_)
    go_wp2_with fail
    refine (clone_any w1.drew A N c b (hr.below drew_below) (by omega)).mono ?_
    rintro e w2 ⟨A2, c2', rfl, hO2, hb2⟩
    have hb12 : Below w1.heap.size w1 w2 := drew_below.trans hb2
    have hB := hB.below hb12 hB.lt
    have hr := hr.below hb12
    have hT := H.Tab.below hT hb12
    have hZ := hZ.below hb12 hZ.lt
    have hbb := below_next' hb1 hb12
    have hO2 := OB.mono hO2 (B := w.heap.size) hb1.size
    have c1 := hB.cell 1
    have c2 := hB.cell 2
    have c3 := hB.cell 3
    simp only [List.getElem?_toArray, List.getElem?_cons_zero, List.getElem?_cons_succ] at c1 c2 c3
    refine hK _ _ _ ⟨c1, c2, c3⟩ (fun _ h => h) ?_
    clear hK hb2 hb12
    refine wpS_l (by rfl) (fun K hK => ?_)
    go_wp2_with fail
    refine (H.numbered_any n HN.out w2 i m (by omega) A N c b hr hcap (by omega) tb hT).mono ?_
    rw [HF.out]
    rintro e w3 ⟨rfl, hb3⟩
    have hB := hB.below hb3 hB.lt
    have hZ := hZ.below hb3 hZ.lt
    have hbb := below_next' hbb hb3
    have hO2 : OB 5 w3 w.heap.size A2 N c2' b := OB.grown hO2 (grownBy_of_below hb3 none) (.inr rfl)
    have c1 := hB.cell 1
    have c2 := hB.cell 2
    have c3 := hB.cell 3
    simp only [List.getElem?_toArray, List.getElem?_cons_zero, List.getElem?_cons_succ] at c1 c2 c3
    refine hK _ _ _ ⟨c1, c2, c3⟩ (fun _ h => h) ?_
    clear hK hb3
    iterate 2 (refine wpS_q ?_ (by rfl) ?_ ?_; rotate_left; (focus (intro z hz; (try dsimp only at hz); go_simp; rfl)); simp only [Act.put, List.setIfInBounds_toArray, List.set_cons_zero, List.set_cons_succ])
    refine wpS_l (by rfl) (fun K hK => ?_)
    refine wp_storeRow rfl G _ z (bvs F).toArray i32 hZ hzs hfs (bvs_one _) rfl rfl ?_
    have hgs := grownBy_setRow w3 G (bvs F).toArray
    have hbF := hbb.grown hgs hbb.size (fun q hq => by cases hq; exact Nat.le_of_eq HG.out)
    have hZF := hZ.setRow (bvs F).toArray
    have hBF := hB.grown hgs (by intro e; injection e with e; exact hkG e.symm)
    have hOF := OB.grown hO2 hgs (.inl (OB_ne hO2 hZ z32_ne8))
    have c1 := hBF.cell 1
    have c2 := hBF.cell 2
    have c3 := hBF.cell 3
    simp only [List.getElem?_toArray, List.getElem?_cons_zero, List.getElem?_cons_succ] at c1 c2 c3
    refine hK _ _ _ ⟨c1, c2, c3⟩ (fun _ h => h) ?_
    clear hK hgs
    refine wpS_nil ?_
    generalize w3.setRow G (bvs F).toArray = wF at *
    go_wp2_with fail
    refine bodyPost_ret (results_tmp_tmp_cell rfl _ _ G _ _ (0, 0) _ _ _ rfl rfl rfl hZF Tryd.underlying24 rfl (by rw [hfs]; exact i32)) rfl ?_
    exact ⟨A2, N, c2', rfl, hOF, hbF⟩
def checkU (n : Nat) (tb : List Int) (i : Int) (x : Nat) (b t : List UInt8) : Bool := repB i && (numB x && (decide (b.length ≤ 1024) && decide (t = H.numF n tb i x b)))
set_option maxRecDepth 20000 in
set_option maxHeartbeats 8000000 in
theorem ucheck_any (n : Nat) (hn64 : n = 64) (w : World) (i : Int) (x : Nat) (A : Option Addr) (m cap : Nat) (b : List UInt8) (hr : RB w A m b) (hmc : m ≤ cap) (t : List UInt8) (ht : t.length = 32) (tb : List Int) (hT : H.Tab w tb) :
    Calls Tryd.prog 11 #[.int .i64 i, .int .u64 (x : Int), .slice A m cap, .agg (bvs t).toArray] w fun e w' => e = .returned (.bool (checkU n tb i x b t)) ∧ Below w.heap.size w w' := by
  have hml : b.length = m := hr.len
  have hchk : checkU n tb i x b t = (repB i && (numB x && (decide (m ≤ 1024) && decide (t = H.numF n tb i x b)))) := by rw [checkU, hml]
  rw [hchk]
  have HN := Lib.hid hn64
  have hrep := fun (w : World) (hT : H.Tab w tb) => ureplica_any n hn64 w i tb hT
  have hnum := fun (w : World) => unumbered_any w x
  have hx65 : numB x = true → x ≤ 65536 := fun h => by rw [numB, decide_eq_true_eq] at h; exact h.2
  obtain ⟨v3, hv3⟩ : ∃ v, decide (m ≤ 1024) = v := ⟨_, rfl⟩
  rw [hv3]
  have HV3 := Lib.hid hv3
  obtain ⟨v1, hv1⟩ : ∃ v, repB i = v := ⟨_, rfl⟩
  obtain ⟨v2, hv2⟩ : ∃ v, numB x = v := ⟨_, rfl⟩
  rw [hv1] at hrep ⊢
  rw [hv2] at hnum hx65 ⊢
  have HR := Lib.hid hrep
  have HM := Lib.hid hnum
  have hts : (bvs t).toArray.size = 32 := by rw [bvs_size, ht]
  have hZ := Blk.new w 24 (bvs t).toArray
  have hb1 := below_alloc w (.cells (bvs t).toArray 24)
  have hol := H.numF_length n tb i x b
  obtain ⟨F, hF⟩ : ∃ F, H.numF n tb i x b = F := ⟨_, rfl⟩
  rw [hF] at hol ⊢
  have HF := Lib.hid hF
  have hsame := fun w => H.same_any w t F ht hol
  obtain ⟨v4, hv4⟩ : ∃ v, decide (t = F) = v := ⟨_, rfl⟩
  rw [hv4] at hsame ⊢
  have HS := Lib.hid hsame
  clear hn64 hrep hnum hv1 hv2 hF hsame hv4 hchk hv3
  have hr := hr.below hb1
  have hT := H.Tab.below hT hb1
  go_enter Tryd.func11, Tryd.ntmps11
  go_upto_region 1 with (fail)
  generalize w.alloc (.cells (bvs t).toArray 24) = w1 at *
  obtain ⟨G, hG⟩ : ∃ G, w.heap.size = G := ⟨_, rfl⟩
  rw [hG] at hZ ⊢
  clear hG
  refine wp_region_plan [(0, true), (1, false), (2, true), (3, true), (4, false), (5, true), (6, true), (7, true), (8, true), (9, true), (10, true), (11, true), (12, true), (13, true), (14, true), (15, true), (16, false), (17, false), (18, true), (19, true)] (fun z => Blk z G 24 (bvs t).toArray) (by kernel_rfl) (by kernel_rfl) (by kernel_rfl) (by kernel_rfl) (fun _ _ d _ _ h => by cases d <;> exact h) hZ ?_
  simp only [planOps, List.getElem?_toArray, List.getElem?_cons_zero, List.getElem?_cons_succ]
  iterate 1 (refine wpS_q ?_ (by rfl) ?_ ?_; rotate_left; (focus (intro z hz; (try dsimp only at hz); go_simp; rfl)); simp only [Act.put, List.setIfInBounds_toArray, List.set_cons_zero, List.set_cons_succ])
  refine wpS_l (by rfl) (fun K hK => ?_)
  go_wp2_with fail
  refine (HR.out w1.drew (H.Tab.below hT drew_below)).mono ?_
  rintro e w2 ⟨rfl, hb2⟩
  have hb12 : Below w1.heap.size w1 w2 := drew_below.trans hb2
  have hr := hr.below hb12
  have hT := H.Tab.below hT hb12
  have hZ := hZ.below hb12 hZ.lt
  have hbb := below_next' hb1 hb12
  refine hK _ _ _ hZ (fun _ h => h) ?_
  clear hK hb2 hb12
  cases v1
  · skip
    repeat (first
      | (refine wpS_skip (by rfl) ?_; simp only [Act.put, List.setIfInBounds_toArray, List.set_cons_zero, List.set_cons_succ])
      | (refine wpS_q ?_ (by rfl) ?_ ?_; rotate_left; (focus (intro z hz; (try dsimp only at hz); go_simp; rfl)); simp only [Act.put, List.setIfInBounds_toArray, List.set_cons_zero, List.set_cons_succ]))
    refine wpS_nil ?_
    go_wp2_with fail
    go_ret
    exact ⟨rfl, hbb⟩
  · skip
    iterate 2 (refine wpS_q ?_ (by rfl) ?_ ?_; rotate_left; (focus (intro z hz; (try dsimp only at hz); go_simp; rfl)); simp only [Act.put, List.setIfInBounds_toArray, List.set_cons_zero, List.set_cons_succ])
    refine wpS_l (by rfl) (fun K hK => ?_)
    go_wp2_with fail
    refine (HM.out w2).mono ?_
    rintro e w3 ⟨rfl, rfl⟩
    refine hK _ _ _ hZ (fun _ h => h) ?_
    clear hK
    cases v2
    · skip
      repeat (first
        | (refine wpS_skip (by rfl) ?_; simp only [Act.put, List.setIfInBounds_toArray, List.set_cons_zero, List.set_cons_succ])
        | (refine wpS_q ?_ (by rfl) ?_ ?_; rotate_left; (focus (intro z hz; (try dsimp only at hz); go_simp; rfl)); simp only [Act.put, List.setIfInBounds_toArray, List.set_cons_zero, List.set_cons_succ]))
      refine wpS_nil ?_
      go_wp2_with fail
      go_ret
      exact ⟨rfl, hbb⟩
    · cases v3
      rotate_left
      · have hm' : (m : Int) ≤ 1024 := by have := HV3.out; rw [decide_eq_true_eq] at this; omega
        have hx := hx65 rfl
        clear hx65
        iterate 7 (refine wpS_q ?_ (by rfl) ?_ ?_; rotate_left; (focus (intro z hz; (try dsimp only at hz); go_simp; rfl)); simp only [Act.put, List.setIfInBounds_toArray, List.set_cons_zero, List.set_cons_succ])
        refine wpS_q (.agg (bvs t).toArray) (by rfl) (fun z hz => load_row_run rfl G (bvs t).toArray Tryd.underlying24 rfl i32 hz hts rfl) ?_
        simp only [Act.put, List.setIfInBounds_toArray, List.set_cons_zero, List.set_cons_succ]
        iterate 3 (refine wpS_q ?_ (by rfl) ?_ ?_; rotate_left; (focus (intro z hz; (try dsimp only at hz); go_simp; rfl)); simp only [Act.put, List.setIfInBounds_toArray, List.set_cons_zero, List.set_cons_succ])
        refine wpS_l (by rfl) (fun K hK => ?_)
        go_wp2_with fail
        refine (H.numbered_any n HN.out w2 i x (by omega) A m cap b hr hmc (by omega) tb hT).mono ?_
        rw [HF.out]
        rintro e w3 ⟨rfl, hb3⟩
        have hZ := hZ.below hb3 hZ.lt
        have hbb := below_next' hbb hb3
        refine hK _ _ _ hZ (fun _ h => h) ?_
        clear hK
        refine wpS_l (by rfl) (fun K hK => ?_)
        go_wp2_with fail
        refine (HS.out w3).mono ?_
        rintro e w4 ⟨rfl, hb4⟩
        have hZ := hZ.below hb4 hZ.lt
        have hbb := below_next' hbb hb4
        refine hK _ _ _ hZ (fun _ h => h) ?_
        clear hK
        iterate 2 (refine wpS_q ?_ (by rfl) ?_ ?_; rotate_left; (focus (intro z hz; (try dsimp only at hz); go_simp; rfl)); simp only [Act.put, List.setIfInBounds_toArray, List.set_cons_zero, List.set_cons_succ])
        refine wpS_nil ?_
        go_wp2_with fail
        go_ret
        exact ⟨rfl, hbb⟩
      · have hm' : ¬ (m : Int) ≤ 1024 := by have := HV3.out; rw [decide_eq_false_iff_not] at this; omega
        clear hx65
        repeat (first
          | (refine wpS_skip (by rfl) ?_; simp only [Act.put, List.setIfInBounds_toArray, List.set_cons_zero, List.set_cons_succ])
          | (refine wpS_q ?_ (by rfl) ?_ ?_; rotate_left; (focus (intro z hz; (try dsimp only at hz); go_simp; rfl)); simp only [Act.put, List.setIfInBounds_toArray, List.set_cons_zero, List.set_cons_succ]))
        refine wpS_nil ?_
        go_wp2_with fail
        go_ret
        exact ⟨rfl, hbb⟩
theorem unew_nil (w : World) (i p : Int) : Calls Tryd.prog 18 #[.int .i64 i, .pointer none, .int .i64 p] w fun e w' => e = .returned (.tuple #[.pointer none, .int .i64 2]) ∧ w = w' := by
  go_enter Tryd.func18, Tryd.ntmps18
  go_wp2_with fail
  go_ret2
  exact ⟨rfl, rfl⟩
end Go.Proofs.YtmjdfajdompkeaaDoor
