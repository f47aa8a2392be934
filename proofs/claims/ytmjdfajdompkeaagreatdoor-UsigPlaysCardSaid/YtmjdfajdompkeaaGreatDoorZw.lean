/- ratchetref07: Last, Next. -/
import Derived.Test.YtmjdfajdompkeaaGreatDoorZq
namespace Go.Proofs.YtmjdfajdompkeaaGreatDoor
open Go.RowKit Go.Rat
set_option maxRecDepth 20000 in
set_option maxHeartbeats 8000000 in
theorem rlast7_any (n : Nat) (hn64 : n = 64) (w : World) (base : Nat) (l : RL) (k kc : Nat) (s : US) (hU : RUsigAt w base l k kc s) (tb : List Int) (htb : H.tblL = tb) :
    Calls Tryz.prog 39 #[.pointer (some ⟨k, 0, none⟩)] w fun e w' => ∃ A N c, e = .returned (.tuple #[.int .u64 (s.n : Int), .slice A N c, .agg (bvs (lastT n tb s)).toArray]) ∧ OB 5 w' w.heap.size A N c (lastB s) ∧ Below w.heap.size w w' := by
  have HN := Lib.hid hn64
  have HTB := Lib.hid htb
  obtain ⟨A, N, c, hB, hO⟩ := hU.blk
  have hn65 := hU.n_
  have hbl := hU.b_
  have hr := hO.reads
  have hNl : s.b.length = N := hO.len
  obtain ⟨i, m, b, cs⟩ := s
  simp only at hB hr hn65 hbl hNl ⊢
  have hlT : lastT n tb ⟨i, m, b, cs⟩ = if m = 0 then z32 else H.numF n tb i m b := rfl
  have hlB : lastB ⟨i, m, b, cs⟩ = if m = 0 then [] else b := rfl
  rw [hlT, hlB]
  clear hn64 htb hU hO hlT hlB
  have hZ := Blk.new w 44 (bvs z32).toArray
  have hb1 := below_alloc w (.cells (bvs z32).toArray 44)
  obtain ⟨z, hz⟩ : ∃ z : Array Value, (bvs z32).toArray = z := ⟨_, rfl⟩
  have hzc := zc32
  rw [hz] at hZ hb1 hzc
  have hzs : z.size = 32 := by rw [← hz]; rfl
  have hz1 : z.all (·.oneCell') = true := by rw [← hz]; exact bvs_all _
  have HZ := Lib.hid hz
  clear hz
  have hr := hr.below hb1
  have hkG : w.heap.size ≠ k := by have := hB.lt; omega
  have hB := hB.below hb1 hB.lt
  have c0 := hB.cell 0
  have c2 := hB.cell 2
  have c3 := hB.cell 3
  simp only [List.getElem?_toArray, List.getElem?_cons_zero, List.getElem?_cons_succ] at c0 c2 c3
  by_cases hm : m = 0
  · subst hm
    rw [if_pos rfl, if_pos rfl]
    go_enter Tryz.func39, Tryz.ntmps39
    go_upto_region 1 with (fail)
    generalize w.alloc (.cells z 44) = w1 at *
    obtain ⟨G, hG⟩ : ∃ G, w.heap.size = G := ⟨_, rfl⟩
    rw [hG] at hZ ⊢
    have HG := Lib.hid hG
    clear hG
    repeat (first
      | ((with_reducible refine wpl_store G _ _ z i32 hZ hzs hzs hz1 ?_ ?_ ?_); (focus rfl); (focus rfl))
      | go_values | go_skip | go_guarded | go_step | go_upon | go_back)
    have hbF : Below w.heap.size w (w1.setRow G z) := hb1.grown (grownBy_setRow w1 G z) hb1.size (fun q hq => by cases hq; exact Nat.le_of_eq HG.out)
    refine bodyPost_ret (results_tmp_tmp_cell rfl _ _ G _ _ (0, 0) _ _ _ rfl rfl rfl (hZ.setRow z) Tryz.underlying44 rfl (by rw [hzs]; exact i32)) rfl ?_
    exact ⟨none, 0, 0, by rw [HZ.out]; rfl, OB.nil_ _ _ _, hbF⟩
  · have hm0 : ((m : Int) == 0) = false := by simpa using hm
    rw [if_neg hm, if_neg hm]
    have hol := H.numF_length n tb i m b
    obtain ⟨F, hF⟩ : ∃ F, H.numF n tb i m b = F := ⟨_, rfl⟩
    rw [hF] at hol ⊢
    have HF := Lib.hid hF
    have hfs : (bvs F).toArray.size = 32 := by rw [bvs_size, hol]
    clear hF hm
    go_enter Tryz.func39, Tryz.ntmps39
    go_upto_region 1 with (fail)
    generalize w.alloc (.cells z 44) = w1 at *
    obtain ⟨G, hG⟩ : ∃ G, w.heap.size = G := ⟨_, rfl⟩
    rw [hG] at hZ hkG ⊢
    have HG := Lib.hid hG
    clear hG hzc
    go_wp2_with fail
    refine wp_region_plan [(0, true), (1, true), (2, true), (3, true), (5, true), (6, true), (7, true), (8, true), (10, true), (11, true), (12, true), (13, true), (14, true), (15, true), (16, true), (17, true), (18, true), (19, true), (20, true), (21, true), (4, false), (9, false), (22, false), (23, true), (24, true), (25, false)] (fun x => x.cell? ⟨k, 0, none⟩ = some (.int .i64 i) ∧ x.cell? ⟨k, 2, none⟩ = some (.int .u64 (m : Int)) ∧ x.cell? ⟨k, 3, none⟩ = some (.slice A N c)) (by kernel_rfl) (by kernel_rfl) (by kernel_rfl) (by kernel_rfl) (fun _ _ d _ _ h => by cases d <;> exact h) ⟨c0, c2, c3⟩ ?_
    simp only [planOps, List.getElem?_toArray, List.getElem?_cons_zero, List.getElem?_cons_succ]
    iterate 20 (refine wpS_q ?_ (by rfl) ?_ ?_; rotate_left; (focus (intro z hz; (try dsimp only at hz); go_simp; rfl)); simp only [Act.put, List.setIfInBounds_toArray, List.set_cons_zero, List.set_cons_succ])
    refine wpS_l (by rfl) (fun K hK => ?_)
    go_wp2_with fail
    have hbA : Below w1.heap.size w1 (w1.alloc (.cells #[] 5)).drew := (below_alloc w1 (.cells #[] 5)).drew
    have hO0 : OB 5 (w1.alloc (.cells #[] 5)).drew w1.heap.size (some ⟨w1.heap.size, 0, none⟩) 0 0 [] := (OB.empty w1 _).grown (grownBy_of_below drew_below none) (.inr rfl)
    have hBA := hB.below hbA hB.lt
    clear c0 c2 c3
    have c0 := hBA.cell 0
    have c2 := hBA.cell 2
    have c3 := hBA.cell 3
    simp only [List.getElem?_toArray, List.getElem?_cons_zero, List.getElem?_cons_succ] at c0 c2 c3
    refine hK _ _ _ ⟨c0, c2, c3⟩ (fun _ h => h) ?_
    clear hK hBA c0 c2 c3
    refine wpS_l (by rfl) (fun K hK => ?_)
    refine wp_appB _ _ rfl w1.heap.size _ _ _ [] rfl hO0 A N c b rfl (hr.below hbA) (by omega) hbA.size ?_
    intro A2 N2 c2' w2 hc2 hc2b hO2 hG2
    have hb12 : Below w1.heap.size w1 w2 := hG2.own hbA (Nat.le_refl _) hO0
    rw [List.nil_append] at hO2
    have hB := hB.below hb12 hB.lt
    have hr := hr.below hb12
    have hZ := hZ.below hb12 hZ.lt
    have hbb := below_next' hb1 hb12
    have hO2 := OB.mono hO2 (B := w.heap.size) hb1.size
    have c0 := hB.cell 0
    have c2 := hB.cell 2
    have c3 := hB.cell 3
    simp only [List.getElem?_toArray, List.getElem?_cons_zero, List.getElem?_cons_succ] at c0 c2 c3
    refine hK _ _ _ ⟨c0, c2, c3⟩ (fun _ h => h) ?_
    clear hK hb12 hG2 hO0 hbA
    refine wpS_l (by rfl) (fun K hK => ?_)
    go_wp2_with fail
    refine (H.rnumbered_any n HN.out w2 i m (by omega) A N c b hr (by omega) tb HTB.out).mono ?_
    rw [HF.out]
    rintro e w3 ⟨rfl, hb3⟩
    have hB := hB.below hb3 hB.lt
    have hZ := hZ.below hb3 hZ.lt
    have hbb := below_next' hbb hb3
    have hO2 : OB 5 w3 w.heap.size A2 N2 c2' b := OB.grown hO2 (grownBy_of_below hb3 none) (.inr rfl)
    clear c0 c2 c3
    have c0 := hB.cell 0
    have c2 := hB.cell 2
    have c3 := hB.cell 3
    simp only [List.getElem?_toArray, List.getElem?_cons_zero, List.getElem?_cons_succ] at c0 c2 c3
    refine hK _ _ _ ⟨c0, c2, c3⟩ (fun _ h => h) ?_
    clear hK hb3
    iterate 2 (refine wpS_q ?_ (by rfl) ?_ ?_; rotate_left; (focus (intro z hz; (try dsimp only at hz); go_simp; rfl)); simp only [Act.put, List.setIfInBounds_toArray, List.set_cons_zero, List.set_cons_succ])
    refine wpS_l (by rfl) (fun K hK => ?_)
    refine wp_storeRow rfl G _ z (bvs F).toArray i32 hZ hzs hfs (bvs_one _) rfl rfl ?_
    have hgs := grownBy_setRow w3 G (bvs F).toArray
    have hbF := hbb.grown hgs hbb.size (fun q hq => by cases hq; exact Nat.le_of_eq HG.out)
    have hZF := hZ.setRow (bvs F).toArray
    have hBF := hB.grown hgs (by intro e; injection e with e; exact hkG e.symm)
    have hOF := OB.grown hO2 hgs (.inl (OB_ne hO2 hZ z32_ne8))
    clear c0 c2 c3
    have c0 := hBF.cell 0
    have c2 := hBF.cell 2
    have c3 := hBF.cell 3
    simp only [List.getElem?_toArray, List.getElem?_cons_zero, List.getElem?_cons_succ] at c0 c2 c3
    refine hK _ _ _ ⟨c0, c2, c3⟩ (fun _ h => h) ?_
    clear hK hgs
    refine wpS_nil ?_
    generalize w3.setRow G (bvs F).toArray = wF at *
    go_wp2_with fail
    refine bodyPost_ret (results_tmp_tmp_cell rfl _ _ G _ _ (0, 0) _ _ _ rfl rfl rfl hZF Tryz.underlying44 rfl (by rw [hfs]; exact i32)) rfl ?_
    exact ⟨A2, N2, c2', rfl, hOF, hbF⟩
end Go.Proofs.YtmjdfajdompkeaaGreatDoor
