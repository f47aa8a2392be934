/- The document's Authentic. -/
import Derived.Test.YtbbcofpdfkhljaaDoorNk
namespace Go.Proofs.YtbbcofpdfkhljaaDoor
open Go.RowKit Go.Rat
theorem rqc_size (r : RqV) (ht : r.tag.length = 32) : r.c.toArray.size = 40 := by rw [List.size_toArray, rqc_length r ht]
theorem rqc_tag (r : RqV) (ht : r.tag.length = 32) : (r.c.drop 8).take 32 = bvs r.tag := by
  show (bvs r.tag).take 32 = _
  exact List.take_of_length_le (by rw [bvs_length, ht]; omega)
theorem signed_tag (n : Nat) (tb : List Int) (r : RqV) (ht : r.tag.length = 32) : (r.signed n tb).tag.length = 32 := by
  by_cases h : r.asked
  · rw [signed_yes n tb h]; exact must_length n tb r
  · rw [signed_no n tb h]; exact ht
theorem field_tag (S : List Value) (B : List UInt8) (h : (S.drop 8).take 32 = bvs B) (x : World) : (Instr.field 44 (.agg S.toArray) 3).run Tryd.prog x = .ok (.agg (bvs B).toArray) x := by
  simp only [Instr.field]
  go_simp
  simp [asAgg]
  exact h
set_option maxRecDepth 20000 in
set_option maxHeartbeats 4000000 in
theorem rauth_any (n : Nat) (hn64 : n = 64) (w : World) (r : RqV) (ht : r.tag.length = 32) (tb : List Int) (htb : H.tblL = tb) :
    Calls Tryd.prog 19 #[.agg r.c.toArray] w fun e w' => e = .returned (.bool (decide (r.asked ∧ r.must n tb = r.tag))) ∧ Below w.heap.size w w' := by
  have hask := fun w => rasked_any w r
  have hsig := fun w => rsigned_any n hn64 w r ht tb htb
  have hml := must_length n tb r
  have hLs := rqc_size r ht
  have hLt := rqc_tag r ht
  obtain ⟨L, hL⟩ : ∃ L : List Value, r.c = L := ⟨_, rfl⟩
  obtain ⟨M, hM⟩ : ∃ M, r.must n tb = M := ⟨_, rfl⟩
  rw [hM] at hml ⊢
  rw [hL] at hLs hLt ⊢
  rw [hL] at hask hsig
  by_cases ha : r.asked
  · have HASK := Lib.hid (fun w => (by have := hask w; rwa [decide_eq_true ha] at this : Calls Tryd.prog 25 #[.agg L.toArray] w fun e w' => e = .returned (.bool true) ∧ Below w.heap.size w w'))
    obtain ⟨S, hS⟩ : ∃ S : List Value, (r.signed n tb).c = S := ⟨_, rfl⟩
    have hSs : S.toArray.size = 40 := by rw [← hS]; exact rqc_size _ (signed_tag n tb r ht)
    have hSt : (S.drop 8).take 32 = bvs M := by rw [← hS, signed_yes n tb ha, ← hM]; exact rqc_tag { r with tag := r.must n tb } (must_length n tb r)
    simp only [hS] at hsig
    have HSIG := Lib.hid hsig
    have hd : decide (r.asked ∧ M = r.tag) = decide (M = r.tag) := decide_eq_decide.2 ⟨fun h => h.2, fun h => ⟨ha, h⟩⟩
    obtain ⟨tg, htg⟩ : ∃ x, r.tag = x := ⟨_, rfl⟩
    rw [htg] at hd ht hLt
    rw [htg, hd]
    have HEQ := Lib.hid (fun w => eq32d 9998 M tg hml ht w)
    have hX := Blk.new w 44 L.toArray
    have hb := below_alloc w (.cells L.toArray 44)
    clear hd hask hsig hS ha hM htg hL
    go_enter Tryd.func19, Tryd.ntmps19
    go_upto_region 1 with (fail)
    obtain ⟨w1, hw1⟩ : ∃ x, w.alloc (.cells L.toArray 44) = x := ⟨_, rfl⟩
    rw [hw1] at hX hb
    try rw [hw1]
    obtain ⟨gx, hgx⟩ : ∃ x, w.heap.size = x := ⟨_, rfl⟩
    rw [hgx] at hX ⊢
    have HGX := Lib.hid hgx
    clear hw1 hgx
    refine wp_region_plan [(0, true), (1, false), (2, true), (3, true), (6, true), (7, true), (4, false), (5, true), (8, true), (9, true), (10, true)] (fun x => Blk x gx 44 L.toArray) (by kernel_rfl) (by kernel_rfl) (by kernel_rfl) (by kernel_rfl) (fun _ _ d _ _ h => by cases d <;> exact h) hX ?_
    simp only [planOps, List.getElem?_toArray, List.getElem?_cons_zero, List.getElem?_cons_succ]
    refine wpS_q (.agg L.toArray) (by rfl) (fun x hx => load_row_run rfl gx L.toArray Tryd.underlying44 rfl i44 hx hLs rfl) ?_
    simp only [Act.put, List.setIfInBounds_toArray, List.set_cons_zero, List.set_cons_succ]
    refine wpS_l (by rfl) (fun K hK => ?_)
    go_wp2_with fail
    refine (HASK.out w1.drew).mono ?_
    rintro e w2 ⟨rfl, hb2⟩
    have hb2 : Below w1.heap.size w1 w2 := drew_below.trans hb2
    refine hK _ _ _ (hX.below hb2 hX.lt) (fun _ h => h) ?_
    clear hK
    iterate 1 (refine wpS_q ?_ (by rfl) ?_ ?_; rotate_left; (focus (intro z hz; (try dsimp only at hz); go_simp; rfl)); simp only [Act.put, List.setIfInBounds_toArray, List.set_cons_zero, List.set_cons_succ])
    refine wpS_q (.agg L.toArray) (by rfl) (fun x hx => load_row_run rfl gx L.toArray Tryd.underlying44 rfl i44 hx hLs rfl) ?_
    simp only [Act.put, List.setIfInBounds_toArray, List.set_cons_zero, List.set_cons_succ]
    iterate 1 (refine wpS_q ?_ (by rfl) ?_ ?_; rotate_left; (focus (intro z hz; (try dsimp only at hz); go_simp; rfl)); simp only [Act.put, List.setIfInBounds_toArray, List.set_cons_zero, List.set_cons_succ])
    refine wpS_q (.agg (bvs tg).toArray) (by rfl) (fun x hx => load_mid_run rfl gx 8 L (bvs tg) Tryd.underlying42 rfl i42 hx hLt (by rw [bvs_length, ht]) rfl) ?_
    simp only [Act.put, List.setIfInBounds_toArray, List.set_cons_zero, List.set_cons_succ]
    refine wpS_l (by rfl) (fun K hK => ?_)
    go_wp2_with fail
    refine (HSIG.out w2).mono ?_
    rintro e w3 ⟨rfl, hb3⟩
    have hb13 := below_next' hb2 hb3
    refine hK _ _ _ (hX.below hb13 hX.lt) (fun _ h => h) ?_
    clear hK
    refine wpS_q (.agg (bvs M).toArray) (by rfl) (fun x hx => by go_simp; rw [field_tag S M hSt]; rfl) ?_
    simp only [Act.put, List.setIfInBounds_toArray, List.set_cons_zero, List.set_cons_succ]
    refine wpS_q (.bool (decide (M = tg))) (by rfl) (fun x hx => by go_simp; rw [HEQ.out]; rfl) ?_
    simp only [Act.put, List.setIfInBounds_toArray, List.set_cons_zero, List.set_cons_succ]
    iterate 2 (refine wpS_q ?_ (by rfl) ?_ ?_; rotate_left; (focus (intro z hz; (try dsimp only at hz); go_simp; rfl)); simp only [Act.put, List.setIfInBounds_toArray, List.set_cons_zero, List.set_cons_succ])
    refine wpS_nil ?_
    go_wp2_with fail
    go_ret
    exact ⟨rfl, below_next' hb hb13⟩
  · have HASK := Lib.hid (fun w => (by have := hask w; rwa [decide_eq_false ha] at this : Calls Tryd.prog 25 #[.agg L.toArray] w fun e w' => e = .returned (.bool false) ∧ Below w.heap.size w w'))
    have hd : decide (r.asked ∧ M = r.tag) = false := decide_eq_false (fun h => ha h.1)
    rw [hd]
    have hX := Blk.new w 44 L.toArray
    have hb := below_alloc w (.cells L.toArray 44)
    clear hd hask hsig ha hM hL hLt
    go_enter Tryd.func19, Tryd.ntmps19
    go_upto_region 1 with (fail)
    obtain ⟨w1, hw1⟩ : ∃ x, w.alloc (.cells L.toArray 44) = x := ⟨_, rfl⟩
    rw [hw1] at hX hb
    try rw [hw1]
    obtain ⟨gx, hgx⟩ : ∃ x, w.heap.size = x := ⟨_, rfl⟩
    rw [hgx] at hX ⊢
    have HGX := Lib.hid hgx
    clear hw1 hgx
    refine wp_region_plan [(0, true), (1, false), (2, true), (3, true), (6, true), (7, true), (4, false), (5, true), (8, true), (9, true), (10, true)] (fun x => Blk x gx 44 L.toArray) (by kernel_rfl) (by kernel_rfl) (by kernel_rfl) (by kernel_rfl) (fun _ _ d _ _ h => by cases d <;> exact h) hX ?_
    simp only [planOps, List.getElem?_toArray, List.getElem?_cons_zero, List.getElem?_cons_succ]
    refine wpS_q (.agg L.toArray) (by rfl) (fun x hx => load_row_run rfl gx L.toArray Tryd.underlying44 rfl i44 hx hLs rfl) ?_
    simp only [Act.put, List.setIfInBounds_toArray, List.set_cons_zero, List.set_cons_succ]
    refine wpS_l (by rfl) (fun K hK => ?_)
    go_wp2_with fail
    refine (HASK.out w1.drew).mono ?_
    rintro e w2 ⟨rfl, hb2⟩
    have hb2 : Below w1.heap.size w1 w2 := drew_below.trans hb2
    refine hK _ _ _ (hX.below hb2 hX.lt) (fun _ h => h) ?_
    clear hK
    repeat (first
      | (refine wpS_skip (by rfl) ?_; simp only [Act.put, List.setIfInBounds_toArray, List.set_cons_zero, List.set_cons_succ])
      | (refine wpS_q ?_ (by rfl) ?_ ?_; rotate_left; (focus (intro z hz; (try dsimp only at hz); go_simp; rfl)); simp only [Act.put, List.setIfInBounds_toArray, List.set_cons_zero, List.set_cons_succ]))
    refine wpS_nil ?_
    go_wp2_with fail
    go_ret
    exact ⟨rfl, below_next' hb hb2⟩
end Go.Proofs.YtbbcofpdfkhljaaDoor
