/- client: Pending, Time; a nil client. -/
import Derived.Test.YtbbcofpdfkhljaaDoorNs
namespace Go.Proofs.YtbbcofpdfkhljaaDoor
open Go.RowKit Go.Rat
set_option maxRecDepth 20000 in
set_option maxHeartbeats 4000000 in
theorem ctime_any (w : World) (g : Nat) (c : ClV) (hX : Blk w g 73 c.c.toArray) :
    Calls Tryd.prog 17 #[.pointer (some ⟨g, 0, none⟩)] w fun e w' => e = .returned (.int .u64 (c.tm : Int)) ∧ w' = w := by
  obtain ⟨c0, c1, c2, c3⟩ := cl_cells hX
  clear hX
  go_enter Tryd.func17, Tryd.ntmps17
  go_wp2_with fail
  go_ret
  exact ⟨rfl, rfl⟩
set_option maxRecDepth 20000 in
set_option maxHeartbeats 4000000 in
theorem ctime_nil (w : World) :
    Calls Tryd.prog 17 #[.pointer none] w fun e w' => e = .returned (.int .u64 0) ∧ w' = w := by
  go_enter Tryd.func17, Tryd.ntmps17
  go_wp2_with fail
  go_ret
  exact ⟨rfl, rfl⟩
set_option maxRecDepth 20000 in
set_option maxHeartbeats 4000000 in
theorem cpend_nil (w : World) :
    Calls Tryd.prog 16 #[.pointer none] w fun e w' => e = .returned (.tuple #[.agg rq0.c.toArray, .bool false]) ∧ Below w.heap.size w w' := by
  have hR := Blk.new w 44 rq0.c.toArray
  have hb := below_alloc w (.cells rq0.c.toArray 44)
  obtain ⟨z, hz⟩ : ∃ z : Array Value, rq0.c.toArray = z := ⟨_, rfl⟩
  have hzc := zc44
  rw [hz] at hzc hR hb
  have hzs : z.size = 40 := by rw [← hz]; rfl
  have hz1 : z.all (·.oneCell') = true := by rw [← hz]; have := rqc_one rq0; simpa using this
  have HZ := Lib.hid hz
  clear hz
  go_enter Tryd.func16, Tryd.ntmps16
  go_upto_region 1 with (fail)
  obtain ⟨w1, hw1⟩ : ∃ x, w.alloc (.cells z 44) = x := ⟨_, rfl⟩
  rw [hw1] at hR hb ⊢
  obtain ⟨gx, hgx⟩ : ∃ x, w.heap.size = x := ⟨_, rfl⟩
  rw [hgx] at hR ⊢
  have HGX := Lib.hid hgx
  clear hgx hw1
  repeat (first
    | ((with_reducible refine wpl_value rfl (.agg z) (run_buildS (parts := []) rfl (by rw [← HZ.out]; exact build_rq0 _)) ?_); simp only [Act.put, List.setIfInBounds_toArray, List.set_cons_zero, List.set_cons_succ])
    | ((with_reducible refine wpl_store gx _ z z i44 hR hzs hzs hz1 ?_ ?_ ?_); (focus rfl); (focus rfl))
    | go_values | go_skip | go_guarded | go_step | go_upon | go_back)
  refine bodyPost_ret (results_cell_val rfl _ _ gx _ _ (0, 0) _ _ rfl rfl (hR.setRow _) Tryd.underlying44 rfl (by rw [hzs]; exact i44)) rfl ?_
  exact ⟨by rw [HZ.out]; rfl, hb.grown (grownBy_setRow w1 gx z) hb.size (fun q hq => by cases hq; exact Nat.le_of_eq HGX.out)⟩
set_option maxRecDepth 20000 in
set_option maxHeartbeats 4000000 in
theorem cpend_any (w : World) (g : Nat) (c : ClV) (hX : Blk w g 73 c.c.toArray) (hok : c.ok) :
    Calls Tryd.prog 16 #[.pointer (some ⟨g, 0, none⟩)] w fun e w' => e = .returned (.tuple #[.agg c.q.c.toArray, .bool c.pend]) ∧ Below w.heap.size w w' := by
  have hX1 := hX.alloc (.cells rq0.c.toArray 44)
  have hlt := hX.lt
  have hQl := rqc_length c.q hok.tag
  have hQ1 := rqc_one c.q
  have hq7 : (c.c.drop 4).take 40 = c.q.c := clC_q _ _ _ _ hok.tag _
  have hcs := fun (z : World) (h : Blk z g 73 c.c.toArray) => (cl_cells h).2.2.2
  obtain ⟨Q, hQ⟩ : ∃ Q, c.q.c = Q := ⟨_, rfl⟩
  rw [hQ] at hQl hQ1 hq7 ⊢
  obtain ⟨p, hp⟩ : ∃ Q, c.pend = Q := ⟨_, rfl⟩
  rw [hp] at ⊢
  simp only [hp] at hcs
  obtain ⟨L, hL⟩ : ∃ L, c.c = L := ⟨_, rfl⟩
  simp only [hL] at hcs hX1 hq7
  clear hX hok hQ hp hL
  have hQs : Q.toArray.size = 40 := by rw [List.size_toArray, hQl]
  have hR := Blk.new w 44 rq0.c.toArray
  have hb := below_alloc w (.cells rq0.c.toArray 44)
  obtain ⟨z, hz⟩ : ∃ z : Array Value, rq0.c.toArray = z := ⟨_, rfl⟩
  have hzc := zc44
  rw [hz] at hzc hR hb hX1
  have hzs : z.size = 40 := by rw [← hz]; rfl
  have hz1 : z.all (·.oneCell') = true := by rw [← hz]; have := rqc_one rq0; simpa using this
  clear hz
  go_enter Tryd.func16, Tryd.ntmps16
  go_upto_region 1 with (fail)
  obtain ⟨w1, hw1⟩ : ∃ x, w.alloc (.cells z 44) = x := ⟨_, rfl⟩
  rw [hw1] at hR hb hX1 ⊢
  obtain ⟨gx, hgx⟩ : ∃ x, w.heap.size = x := ⟨_, rfl⟩
  rw [hgx] at hR ⊢
  have HGX := Lib.hid hgx
  clear hgx hw1
  go_upto_region 3 with (fail)
  have hXd : Blk w1.drew g 73 L.toArray := hX1
  have hRd : Blk w1.drew gx 44 z := hR
  have hbd := hb.drew
  refine wp_region_plan [(0, true), (1, true), (2, true), (3, true), (4, true), (5, true), (6, true), (7, true), (8, false), (9, true)] (fun x => Blk x g 73 L.toArray) (by kernel_rfl) (by kernel_rfl) (by kernel_rfl) (by kernel_rfl) (fun _ _ d _ _ h => by cases d <;> exact h) hXd ?_
  simp only [planOps, List.getElem?_toArray, List.getElem?_cons_zero, List.getElem?_cons_succ]
  iterate 3 (refine wpS_q ?_ (by rfl) ?_ ?_; rotate_left; (focus (intro z hz; (try dsimp only at hz); go_simp; rfl)); simp only [Act.put, List.setIfInBounds_toArray, List.set_cons_zero, List.set_cons_succ])
  refine wpS_q (.agg Q.toArray) (by rfl) (fun x hx => load_mid_run rfl g 4 L Q Tryd.underlying44 rfl i44 hx hq7 hQl rfl) ?_
  simp only [Act.put, List.setIfInBounds_toArray, List.set_cons_zero, List.set_cons_succ]
  iterate 4 (refine wpS_q ?_ (by rfl) ?_ ?_; rotate_left; (focus (intro z hz; (try dsimp only at hz); go_simp; rfl)); simp only [Act.put, List.setIfInBounds_toArray, List.set_cons_zero, List.set_cons_succ])
  refine wpS_l (by rfl) (fun K hK => ?_)
  refine wp_storeRow rfl gx 44 z Q.toArray i44 hRd hzs hQs (by simpa using hQ1) rfl rfl ?_
  have hg8 := grownBy_setRow w1.drew gx Q.toArray
  have hne : g ≠ gx := fun e => by have := HGX.out; have := hlt; omega
  have hX8 := hXd.grown hg8 (by intro e; injection e with e; exact hne e)
  refine hK _ _ _ hX8 (fun _ h => h) ?_
  clear hK
  iterate 1 (refine wpS_q ?_ (by rfl) ?_ ?_; rotate_left; (focus (intro z hz; (try dsimp only at hz); go_simp; rfl)); simp only [Act.put, List.setIfInBounds_toArray, List.set_cons_zero, List.set_cons_succ])
  refine wpS_nil ?_
  go_wp2_with fail
  refine bodyPost_ret (results_cell_val rfl _ _ gx _ _ (0, 0) _ _ rfl rfl (hRd.setRow _) Tryd.underlying44 rfl (by rw [hQs]; exact i44)) rfl ?_
  exact ⟨rfl, hbd.grown hg8 hbd.size (fun q hq => by cases hq; exact Nat.le_of_eq HGX.out)⟩
end Go.Proofs.YtbbcofpdfkhljaaDoor
