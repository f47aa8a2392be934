/- The document's requests signed; Authentic. -/
import Derived.Test.YtbbcofpdfkhljaaDoorNf
namespace Go.Proofs.YtbbcofpdfkhljaaDoor
open Go.RowKit Go.Rat
set_option maxRecDepth 20000 in
set_option maxHeartbeats 4000000 in
theorem rsigned_any (n : Nat) (hn64 : n = 64) (w : World) (r : RqV) (ht : r.tag.length = 32) (tb : List Int) (htb : H.tblL = tb) :
    Calls Tryd.prog 24 #[.agg r.c.toArray] w fun e w' => e = .returned (.agg (r.signed n tb).c.toArray) ∧ Below w.heap.size w w' := by
  have hask := fun w => rasked_any w r
  have hreq := fun (h : r.asked) w => rrequest_any w r h
  have hbl := fun (h : r.asked) => bytes_le r h
  have hml := must_length n tb r
  have hLl : r.c.length = 40 := rqc_length r ht
  have hLs : r.c.toArray.size = 40 := by rw [List.size_toArray, hLl]
  have hL1 := rqc_one r
  have hc2 := fun (z : World) (g : Nat) (h : Blk z g 44 r.c.toArray) => (rq_cells h).1
  have hmu : r.must n tb = H.ofF n tb (H.cliK n tb r.cl) r.bytes := rfl
  have hsp := rqc_splice r ht (r.must n tb) hml
  have hS1 := rqc_one { r with tag := r.must n tb }
  have hSl : (({ r with tag := r.must n tb } : RqV).c).length = 40 := rqc_length _ hml
  obtain ⟨S, hS⟩ : ∃ S : List Value, ({ r with tag := r.must n tb } : RqV).c = S := ⟨_, rfl⟩
  rw [hS] at hsp hS1 hSl
  have hyes : r.asked → (r.signed n tb).c = S := fun h => by rw [signed_yes n tb h, hS]
  have hno : ¬ r.asked → (r.signed n tb).c = r.c := fun h => by rw [signed_no n tb h]
  obtain ⟨R, hR⟩ : ∃ S : List Value, (r.signed n tb).c = S := ⟨_, rfl⟩
  rw [hR] at hyes hno ⊢
  obtain ⟨L, hL⟩ : ∃ L : List Value, r.c = L := ⟨_, rfl⟩
  obtain ⟨M, hM⟩ : ∃ M, r.must n tb = M := ⟨_, rfl⟩
  obtain ⟨B, hB⟩ : ∃ M, r.bytes = M := ⟨_, rfl⟩
  obtain ⟨cl, hcl⟩ : ∃ M, r.cl = M := ⟨_, rfl⟩
  rw [hL] at hLl hLs hL1 hsp hno ⊢
  rw [hM] at hml hsp
  rw [hM, hB, hcl] at hmu
  simp only [hL, hB, hcl] at hask hreq hc2 hbl
  by_cases ha : r.asked
  · obtain rfl := hyes ha
    have hbl := hbl ha
    have HASK := Lib.hid (fun w => (by have := hask w; rwa [decide_eq_true ha] at this : Calls Tryd.prog 25 #[.agg L.toArray] w fun e w' => e = .returned (.bool true) ∧ Below w.heap.size w w'))
    have HREQ := Lib.hid (hreq ha)
    have HSP := Lib.hid hsp
    have HC2 := Lib.hid hc2
    have HMU := Lib.hid hmu
    have HTB := Lib.hid htb
    have HN := Lib.hid hn64
    clear hask hreq hyes hno hsp hR hL hM hS ht ha hB hcl hc2 hmu htb hn64
    obtain ⟨z, hz⟩ : ∃ z : Array Value, rq0.c.toArray = z := ⟨_, rfl⟩
    have hzc := zc44
    rw [hz] at hzc
    have hzs : z.size = 40 := by rw [← hz]; rfl
    clear hz
    have hX := (Blk.new w 44 L.toArray).alloc (.cells z 44)
    have hZ := Blk.new (w.alloc (.cells L.toArray 44)) 44 z
    have hb := below_next' (below_alloc w (.cells L.toArray 44)) (below_alloc (w.alloc (.cells L.toArray 44)) (.cells z 44))
    have hsz : (w.alloc (.cells L.toArray 44)).heap.size = w.heap.size + 1 := by simp
    rw [hsz] at hZ
    go_enter Tryd.func24, Tryd.ntmps24
    go_upto_region 1 with (fail)
    obtain ⟨w1, hw1⟩ : ∃ x, (w.alloc (.cells L.toArray 44)).alloc (.cells z 44) = x := ⟨_, rfl⟩
    rw [hw1] at hX hZ hb ⊢
    obtain ⟨gx, hgx⟩ : ∃ x, w.heap.size = x := ⟨_, rfl⟩
    rw [hgx] at hX hZ ⊢
    have HGX := Lib.hid hgx
    clear hgx hw1 hsz
    repeat (first
      | ((with_reducible refine wpl_loadS gx _ L.toArray Tryd.underlying44 rfl i44 hX hLs ?_ ?_ ?_); (focus rfl); (focus rfl); simp only [Act.put, List.setIfInBounds_toArray, List.set_cons_zero, List.set_cons_succ])
      | (go_at_call 25; refine (HASK.out w1).mono ?_; rintro e w2 ⟨rfl, hb2⟩; simp only []; refine Hid.out ?_)
      | go_values | go_skip | go_guarded | go_step | go_upon | go_back)
    refine Lib.hid ?_
    have hX2 := hX.below hb2 hX.lt
    have hZ2 := hZ.below hb2 hZ.lt
    have hb12 := below_next' hb hb2
    clear hX hZ hb hb2
    have hRs : R.toArray.size = 40 := by rw [List.size_toArray, hSl]
    go_upto_region 2 with (fail)
    have q0 : ∀ x, Blk x gx 44 L.toArray → x.cell? ⟨gx, 0, none⟩ = some (.int .i64 cl) := fun x h => HC2.out x gx h
    refine wp_region_barb [(0, 0), (1, 1), (3, 1), (2, 2), (4, 2), (5, 2), (6, 0)] 7 [] (fun _ => True) (fun x => Blk x gx 44 L.toArray) _ (by rfl) (by kernel_rfl) (by kernel_rfl) (by kernel_rfl) (by kernel_rfl) (fun _ _ d _ _ h => by cases d <;> exact h) trivial (hX2.below drew_below hX2.lt) ?_
    simp only [planOpsN, List.getElem?_toArray, List.getElem?_cons_zero, List.getElem?_cons_succ]
    iterate 1 (refine wpC_0 ?_ (by rfl) ?_ ?_; rotate_left; (focus (intro z hz; (try dsimp only at hz); go_simp; rfl)); simp only [Act.put, List.setIfInBounds_toArray, List.set_cons_zero, List.set_cons_succ])
    refine wpC_1 (.int .i64 cl) (by rfl) (fun x hx => by have := q0 x hx; go_simp) ?_
    simp only [Act.put, List.setIfInBounds_toArray, List.set_cons_zero, List.set_cons_succ]
    refine wpC_1 (.agg L.toArray) (by rfl) (fun x hx => load_row_run rfl gx L.toArray Tryd.underlying44 rfl i44 hx hLs rfl) ?_
    simp only [Act.put, List.setIfInBounds_toArray, List.set_cons_zero, List.set_cons_succ]
    refine wpC_2 (by rfl) (fun K hK => ?_)
    go_wp2_with fail
    refine (H.rclient_any n HN.out w2.drew cl tb HTB.out).mono ?_
    rintro e w3 ⟨A3, m3, c3, rfl, hmc3, hm3, hl3, hO3, hb3⟩
    have hb3 : Below w2.heap.size w2 w3 := drew_below.trans hb3
    refine hK _ _ trivial (hX2.below hb3 hX2.lt) ?_
    clear hK
    refine wpC_2 (by rfl) (fun K hK => ?_)
    go_wp2_with fail
    refine (HREQ.out w3).mono ?_
    rintro e w4 ⟨A4, m4, c4, rfl, hO4, hb4⟩
    have hb24 := below_next' hb3 hb4
    refine hK _ _ trivial (hX2.below hb24 hX2.lt) ?_
    clear hK
    refine wpC_2 (by rfl) (fun K hK => ?_)
    have hl4 := hO4.len
    go_wp2_with fail
    refine (H.rof_any n HN.out w4 A3 m3 c3 _ (OB.reads (OB.below hO3 hb4)) (by omega) A4 m4 c4 B (OB.reads hO4) (by omega) tb HTB.out).mono ?_
    rw [← HMU.out]
    rintro e w5 ⟨rfl, hb5⟩
    have hb25 := below_next' hb24 hb5
    refine hK _ _ trivial (hX2.below hb25 hX2.lt) ?_
    clear hK
    iterate 1 (refine wpC_0 ?_ (by rfl) ?_ ?_; rotate_left; (focus (intro z hz; (try dsimp only at hz); go_simp; rfl)); simp only [Act.put, List.setIfInBounds_toArray, List.set_cons_zero, List.set_cons_succ])
    refine wpC_nil ⟨by rfl, ?_⟩
    have hX5 := hX2.below hb25 hX2.lt
    have hZ5 := hZ2.below hb25 hZ2.lt
    refine wp_store_midR rfl gx 8 L (bvs M) (by rw [bvs_length, hml]; exact i42) hX5 (by rw [bvs_length, hml, hLl]; omega) (bvs_one M) rfl rfl ?_
    have hX6 := hX5.setRow (Go.splice L 8 (bvs M)).toArray
    have hg6 := grownBy_setRow w5 gx (Go.splice L 8 (bvs M)).toArray
    have hZ6 := hZ5.grown hg6 (by intro e; injection e with e; omega)
    rw [HSP.out] at hX6 hg6 hZ6 ⊢
    have hb6 := (below_next' hb12 hb25).grown hg6 (below_next' hb12 hb25).size (fun q hq => by cases hq; have := HGX.out; omega)
    refine ⟨fun _ => True, trivial, fun _ h => h, ?_⟩
    refine wpS_nil ?_
    generalize w5.setRow gx R.toArray = w6 at *
    clear hX5 hZ5 hg6
    repeat (first
      | ((with_reducible refine wpl_loadS gx _ R.toArray Tryd.underlying44 rfl i44 hX6 hRs ?_ ?_ ?_); (focus rfl); (focus rfl); simp only [Act.put, List.setIfInBounds_toArray])
      | ((with_reducible refine wpl_store (gx + 1) _ z R.toArray i44 hZ6 hzs hRs (by simpa using hS1) ?_ ?_ ?_); (focus rfl); (focus rfl))
      | go_values | go_skip | go_guarded | go_step | go_upon | go_back)
    refine bodyPost_ret (results_cell_row rfl _ _ (gx + 1) _ _ (0, 0) _ rfl (hZ6.setRow _) Tryd.underlying44 rfl (by rw [hRs]; exact i44)) rfl ?_
    exact ⟨rfl, hb6.grown (grownBy_setRow _ (gx + 1) _) hb6.size (fun q hq => by cases hq; have := HGX.out; omega)⟩
  · obtain rfl := hno ha
    have HASK := Lib.hid (fun w => (by have := hask w; rwa [decide_eq_false ha] at this : Calls Tryd.prog 25 #[.agg R.toArray] w fun e w' => e = .returned (.bool false) ∧ Below w.heap.size w w'))
    clear hask hreq hyes hno hsp hR hL hM hS ht ha hB hcl hc2 hmu htb hn64 hbl
    obtain ⟨z, hz⟩ : ∃ z : Array Value, rq0.c.toArray = z := ⟨_, rfl⟩
    have hzc := zc44
    rw [hz] at hzc
    have hzs : z.size = 40 := by rw [← hz]; rfl
    clear hz
    have hX := (Blk.new w 44 R.toArray).alloc (.cells z 44)
    have hZ := Blk.new (w.alloc (.cells R.toArray 44)) 44 z
    have hb := below_next' (below_alloc w (.cells R.toArray 44)) (below_alloc (w.alloc (.cells R.toArray 44)) (.cells z 44))
    have hsz : (w.alloc (.cells R.toArray 44)).heap.size = w.heap.size + 1 := by simp
    rw [hsz] at hZ
    go_enter Tryd.func24, Tryd.ntmps24
    go_upto_region 1 with (fail)
    obtain ⟨w1, hw1⟩ : ∃ x, (w.alloc (.cells R.toArray 44)).alloc (.cells z 44) = x := ⟨_, rfl⟩
    rw [hw1] at hX hZ hb ⊢
    obtain ⟨gx, hgx⟩ : ∃ x, w.heap.size = x := ⟨_, rfl⟩
    rw [hgx] at hX hZ ⊢
    have HGX := Lib.hid hgx
    clear hgx hw1 hsz
    repeat (first
      | ((with_reducible refine wpl_loadS gx _ R.toArray Tryd.underlying44 rfl i44 hX hLs ?_ ?_ ?_); (focus rfl); (focus rfl); simp only [Act.put, List.setIfInBounds_toArray, List.set_cons_zero, List.set_cons_succ])
      | (go_at_call 25; refine (HASK.out w1).mono ?_; rintro e w2 ⟨rfl, hb2⟩; simp only []; refine Hid.out ?_)
      | go_values | go_skip | go_guarded | go_step | go_upon | go_back)
    refine Lib.hid ?_
    have hX2 := hX.below hb2 hX.lt
    have hZ2 := hZ.below hb2 hZ.lt
    have hb12 := below_next' hb hb2
    clear hX hZ hb hb2
    repeat (first
      | ((with_reducible refine wpl_loadS gx _ R.toArray Tryd.underlying44 rfl i44 hX2 hLs ?_ ?_ ?_); (focus rfl); (focus rfl); simp only [Act.put, List.setIfInBounds_toArray, List.set_cons_zero, List.set_cons_succ])
      | ((with_reducible refine wpl_store (gx + 1) _ z R.toArray i44 hZ2 hzs hLs (by simpa using hL1) ?_ ?_ ?_); (focus rfl); (focus rfl))
      | go_values | go_skip | go_guarded | go_step | go_upon | go_back)
    refine bodyPost_ret (results_cell_row rfl _ _ (gx + 1) _ _ (0, 0) _ rfl (hZ2.setRow _) Tryd.underlying44 rfl (by rw [hLs]; exact i44)) rfl ?_
    exact ⟨rfl, hb12.grown (grownBy_setRow _ (gx + 1) _) hb12.size (fun q hq => by cases hq; have := HGX.out; omega)⟩
end Go.Proofs.YtbbcofpdfkhljaaDoor
