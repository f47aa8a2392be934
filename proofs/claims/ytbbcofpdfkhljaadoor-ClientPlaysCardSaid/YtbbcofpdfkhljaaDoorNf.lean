/- message: Signed, by both; Authentic. -/
import Derived.Test.YtbbcofpdfkhljaaDoorNe
namespace Go.Rat
open Go.RowKit Go
/-- A whole struct read, guarded or not. -/
theorem wpl_loadS {P : Program} {w : World} {ops : Array Oper} {rest : List Oper} {a : Act} {Q : Exit → Act → World → Prop} {d : Option Tmp} {ty : TypeId} {x : Operand} {t : TypeId} {p : String} {af : Array Edge} {gd : Option (Nat × Bool)} (g : Nat) (T : TypeId) (cs : Array Value) {n : Nat} {D : TypeDesc}
    (hu : P.underlying ty = some D) (hd : D.isRow = true) (hi : (P.info? ty).map (·.size) = some n) (hB : Blk w g T cs) (hs : cs.size = n)
    (hw : Region.wanted { dst := d, op := .load ty x, type := t, pos := p, after := af, guard := gd } (yielded ops a.tmps) = true)
    (hx : a.eval x = .pointer (some ⟨g, 0, none⟩)) (h : wpList P ops Q rest (a.put d (.agg cs)) w) :
    wpList P ops Q ({ dst := d, op := .load ty x, type := t, pos := p, after := af, guard := gd } :: rest) a w :=
  BigFrame.wpList_want hw fun _ hK => by
    unfold Oper.wp
    rw [load_row_run rfl g cs hu hd hi hB hs hx]
    exact hK _ _ h
end Go.Rat
namespace Go.Proofs.YtbbcofpdfkhljaaDoor
open Go.RowKit Go.Rat
theorem signed_yes (n : Nat) (tb : List Int) {r : RqV} (h : r.asked) : r.signed n tb = { r with tag := r.must n tb } := if_pos h
theorem signed_no (n : Nat) (tb : List Int) {r : RqV} (h : ¬ r.asked) : r.signed n tb = r := if_neg h
theorem rq0_size : rq0.c.toArray.size = 40 := rfl
set_option maxRecDepth 20000 in
set_option maxHeartbeats 4000000 in
theorem signed_any (n : Nat) (hn64 : n = 64) (w : World) (r : RqV) (ht : r.tag.length = 32) (tb : List Int) (hT : H.Tab w tb) :
    Calls Tryd.prog 22 #[.agg r.c.toArray] w fun e w' => e = .returned (.agg (r.signed n tb).c.toArray) ∧ Below w.heap.size w w' := by
  have hask := fun w => asked_any w r
  have hsg := fun (h : r.asked) w hT => sign_any n hn64 w r h ht tb hT
  have hml := must_length n tb r
  have hLl : r.c.length = 40 := rqc_length r ht
  have hLs : r.c.toArray.size = 40 := by rw [List.size_toArray, hLl]
  have hL1 := rqc_one r
  have hsp := rqc_splice r ht (r.must n tb) hml
  have hS1 := rqc_one { r with tag := r.must n tb }
  have hSl : (({ r with tag := r.must n tb } : RqV).c).length = 40 := rqc_length _ hml
  obtain ⟨S, hS⟩ : ∃ S : List Value, ({ r with tag := r.must n tb } : RqV).c = S := ⟨_, rfl⟩
  rw [hS] at hsp hS1 hSl
  have hyes : r.asked → (r.signed n tb).c = S := fun h => by rw [signed_yes n tb h, hS]
  have hno : ¬ r.asked → (r.signed n tb).c = r.c := fun h => by rw [signed_no n tb h]
  obtain ⟨R, hR⟩ : ∃ S : List Value, (r.signed n tb).c = S := ⟨_, rfl⟩
  rw [hR] at hyes hno ⊢
  obtain ⟨L, hL⟩ : ∃ L : List Value, r.c = L := ⟨_, rfl⟩
  obtain ⟨M, hM⟩ : ∃ M, r.must n tb = M := ⟨_, rfl⟩
  rw [hL] at hLl hLs hL1 hsp hno ⊢
  rw [hM] at hml hsp
  simp only [hL, hM] at hask hsg
  by_cases ha : r.asked
  · obtain rfl := hyes ha
    have HASK := Lib.hid (fun w => (by have := hask w; rwa [decide_eq_true ha] at this : Calls Tryd.prog 28 #[.agg L.toArray] w fun e w' => e = .returned (.bool true) ∧ Below w.heap.size w w'))
    have HSG := Lib.hid (hsg ha)
    have HSP := Lib.hid hsp
    clear hask hsg hyes hno hsp hR hL hM hS ht ha
    obtain ⟨z, hz⟩ : ∃ z : Array Value, rq0.c.toArray = z := ⟨_, rfl⟩
    have hzc := zc44
    rw [hz] at hzc
    have hzs : z.size = 40 := by rw [← hz]; rfl
    clear hz
    have hX := (Blk.new w 44 L.toArray).alloc (.cells z 44)
    have hZ := Blk.new (w.alloc (.cells L.toArray 44)) 44 z
    have hb := below_next' (below_alloc w (.cells L.toArray 44)) (below_alloc (w.alloc (.cells L.toArray 44)) (.cells z 44))
    have hsz : (w.alloc (.cells L.toArray 44)).heap.size = w.heap.size + 1 := by simp
    rw [hsz] at hZ
    go_enter Tryd.func22, Tryd.ntmps22
    go_upto_region 1 with (fail)
    obtain ⟨w1, hw1⟩ : ∃ x, (w.alloc (.cells L.toArray 44)).alloc (.cells z 44) = x := ⟨_, rfl⟩
    rw [hw1] at hX hZ hb ⊢
    obtain ⟨gx, hgx⟩ : ∃ x, w.heap.size = x := ⟨_, rfl⟩
    rw [hgx] at hX hZ ⊢
    have HGX := Lib.hid hgx
    clear hgx hw1 hsz
    repeat (first
      | ((with_reducible refine wpl_loadS gx _ L.toArray Tryd.underlying44 rfl i44 hX hLs ?_ ?_ ?_); (focus rfl); (focus rfl); simp only [Act.put, List.setIfInBounds_toArray, List.set_cons_zero, List.set_cons_succ])
      | (go_at_call 28; refine (HASK.out w1).mono ?_; rintro e w2 ⟨rfl, hb2⟩; simp only []; refine Hid.out ?_)
      | go_values | go_skip | go_guarded | go_step | go_upon | go_back)
    refine Lib.hid ?_
    have hX2 := hX.below hb2 hX.lt
    have hZ2 := hZ.below hb2 hZ.lt
    have hb12 := below_next' hb hb2
    clear hX hZ hb hb2
    have hRs : R.toArray.size = 40 := by rw [List.size_toArray, hSl]
    repeat (first
      | ((with_reducible refine wpl_loadS gx _ L.toArray Tryd.underlying44 rfl i44 hX2 hLs ?_ ?_ ?_); (focus rfl); (focus rfl); simp only [Act.put, List.setIfInBounds_toArray, List.set_cons_zero, List.set_cons_succ])
      | (go_at_call 29; refine (HSG.out w2 (H.Tab.below hT hb12)).mono ?_; rintro e w3 ⟨rfl, hb3⟩; simp only []; refine Hid.out ?_)
      | go_values | go_skip | go_guarded | go_step | go_upon | go_back)
    refine Lib.hid ?_
    have hX3 := hX2.below hb3 hX2.lt
    have hZ3 := hZ2.below hb3 hZ2.lt
    have hb13 := below_next' hb12 hb3
    clear hX2 hZ2 hb12 hb3
    have hX4 := hX3.setRow (Go.splice L 8 (bvs M)).toArray
    have hg4 := grownBy_setRow w3 gx (Go.splice L 8 (bvs M)).toArray
    rw [HSP.out] at hX4 hg4
    have hZ4 := hZ3.grown hg4 (by intro e; injection e with e; omega)
    have hb4 := hb13.grown hg4 hb13.size (fun q hq => by cases hq; have := HGX.out; omega)
    repeat (first
      | ((with_reducible refine wpl_store_mid gx 8 L (bvs M) (by rw [bvs_length, hml]; exact i42) hX3 (by rw [bvs_length, hml, hLl]; omega) (bvs_one M) ?_ ?_ ?_); (focus rfl); (focus rfl); rw [HSP.out])
      | ((with_reducible refine wpl_loadS gx _ R.toArray Tryd.underlying44 rfl i44 hX4 hRs ?_ ?_ ?_); (focus rfl); (focus rfl); simp only [Act.put, List.setIfInBounds_toArray, List.set_cons_zero, List.set_cons_succ])
      | ((with_reducible refine wpl_store (gx + 1) _ z R.toArray i44 hZ4 hzs hRs (by simpa using hS1) ?_ ?_ ?_); (focus rfl); (focus rfl))
      | go_values | go_skip | go_guarded | go_step | go_upon | go_back)
    refine bodyPost_ret (results_cell_row rfl _ _ (gx + 1) _ _ (0, 0) _ rfl (hZ4.setRow _) Tryd.underlying44 rfl (by rw [hRs]; exact i44)) rfl ?_
    exact ⟨rfl, hb4.grown (grownBy_setRow _ (gx + 1) _) hb4.size (fun q hq => by cases hq; have := HGX.out; omega)⟩
  · obtain rfl := hno ha
    have HASK := Lib.hid (fun w => (by have := hask w; rwa [decide_eq_false ha] at this : Calls Tryd.prog 28 #[.agg R.toArray] w fun e w' => e = .returned (.bool false) ∧ Below w.heap.size w w'))
    clear hask hsg hyes hno hsp hR hL hM hS ht ha
    obtain ⟨z, hz⟩ : ∃ z : Array Value, rq0.c.toArray = z := ⟨_, rfl⟩
    have hzc := zc44
    rw [hz] at hzc
    have hzs : z.size = 40 := by rw [← hz]; rfl
    clear hz
    have hX := (Blk.new w 44 R.toArray).alloc (.cells z 44)
    have hZ := Blk.new (w.alloc (.cells R.toArray 44)) 44 z
    have hb := below_next' (below_alloc w (.cells R.toArray 44)) (below_alloc (w.alloc (.cells R.toArray 44)) (.cells z 44))
    have hsz : (w.alloc (.cells R.toArray 44)).heap.size = w.heap.size + 1 := by simp
    rw [hsz] at hZ
    go_enter Tryd.func22, Tryd.ntmps22
    go_upto_region 1 with (fail)
    obtain ⟨w1, hw1⟩ : ∃ x, (w.alloc (.cells R.toArray 44)).alloc (.cells z 44) = x := ⟨_, rfl⟩
    rw [hw1] at hX hZ hb ⊢
    obtain ⟨gx, hgx⟩ : ∃ x, w.heap.size = x := ⟨_, rfl⟩
    rw [hgx] at hX hZ ⊢
    have HGX := Lib.hid hgx
    clear hgx hw1 hsz
    repeat (first
      | ((with_reducible refine wpl_loadS gx _ R.toArray Tryd.underlying44 rfl i44 hX hLs ?_ ?_ ?_); (focus rfl); (focus rfl); simp only [Act.put, List.setIfInBounds_toArray, List.set_cons_zero, List.set_cons_succ])
      | (go_at_call 28; refine (HASK.out w1).mono ?_; rintro e w2 ⟨rfl, hb2⟩; simp only []; refine Hid.out ?_)
      | go_values | go_skip | go_guarded | go_step | go_upon | go_back)
    refine Lib.hid ?_
    have hX2 := hX.below hb2 hX.lt
    have hZ2 := hZ.below hb2 hZ.lt
    have hb12 := below_next' hb hb2
    clear hX hZ hb hb2
    repeat (first
      | ((with_reducible refine wpl_loadS gx _ R.toArray Tryd.underlying44 rfl i44 hX2 hLs ?_ ?_ ?_); (focus rfl); (focus rfl); simp only [Act.put, List.setIfInBounds_toArray, List.set_cons_zero, List.set_cons_succ])
      | ((with_reducible refine wpl_store (gx + 1) _ z R.toArray i44 hZ2 hzs hLs (by simpa using hL1) ?_ ?_ ?_); (focus rfl); (focus rfl))
      | go_values | go_skip | go_guarded | go_step | go_upon | go_back)
    refine bodyPost_ret (results_cell_row rfl _ _ (gx + 1) _ _ (0, 0) _ rfl (hZ2.setRow _) Tryd.underlying44 rfl (by rw [hLs]; exact i44)) rfl ?_
    exact ⟨rfl, hb12.grown (grownBy_setRow _ (gx + 1) _) hb12.size (fun q hq => by cases hq; have := HGX.out; omega)⟩
end Go.Proofs.YtbbcofpdfkhljaaDoor
