/- ratchetlaw25.told. -/
import Derived.Test.YtbbcofpdfkhljaaDoorOb
namespace Go.Proofs.YtbbcofpdfkhljaaDoor
open Go.RowKit Go.Rat
/-- What a step tells. -/
def toldF (x : StV) (id : Int) (tm : Nat) : ToldV := if x.own = true then ⟨id, tm, ⟨0, bstr [ltr x.pick]⟩, 1 + x.pick.toNat / 64⟩ else x.t
theorem build_told (w : World) (id t u : Int) (s : ByteArray) : (Instr.build 38 [(0, .int .i64 id), (1, .int .u64 t), (2, .agg #[.int .i64 0, .string s]), (3, .int .u64 u)].toArray).run Tryd.prog w = .ok (.agg #[.int .i64 id, .int .u64 t, .int .i64 0, .string s, .int .u64 u]) w := by
  go_simp
def tl0 : ToldV := ⟨0, 0, rp0, 0⟩
theorem zcT : (#[.int .i64 0, .int .u64 0, .int .i64 0, .string ⟨#[]⟩, .int .u64 0] : Array Value) = tl0.c.toArray := rfl
set_option maxRecDepth 20000 in
set_option maxHeartbeats 8000000 in
theorem told25_any (w : World) (x : StV) (id : Int) (tm : Nat) :
    Calls Tryd.prog 11 #[.agg x.c.toArray, .int .i64 id, .int .u64 (tm : Int)] w fun e w' => e = .returned (.agg (toldF x id tm).c.toArray) ∧ Below w.heap.size w w' := by
  have hX := (Blk.new w 40 x.c.toArray).alloc (.cells tl0.c.toArray 38)
  have hR := Blk.new (w.alloc (.cells x.c.toArray 40)) 38 tl0.c.toArray
  have hb := below_next' (below_alloc w (.cells x.c.toArray 40)) (below_alloc (w.alloc (.cells x.c.toArray 40)) (.cells tl0.c.toArray 38))
  have hsz : (w.alloc (.cells x.c.toArray 40)).heap.size = w.heap.size + 1 := by simp
  rw [hsz] at hR
  have htd := stp_told x
  have hcs := fun (z : World) (g : Nat) (h : Blk z g 40 x.c.toArray) => stp_cells h
  have htl : x.t.c.length = 5 := rfl
  have htm : x.own = true → toldF x id tm = ⟨id, tm, ⟨0, bstr [ltr x.pick]⟩, 1 + x.pick.toNat / 64⟩ := fun h => if_pos h
  have htn : x.own = false → toldF x id tm = x.t := fun h => if_neg (by rw [h]; simp)
  obtain ⟨R, hRe⟩ : ∃ R, toldF x id tm = R := ⟨_, rfl⟩
  rw [hRe] at htm htn ⊢
  clear hRe
  obtain ⟨t, hte⟩ : ∃ t, x.t = t := ⟨_, rfl⟩
  obtain ⟨ow, hoe⟩ : ∃ j, x.own = j := ⟨_, rfl⟩
  obtain ⟨pk, hpe⟩ : ∃ j, x.pick = j := ⟨_, rfl⟩
  rw [hte] at htd htl htn
  rw [hoe] at htm htn
  rw [hpe] at htm
  simp only [hoe, hpe] at hcs
  obtain ⟨X, hXe⟩ : ∃ X, x.c = X := ⟨_, rfl⟩
  rw [hXe] at hX hR hb hsz htd ⊢
  simp only [hXe] at hcs
  have HCS := Lib.hid hcs
  clear hcs hXe hte hoe hpe
  obtain ⟨z, hz⟩ : ∃ z : Array Value, tl0.c.toArray = z := ⟨_, rfl⟩
  have hzc := zcT
  rw [hz] at hzc hX hR hb
  have hzs : z.size = 5 := by rw [← hz]; rfl
  clear hz
  have hyp := ltr_int pk
  have hpl := pk.toNat_lt
  obtain ⟨q, hq⟩ : ∃ q, pk.toNat / 64 = q := ⟨_, rfl⟩
  rw [hq] at htm
  have hq4 : (q : Int) < 4 := by omega
  have hq0 : (0 : Int) ≤ (q : Int) := by omega
  have hqz : (pk.toNat : Int) / 64 = (q : Int) := by omega
  clear hq
  go_enter Tryd.func11, Tryd.ntmps11
  go_upto_region 1 with (fail)
  obtain ⟨w1, hw1⟩ : ∃ x, (w.alloc (.cells X.toArray 40)).alloc (.cells z 38) = x := ⟨_, rfl⟩
  rw [hw1] at hX hR hb ⊢
  obtain ⟨gx, hgx⟩ : ∃ x, w.heap.size = x := ⟨_, rfl⟩
  rw [hgx] at hX hR ⊢
  have HGX := Lib.hid hgx
  clear hgx hw1 hsz
  obtain ⟨c0, c1, c8, c9⟩ := HCS.out _ _ hX
  cases ow
  · obtain rfl := htn rfl
    clear htm htn
    have hts : R.c.toArray.size = 5 := rfl
    have ht1 := told_ones R
    repeat (first
      | ((with_reducible refine wpl_load_mid gx 10 X R.c Tryd.underlying38 rfl iTold hX htd htl ?_ ?_); (focus rfl); simp only [Act.put, List.setIfInBounds_toArray, List.set_cons_zero, List.set_cons_succ])
      | ((with_reducible refine wpl_store (gx + 1) _ z R.c.toArray iTold hR hzs hts ht1 ?_ ?_ ?_); (focus rfl); (focus rfl))
      | go_values | go_skip | go_guarded | go_step | go_upon | go_back)
    refine bodyPost_ret (results_cell_row rfl _ _ (gx + 1) _ _ (0, 0) _ rfl (hR.setRow _) Tryd.underlying38 rfl (by rw [hts]; exact iTold)) rfl ?_
    exact ⟨rfl, hb.grown (grownBy_setRow w1 (gx + 1) R.c.toArray) hb.size (fun q hq => by cases hq; have := HGX.out; omega)⟩
  · obtain rfl := htm rfl
    clear htm htn
    obtain ⟨w2, gl, hbs, hcv, hb2⟩ := let_any w1 (ltr pk)
    have hX2 := hX.below hb2 hX.lt
    have hR2 := hR.below hb2 hR.lt
    have hb2 := below_next' hb hb2
    obtain ⟨d0, d1, d8, d9⟩ := HCS.out _ _ hX2
    have hts : (ToldV.mk id tm ⟨0, bstr [ltr pk]⟩ (1 + q)).c.toArray.size = 5 := rfl
    have ht1 := told_ones (ToldV.mk id tm ⟨0, bstr [ltr pk]⟩ (1 + q))
    clear hX hR hb
    repeat (first
      | ((with_reducible refine wpl_buildSl hbs ?_ ?_); (focus rfl); simp only [Act.put, List.setIfInBounds_toArray, List.set_cons_zero, List.set_cons_succ])
      | ((with_reducible refine wpl_buildS (fun z => build_told z id (tm : Int) (1 + (q : Int)) (bstr [ltr pk])) ?_ ?_); (focus rfl); simp only [Act.put, List.setIfInBounds_toArray, List.set_cons_zero, List.set_cons_succ])
      | ((with_reducible refine wpl_store (gx + 1) _ z (ToldV.mk id tm ⟨0, bstr [ltr pk]⟩ (1 + q)).c.toArray iTold hR2 hzs hts ht1 ?_ ?_ ?_); (focus rfl); (focus rfl))
      | go_values | go_skip | go_guarded | go_step | go_upon | go_back)
    refine bodyPost_ret (results_cell_row rfl _ _ (gx + 1) _ _ (0, 0) _ rfl (hR2.setRow _) Tryd.underlying38 rfl (by rw [hts]; exact iTold)) rfl ?_
    exact ⟨rfl, hb2.grown (grownBy_setRow w2 (gx + 1) (ToldV.mk id tm ⟨0, bstr [ltr pk]⟩ (1 + q)).c.toArray) hb2.size (fun q hq => by cases hq; have := HGX.out; omega)⟩
end Go.Proofs.YtbbcofpdfkhljaaDoor
