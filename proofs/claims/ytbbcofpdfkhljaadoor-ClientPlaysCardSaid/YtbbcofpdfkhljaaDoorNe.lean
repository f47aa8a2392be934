/- message: requests signed. -/
import Derived.Test.YtbbcofpdfkhljaaDoorNd
namespace Go.Proofs.YtbbcofpdfkhljaaDoor
open Go.RowKit Go.Rat
/-- The tag that a request must have. -/
def RqV.must (n : Nat) (tb : List Int) (r : RqV) : List UInt8 := H.ofF n tb (H.cliK n tb r.cl) r.bytes
theorem must_length (n : Nat) (tb : List Int) (r : RqV) : (r.must n tb).length = 32 := H.ofF_length _ _ _ _
def RqV.signed (n : Nat) (tb : List Int) (r : RqV) : RqV := if r.asked then { r with tag := r.must n tb } else r
theorem rqc_length (r : RqV) (ht : r.tag.length = 32) : r.c.length = 40 := by simp [RqV.c, ht, bvs_length]
theorem rqc_splice (r : RqV) (ht : r.tag.length = 32) (t : List UInt8) (h : t.length = 32) : Go.splice r.c 8 (bvs t) = ({ r with tag := t } : RqV).c := by
  have h1 : r.c.drop (8 + (bvs t).length) = [] := List.drop_of_length_le (by rw [rqc_length r ht, bvs_length, h]; omega)
  rw [Go.splice, h1, List.append_nil]
  rfl
theorem rqc_one (r : RqV) : r.c.all (·.oneCell') = true := by
  have := bvs_all r.tag
  simp [RqV.c, Value.oneCell'] at this ⊢
  exact this
theorem bytes_le (r : RqV) (h : r.asked) : r.bytes.length ≤ 1000 := by
  obtain ⟨a1, a2, a3, a4, a5, a6, a7, a8⟩ := h
  simp only [RqV.bytes, List.length_append, head_length, textB_length]
  omega
def z32 : List UInt8 := List.replicate 32 0
theorem z32_length : z32.length = 32 := by rw [z32, List.length_replicate]
theorem zc32 : (#[.int .u8 0, .int .u8 0, .int .u8 0, .int .u8 0, .int .u8 0, .int .u8 0, .int .u8 0, .int .u8 0, .int .u8 0, .int .u8 0, .int .u8 0, .int .u8 0, .int .u8 0, .int .u8 0, .int .u8 0, .int .u8 0, .int .u8 0, .int .u8 0, .int .u8 0, .int .u8 0, .int .u8 0, .int .u8 0, .int .u8 0, .int .u8 0, .int .u8 0, .int .u8 0, .int .u8 0, .int .u8 0, .int .u8 0, .int .u8 0, .int .u8 0, .int .u8 0] : Array Value) = (bvs z32).toArray := rfl
/-- No request. -/
def rq0 : RqV := ⟨0, 0, ⟨0, ⟨#[]⟩, ⟨#[]⟩, ⟨#[]⟩, ⟨#[]⟩, 0⟩, z32⟩
theorem zc44 : (#[.int .i64 0, .int .u64 0, .int .u8 0, .string ⟨#[]⟩, .string ⟨#[]⟩, .string ⟨#[]⟩, .string ⟨#[]⟩, .int .u64 0, .int .u8 0, .int .u8 0, .int .u8 0, .int .u8 0, .int .u8 0, .int .u8 0, .int .u8 0, .int .u8 0, .int .u8 0, .int .u8 0, .int .u8 0, .int .u8 0, .int .u8 0, .int .u8 0, .int .u8 0, .int .u8 0, .int .u8 0, .int .u8 0, .int .u8 0, .int .u8 0, .int .u8 0, .int .u8 0, .int .u8 0, .int .u8 0, .int .u8 0, .int .u8 0, .int .u8 0, .int .u8 0, .int .u8 0, .int .u8 0, .int .u8 0, .int .u8 0] : Array Value) = rq0.c.toArray := rfl
theorem i44 : (Tryd.prog.info? 44).map (·.size) = some 40 := by kernel_rfl
theorem i42 : (Tryd.prog.info? 42).map (·.size) = some 32 := by kernel_rfl
set_option maxRecDepth 20000 in
set_option maxHeartbeats 4000000 in
theorem sign_any (n : Nat) (hn64 : n = 64) (w : World) (r : RqV) (ha : r.asked) (ht : r.tag.length = 32) (tb : List Int) (hT : H.Tab w tb) :
    Calls Tryd.prog 29 #[.agg r.c.toArray] w fun e w' => e = .returned (.agg (bvs (r.must n tb)).toArray) ∧ Below w.heap.size w w' := by
  have HN := Lib.hid hn64
  clear hn64
  have hml := must_length n tb r
  have hreq := fun w => request_any w r ha
  have hbl := bytes_le r ha
  have hX := Blk.new w 44 r.c.toArray
  have hb := below_alloc w (.cells r.c.toArray 44)
  have hLs : r.c.toArray.size = 40 := by rw [List.size_toArray, rqc_length r ht]
  have hc2 := fun (z : World) (g : Nat) (h : Blk z g 44 r.c.toArray) => (rq_cells h).1
  have hmu : r.must n tb = H.ofF n tb (H.cliK n tb r.cl) r.bytes := rfl
  obtain ⟨L, hL⟩ : ∃ L, r.c.toArray = L := ⟨_, rfl⟩
  obtain ⟨M, hM⟩ : ∃ M, r.must n tb = M := ⟨_, rfl⟩
  obtain ⟨B, hB⟩ : ∃ M, r.bytes = M := ⟨_, rfl⟩
  obtain ⟨cl, hcl⟩ : ∃ M, r.cl = M := ⟨_, rfl⟩
  rw [hL] at hX hb hLs ⊢
  rw [hM, hB, hcl] at hmu
  rw [hM] at hml ⊢
  rw [hB] at hbl
  simp only [hL, hB, hcl] at hreq hc2
  have HREQ := Lib.hid hreq
  have HC2 := Lib.hid hc2
  have HMU := Lib.hid hmu
  clear hL hM hB hcl hreq hc2 hmu ht ha
  obtain ⟨z, hz⟩ : ∃ z : Array Value, (bvs z32).toArray = z := ⟨_, rfl⟩
  have hzc := zc32
  rw [hz] at hzc
  have hzs : z.size = 32 := by rw [← hz]; rfl
  clear hz
  have hX1 := hX.alloc (.cells z 42)
  have hZ := Blk.new (w.alloc (.cells L 44)) 42 z
  have hb1 := below_next' hb (below_alloc (w.alloc (.cells L 44)) (.cells z 42))
  have hsz : (w.alloc (.cells L 44)).heap.size = w.heap.size + 1 := by simp
  rw [hsz] at hZ
  go_enter Tryd.func29, Tryd.ntmps29
  go_upto_region 1 with (fail)
  obtain ⟨w1, hw1⟩ : ∃ x, (w.alloc (.cells L 44)).alloc (.cells z 42) = x := ⟨_, rfl⟩
  rw [hw1] at hX1 hZ hb1 ⊢
  obtain ⟨gx, hgx⟩ : ∃ x, w.heap.size = x := ⟨_, rfl⟩
  rw [hgx] at hX1 hZ ⊢
  have HGX := Lib.hid hgx
  clear hgx hw1 hX hb hsz
  have q0 : ∀ x, Blk x gx 44 L → x.cell? ⟨gx, 0, none⟩ = some (.int .i64 cl) := fun x h => HC2.out x gx h
  refine wp_region_plan [(0, true), (1, true), (3, true), (2, false), (4, false), (5, false), (6, false)] (fun x => Blk x gx 44 L) (by kernel_rfl) (by kernel_rfl) (by kernel_rfl) (by kernel_rfl) (fun _ _ d _ _ h => by cases d <;> exact h) hX1 ?_
  simp only [planOps, List.getElem?_toArray, List.getElem?_cons_zero, List.getElem?_cons_succ]
  iterate 1 (refine wpS_q ?_ (by rfl) ?_ ?_; rotate_left; (focus (intro z hz; (try dsimp only at hz); go_simp; rfl)); simp only [Act.put, List.setIfInBounds_toArray, List.set_cons_zero, List.set_cons_succ])
  refine wpS_q (.int .i64 cl) (by rfl) (fun x hx => by have := q0 x hx; go_simp) ?_
  simp only [Act.put, List.setIfInBounds_toArray, List.set_cons_zero, List.set_cons_succ]
  refine wpS_q (.agg L) (by rfl) (fun x hx => load_row_run rfl gx L Tryd.underlying44 rfl i44 hx hLs rfl) ?_
  simp only [Act.put, List.setIfInBounds_toArray, List.set_cons_zero, List.set_cons_succ]
  refine wpS_l (by rfl) (fun K hK => ?_)
  go_wp2_with fail
  refine (H.client_any n HN.out w1.drew cl tb (H.Tab.below hT (hb1.drew))).mono ?_
  rintro e w2 ⟨A2, m2, c2, rfl, hmc2, hm2, hl2, hO2, hb2⟩
  have hb2 : Below w1.heap.size w1 w2 := drew_below.trans hb2
  refine hK _ _ _ (hX1.below hb2 hX1.lt) (fun _ h => h) ?_
  clear hK
  refine wpS_l (by rfl) (fun K hK => ?_)
  go_wp2_with fail
  refine (HREQ.out w2).mono ?_
  rintro e w3 ⟨A3, m3, c3, rfl, hO3, hb3⟩
  have hb13 := below_next' hb2 hb3
  refine hK _ _ _ (hX1.below hb13 hX1.lt) (fun _ h => h) ?_
  clear hK
  refine wpS_l (by rfl) (fun K hK => ?_)
  have hl3 := hO3.len
  go_wp2_with fail
  refine (H.of_any n HN.out w3 A2 m2 c2 _ (OB.reads (OB.below hO2 hb3)) hmc2 (by omega) A3 m3 c3 B (OB.reads hO3) (OB.cap hO3).1 (by omega) tb (H.Tab.below hT (below_next' hb1 hb13))).mono ?_
  rw [← HMU.out]
  rintro e w4 ⟨rfl, hb4⟩
  have hb14 := below_next' hb13 hb4
  refine hK _ _ _ (hX1.below hb14 hX1.lt) (fun _ h => h) ?_
  clear hK
  refine wpS_l (by rfl) (fun K hK => ?_)
  have hZ4 := hZ.below hb14 hZ.lt
  refine wp_storeRow rfl (gx + 1) 42 z (bvs M).toArray i42 hZ4 hzs (by rw [bvs_size, hml]) (by simpa using bvs_one M) rfl rfl ?_
  have hg5 := grownBy_setRow w4 (gx + 1) (bvs M).toArray
  have hX5 := (hX1.below hb14 hX1.lt).grown hg5 (by intro e; injection e with e; omega)
  refine hK _ _ _ hX5 (fun _ h => h) ?_
  clear hK
  refine wpS_nil ?_
  go_wp2_with fail
  refine bodyPost_ret (results_cell_row rfl _ _ (gx + 1) _ _ (0, 0) _ rfl (hZ4.setRow _) Tryd.underlying42 rfl (by rw [bvs_size, hml]; exact i42)) rfl ?_
  exact ⟨rfl, (below_next' hb1 hb14).grown hg5 (below_next' hb1 hb14).size (fun q hq => by cases hq; have := HGX.out; omega)⟩
end Go.Proofs.YtbbcofpdfkhljaaDoor
