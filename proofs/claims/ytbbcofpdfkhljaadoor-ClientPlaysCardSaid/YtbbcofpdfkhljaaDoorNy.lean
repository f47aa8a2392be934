/- ratchetlaw25: of no client; a step that is read; the law ClientNil, walked. -/
import Derived.Test.YtbbcofpdfkhljaaDoorNx
namespace Go.Rat
open Go.ChangeShapes Go.WideShapes Go.ChangeAt Go.RowKit Go
theorem rds_struct4 {P : Program} {t : TypeId} {f1 f2 f3 f4 : Field} {α β γ δ : Type} {c1 : α → List Value} {c2 : β → List Value} {c3 : γ → List Value} {c4 : δ → List Value} {I1 : World → α → Prop} {I2 : World → β → Prop} {I3 : World → γ → Prop} {I4 : World → δ → Prop} (hu : P.underlying t = some (.struct #[f1, f2, f3, f4]))
    (h1 : Rds P f1.type c1 I1) (h2 : Rds P f2.type c2 I2) (h3 : Rds P f3.type c3 I3) (h4 : Rds P f4.type c4 I4)
    (o1 : f1.offset = 0) (o2 : f2.offset = P.cellsOf f1.type) (o3 : f3.offset = P.cellsOf f1.type + P.cellsOf f2.type) (o4 : f4.offset = P.cellsOf f1.type + P.cellsOf f2.type + P.cellsOf f3.type) (ot : P.cellsOf t = P.cellsOf f1.type + P.cellsOf f2.type + P.cellsOf f3.type + P.cellsOf f4.type) :
    Rds P t (fun x : α × β × γ × δ => c1 x.1 ++ (c2 x.2.1 ++ (c3 x.2.2.1 ++ (c4 x.2.2.2)))) (fun w x => I1 w x.1 ∧ I2 w x.2.1 ∧ I3 w x.2.2.1 ∧ I4 w x.2.2.2) := by
  intro H enc w base spare held fuel cs x h
  obtain ⟨xs, n, _, _, hlen, hxs, hf⟩ := DataW.trod_struct hu h
  have e1 := hf 0 f1 rfl
  have e2 := hf 1 f2 rfl
  have e3 := hf 2 f3 rfl
  have e4 := hf 3 f4 rfl
  rw [List.getElem?_eq_getElem (by rw [hxs]; simp)] at e1 e2 e3 e4
  obtain ⟨v1, k1, i1⟩ := h1 _ _ _ _ _ _ _ _ _ e1
  obtain ⟨v2, k2, i2⟩ := h2 _ _ _ _ _ _ _ _ _ e2
  obtain ⟨v3, k3, i3⟩ := h3 _ _ _ _ _ _ _ _ _ e3
  obtain ⟨v4, k4, i4⟩ := h4 _ _ _ _ _ _ _ _ _ e4
  refine ⟨(v1, v2, v3, v4), ?_, i1, i2, i3, i4⟩
  have p1 := cut_piece k1
  have p2 := cut_piece k2
  have p3 := cut_piece k3
  have p4 := cut_piece k4
  rw [o1, List.drop_zero, Nat.zero_add, ← o2, p2, o2, ← o3, p3, o3, ← o4, p4, o4, ← ot, ← hlen, List.drop_length, List.append_nil] at p1
  exact p1
theorem rds_struct6 {P : Program} {t : TypeId} {f1 f2 f3 f4 f5 f6 : Field} {α β γ δ ε ζ : Type} {c1 : α → List Value} {c2 : β → List Value} {c3 : γ → List Value} {c4 : δ → List Value} {c5 : ε → List Value} {c6 : ζ → List Value} {I1 : World → α → Prop} {I2 : World → β → Prop} {I3 : World → γ → Prop} {I4 : World → δ → Prop} {I5 : World → ε → Prop} {I6 : World → ζ → Prop} (hu : P.underlying t = some (.struct #[f1, f2, f3, f4, f5, f6]))
    (h1 : Rds P f1.type c1 I1) (h2 : Rds P f2.type c2 I2) (h3 : Rds P f3.type c3 I3) (h4 : Rds P f4.type c4 I4) (h5 : Rds P f5.type c5 I5) (h6 : Rds P f6.type c6 I6)
    (o1 : f1.offset = 0) (o2 : f2.offset = P.cellsOf f1.type) (o3 : f3.offset = P.cellsOf f1.type + P.cellsOf f2.type) (o4 : f4.offset = P.cellsOf f1.type + P.cellsOf f2.type + P.cellsOf f3.type) (o5 : f5.offset = P.cellsOf f1.type + P.cellsOf f2.type + P.cellsOf f3.type + P.cellsOf f4.type) (o6 : f6.offset = P.cellsOf f1.type + P.cellsOf f2.type + P.cellsOf f3.type + P.cellsOf f4.type + P.cellsOf f5.type) (ot : P.cellsOf t = P.cellsOf f1.type + P.cellsOf f2.type + P.cellsOf f3.type + P.cellsOf f4.type + P.cellsOf f5.type + P.cellsOf f6.type) :
    Rds P t (fun x : α × β × γ × δ × ε × ζ => c1 x.1 ++ (c2 x.2.1 ++ (c3 x.2.2.1 ++ (c4 x.2.2.2.1 ++ (c5 x.2.2.2.2.1 ++ (c6 x.2.2.2.2.2)))))) (fun w x => I1 w x.1 ∧ I2 w x.2.1 ∧ I3 w x.2.2.1 ∧ I4 w x.2.2.2.1 ∧ I5 w x.2.2.2.2.1 ∧ I6 w x.2.2.2.2.2) := by
  intro H enc w base spare held fuel cs x h
  obtain ⟨xs, n, _, _, hlen, hxs, hf⟩ := DataW.trod_struct hu h
  have e1 := hf 0 f1 rfl
  have e2 := hf 1 f2 rfl
  have e3 := hf 2 f3 rfl
  have e4 := hf 3 f4 rfl
  have e5 := hf 4 f5 rfl
  have e6 := hf 5 f6 rfl
  rw [List.getElem?_eq_getElem (by rw [hxs]; simp)] at e1 e2 e3 e4 e5 e6
  obtain ⟨v1, k1, i1⟩ := h1 _ _ _ _ _ _ _ _ _ e1
  obtain ⟨v2, k2, i2⟩ := h2 _ _ _ _ _ _ _ _ _ e2
  obtain ⟨v3, k3, i3⟩ := h3 _ _ _ _ _ _ _ _ _ e3
  obtain ⟨v4, k4, i4⟩ := h4 _ _ _ _ _ _ _ _ _ e4
  obtain ⟨v5, k5, i5⟩ := h5 _ _ _ _ _ _ _ _ _ e5
  obtain ⟨v6, k6, i6⟩ := h6 _ _ _ _ _ _ _ _ _ e6
  refine ⟨(v1, v2, v3, v4, v5, v6), ?_, i1, i2, i3, i4, i5, i6⟩
  have p1 := cut_piece k1
  have p2 := cut_piece k2
  have p3 := cut_piece k3
  have p4 := cut_piece k4
  have p5 := cut_piece k5
  have p6 := cut_piece k6
  rw [o1, List.drop_zero, Nat.zero_add, ← o2, p2, o2, ← o3, p3, o3, ← o4, p4, o4, ← o5, p5, o5, ← o6, p6, o6, ← ot, ← hlen, List.drop_length, List.append_nil] at p1
  exact p1
/-- A struct that is handed in. -/
theorem open_struct {P : Program} {W : World} {H : Type} {enc : TypeId × Value → H} {base : Nat} {sp : Nat → Bool} {held : Bool} {t : TypeId} {fs : Array Field} {α : Type} {c : α → List Value} {I : World → α → Prop} (ht : P.underlying t = some (.struct fs)) (hR : Rds P t c I) {r : Reach} {b0 : Nat} {v : Value} {d : DataW H} {ps : List MemPlace}
    (hval : Value.okWide P W r b0 t v) (hd : DataW.Trod enc P W base sp held t v d ps) : ∃ a, v = .agg (c a).toArray ∧ I W a := by
  obtain ⟨fuel, hf⟩ := hd
  simp only [Value.okWide, ht] at hval
  obtain ⟨cs, rfl, hcs, _⟩ := hval
  obtain ⟨a, h1, h2⟩ := hR _ _ _ _ _ _ _ _ _ hf
  exact ⟨a, by rw [← h1]; rfl, h2⟩
end Go.Rat
namespace Go.Proofs.YtbbcofpdfkhljaaDoor
open Go.RowKit Go.Rat
set_option maxRecDepth 20000 in
set_option maxHeartbeats 4000000 in
theorem cask_nil (w : World) (o : OpV) :
    Calls Tryd.prog 14 #[.pointer none, .agg o.c.toArray] w fun e w' => e = .returned (.tuple #[.agg rq0.c.toArray, .int .i64 2]) ∧ Below w.heap.size w w' := by
  have hR := Blk.new (w.alloc (.cells o.c.toArray 34)) 44 rq0.c.toArray
  have hb := below_next' (below_alloc w (.cells o.c.toArray 34)) (below_alloc (w.alloc (.cells o.c.toArray 34)) (.cells rq0.c.toArray 44))
  have hsz : (w.alloc (.cells o.c.toArray 34)).heap.size = w.heap.size + 1 := by simp
  rw [hsz] at hR
  obtain ⟨O, hOe⟩ : ∃ O, o.c.toArray = O := ⟨_, rfl⟩
  rw [hOe] at hR hb hsz ⊢
  clear hOe
  obtain ⟨z, hz⟩ : ∃ z : Array Value, rq0.c.toArray = z := ⟨_, rfl⟩
  have hzc := zc44
  rw [hz] at hzc hR hb
  have hzs : z.size = 40 := by rw [← hz]; rfl
  have hz1 : z.all (·.oneCell') = true := by rw [← hz]; have := rqc_one rq0; simpa using this
  have HZ := Lib.hid hz
  clear hz
  go_enter Tryd.func14, Tryd.ntmps14
  go_upto_block 0 with (fail)
  obtain ⟨w1, hw1⟩ : ∃ x, (w.alloc (.cells O 34)).alloc (.cells z 44) = x := ⟨_, rfl⟩
  rw [hw1] at hR hb ⊢
  obtain ⟨gx, hgx⟩ : ∃ x, w.heap.size = x := ⟨_, rfl⟩
  rw [hgx] at hR ⊢
  have HGX := Lib.hid hgx
  clear hgx hw1 hsz
  repeat (first
    | ((with_reducible refine wpl_buildS (ps := []) (fun x => by rw [← HZ.out]; exact build_rq0 x) ?_ ?_); (focus rfl); simp only [Act.put, List.setIfInBounds_toArray, List.set_cons_zero, List.set_cons_succ])
    | ((with_reducible refine wpl_store (gx + 1) _ z z i44 hR hzs hzs hz1 ?_ ?_ ?_); (focus rfl); (focus rfl))
    | go_values | go_skip | go_guarded | go_step | go_upon | go_back)
  refine bodyPost_ret (results_cell_val rfl _ _ (gx + 1) _ _ (0, 0) _ _ rfl rfl (hR.setRow _) Tryd.underlying44 rfl (by rw [hzs]; exact i44)) rfl ?_
  exact ⟨by rw [HZ.out]; rfl, hb.grown (grownBy_setRow w1 (gx + 1) z) hb.size (fun q hq => by cases hq; have := HGX.out; omega)⟩
set_option maxRecDepth 20000 in
set_option maxHeartbeats 4000000 in
theorem chear_nil (w : World) (j : Int) (t : ToldV) :
    Calls Tryd.prog 12 #[.pointer none, .int .i64 j, .agg t.c.toArray] w fun e w' => e = .returned (.tuple #[.agg rp0.c.toArray, .bool false]) ∧ Below w.heap.size w w' := by
  have hR := Blk.new (w.alloc (.cells t.c.toArray 38)) 36 rp0.c.toArray
  have hb := below_next' (below_alloc w (.cells t.c.toArray 38)) (below_alloc (w.alloc (.cells t.c.toArray 38)) (.cells rp0.c.toArray 36))
  have hsz : (w.alloc (.cells t.c.toArray 38)).heap.size = w.heap.size + 1 := by simp
  rw [hsz] at hR
  obtain ⟨O, hOe⟩ : ∃ O, t.c.toArray = O := ⟨_, rfl⟩
  rw [hOe] at hR hb hsz ⊢
  clear hOe
  obtain ⟨z, hz⟩ : ∃ z : Array Value, rp0.c.toArray = z := ⟨_, rfl⟩
  have hzc := zcRp
  rw [hz] at hzc hR hb
  have hzs : z.size = 2 := by rw [← hz]; rfl
  have hz1 : z.all (·.oneCell') = true := by rw [← hz]; simp [rp0, RpV.c, Value.oneCell']
  have HZ := Lib.hid hz
  clear hz
  go_enter Tryd.func12, Tryd.ntmps12
  go_upto_region 1 with (fail)
  obtain ⟨w1, hw1⟩ : ∃ x, (w.alloc (.cells O 38)).alloc (.cells z 36) = x := ⟨_, rfl⟩
  rw [hw1] at hR hb ⊢
  obtain ⟨gx, hgx⟩ : ∃ x, w.heap.size = x := ⟨_, rfl⟩
  rw [hgx] at hR ⊢
  have HGX := Lib.hid hgx
  clear hgx hw1 hsz
  refine wp_region_plan [(0, true), (1, true), (2, true), (3, true), (4, true), (5, true), (6, true), (7, true), (8, true), (9, true), (10, true), (11, true), (12, true), (13, true), (14, true), (15, true), (16, true), (17, true), (18, true), (19, true), (20, true), (21, true), (22, true), (23, true), (24, true), (25, true), (26, true), (27, true), (28, true), (29, true), (30, true), (31, true), (32, true), (33, true), (34, true), (35, true), (36, true), (37, true), (38, true), (39, true), (40, true), (41, true), (42, true), (43, true), (44, true), (45, true), (46, true), (47, true), (48, true)] (fun x => True) (by kernel_rfl) (by kernel_rfl) (by kernel_rfl) (by kernel_rfl) (fun _ _ d _ _ h => by cases d <;> exact h) trivial ?_
  simp only [planOps, List.getElem?_toArray, List.getElem?_cons_zero, List.getElem?_cons_succ]
  repeat (first
    | (refine wpS_skip (by rfl) ?_; simp only [Act.put, List.setIfInBounds_toArray, List.set_cons_zero, List.set_cons_succ])
    | (refine wpS_q ?_ (by rfl) ?_ ?_; rotate_left; (focus (intro z hz; (try dsimp only at hz); go_simp; rfl)); simp only [Act.put, List.setIfInBounds_toArray, List.set_cons_zero, List.set_cons_succ]))
  refine wpS_nil ?_
  have hRd : Blk w1.drew (gx + 1) 36 z := hR
  have hbd := hb.drew
  repeat (first
    | ((with_reducible refine wpl_loadS (gx + 1) _ z Tryd.underlying36 rfl iRp hRd hzs ?_ ?_ ?_); (focus rfl); (focus rfl); simp only [Act.put, List.setIfInBounds_toArray, List.set_cons_zero, List.set_cons_succ])
    | ((with_reducible refine wpl_store (gx + 1) _ z z iRp hRd hzs hzs hz1 ?_ ?_ ?_); (focus rfl); (focus rfl))
    | go_values | go_skip | go_guarded | go_step | go_upon | go_back)
  refine bodyPost_ret (results_cell_val rfl _ _ (gx + 1) _ _ (0, 0) _ _ rfl rfl (hRd.setRow _) Tryd.underlying36 rfl (by rw [hzs]; exact iRp)) rfl ?_
  exact ⟨by rw [HZ.out]; rfl, hbd.grown (grownBy_setRow w1.drew (gx + 1) z) hbd.size (fun q hq => by cases hq; have := HGX.out; omega)⟩
/-- A step that is read. -/
theorem _root_.Go.Rat.Rds.map {P : Program} {t : TypeId} {α β : Type} {c : α → List Value} {I : World → α → Prop} (h : Rds P t c I) (f : α → β) (c' : β → List Value) (hc : ∀ a, c a = c' (f a)) : Rds P t c' (fun _ _ => True) := fun _ _ _ _ _ _ _ _ _ hx => by
  obtain ⟨a, h1, _⟩ := h _ _ _ _ _ _ _ _ _ hx
  exact ⟨f a, h1.trans (hc a), trivial⟩
theorem rds_op : Rds Tryd.prog 34 OpV.c (fun _ _ => True) :=
  Rds.map (rds_struct6 Tryd.underlying34 (rds_u8 Tryd.underlying5) (rds_string Tryd.underlying9) (rds_string Tryd.underlying9) (rds_string Tryd.underlying9) (rds_string Tryd.underlying9) (rds_u64 Tryd.underlying32) (by kernel_rfl) (by kernel_rfl) (by kernel_rfl) (by kernel_rfl) (by kernel_rfl) (by kernel_rfl) (by kernel_rfl))
    (fun x => OpV.mk x.1 x.2.1 x.2.2.1 x.2.2.2.1 x.2.2.2.2.1 x.2.2.2.2.2) OpV.c (fun _ => rfl)
theorem rds_rp : Rds Tryd.prog 36 RpV.c (fun _ _ => True) :=
  Rds.map (rds_struct2 Tryd.underlying36 (rds_i64 Tryd.underlying26) (rds_string Tryd.underlying9) (by kernel_rfl) (by kernel_rfl) (by kernel_rfl)) (fun x => RpV.mk x.1 x.2) RpV.c (fun _ => rfl)
theorem rds_told : Rds Tryd.prog 38 ToldV.c (fun _ _ => True) :=
  Rds.map (rds_struct4 Tryd.underlying38 (rds_i64 Tryd.underlying3) (rds_u64 Tryd.underlying32) rds_rp (rds_u64 Tryd.underlying32) (by kernel_rfl) (by kernel_rfl) (by kernel_rfl) (by kernel_rfl) (by kernel_rfl)) (fun x => ToldV.mk x.1 x.2.1.toNat x.2.2.1 x.2.2.2.toNat) ToldV.c (fun _ => rfl)
theorem rds_stp : Rds Tryd.prog 40 StV.c (fun _ _ => True) :=
  Rds.map (rds_struct6 Tryd.underlying40 (rds_bool Tryd.underlying4) (rds_bool Tryd.underlying4) rds_op (rds_i64 Tryd.underlying3) (rds_u8 Tryd.underlying5) rds_told (by kernel_rfl) (by kernel_rfl) (by kernel_rfl) (by kernel_rfl) (by kernel_rfl) (by kernel_rfl) (by kernel_rfl))
    (fun x => StV.mk x.1 x.2.1 x.2.2.1 x.2.2.2.1 x.2.2.2.2.1 x.2.2.2.2.2) StV.c (fun _ => rfl)
theorem iStp : (Tryd.prog.info? 40).map (·.size) = some 15 := by kernel_rfl
theorem stp_cells {w : World} {g : Nat} {T : TypeId} {x : StV} (h : Blk w g T x.c.toArray) : w.cell? ⟨g, 0, none⟩ = some (.bool x.hear) ∧ w.cell? ⟨g, 1, none⟩ = some (.bool x.own) ∧ w.cell? ⟨g, 8, none⟩ = some (.int .i64 x.j) ∧ w.cell? ⟨g, 9, none⟩ = some (.int .u8 (x.pick.toNat : Int)) := ⟨h.cell 0, h.cell 1, h.cell 8, h.cell 9⟩
theorem stp_op (x : StV) : (x.c.drop 2).take 6 = x.o.c := rfl
theorem stp_told (x : StV) : (x.c.drop 10).take 5 = x.t.c := rfl
theorem stp_one (x : StV) : ∀ u ∈ x.c, u.oneCell' = true := by
  intro u hu
  obtain ⟨a, b, ⟨c, d, e, f, g, h⟩, i, j, ⟨k, l, ⟨m, n⟩, o⟩⟩ := x
  simp [StV.c, OpV.c, ToldV.c] at hu
  rcases hu with rfl | rfl | rfl | rfl | rfl | rfl | rfl | rfl | rfl | rfl | rfl | rfl | rfl | rfl | rfl <;> rfl
theorem buildSl_stp (w : World) (x : StV) : (Instr.buildSlice 22 1 [(0, .agg x.c.toArray)].toArray).run Tryd.prog w = .ok (.slice (some ⟨w.heap.size, 0, none⟩) 1 1) (w.alloc (.cells x.c.toArray 40)) := by
  obtain ⟨a, b, ⟨c, d, e, f, g, h⟩, i, j, ⟨k, l, ⟨m, n⟩, o⟩⟩ := x
  simp only [StV.c, OpV.c, ToldV.c, List.cons_append, List.nil_append]
  go_simp
set_option maxRecDepth 20000 in
set_option maxHeartbeats 8000000 in
theorem clientNil_any (n : Nat) (hn64 : n = 64) (w : World) (x : StV) (tb : List Int) (htb : H.tblL = tb) (hT : H.Tab w tb) :
    Calls Tryd.prog 5 #[.agg x.c.toArray] w fun e w' => e = .returned (.bool true) ∧ Below w.heap.size w w' := by
  have hwk := fun w' (h : Below w.heap.size w w') => works25_any n hn64 w' tb htb (H.Tab.below hT h)
  have HW := Lib.hid hwk
  clear hwk hT htb hn64
  have hX := Blk.new w 40 x.c.toArray
  have hb := below_alloc w (.cells x.c.toArray 40)
  have hXs : x.c.toArray.size = 15 := rfl
  have hop := stp_op x
  have htd := stp_told x
  have hcs := fun (z : World) (g : Nat) (h : Blk z g 40 x.c.toArray) => (stp_cells h).2.2.1
  have hbl := fun z => buildSl_stp z x
  have hfl : [x].flatMap StV.c = x.c := by simp
  have hfw := fun (z : World) A (hr : Reads z z.heap.size 15 A 1 x.c) => few25_any z A 1 1 [x] (by rw [hfl]; exact hr) (by omega)
  have hol : x.o.c.length = 6 := rfl
  have htl : x.t.c.length = 5 := rfl
  obtain ⟨o, hoe⟩ : ∃ o, x.o = o := ⟨_, rfl⟩
  obtain ⟨t, hte⟩ : ∃ t, x.t = t := ⟨_, rfl⟩
  obtain ⟨j, hje⟩ : ∃ j, x.j = j := ⟨_, rfl⟩
  rw [hoe] at hop hol
  rw [hte] at htd htl
  simp only [hje] at hcs
  obtain ⟨X, hXe⟩ : ∃ X, x.c = X := ⟨_, rfl⟩
  rw [hXe] at hX hb hXs hop htd ⊢
  simp only [hXe] at hcs hbl hfw
  have HCS := Lib.hid hcs
  have HBL := Lib.hid hbl
  have HFW := Lib.hid hfw
  clear hcs hbl hfw hXe hoe hte hje hfl
  have hzs : rq0.c.toArray.size = 40 := rfl
  have hz1 : rq0.c.toArray.all (·.oneCell') = true := by simpa using rqc_one rq0
  have hrs : rp0.c.toArray.size = 2 := rfl
  have hr1 : rp0.c.toArray.all (·.oneCell') = true := by simp [rp0, RpV.c, Value.oneCell']
  go_enter Tryd.func5, Tryd.ntmps5
  go_upto_region 1 with (fail)
  obtain ⟨w1, hw1⟩ : ∃ x, w.alloc (.cells X.toArray 40) = x := ⟨_, rfl⟩
  rw [hw1] at hX hb ⊢
  obtain ⟨gx, hgx⟩ : ∃ x, w.heap.size = x := ⟨_, rfl⟩
  rw [hgx] at hX ⊢
  have HGX := Lib.hid hgx
  clear hgx hw1
  repeat (first
    | ((with_reducible refine wpl_loadS gx _ X.toArray Tryd.underlying40 rfl iStp hX hXs ?_ ?_ ?_); (focus rfl); (focus rfl); simp only [Act.put, List.setIfInBounds_toArray, List.set_cons_zero, List.set_cons_succ])
    | ((with_reducible refine wpl_buildSl (HBL.out w1) ?_ ?_); (focus rfl); simp only [Act.put, List.setIfInBounds_toArray, List.set_cons_zero, List.set_cons_succ])
    | (go_at_call 7; refine Hid.out ?_)
    | go_values | go_skip | go_guarded | go_step | go_upon | go_back)
  refine Lib.hid ?_
  have hS := Blk.new w1 40 X.toArray
  have hX2 := hX.alloc (.cells X.toArray 40)
  have hb2 := below_next' hb (below_alloc w1 (.cells X.toArray 40))
  refine (HFW.out _ _ ⟨by rw [← List.size_toArray, hXs], fun _ => ⟨_, rfl, hS.lt, fun i u hu => ?_⟩⟩).mono ?_
  · have := hS.cell i
    rw [show (⟨w1.heap.size, 0, none⟩ : Addr).add i = ⟨w1.heap.size, i, none⟩ by unfold Addr.add; split <;> simp_all, this, List.getElem?_toArray]
    exact hu
  rintro e w2 ⟨he, hb3⟩
  have hX3 := hX2.below hb3 hX2.lt
  have hb3 := below_next' hb2 hb3
  clear hX hb hS hX2 hb2
  rcases he with rfl | ⟨rfl, _⟩
  · simp only []
    repeat (first
      | (go_at_call 8; refine Hid.out ?_)
      | go_values | go_skip | go_guarded | go_step | go_upon | go_back)
    refine Lib.hid ?_
    refine (HW.out _ hb3).mono ?_
    rintro e w3 ⟨rfl, hb4⟩
    simp only []
    go_wp2_with fail
    go_ret
    exact ⟨rfl, below_next' hb3 hb4⟩
  simp only []
  repeat (first
    | ((with_reducible refine wpl_load_mid gx 2 X o.c Tryd.underlying34 rfl i34 hX3 hop hol ?_ ?_); (focus rfl); simp only [Act.put, List.setIfInBounds_toArray, List.set_cons_zero, List.set_cons_succ])
    | (go_at_call 14; refine Hid.out ?_)
    | go_values | go_skip | go_guarded | go_step | go_upon | go_back)
  refine Lib.hid ?_
  refine (cask_nil w2 o).mono ?_
  rintro e w3 ⟨rfl, hbm⟩
  simp only []
  have hX4 := hX3.below hbm hX3.lt
  have hb4 := below_next' hb3 hbm
  clear hbm hX3 hb3
  repeat (first
    | ((with_reducible refine wpl_store_fresh rq0.c.toArray i44 ?_ hzs hz1 ?_ ?_ ?_); (focus kernel_rfl); (focus rfl); (focus rfl); intro w4 hFn hln hbm; simp only [Act.put]; refine Hid.out ?_)
    | go_values | go_skip | go_guarded | go_step | go_upon | go_back)
  refine Lib.hid ?_
  have hX5 := hX4.below hbm hX4.lt
  have hb5 := below_next' hb4 hbm
  clear hFn hln hbm hX4 hb4
  have c8 := HCS.out _ _ hX5
  repeat (first
    | ((with_reducible refine wpl_load_mid gx 10 X t.c Tryd.underlying38 rfl iTold hX5 htd htl ?_ ?_); (focus rfl); simp only [Act.put, List.setIfInBounds_toArray, List.set_cons_zero, List.set_cons_succ])
    | (go_at_call 12; refine Hid.out ?_)
    | go_values | go_skip | go_guarded | go_step | go_upon | go_back)
  refine Lib.hid ?_
  refine (chear_nil w4 j t).mono ?_
  rintro e w5 ⟨rfl, hbm⟩
  simp only []
  have hX6 := hX5.below hbm hX5.lt
  have hb6 := below_next' hb5 hbm
  clear hbm hX5 hb5
  repeat (first
    | ((with_reducible refine wpl_store_fresh rp0.c.toArray iRp ?_ hrs hr1 ?_ ?_ ?_); (focus kernel_rfl); (focus rfl); (focus rfl); intro w6 hFn hln hbm; simp only [Act.put]; refine Hid.out ?_)
    | go_values | go_skip | go_guarded | go_step | go_upon | go_back)
  refine Lib.hid ?_
  have hX7 := hX6.below hbm hX6.lt
  have hb7 := below_next' hb6 hbm
  clear hFn hln hbm hX6 hb6
  repeat (first
    | (go_at_call 16; refine Hid.out ?_)
    | go_values | go_skip | go_guarded | go_step | go_upon | go_back)
  refine Lib.hid ?_
  refine (cpend_nil w6).mono ?_
  rintro e w7 ⟨rfl, hbm⟩
  simp only []
  have hX8 := hX7.below hbm hX7.lt
  have hb8 := below_next' hb7 hbm
  clear hbm hX7 hb7
  repeat (first
    | ((with_reducible refine wpl_store_fresh rq0.c.toArray i44 ?_ hzs hz1 ?_ ?_ ?_); (focus kernel_rfl); (focus rfl); (focus rfl); intro w8 hFn hln hbm; simp only [Act.put]; refine Hid.out ?_)
    | go_values | go_skip | go_guarded | go_step | go_upon | go_back)
  refine Lib.hid ?_
  have hX9 := hX8.below hbm hX8.lt
  have hb9 := below_next' hb8 hbm
  clear hFn hln hbm hX8 hb8
  repeat (first
    | (go_at_call 17; refine Hid.out ?_)
    | go_values | go_skip | go_guarded | go_step | go_upon | go_back)
  refine Lib.hid ?_
  refine (ctime_nil w8).mono ?_
  rintro e w9 ⟨rfl, rfl⟩
  simp only []
  repeat (first
    | (go_at_call 8; refine Hid.out ?_)
    | go_values | go_skip | go_guarded | go_step | go_upon | go_back)
  refine Lib.hid ?_
  refine (HW.out _ hb9).mono ?_
  rintro e w10 ⟨rfl, hbm⟩
  simp only []
  go_wp2_with fail
  go_ret
  exact ⟨rfl, below_next' hb9 hbm⟩
theorem clientNil_walk (W : World) (hT : H.Tab W H.tblL) (x : StV) : Calls Tryd.prog 5 #[.agg x.c.toArray] W fun e w' => e = .returned (.bool true) ∧ Below W.heap.size W w' :=
  clientNil_any 64 rfl W x H.tblL rfl hT
end Go.Proofs.YtbbcofpdfkhljaaDoor
