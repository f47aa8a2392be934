/- The document's client: Hear. -/
import Derived.Test.YtbbcofpdfkhljaaDoorOi
namespace Go.Proofs.YtbbcofpdfkhljaaDoor
open Go.RowKit Go.Rat
theorem iRT : (Tryd.prog.info? 52).map (·.size) = some 5 := by kernel_rfl
theorem countP_step (zs : List (Int × ToldV)) (t : ToldV) (k : Nat) (z : Int × ToldV) (h : zs[k]? = some z) : (zs.take (k + 1)).countP (fun z => decide (z.2 = t)) = (zs.take k).countP (fun z => decide (z.2 = t)) + if z.2 = t then 1 else 0 := by
  rw [List.take_add_one, h, List.countP_append]
  by_cases e : z.2 = t <;> simp [e]
/-- What may turn when the document's client hears: its block, and rows of numbers and of what was told. -/
def RFp (w : World) (base g x : Nat) : Prop := x = g ∨ (base ≤ x ∧ ((∃ cur, w.heap[x]? = some (.cells cur 3 (0, 0))) ∨ ∃ cur, w.heap[x]? = some (.cells cur 52 (0, 0))))
theorem RFp.blk {w : World} {base g b : Nat} {T : TypeId} {cs : Array Value} (hB : Blk w b T cs) (hg : b ≠ g) (h1 : T ≠ 3) (h2 : T ≠ 52) : ¬ RFp w base g b := by
  unfold Blk at hB
  rintro (h | ⟨_, ⟨cur, h⟩ | ⟨cur, h⟩⟩)
  · exact hg h
  · rw [hB] at h; injection h with h; injection h with _ h; exact h1 h
  · rw [hB] at h; injection h with h; injection h with _ h; exact h2 h
theorem RFp.i {w : World} {base g n c N : Nat} {A : Option Addr} {xs : List Value} (h : w.ownsRow base 3 1 (.slice A n c) N xs) : ∀ x, A.map (·.block) = some x → RFp w base g x := fun x hx => .inr ⟨(own_ge h x hx).1, .inl (own_typed h hx)⟩
theorem RFp.t {w : World} {base g n c N : Nat} {A : Option Addr} {xs : List Value} (h : w.ownsRow base 52 5 (.slice A n c) N xs) : ∀ x, A.map (·.block) = some x → RFp w base g x := fun x hx => .inr ⟨(own_ge h x hx).1, .inr (own_typed h hx)⟩
theorem Chg.step {F : Nat → Prop} {w w1 w2 : World} {row : Option Nat} (h : Chg F w w1) (k : w1.grownBy w2 row) (hr : ∀ x, row = some x → F x ∨ w.heap.size ≤ x) : Chg F w w2 :=
  h.trans (Chg.of_grown' (F := fun x => row = some x) k (fun _ e => e)) hr
theorem Chg.bel {F : Nat → Prop} {w w1 w2 : World} (h : Chg F w w1) (k : Below w1.heap.size w1 w2) : Chg F w w2 := h.trans (Chg.of_below (fun _ => False) k) (fun _ e => e.elim)
set_option maxRecDepth 20000 in
set_option maxHeartbeats 16000000 in
theorem rchear_any (w : World) (base g : Nat) (c : ClV) (zs : List (Int × ToldV)) (hC : RcAt w base g c zs) (hbw : base ≤ w.heap.size) (f : Nat) (hf : 1 ≤ f ∧ f ≤ 5) (hP : Cpl f c zs) (hz : zs.length ≤ 200) (j : Int) (t : ToldV) :
    Calls Tryd.prog 13 #[.pointer (some ⟨g, 0, none⟩), .int .i64 j, .agg t.c.toArray] w fun e w' => ∃ zs', e = .returned (.tuple #[.agg (hearC c j t).2.1.c.toArray, .bool (hearC c j t).2.2]) ∧ RcAt w' base g (hearC c j t).1 zs' ∧ Cpl f (hearC c j t).1 zs' ∧ zs'.length ≤ zs.length + 1 ∧ Chg (RFp w base g) w w' := by
  obtain ⟨A1, A2, c1, c2, hX, hO1, hO2⟩ := hC
  have htag := hP.ok.tag
  have hn := hP.n_
  have hF1 := RFp.i (g := g) hO1
  have hF2 := RFp.t (g := g) hO2
  have hno := fun h => hear_cpl_no hP hf.2 j t h
  have hyes := fun h => hear_cpl hP hf.2 j t h
  have hPP := hP
  clear hP
  obtain ⟨cn, id, tm, pend, q, told⟩ := c
  obtain ⟨tcl, ttm, trp, tat⟩ := t
  simp only [heardB] at hno hyes
  simp only at htag hn hX
  have hcn1 : cn ≤ 11 := by omega
  have hcn0 : 3 ≤ cn := by omega
  have HNN := Lib.hid hn
  clear hn
  by_cases h1 : j < 1
  · have hnow := hno (fun h => absurd h.1.1 (by omega))
    clear hno hyes
    have hX1 := (hX.alloc (.cells (ToldV.mk tcl ttm trp tat).c.toArray 52)).alloc (.cells rp0.c.toArray 36)
    have hO := (Blk.new w 52 (ToldV.mk tcl ttm trp tat).c.toArray).alloc (.cells rp0.c.toArray 36)
    have hR := Blk.new (w.alloc (.cells (ToldV.mk tcl ttm trp tat).c.toArray 52)) 36 rp0.c.toArray
    have hb := below_next' (below_alloc w (.cells (ToldV.mk tcl ttm trp tat).c.toArray 52)) (below_alloc (w.alloc (.cells (ToldV.mk tcl ttm trp tat).c.toArray 52)) (.cells rp0.c.toArray 36))
    have hsz : (w.alloc (.cells (ToldV.mk tcl ttm trp tat).c.toArray 52)).heap.size = w.heap.size + 1 := by simp
    rw [hsz] at hR
    have hg0 := hX.lt
    have hT2 := fun (x : World) (b : Nat) (h : Blk x b 52 (ToldV.mk tcl ttm trp tat).c.toArray) => told_cells h
    simp only at hT2
    obtain ⟨O, hOe⟩ : ∃ O, (ToldV.mk tcl ttm trp tat).c.toArray = O := ⟨_, rfl⟩
    have hOs : O.size = 5 := by rw [← hOe]; rfl
    simp only [hOe] at hT2 hX1 hO hR hb hsz ⊢
    have HT2 := Lib.hid hT2
    clear hT2 hOe
    obtain ⟨z, hz'⟩ : ∃ z : Array Value, rp0.c.toArray = z := ⟨_, rfl⟩
    have hzc := zcRp
    rw [hz'] at hzc hX1 hO hR hb
    have hzs : z.size = 2 := by rw [← hz']; rfl
    have hz1 : z.all (·.oneCell') = true := by rw [← hz']; simp [rp0, RpV.c, Value.oneCell']
    have HZ := Lib.hid hz'
    clear hz'
    go_enter Tryd.func13, Tryd.ntmps13
    go_upto_region 1 with (fail)
    obtain ⟨w1, hw1⟩ : ∃ x, (w.alloc (.cells O 52)).alloc (.cells z 36) = x := ⟨_, rfl⟩
    rw [hw1] at hX1 hO hR hb ⊢
    obtain ⟨gx, hgx⟩ : ∃ x, w.heap.size = x := ⟨_, rfl⟩
    rw [hgx] at hO hR hg0 ⊢
    have HGX := Lib.hid hgx
    clear hgx hw1 hsz
    have hX1d : Blk w1.drew g 48 (clC cn id tm pend q [.slice A1 zs.length c1, .slice A2 zs.length c2]).toArray := hX1
    have hOd : Blk w1.drew gx 52 O := hO
    have hRd : Blk w1.drew (gx + 1) 36 z := hR
    have hbd := hb.drew
    have q0 : ∀ x, (Blk x gx 52 O ∧ Blk x g 48 (clC cn id tm pend q [.slice A1 zs.length c1, .slice A2 zs.length c2]).toArray) → x.cell? ⟨g, 0, none⟩ = some (.int .i64 cn) := fun x h => (cl_cells h.2).1
    have q1 : ∀ x, (Blk x gx 52 O ∧ Blk x g 48 (clC cn id tm pend q [.slice A1 zs.length c1, .slice A2 zs.length c2]).toArray) → x.cell? ⟨g, 1, none⟩ = some (.int .i64 id) := fun x h => (cl_cells h.2).2.1
    have q2 : ∀ x, (Blk x gx 52 O ∧ Blk x g 48 (clC cn id tm pend q [.slice A1 zs.length c1, .slice A2 zs.length c2]).toArray) → x.cell? ⟨g, 2, none⟩ = some (.int .u64 (tm : Int)) := fun x h => (cl_cells h.2).2.2.1
    have q3 : ∀ x, (Blk x gx 52 O ∧ Blk x g 48 (clC cn id tm pend q [.slice A1 zs.length c1, .slice A2 zs.length c2]).toArray) → x.cell? ⟨g, 3, none⟩ = some (.bool pend) := fun x h => (cl_cells h.2).2.2.2
    have q4 : ∀ x, (Blk x gx 52 O ∧ Blk x g 48 (clC cn id tm pend q [.slice A1 zs.length c1, .slice A2 zs.length c2]).toArray) → x.cell? ⟨gx, 0, none⟩ = some (.int .i64 tcl) := fun x h => (HT2.out x gx h.1).1
    have q5 : ∀ x, (Blk x gx 52 O ∧ Blk x g 48 (clC cn id tm pend q [.slice A1 zs.length c1, .slice A2 zs.length c2]).toArray) → x.cell? ⟨gx, 1, none⟩ = some (.int .u64 (ttm : Int)) := fun x h => (HT2.out x gx h.1).2
    refine wp_region_plan [(0, true), (1, true), (2, true), (3, true), (4, true), (5, true), (6, true), (7, true), (8, true), (9, true), (10, true), (11, true), (12, true), (13, true), (14, true), (15, true), (16, true), (17, true), (18, true), (19, true), (20, true), (21, true), (22, true), (23, true), (24, true), (25, true), (26, true), (27, true), (28, true), (29, true), (30, true), (31, true), (32, true), (33, true), (34, true)] (fun x => Blk x gx 52 O ∧ Blk x g 48 (clC cn id tm pend q [.slice A1 zs.length c1, .slice A2 zs.length c2]).toArray) (by kernel_rfl) (by kernel_rfl) (by kernel_rfl) (by kernel_rfl) (fun _ _ d _ _ h => by cases d <;> exact h) ⟨hOd, hX1d⟩ ?_
    simp only [planOps, List.getElem?_toArray, List.getElem?_cons_zero, List.getElem?_cons_succ]
    repeat (first
      | (refine wpS_skip (by rfl) ?_; simp only [Act.put, List.setIfInBounds_toArray, List.set_cons_zero, List.set_cons_succ])
      | (refine wpS_q ?_ (by rfl) ?_ ?_; rotate_left; (focus (intro z hz; (try dsimp only at hz); go_simp; rfl)); simp only [Act.put, List.setIfInBounds_toArray, List.set_cons_zero, List.set_cons_succ]))
    refine wpS_nil ?_
    clear q0 q1 q2 q3 q4 q5
    repeat (first
      | ((with_reducible refine wpl_buildS (ps := []) (fun x => by rw [← HZ.out]; exact build_rp0 x) ?_ ?_); (focus rfl); simp only [Act.put, List.setIfInBounds_toArray, List.set_cons_zero, List.set_cons_succ])
      | ((with_reducible refine wpl_store (gx + 1) _ z z iRp hRd hzs hzs hz1 ?_ ?_ ?_); (focus rfl); (focus rfl))
      | go_values | go_skip | go_guarded | go_step | go_upon | go_back)
    refine bodyPost_ret (results_cell_val rfl _ _ (gx + 1) _ _ (0, 0) _ _ rfl rfl (hRd.setRow _) Tryd.underlying36 rfl (by rw [hzs]; exact iRp)) rfl ?_
    have hg8 := grownBy_setRow (w1.drew) (gx + 1) z
    have hb8 := hbd.grown hg8 hbd.size (fun q hq => by cases hq; have := HGX.out; omega)
    rw [hnow]
    refine ⟨zs, ?_, ⟨A1, A2, c1, c2, hX1d.grown hg8 (by intro e; injection e with e; omega), own_below hO1 hb8, own_below hO2 hb8⟩, hPP, by omega, Chg.of_below _ hb8⟩
    rw [HZ.out]
    rfl
  by_cases h2 : cn < j
  · have hnow := hno (fun h => absurd h.1.2.1 (by omega))
    clear hno hyes
    have hX1 := (hX.alloc (.cells (ToldV.mk tcl ttm trp tat).c.toArray 52)).alloc (.cells rp0.c.toArray 36)
    have hO := (Blk.new w 52 (ToldV.mk tcl ttm trp tat).c.toArray).alloc (.cells rp0.c.toArray 36)
    have hR := Blk.new (w.alloc (.cells (ToldV.mk tcl ttm trp tat).c.toArray 52)) 36 rp0.c.toArray
    have hb := below_next' (below_alloc w (.cells (ToldV.mk tcl ttm trp tat).c.toArray 52)) (below_alloc (w.alloc (.cells (ToldV.mk tcl ttm trp tat).c.toArray 52)) (.cells rp0.c.toArray 36))
    have hsz : (w.alloc (.cells (ToldV.mk tcl ttm trp tat).c.toArray 52)).heap.size = w.heap.size + 1 := by simp
    rw [hsz] at hR
    have hg0 := hX.lt
    have hT2 := fun (x : World) (b : Nat) (h : Blk x b 52 (ToldV.mk tcl ttm trp tat).c.toArray) => told_cells h
    simp only at hT2
    obtain ⟨O, hOe⟩ : ∃ O, (ToldV.mk tcl ttm trp tat).c.toArray = O := ⟨_, rfl⟩
    have hOs : O.size = 5 := by rw [← hOe]; rfl
    simp only [hOe] at hT2 hX1 hO hR hb hsz ⊢
    have HT2 := Lib.hid hT2
    clear hT2 hOe
    obtain ⟨z, hz'⟩ : ∃ z : Array Value, rp0.c.toArray = z := ⟨_, rfl⟩
    have hzc := zcRp
    rw [hz'] at hzc hX1 hO hR hb
    have hzs : z.size = 2 := by rw [← hz']; rfl
    have hz1 : z.all (·.oneCell') = true := by rw [← hz']; simp [rp0, RpV.c, Value.oneCell']
    have HZ := Lib.hid hz'
    clear hz'
    go_enter Tryd.func13, Tryd.ntmps13
    go_upto_region 1 with (fail)
    obtain ⟨w1, hw1⟩ : ∃ x, (w.alloc (.cells O 52)).alloc (.cells z 36) = x := ⟨_, rfl⟩
    rw [hw1] at hX1 hO hR hb ⊢
    obtain ⟨gx, hgx⟩ : ∃ x, w.heap.size = x := ⟨_, rfl⟩
    rw [hgx] at hO hR hg0 ⊢
    have HGX := Lib.hid hgx
    clear hgx hw1 hsz
    have hX1d : Blk w1.drew g 48 (clC cn id tm pend q [.slice A1 zs.length c1, .slice A2 zs.length c2]).toArray := hX1
    have hOd : Blk w1.drew gx 52 O := hO
    have hRd : Blk w1.drew (gx + 1) 36 z := hR
    have hbd := hb.drew
    have q0 : ∀ x, (Blk x gx 52 O ∧ Blk x g 48 (clC cn id tm pend q [.slice A1 zs.length c1, .slice A2 zs.length c2]).toArray) → x.cell? ⟨g, 0, none⟩ = some (.int .i64 cn) := fun x h => (cl_cells h.2).1
    have q1 : ∀ x, (Blk x gx 52 O ∧ Blk x g 48 (clC cn id tm pend q [.slice A1 zs.length c1, .slice A2 zs.length c2]).toArray) → x.cell? ⟨g, 1, none⟩ = some (.int .i64 id) := fun x h => (cl_cells h.2).2.1
    have q2 : ∀ x, (Blk x gx 52 O ∧ Blk x g 48 (clC cn id tm pend q [.slice A1 zs.length c1, .slice A2 zs.length c2]).toArray) → x.cell? ⟨g, 2, none⟩ = some (.int .u64 (tm : Int)) := fun x h => (cl_cells h.2).2.2.1
    have q3 : ∀ x, (Blk x gx 52 O ∧ Blk x g 48 (clC cn id tm pend q [.slice A1 zs.length c1, .slice A2 zs.length c2]).toArray) → x.cell? ⟨g, 3, none⟩ = some (.bool pend) := fun x h => (cl_cells h.2).2.2.2
    have q4 : ∀ x, (Blk x gx 52 O ∧ Blk x g 48 (clC cn id tm pend q [.slice A1 zs.length c1, .slice A2 zs.length c2]).toArray) → x.cell? ⟨gx, 0, none⟩ = some (.int .i64 tcl) := fun x h => (HT2.out x gx h.1).1
    have q5 : ∀ x, (Blk x gx 52 O ∧ Blk x g 48 (clC cn id tm pend q [.slice A1 zs.length c1, .slice A2 zs.length c2]).toArray) → x.cell? ⟨gx, 1, none⟩ = some (.int .u64 (ttm : Int)) := fun x h => (HT2.out x gx h.1).2
    refine wp_region_plan [(0, true), (1, true), (2, true), (3, true), (4, true), (5, true), (6, true), (7, true), (8, true), (9, true), (10, true), (11, true), (12, true), (13, true), (14, true), (15, true), (16, true), (17, true), (18, true), (19, true), (20, true), (21, true), (22, true), (23, true), (24, true), (25, true), (26, true), (27, true), (28, true), (29, true), (30, true), (31, true), (32, true), (33, true), (34, true)] (fun x => Blk x gx 52 O ∧ Blk x g 48 (clC cn id tm pend q [.slice A1 zs.length c1, .slice A2 zs.length c2]).toArray) (by kernel_rfl) (by kernel_rfl) (by kernel_rfl) (by kernel_rfl) (fun _ _ d _ _ h => by cases d <;> exact h) ⟨hOd, hX1d⟩ ?_
    simp only [planOps, List.getElem?_toArray, List.getElem?_cons_zero, List.getElem?_cons_succ]
    repeat (first
      | (refine wpS_skip (by rfl) ?_; simp only [Act.put, List.setIfInBounds_toArray, List.set_cons_zero, List.set_cons_succ])
      | (refine wpS_q ?_ (by rfl) ?_ ?_; rotate_left; (focus (intro z hz; (try dsimp only at hz); go_simp; rfl)); simp only [Act.put, List.setIfInBounds_toArray, List.set_cons_zero, List.set_cons_succ]))
    refine wpS_nil ?_
    clear q0 q1 q2 q3 q4 q5
    repeat (first
      | ((with_reducible refine wpl_buildS (ps := []) (fun x => by rw [← HZ.out]; exact build_rp0 x) ?_ ?_); (focus rfl); simp only [Act.put, List.setIfInBounds_toArray, List.set_cons_zero, List.set_cons_succ])
      | ((with_reducible refine wpl_store (gx + 1) _ z z iRp hRd hzs hzs hz1 ?_ ?_ ?_); (focus rfl); (focus rfl))
      | go_values | go_skip | go_guarded | go_step | go_upon | go_back)
    refine bodyPost_ret (results_cell_val rfl _ _ (gx + 1) _ _ (0, 0) _ _ rfl rfl (hRd.setRow _) Tryd.underlying36 rfl (by rw [hzs]; exact iRp)) rfl ?_
    have hg8 := grownBy_setRow (w1.drew) (gx + 1) z
    have hb8 := hbd.grown hg8 hbd.size (fun q hq => by cases hq; have := HGX.out; omega)
    rw [hnow]
    refine ⟨zs, ?_, ⟨A1, A2, c1, c2, hX1d.grown hg8 (by intro e; injection e with e; omega), own_below hO1 hb8, own_below hO2 hb8⟩, hPP, by omega, Chg.of_below _ hb8⟩
    rw [HZ.out]
    rfl
  cases pend
  · have hnow := hno (fun h => by cases h.1.2.2.1)
    clear hno hyes
    have hX1 := (hX.alloc (.cells (ToldV.mk tcl ttm trp tat).c.toArray 52)).alloc (.cells rp0.c.toArray 36)
    have hO := (Blk.new w 52 (ToldV.mk tcl ttm trp tat).c.toArray).alloc (.cells rp0.c.toArray 36)
    have hR := Blk.new (w.alloc (.cells (ToldV.mk tcl ttm trp tat).c.toArray 52)) 36 rp0.c.toArray
    have hb := below_next' (below_alloc w (.cells (ToldV.mk tcl ttm trp tat).c.toArray 52)) (below_alloc (w.alloc (.cells (ToldV.mk tcl ttm trp tat).c.toArray 52)) (.cells rp0.c.toArray 36))
    have hsz : (w.alloc (.cells (ToldV.mk tcl ttm trp tat).c.toArray 52)).heap.size = w.heap.size + 1 := by simp
    rw [hsz] at hR
    have hg0 := hX.lt
    have hT2 := fun (x : World) (b : Nat) (h : Blk x b 52 (ToldV.mk tcl ttm trp tat).c.toArray) => told_cells h
    simp only at hT2
    obtain ⟨O, hOe⟩ : ∃ O, (ToldV.mk tcl ttm trp tat).c.toArray = O := ⟨_, rfl⟩
    have hOs : O.size = 5 := by rw [← hOe]; rfl
    simp only [hOe] at hT2 hX1 hO hR hb hsz ⊢
    have HT2 := Lib.hid hT2
    clear hT2 hOe
    obtain ⟨z, hz'⟩ : ∃ z : Array Value, rp0.c.toArray = z := ⟨_, rfl⟩
    have hzc := zcRp
    rw [hz'] at hzc hX1 hO hR hb
    have hzs : z.size = 2 := by rw [← hz']; rfl
    have hz1 : z.all (·.oneCell') = true := by rw [← hz']; simp [rp0, RpV.c, Value.oneCell']
    have HZ := Lib.hid hz'
    clear hz'
    go_enter Tryd.func13, Tryd.ntmps13
    go_upto_region 1 with (fail)
    obtain ⟨w1, hw1⟩ : ∃ x, (w.alloc (.cells O 52)).alloc (.cells z 36) = x := ⟨_, rfl⟩
    rw [hw1] at hX1 hO hR hb ⊢
    obtain ⟨gx, hgx⟩ : ∃ x, w.heap.size = x := ⟨_, rfl⟩
    rw [hgx] at hO hR hg0 ⊢
    have HGX := Lib.hid hgx
    clear hgx hw1 hsz
    have hX1d : Blk w1.drew g 48 (clC cn id tm false q [.slice A1 zs.length c1, .slice A2 zs.length c2]).toArray := hX1
    have hOd : Blk w1.drew gx 52 O := hO
    have hRd : Blk w1.drew (gx + 1) 36 z := hR
    have hbd := hb.drew
    have q0 : ∀ x, (Blk x gx 52 O ∧ Blk x g 48 (clC cn id tm false q [.slice A1 zs.length c1, .slice A2 zs.length c2]).toArray) → x.cell? ⟨g, 0, none⟩ = some (.int .i64 cn) := fun x h => (cl_cells h.2).1
    have q1 : ∀ x, (Blk x gx 52 O ∧ Blk x g 48 (clC cn id tm false q [.slice A1 zs.length c1, .slice A2 zs.length c2]).toArray) → x.cell? ⟨g, 1, none⟩ = some (.int .i64 id) := fun x h => (cl_cells h.2).2.1
    have q2 : ∀ x, (Blk x gx 52 O ∧ Blk x g 48 (clC cn id tm false q [.slice A1 zs.length c1, .slice A2 zs.length c2]).toArray) → x.cell? ⟨g, 2, none⟩ = some (.int .u64 (tm : Int)) := fun x h => (cl_cells h.2).2.2.1
    have q3 : ∀ x, (Blk x gx 52 O ∧ Blk x g 48 (clC cn id tm false q [.slice A1 zs.length c1, .slice A2 zs.length c2]).toArray) → x.cell? ⟨g, 3, none⟩ = some (.bool false) := fun x h => (cl_cells h.2).2.2.2
    have q4 : ∀ x, (Blk x gx 52 O ∧ Blk x g 48 (clC cn id tm false q [.slice A1 zs.length c1, .slice A2 zs.length c2]).toArray) → x.cell? ⟨gx, 0, none⟩ = some (.int .i64 tcl) := fun x h => (HT2.out x gx h.1).1
    have q5 : ∀ x, (Blk x gx 52 O ∧ Blk x g 48 (clC cn id tm false q [.slice A1 zs.length c1, .slice A2 zs.length c2]).toArray) → x.cell? ⟨gx, 1, none⟩ = some (.int .u64 (ttm : Int)) := fun x h => (HT2.out x gx h.1).2
    refine wp_region_plan [(0, true), (1, true), (2, true), (3, true), (4, true), (5, true), (6, true), (7, true), (8, true), (9, true), (10, true), (11, true), (12, true), (13, true), (14, true), (15, true), (16, true), (17, true), (18, true), (19, true), (20, true), (21, true), (22, true), (23, true), (24, true), (25, true), (26, true), (27, true), (28, true), (29, true), (30, true), (31, true), (32, true), (33, true), (34, true)] (fun x => Blk x gx 52 O ∧ Blk x g 48 (clC cn id tm false q [.slice A1 zs.length c1, .slice A2 zs.length c2]).toArray) (by kernel_rfl) (by kernel_rfl) (by kernel_rfl) (by kernel_rfl) (fun _ _ d _ _ h => by cases d <;> exact h) ⟨hOd, hX1d⟩ ?_
    simp only [planOps, List.getElem?_toArray, List.getElem?_cons_zero, List.getElem?_cons_succ]
    repeat (first
      | (refine wpS_skip (by rfl) ?_; simp only [Act.put, List.setIfInBounds_toArray, List.set_cons_zero, List.set_cons_succ])
      | (refine wpS_q ?_ (by rfl) ?_ ?_; rotate_left; (focus (intro z hz; (try dsimp only at hz); go_simp; rfl)); simp only [Act.put, List.setIfInBounds_toArray, List.set_cons_zero, List.set_cons_succ]))
    refine wpS_nil ?_
    clear q0 q1 q2 q3 q4 q5
    repeat (first
      | ((with_reducible refine wpl_buildS (ps := []) (fun x => by rw [← HZ.out]; exact build_rp0 x) ?_ ?_); (focus rfl); simp only [Act.put, List.setIfInBounds_toArray, List.set_cons_zero, List.set_cons_succ])
      | ((with_reducible refine wpl_store (gx + 1) _ z z iRp hRd hzs hzs hz1 ?_ ?_ ?_); (focus rfl); (focus rfl))
      | go_values | go_skip | go_guarded | go_step | go_upon | go_back)
    refine bodyPost_ret (results_cell_val rfl _ _ (gx + 1) _ _ (0, 0) _ _ rfl rfl (hRd.setRow _) Tryd.underlying36 rfl (by rw [hzs]; exact iRp)) rfl ?_
    have hg8 := grownBy_setRow (w1.drew) (gx + 1) z
    have hb8 := hbd.grown hg8 hbd.size (fun q hq => by cases hq; have := HGX.out; omega)
    rw [hnow]
    refine ⟨zs, ?_, ⟨A1, A2, c1, c2, hX1d.grown hg8 (by intro e; injection e with e; omega), own_below hO1 hb8, own_below hO2 hb8⟩, hPP, by omega, Chg.of_below _ hb8⟩
    rw [HZ.out]
    rfl
  by_cases h3 : tcl = id
  rotate_left
  · have zb : (tcl == id) = false := beq_eq_false_iff_ne.2 h3
    have zb' : (tcl != id) = true := bne_iff_ne.2 h3
    have hnow := hno (fun h => h3 h.1.2.2.2.1)
    clear hno hyes
    have hX1 := (hX.alloc (.cells (ToldV.mk tcl ttm trp tat).c.toArray 52)).alloc (.cells rp0.c.toArray 36)
    have hO := (Blk.new w 52 (ToldV.mk tcl ttm trp tat).c.toArray).alloc (.cells rp0.c.toArray 36)
    have hR := Blk.new (w.alloc (.cells (ToldV.mk tcl ttm trp tat).c.toArray 52)) 36 rp0.c.toArray
    have hb := below_next' (below_alloc w (.cells (ToldV.mk tcl ttm trp tat).c.toArray 52)) (below_alloc (w.alloc (.cells (ToldV.mk tcl ttm trp tat).c.toArray 52)) (.cells rp0.c.toArray 36))
    have hsz : (w.alloc (.cells (ToldV.mk tcl ttm trp tat).c.toArray 52)).heap.size = w.heap.size + 1 := by simp
    rw [hsz] at hR
    have hg0 := hX.lt
    have hT2 := fun (x : World) (b : Nat) (h : Blk x b 52 (ToldV.mk tcl ttm trp tat).c.toArray) => told_cells h
    simp only at hT2
    obtain ⟨O, hOe⟩ : ∃ O, (ToldV.mk tcl ttm trp tat).c.toArray = O := ⟨_, rfl⟩
    have hOs : O.size = 5 := by rw [← hOe]; rfl
    simp only [hOe] at hT2 hX1 hO hR hb hsz ⊢
    have HT2 := Lib.hid hT2
    clear hT2 hOe
    obtain ⟨z, hz'⟩ : ∃ z : Array Value, rp0.c.toArray = z := ⟨_, rfl⟩
    have hzc := zcRp
    rw [hz'] at hzc hX1 hO hR hb
    have hzs : z.size = 2 := by rw [← hz']; rfl
    have hz1 : z.all (·.oneCell') = true := by rw [← hz']; simp [rp0, RpV.c, Value.oneCell']
    have HZ := Lib.hid hz'
    clear hz'
    go_enter Tryd.func13, Tryd.ntmps13
    go_upto_region 1 with (fail)
    obtain ⟨w1, hw1⟩ : ∃ x, (w.alloc (.cells O 52)).alloc (.cells z 36) = x := ⟨_, rfl⟩
    rw [hw1] at hX1 hO hR hb ⊢
    obtain ⟨gx, hgx⟩ : ∃ x, w.heap.size = x := ⟨_, rfl⟩
    rw [hgx] at hO hR hg0 ⊢
    have HGX := Lib.hid hgx
    clear hgx hw1 hsz
    have hX1d : Blk w1.drew g 48 (clC cn id tm true q [.slice A1 zs.length c1, .slice A2 zs.length c2]).toArray := hX1
    have hOd : Blk w1.drew gx 52 O := hO
    have hRd : Blk w1.drew (gx + 1) 36 z := hR
    have hbd := hb.drew
    have q0 : ∀ x, (Blk x gx 52 O ∧ Blk x g 48 (clC cn id tm true q [.slice A1 zs.length c1, .slice A2 zs.length c2]).toArray) → x.cell? ⟨g, 0, none⟩ = some (.int .i64 cn) := fun x h => (cl_cells h.2).1
    have q1 : ∀ x, (Blk x gx 52 O ∧ Blk x g 48 (clC cn id tm true q [.slice A1 zs.length c1, .slice A2 zs.length c2]).toArray) → x.cell? ⟨g, 1, none⟩ = some (.int .i64 id) := fun x h => (cl_cells h.2).2.1
    have q2 : ∀ x, (Blk x gx 52 O ∧ Blk x g 48 (clC cn id tm true q [.slice A1 zs.length c1, .slice A2 zs.length c2]).toArray) → x.cell? ⟨g, 2, none⟩ = some (.int .u64 (tm : Int)) := fun x h => (cl_cells h.2).2.2.1
    have q3 : ∀ x, (Blk x gx 52 O ∧ Blk x g 48 (clC cn id tm true q [.slice A1 zs.length c1, .slice A2 zs.length c2]).toArray) → x.cell? ⟨g, 3, none⟩ = some (.bool true) := fun x h => (cl_cells h.2).2.2.2
    have q4 : ∀ x, (Blk x gx 52 O ∧ Blk x g 48 (clC cn id tm true q [.slice A1 zs.length c1, .slice A2 zs.length c2]).toArray) → x.cell? ⟨gx, 0, none⟩ = some (.int .i64 tcl) := fun x h => (HT2.out x gx h.1).1
    have q5 : ∀ x, (Blk x gx 52 O ∧ Blk x g 48 (clC cn id tm true q [.slice A1 zs.length c1, .slice A2 zs.length c2]).toArray) → x.cell? ⟨gx, 1, none⟩ = some (.int .u64 (ttm : Int)) := fun x h => (HT2.out x gx h.1).2
    refine wp_region_plan [(0, true), (1, true), (2, true), (3, true), (4, true), (5, true), (6, true), (7, true), (8, true), (9, true), (10, true), (11, true), (12, true), (13, true), (14, true), (15, true), (16, true), (17, true), (18, true), (19, true), (20, true), (21, true), (22, true), (23, true), (24, true), (25, true), (26, true), (27, true), (28, true), (29, true), (30, true), (31, true), (32, true), (33, true), (34, true)] (fun x => Blk x gx 52 O ∧ Blk x g 48 (clC cn id tm true q [.slice A1 zs.length c1, .slice A2 zs.length c2]).toArray) (by kernel_rfl) (by kernel_rfl) (by kernel_rfl) (by kernel_rfl) (fun _ _ d _ _ h => by cases d <;> exact h) ⟨hOd, hX1d⟩ ?_
    simp only [planOps, List.getElem?_toArray, List.getElem?_cons_zero, List.getElem?_cons_succ]
    repeat (first
      | (refine wpS_skip (by rfl) ?_; simp only [Act.put, List.setIfInBounds_toArray, List.set_cons_zero, List.set_cons_succ])
      | (refine wpS_q ?_ (by rfl) ?_ ?_; rotate_left; (focus (intro z hz; (try dsimp only at hz); go_simp; rfl)); simp only [Act.put, List.setIfInBounds_toArray, List.set_cons_zero, List.set_cons_succ]))
    refine wpS_nil ?_
    clear q0 q1 q2 q3 q4 q5
    repeat (first
      | ((with_reducible refine wpl_buildS (ps := []) (fun x => by rw [← HZ.out]; exact build_rp0 x) ?_ ?_); (focus rfl); simp only [Act.put, List.setIfInBounds_toArray, List.set_cons_zero, List.set_cons_succ])
      | ((with_reducible refine wpl_store (gx + 1) _ z z iRp hRd hzs hzs hz1 ?_ ?_ ?_); (focus rfl); (focus rfl))
      | go_values | go_skip | go_guarded | go_step | go_upon | go_back)
    refine bodyPost_ret (results_cell_val rfl _ _ (gx + 1) _ _ (0, 0) _ _ rfl rfl (hRd.setRow _) Tryd.underlying36 rfl (by rw [hzs]; exact iRp)) rfl ?_
    have hg8 := grownBy_setRow (w1.drew) (gx + 1) z
    have hb8 := hbd.grown hg8 hbd.size (fun q hq => by cases hq; have := HGX.out; omega)
    rw [hnow]
    refine ⟨zs, ?_, ⟨A1, A2, c1, c2, hX1d.grown hg8 (by intro e; injection e with e; omega), own_below hO1 hb8, own_below hO2 hb8⟩, hPP, by omega, Chg.of_below _ hb8⟩
    rw [HZ.out]
    rfl
  subst h3
  by_cases h4 : ttm = tm
  rotate_left
  · have zb : ((ttm : Int) == (tm : Int)) = false := beq_eq_false_iff_ne.2 (by omega)
    have zb' : ((ttm : Int) != (tm : Int)) = true := bne_iff_ne.2 (by omega)
    have hnow := hno (fun h => h4 h.1.2.2.2.2)
    clear hno hyes
    have hX1 := (hX.alloc (.cells (ToldV.mk tcl ttm trp tat).c.toArray 52)).alloc (.cells rp0.c.toArray 36)
    have hO := (Blk.new w 52 (ToldV.mk tcl ttm trp tat).c.toArray).alloc (.cells rp0.c.toArray 36)
    have hR := Blk.new (w.alloc (.cells (ToldV.mk tcl ttm trp tat).c.toArray 52)) 36 rp0.c.toArray
    have hb := below_next' (below_alloc w (.cells (ToldV.mk tcl ttm trp tat).c.toArray 52)) (below_alloc (w.alloc (.cells (ToldV.mk tcl ttm trp tat).c.toArray 52)) (.cells rp0.c.toArray 36))
    have hsz : (w.alloc (.cells (ToldV.mk tcl ttm trp tat).c.toArray 52)).heap.size = w.heap.size + 1 := by simp
    rw [hsz] at hR
    have hg0 := hX.lt
    have hT2 := fun (x : World) (b : Nat) (h : Blk x b 52 (ToldV.mk tcl ttm trp tat).c.toArray) => told_cells h
    simp only at hT2
    obtain ⟨O, hOe⟩ : ∃ O, (ToldV.mk tcl ttm trp tat).c.toArray = O := ⟨_, rfl⟩
    have hOs : O.size = 5 := by rw [← hOe]; rfl
    simp only [hOe] at hT2 hX1 hO hR hb hsz ⊢
    have HT2 := Lib.hid hT2
    clear hT2 hOe
    obtain ⟨z, hz'⟩ : ∃ z : Array Value, rp0.c.toArray = z := ⟨_, rfl⟩
    have hzc := zcRp
    rw [hz'] at hzc hX1 hO hR hb
    have hzs : z.size = 2 := by rw [← hz']; rfl
    have hz1 : z.all (·.oneCell') = true := by rw [← hz']; simp [rp0, RpV.c, Value.oneCell']
    have HZ := Lib.hid hz'
    clear hz'
    go_enter Tryd.func13, Tryd.ntmps13
    go_upto_region 1 with (fail)
    obtain ⟨w1, hw1⟩ : ∃ x, (w.alloc (.cells O 52)).alloc (.cells z 36) = x := ⟨_, rfl⟩
    rw [hw1] at hX1 hO hR hb ⊢
    obtain ⟨gx, hgx⟩ : ∃ x, w.heap.size = x := ⟨_, rfl⟩
    rw [hgx] at hO hR hg0 ⊢
    have HGX := Lib.hid hgx
    clear hgx hw1 hsz
    have hX1d : Blk w1.drew g 48 (clC cn tcl tm true q [.slice A1 zs.length c1, .slice A2 zs.length c2]).toArray := hX1
    have hOd : Blk w1.drew gx 52 O := hO
    have hRd : Blk w1.drew (gx + 1) 36 z := hR
    have hbd := hb.drew
    have q0 : ∀ x, (Blk x gx 52 O ∧ Blk x g 48 (clC cn tcl tm true q [.slice A1 zs.length c1, .slice A2 zs.length c2]).toArray) → x.cell? ⟨g, 0, none⟩ = some (.int .i64 cn) := fun x h => (cl_cells h.2).1
    have q1 : ∀ x, (Blk x gx 52 O ∧ Blk x g 48 (clC cn tcl tm true q [.slice A1 zs.length c1, .slice A2 zs.length c2]).toArray) → x.cell? ⟨g, 1, none⟩ = some (.int .i64 tcl) := fun x h => (cl_cells h.2).2.1
    have q2 : ∀ x, (Blk x gx 52 O ∧ Blk x g 48 (clC cn tcl tm true q [.slice A1 zs.length c1, .slice A2 zs.length c2]).toArray) → x.cell? ⟨g, 2, none⟩ = some (.int .u64 (tm : Int)) := fun x h => (cl_cells h.2).2.2.1
    have q3 : ∀ x, (Blk x gx 52 O ∧ Blk x g 48 (clC cn tcl tm true q [.slice A1 zs.length c1, .slice A2 zs.length c2]).toArray) → x.cell? ⟨g, 3, none⟩ = some (.bool true) := fun x h => (cl_cells h.2).2.2.2
    have q4 : ∀ x, (Blk x gx 52 O ∧ Blk x g 48 (clC cn tcl tm true q [.slice A1 zs.length c1, .slice A2 zs.length c2]).toArray) → x.cell? ⟨gx, 0, none⟩ = some (.int .i64 tcl) := fun x h => (HT2.out x gx h.1).1
    have q5 : ∀ x, (Blk x gx 52 O ∧ Blk x g 48 (clC cn tcl tm true q [.slice A1 zs.length c1, .slice A2 zs.length c2]).toArray) → x.cell? ⟨gx, 1, none⟩ = some (.int .u64 (ttm : Int)) := fun x h => (HT2.out x gx h.1).2
    refine wp_region_plan [(0, true), (1, true), (2, true), (3, true), (4, true), (5, true), (6, true), (7, true), (8, true), (9, true), (10, true), (11, true), (12, true), (13, true), (14, true), (15, true), (16, true), (17, true), (18, true), (19, true), (20, true), (21, true), (22, true), (23, true), (24, true), (25, true), (26, true), (27, true), (28, true), (29, true), (30, true), (31, true), (32, true), (33, true), (34, true)] (fun x => Blk x gx 52 O ∧ Blk x g 48 (clC cn tcl tm true q [.slice A1 zs.length c1, .slice A2 zs.length c2]).toArray) (by kernel_rfl) (by kernel_rfl) (by kernel_rfl) (by kernel_rfl) (fun _ _ d _ _ h => by cases d <;> exact h) ⟨hOd, hX1d⟩ ?_
    simp only [planOps, List.getElem?_toArray, List.getElem?_cons_zero, List.getElem?_cons_succ]
    repeat (first
      | (refine wpS_skip (by rfl) ?_; simp only [Act.put, List.setIfInBounds_toArray, List.set_cons_zero, List.set_cons_succ])
      | (refine wpS_q ?_ (by rfl) ?_ ?_; rotate_left; (focus (intro z hz; (try dsimp only at hz); go_simp; rfl)); simp only [Act.put, List.setIfInBounds_toArray, List.set_cons_zero, List.set_cons_succ]))
    refine wpS_nil ?_
    clear q0 q1 q2 q3 q4 q5
    repeat (first
      | ((with_reducible refine wpl_buildS (ps := []) (fun x => by rw [← HZ.out]; exact build_rp0 x) ?_ ?_); (focus rfl); simp only [Act.put, List.setIfInBounds_toArray, List.set_cons_zero, List.set_cons_succ])
      | ((with_reducible refine wpl_store (gx + 1) _ z z iRp hRd hzs hzs hz1 ?_ ?_ ?_); (focus rfl); (focus rfl))
      | go_values | go_skip | go_guarded | go_step | go_upon | go_back)
    refine bodyPost_ret (results_cell_val rfl _ _ (gx + 1) _ _ (0, 0) _ _ rfl rfl (hRd.setRow _) Tryd.underlying36 rfl (by rw [hzs]; exact iRp)) rfl ?_
    have hg8 := grownBy_setRow (w1.drew) (gx + 1) z
    have hb8 := hbd.grown hg8 hbd.size (fun q hq => by cases hq; have := HGX.out; omega)
    rw [hnow]
    refine ⟨zs, ?_, ⟨A1, A2, c1, c2, hX1d.grown hg8 (by intro e; injection e with e; omega), own_below hO1 hb8, own_below hO2 hb8⟩, hPP, by omega, Chg.of_below _ hb8⟩
    rw [HZ.out]
    rfl
  subst h4
  obtain ⟨T, hTe⟩ : ∃ T : ToldV, (⟨tcl, ttm, trp, tat⟩ : ToldV) = T := ⟨_, rfl⟩
  rw [hTe] at hno hyes
  have htr : trp = T.rp := by rw [← hTe]
  have HTE := Lib.hid hTe
  have HNO := Lib.hid hno
  have HYES := Lib.hid hyes
  clear hno hyes
  have hgx0 := hX.lt
  have hX1 := (hX.alloc (.cells (ToldV.mk tcl ttm trp tat).c.toArray 52)).alloc (.cells rp0.c.toArray 36)
  have hO := (Blk.new w 52 (ToldV.mk tcl ttm trp tat).c.toArray).alloc (.cells rp0.c.toArray 36)
  have hR := Blk.new (w.alloc (.cells (ToldV.mk tcl ttm trp tat).c.toArray 52)) 36 rp0.c.toArray
  have hb := below_next' (below_alloc w (.cells (ToldV.mk tcl ttm trp tat).c.toArray 52)) (below_alloc (w.alloc (.cells (ToldV.mk tcl ttm trp tat).c.toArray 52)) (.cells rp0.c.toArray 36))
  have hsz : (w.alloc (.cells (ToldV.mk tcl ttm trp tat).c.toArray 52)).heap.size = w.heap.size + 1 := by simp
  rw [hsz] at hR
  have hg0 := hX.lt
  have hT2 := fun (x : World) (b : Nat) (h : Blk x b 52 (ToldV.mk tcl ttm trp tat).c.toArray) => told_cells h
  simp only at hT2
  obtain ⟨O, hOe⟩ : ∃ O, (ToldV.mk tcl ttm trp tat).c.toArray = O := ⟨_, rfl⟩
  have hOs : O.size = 5 := by rw [← hOe]; rfl
  simp only [hOe] at hT2 hX1 hO hR hb hsz ⊢
  have HT2 := Lib.hid hT2
  rw [hTe] at hOe
  have HOE := Lib.hid hOe
  clear hT2 hOe
  obtain ⟨z, hz'⟩ : ∃ z : Array Value, rp0.c.toArray = z := ⟨_, rfl⟩
  have hzc := zcRp
  rw [hz'] at hzc hX1 hO hR hb
  have hzs : z.size = 2 := by rw [← hz']; rfl
  have hz1 : z.all (·.oneCell') = true := by rw [← hz']; simp [rp0, RpV.c, Value.oneCell']
  have HZ := Lib.hid hz'
  clear hz'
  go_enter Tryd.func13, Tryd.ntmps13
  go_upto_region 1 with (fail)
  obtain ⟨w1, hw1⟩ : ∃ x, (w.alloc (.cells O 52)).alloc (.cells z 36) = x := ⟨_, rfl⟩
  rw [hw1] at hX1 hO hR hb ⊢
  obtain ⟨gx, hgx⟩ : ∃ x, w.heap.size = x := ⟨_, rfl⟩
  rw [hgx] at hO hR hg0 ⊢
  have HGX := Lib.hid hgx
  clear hgx hw1 hsz
  have hX1d : Blk w1.drew g 48 (clC cn tcl ttm true q [.slice A1 zs.length c1, .slice A2 zs.length c2]).toArray := hX1
  have hOd : Blk w1.drew gx 52 O := hO
  have hRd : Blk w1.drew (gx + 1) 36 z := hR
  have hbd := hb.drew
  have q0 : ∀ x, (Blk x gx 52 O ∧ Blk x g 48 (clC cn tcl ttm true q [.slice A1 zs.length c1, .slice A2 zs.length c2]).toArray) → x.cell? ⟨g, 0, none⟩ = some (.int .i64 cn) := fun x h => (cl_cells h.2).1
  have q1 : ∀ x, (Blk x gx 52 O ∧ Blk x g 48 (clC cn tcl ttm true q [.slice A1 zs.length c1, .slice A2 zs.length c2]).toArray) → x.cell? ⟨g, 1, none⟩ = some (.int .i64 tcl) := fun x h => (cl_cells h.2).2.1
  have q2 : ∀ x, (Blk x gx 52 O ∧ Blk x g 48 (clC cn tcl ttm true q [.slice A1 zs.length c1, .slice A2 zs.length c2]).toArray) → x.cell? ⟨g, 2, none⟩ = some (.int .u64 (ttm : Int)) := fun x h => (cl_cells h.2).2.2.1
  have q3 : ∀ x, (Blk x gx 52 O ∧ Blk x g 48 (clC cn tcl ttm true q [.slice A1 zs.length c1, .slice A2 zs.length c2]).toArray) → x.cell? ⟨g, 3, none⟩ = some (.bool true) := fun x h => (cl_cells h.2).2.2.2
  have q4 : ∀ x, (Blk x gx 52 O ∧ Blk x g 48 (clC cn tcl ttm true q [.slice A1 zs.length c1, .slice A2 zs.length c2]).toArray) → x.cell? ⟨gx, 0, none⟩ = some (.int .i64 tcl) := fun x h => (HT2.out x gx h.1).1
  have q5 : ∀ x, (Blk x gx 52 O ∧ Blk x g 48 (clC cn tcl ttm true q [.slice A1 zs.length c1, .slice A2 zs.length c2]).toArray) → x.cell? ⟨gx, 1, none⟩ = some (.int .u64 (ttm : Int)) := fun x h => (HT2.out x gx h.1).2
  refine wp_region_plan [(0, true), (1, true), (2, true), (3, true), (4, true), (5, true), (6, true), (7, true), (8, true), (9, true), (10, true), (11, true), (12, true), (13, true), (14, true), (15, true), (16, true), (17, true), (18, true), (19, true), (20, true), (21, true), (22, true), (23, true), (24, true), (25, true), (26, true), (27, true), (28, true), (29, true), (30, true), (31, true), (32, true), (33, true), (34, true)] (fun x => Blk x gx 52 O ∧ Blk x g 48 (clC cn tcl ttm true q [.slice A1 zs.length c1, .slice A2 zs.length c2]).toArray) (by kernel_rfl) (by kernel_rfl) (by kernel_rfl) (by kernel_rfl) (fun _ _ d _ _ h => by cases d <;> exact h) ⟨hOd, hX1d⟩ ?_
  simp only [planOps, List.getElem?_toArray, List.getElem?_cons_zero, List.getElem?_cons_succ]
  repeat (first
    | (refine wpS_skip (by rfl) ?_; simp only [Act.put, List.setIfInBounds_toArray, List.set_cons_zero, List.set_cons_succ])
    | (refine wpS_q ?_ (by rfl) ?_ ?_; rotate_left; (focus (intro z hz; (try dsimp only at hz); go_simp; rfl)); simp only [Act.put, List.setIfInBounds_toArray, List.set_cons_zero, List.set_cons_succ]))
  refine wpS_nil ?_
  clear q0 q1 q2 q3 q4 q5
  obtain ⟨w2, hw2⟩ : ∃ x, w1.drew = x := ⟨_, rfl⟩
  rw [hw2] at hX1d hOd hRd hbd ⊢
  clear hw2 hX1 hO hR hb hTe
  have hO12 := own_below hO1 hbd
  have hO22 := own_below hO2 hbd
  have hTl : T.c.toArray.size = 5 := rfl
  have hOd : Blk w2 gx 52 T.c.toArray := by rw [HOE.out]; exact hOd
  clear HOE
  go_wp2_with fail
  go_loopw [8, 9] (fun v i wr => ∃ k : Nat, k ≤ zs.length ∧ i = .int .i64 (k : Int) ∧ v = .int .i64 ((1 + (zs.take k).countP (fun z => decide (z.2 = T)) : Nat) : Int) ∧ (∀ q z, q < k → zs[q]? = some z → z.1 ≠ j) ∧ Below w2.heap.size w2 wr) (fun _ i _ => zs.length - (intOf i).toNat)
  case atStart => exact ⟨0, Nat.zero_le _, rfl, rfl, fun q z hq => by omega, Below.refl _ _⟩
  case round =>
    obtain ⟨k, hk, rfl, rfl, hall, hbk⟩ := hrel
    have HALL := Lib.hid hall
    clear hall
    have hXk := hX1d.below hbk hX1d.lt
    obtain ⟨d44, d45⟩ := clC_at44 htag hXk
    have hcle := List.countP_le_length (p := fun z : Int × ToldV => decide (z.2 = T)) (l := zs.take k)
    rw [List.length_take] at hcle
    by_cases hkl : k < zs.length
    · have g1 : (k : Int) < (zs.length : Int) := by omega
      have g0 : (0 : Int) ≤ (k : Int) := by omega
      obtain ⟨a1, zz, rfl, hzm, hz1, ha1, hw1, _⟩ := row_at (fun z : Int × ToldV => [Value.int .i64 z.1]) 1 (fun _ => rfl) (Reads.of_own hO12) (by omega) hkl
      obtain ⟨a2, zz', rfl, _, hz2, ha2, hw2, _⟩ := row_at (fun z : Int × ToldV => z.2.c) 5 (fun _ => rfl) (Reads.of_own hO22) (by omega) hkl
      obtain rfl : zz = zz' := by rw [hz1] at hz2; injection hz2
      have hcs := countP_step zs T k zz hz1
      obtain ⟨zj, zt⟩ := zz
      obtain ⟨vk, hvk⟩ : ∃ v, (zs.take k).countP (fun z => decide (z.2 = T)) = v := ⟨_, rfl⟩
      rw [hvk] at hcle hcs ⊢
      have HCS := Lib.hid hcs
      have gv0 : (0 : Int) ≤ (vk : Int) := by omega
      have gv9 : (vk : Int) ≤ 200 := by omega
      have dw : wr.cell? (a1.add k) = some (.int .i64 zj) := (hbk.cell (by have := ha1; rwa [Nat.mul_one] at this)).trans (by have := hw1 0 _ rfl; rwa [add_zero_addr, Nat.mul_one] at this)
      have qs : ∀ z, Below w2.heap.size w2 z → ∀ i u, zt.c[i]? = some u → z.cell? ((a2.add (k * 5)).add i) = some u := fun z h i u hu => (h.cell (by rw [block_of_add]; exact ha2)).trans (hw2 i u hu)
      have hzl : zt.c.length = 5 := rfl
      have HZ1 := Lib.hid hz1
      have HQS := Lib.hid qs
      clear hw1 hw2 hz1 hz2 qs hcs hvk
      by_cases hj : zj = j
      · subst hj
        have hnow := HNO.out (fun h => h.2 _ hzm rfl)
        have hRk := hRd.below hbk hRd.lt
        have hbdk := below_next' hbd hbk
        repeat (first
          | ((with_reducible refine wpl_buildS (ps := []) (fun x => by rw [← HZ.out]; exact build_rp0 x) ?_ ?_); (focus rfl); simp only [Act.put, List.setIfInBounds_toArray, List.set_cons_zero, List.set_cons_succ])
          | ((with_reducible refine wpl_store (gx + 1) _ z z iRp hRk hzs hzs hz1 ?_ ?_ ?_); (focus rfl); (focus rfl))
          | go_values | go_skip | go_guarded | go_step | go_upon | go_back)
        refine bodyPost_ret (results_cell_val rfl _ _ (gx + 1) _ _ (0, 0) _ _ rfl rfl (hRk.setRow _) Tryd.underlying36 rfl (by rw [hzs]; exact iRp)) rfl ?_
        have hg8 := grownBy_setRow wr (gx + 1) z
        have hb8 := hbdk.grown hg8 hbdk.size (fun q hq => by cases hq; have := HGX.out; omega)
        rw [HTE.out, hnow]
        refine ⟨zs, ?_, ⟨some a1, some a2, c1, c2, hXk.grown hg8 (by intro e; injection e with e; omega), own_below hO1 hb8, own_below hO2 hb8⟩, hPP, by omega, Chg.of_below _ hb8⟩
        rw [HZ.out]
        rfl
      · have hjb : (zj == j) = false := beq_eq_false_iff_ne.2 hj
        have heq := fun z => eq_rtold 9997 zt T z
        obtain ⟨ez, hez⟩ : ∃ q, decide (zt = T) = q := ⟨_, rfl⟩
        simp only [hez] at heq
        have HEQ := Lib.hid heq
        have HEZ := Lib.hid hez
        clear heq hez
        go_upto_region 9 with (fail)
        have hbkd := hbk.drew
        have q45 : ∀ z, Below w2.heap.size w2 z → z.cell? ⟨g, 45, none⟩ = some (.slice (some a2) zs.length c2) := fun z h => (clC_at44 htag (hX1d.below h hX1d.lt)).2
        refine wp_region_plan [(0, true), (1, true), (2, true), (3, true), (4, true), (5, true), (6, true), (7, true), (8, true)] (fun z => Below w2.heap.size w2 z) (by kernel_rfl) (by kernel_rfl) (by kernel_rfl) (by kernel_rfl) (fun _ _ d _ _ h => by cases d <;> exact h) hbkd ?_
        simp only [planOps, List.getElem?_toArray, List.getElem?_cons_zero, List.getElem?_cons_succ]
        iterate 6 (refine wpS_q ?_ (by rfl) ?_ ?_; rotate_left; (focus (intro z hz; (try dsimp only at hz); go_simp; rfl)); simp only [Act.put, List.setIfInBounds_toArray, List.set_cons_zero, List.set_cons_succ])
        refine wpS_q (.agg zt.c.toArray) (by rfl) (fun z hz => run_load_any rfl (a2.add (k * 5)) zt.c Tryd.underlying52 rfl iRT hzl (HQS.out z hz) rfl) ?_
        simp only [Act.put, List.setIfInBounds_toArray, List.set_cons_zero, List.set_cons_succ]
        refine wpS_q (.agg T.c.toArray) (by rfl) (fun z hz => load_row_run rfl gx T.c.toArray Tryd.underlying52 rfl iRT (hOd.below hz hOd.lt) hTl rfl) ?_
        simp only [Act.put, List.setIfInBounds_toArray, List.set_cons_zero, List.set_cons_succ]
        refine wpS_q (.bool ez) (by rfl) (fun z hz => run_eqAgg rfl gRTold rfl rfl (HEQ.out z)) ?_
        simp only [Act.put, List.setIfInBounds_toArray, List.set_cons_zero, List.set_cons_succ]
        refine wpS_nil ?_
        have hnew : ∀ q z, q < k + 1 → zs[q]? = some z → z.1 ≠ j := fun q z hq hz => by
          by_cases hqk : q < k
          · exact HALL.out q z hqk hz
          · obtain rfl : q = k := by omega
            rw [HZ1.out] at hz
            injection hz with hz
            subst hz
            exact hj
        cases ez
        · have hne : ¬ zt = T := of_decide_eq_false HEZ.out
          go_wp2_with fail
          exact ⟨⟨k + 1, by omega, congrArg (Value.int .i64) (by omega), by rw [HCS.out, if_neg hne]; rfl, hnew, hbkd⟩, by simp only [intOf]; omega⟩
        · have hye : zt = T := of_decide_eq_true HEZ.out
          go_wp2_with fail
          exact ⟨⟨k + 1, by omega, congrArg (Value.int .i64) (by omega), by rw [HCS.out, if_pos hye]; exact congrArg (Value.int .i64) (by omega), hnew, hbkd⟩, by simp only [intOf]; omega⟩
    · obtain rfl : k = zs.length := by omega
      have g1 : ¬ (zs.length : Int) < (zs.length : Int) := by omega
      have hhear := HYES.out ⟨⟨by omega, by omega, by first | rfl | trivial, by first | rfl | trivial | (rw [← HTE.out]), by first | rfl | trivial | (rw [← HTE.out])⟩, fun z hz => by
        obtain ⟨q, hq, he⟩ := List.mem_iff_getElem.1 hz
        exact HALL.out q z hq (by rw [List.getElem?_eq_getElem hq, he])⟩
      rw [List.take_length] at hcle ⊢
      obtain ⟨V, hVe⟩ : ∃ v, 1 + zs.countP (fun z => decide (z.2 = T)) = v := ⟨_, rfl⟩
      rw [hVe] at hhear ⊢
      have hV0 : (0 : Int) ≤ (V : Int) := by omega
      have hV1 : (V : Int) ≤ 300 := by omega
      have HH := Lib.hid hhear
      have hRk := hRd.below hbk hRd.lt
      have hOk := hOd.below hbk hOd.lt
      have hO1k := own_below hO12 hbk
      have hO2k := own_below hO22 hbk
      have hbdk := below_next' hbd hbk
      have hCk : Chg (RFp w base g) w wr := Chg.of_below _ hbdk
      have hbr : base ≤ wr.heap.size := Nat.le_trans hbw hbdk.size
      clear hcle hhear hVe hX1d hRd hOd hO12 hO22 hbd d44 d45 hbk HNO HYES HALL
      have hbt := buildSl_int wr j
      have hB3 := Blk.new wr 3 [Value.int .i64 j].toArray
      have hbn := below_alloc wr (.cells [Value.int .i64 j].toArray 3)
      obtain ⟨w3, hw3⟩ : ∃ x, wr.alloc (.cells [Value.int .i64 j].toArray 3) = x := ⟨_, rfl⟩
      rw [hw3] at hbt hB3 hbn
      obtain ⟨g3, hg3⟩ : ∃ x, wr.heap.size = x := ⟨_, rfl⟩
      rw [hg3] at hbt hB3
      have hX3 := hXk.below hbn hXk.lt
      have hR3 := hRk.below hbn hRk.lt
      have hO3 := hOk.below hbn hOk.lt
      have hO13 := own_below hO1k hbn
      have hO23 := own_below hO2k hbn
      have hC3 := hCk.bel hbn
      have hb3z : base ≤ w3.heap.size := Nat.le_trans hbw hC3.size
      have d44 := (clC_at44 htag hXk).1
      clear hw3 hg3 hbn
      repeat (first
        | ((with_reducible refine wpl_buildSl hbt ?_ ?_); (focus rfl); simp only [Act.put, List.setIfInBounds_toArray, List.set_cons_zero, List.set_cons_succ])
        | (at_builtin; refine wpl_appI rfl _ _ rfl base A1 zs.length c1 (whoR zs) rfl hO13 g3 j rfl hB3 (by omega) hb3z ?_; intro A3 c3 w4 hO14 hG4; refine Hid.out ?_)
        | go_values | go_skip | go_guarded | go_step | go_upon | go_back)
      refine Lib.hid ?_
      have hX4 := hX3.grown hG4.grown (fun e => own_ne hO13 hX3 (by decide) e.symm)
      have hR4 := hR3.grown hG4.grown (fun e => own_ne hO13 hR3 (by decide) e.symm)
      have hO4 := hO3.grown hG4.grown (fun e => own_ne hO13 hO3 (by decide) e.symm)
      have hO24 := own_grown hO23 hG4.grown (own_apart hO23 hO13 (by decide))
      have hC4 := hC3.step hG4.grown (fun x hx => .inl (hF1 x hx))
      clear d44 hbt hB3 hXk hRk hOk hO1k hO2k hCk hX3 hR3 hO3 hO13 hO23 hC3 hG4
      have d44 := (clC_at44 htag hX4).1
      have f44 := hX4.frozen 44
      have hX5 := hX4.set_ 44 (.slice A3 (zs.length + 1) c3)
      rw [clC_s44 _ _ _ _ htag] at hX5
      have hg5 := grownBy_set w4 g 44 (.slice A3 (zs.length + 1) c3)
      have hR5 := hR4.grown hg5 (by intro e; injection e with e; omega)
      have hO5 := hO4.grown hg5 (by intro e; injection e with e; omega)
      have hO15 := own_grown hO14 hg5 (.inl (own_ne hO14 hX4 (by decide)))
      have hO25 := own_grown hO24 hg5 (.inl (own_ne hO24 hX4 (by decide)))
      have hC5 := hC4.step hg5 (fun x hx => .inl (.inl (by cases hx; rfl)))
      go_upto_region 12 with (fail)
      obtain ⟨w5, hw5⟩ : ∃ x, w4.setCell ⟨g, 44, none⟩ (.slice A3 (zs.length + 1) c3) = x := ⟨_, rfl⟩
      rw [hw5] at hX5 hR5 hO5 hO15 hO25 hC5 ⊢
      clear hw5 hg5 d44 f44 hX4 hR4 hO4 hO14 hO24 hC4
      go_cut [] (fun wx => ∃ A4 c4, Blk wx g 48 (clC cn tcl ttm true q [.slice A3 (zs.length + 1) c3, .slice A4 (zs.length + 1) c4]).toArray ∧ Blk wx (gx + 1) 36 z ∧ Blk wx gx 52 T.c.toArray ∧ wx.ownsRow base 3 1 (.slice A3 (zs.length + 1) c3) (zs.length + 1) (whoR zs ++ [Value.int .i64 j]) ∧ wx.ownsRow base 52 5 (.slice A4 (zs.length + 1) c4) (zs.length + 1) (saidR zs ++ T.c) ∧ Chg (RFp w base g) w wx)
      case first =>
        refine wp_region_planT (.q 0 (.q 1 (.q 2 (.q 3 (.q 5 (.two 4 6 (.l 6 (.l 7 (.q 8 (.q 9 (.l 10 .done))))) (.l 4 (.l 7 (.q 8 (.q 9 (.l 10 .done))))))))))) (fun z => Blk z gx 52 T.c.toArray) (by kernel_rfl) (by kernel_rfl) (by kernel_rfl) (by kernel_rfl) (by kernel_rfl) (fun _ _ d _ _ h => by cases d <;> exact h) hO5 ?_
        have hX6 : Blk w5.drew g 48 (clC cn tcl ttm true q [.slice A3 (zs.length + 1) c3, .slice A2 zs.length c2]).toArray := hX5
        have hR6 : Blk w5.drew (gx + 1) 36 z := hR5
        have hO6 : Blk w5.drew gx 52 T.c.toArray := hO5
        have hO16 := own_below hO15 drew_below
        have hO26 := own_below hO25 drew_below
        have hC6 := hC5.bel drew_below
        obtain ⟨w6, hw6⟩ : ∃ x, w5.drew = x := ⟨_, rfl⟩
        rw [hw6] at hX6 hR6 hO6 hO16 hO26 hC6 ⊢
        clear hw6 hX5 hR5 hO5 hO15 hO25 hC5
        iterate 4 (refine wpT_q (by rfl) ?_ (by rfl) ?_ ?_; rotate_left; (focus (intro z hz; (try dsimp only at hz); go_simp; rfl)); simp only [Act.put])
        refine wpT_q (by rfl) (.agg T.c.toArray) (by rfl) (fun z hz => load_row_run rfl gx T.c.toArray Tryd.underlying52 rfl iRT hz hTl rfl) ?_
        try simp only [Act.put, List.getElem_toArray, List.getElem_cons_succ, List.getElem_cons_zero, List.setIfInBounds_toArray, List.set_cons_zero, List.set_cons_succ]
        refine wpT_two (by rfl) (by rfl) (by rfl) (by rfl) (fun K hK => ?_) (fun K hK => ?_)
        · have d45 := (clC_at44 htag hX6).2
          go_wp2_with fail
          refine hK _ _ _ hO6 (fun _ h => h) ?_
          clear hK d45
          try simp only [Act.put, List.getElem_toArray, List.getElem_cons_succ, List.getElem_cons_zero, List.setIfInBounds_toArray, List.set_cons_zero, List.set_cons_succ]
          refine wpT_l (by rfl) (by rfl) (fun K hK => ?_)
          have hbt := buildSl_rtold w6 T
          have hB7 := Blk.new w6 52 T.c.toArray
          have hbn := below_alloc w6 (.cells T.c.toArray 52)
          obtain ⟨w7, hwn⟩ : ∃ x, w6.alloc (.cells T.c.toArray 52) = x := ⟨_, rfl⟩
          rw [hwn] at hbt hB7 hbn
          obtain ⟨g6, hg6⟩ : ∃ x, w6.heap.size = x := ⟨_, rfl⟩
          rw [hg6] at hbt hB7
          have hX7 := hX6.below hbn hX6.lt
          have hR7 := hR6.below hbn hR6.lt
          have hO7 := hO6.below hbn hO6.lt
          have hO17 := own_below hO16 hbn
          have hO27 := own_below hO26 hbn
          have hC7 := hC6.bel hbn
          refine wp_buildSlR rfl hbt rfl ?_
          refine hK _ _ _ hO7 (fun _ h => h) ?_
          clear hK hwn hbt hbn hg6
          try simp only [Act.put, List.getElem_toArray, List.getElem_cons_succ, List.getElem_cons_zero, List.setIfInBounds_toArray, List.set_cons_zero, List.set_cons_succ]
          refine wpT_l (by rfl) (by rfl) (fun K hK => ?_)
          refine wp_appTR _ _ rfl base A2 zs.length c2 (saidR zs) rfl hO27 g6 T rfl hB7 (by omega) (Nat.le_trans hbw hC7.size) ?_
          intro A4 c4 w8 hO28 hG7
          have hX8 := hX7.grown hG7.grown (fun e => own_ne hO27 hX7 (by decide) e.symm)
          have hR8 := hR7.grown hG7.grown (fun e => own_ne hO27 hR7 (by decide) e.symm)
          have hO8 := hO7.grown hG7.grown (fun e => by have := (own_ge hO2 gx e.symm).2; have := HGX.out; omega)
          have hO18 := own_grown hO17 hG7.grown (own_apart hO17 hO27 (by decide))
          have hC8 := hC7.step hG7.grown (fun x hx => .inl (hF2 x hx))
          refine hK _ _ _ hO8 (fun _ h => h) ?_
          clear hK hG7
          try simp only [Act.put, List.getElem_toArray, List.getElem_cons_succ, List.getElem_cons_zero, List.setIfInBounds_toArray, List.set_cons_zero, List.set_cons_succ]
          iterate 2 (refine wpT_q (by rfl) ?_ (by rfl) ?_ ?_; rotate_left; (focus (intro z hz; (try dsimp only at hz); go_simp; rfl)); simp only [Act.put])
          refine wpT_l (by rfl) (by rfl) (fun K hK => ?_)
          have d45 := (clC_at44 htag hX8).2
          have f45 := hX8.frozen 45
          have hXz := hX8.set_ 45 (.slice A4 (zs.length + 1) c4)
          rw [clC_s45 _ _ _ _ htag] at hXz
          have hgz := grownBy_set w8 g 45 (.slice A4 (zs.length + 1) c4)
          have hRz := hR8.grown hgz (by intro e; injection e with e; omega)
          have hOz := hO8.grown hgz (by intro e; injection e with e; omega)
          have hO1z := own_grown hO18 hgz (.inl (own_ne hO18 hX8 (by decide)))
          have hO2z := own_grown hO28 hgz (.inl (own_ne hO28 hX8 (by decide)))
          have hCz := hC8.step hgz (fun x hx => .inl (.inl (by cases hx; rfl)))
          go_wp2_with fail
          refine hK _ _ _ hOz (fun _ h => h) ?_
          clear hK d45 f45
          try simp only [Act.put, List.getElem_toArray, List.getElem_cons_succ, List.getElem_cons_zero, List.setIfInBounds_toArray, List.set_cons_zero, List.set_cons_succ]
          refine wpT_done ?_
          try simp only [Act.put, List.getElem_toArray, List.getElem_cons_succ, List.getElem_cons_zero, List.setIfInBounds_toArray, List.set_cons_zero, List.set_cons_succ]
          go_wp2_with fail
          go_meet
          exact ⟨A4, c4, hXz, hRz, hOz, hO1z, hO2z, hCz⟩
        · have hbt := buildSl_rtold w6 T
          have hB7 := Blk.new w6 52 T.c.toArray
          have hbn := below_alloc w6 (.cells T.c.toArray 52)
          obtain ⟨w7, hwn⟩ : ∃ x, w6.alloc (.cells T.c.toArray 52) = x := ⟨_, rfl⟩
          rw [hwn] at hbt hB7 hbn
          obtain ⟨g6, hg6⟩ : ∃ x, w6.heap.size = x := ⟨_, rfl⟩
          rw [hg6] at hbt hB7
          have hX7 := hX6.below hbn hX6.lt
          have hR7 := hR6.below hbn hR6.lt
          have hO7 := hO6.below hbn hO6.lt
          have hO17 := own_below hO16 hbn
          have hO27 := own_below hO26 hbn
          have hC7 := hC6.bel hbn
          refine wp_buildSlR rfl hbt rfl ?_
          refine hK _ _ _ hO7 (fun _ h => h) ?_
          clear hK hwn hbt hbn hg6
          try simp only [Act.put, List.getElem_toArray, List.getElem_cons_succ, List.getElem_cons_zero, List.setIfInBounds_toArray, List.set_cons_zero, List.set_cons_succ]
          refine wpT_l (by rfl) (by rfl) (fun K hK => ?_)
          have d45 := (clC_at44 htag hX7).2
          go_wp2_with fail
          refine hK _ _ _ hO7 (fun _ h => h) ?_
          clear hK d45
          try simp only [Act.put, List.getElem_toArray, List.getElem_cons_succ, List.getElem_cons_zero, List.setIfInBounds_toArray, List.set_cons_zero, List.set_cons_succ]
          refine wpT_l (by rfl) (by rfl) (fun K hK => ?_)
          refine wp_appTR _ _ rfl base A2 zs.length c2 (saidR zs) rfl hO27 g6 T rfl hB7 (by omega) (Nat.le_trans hbw hC7.size) ?_
          intro A4 c4 w8 hO28 hG7
          have hX8 := hX7.grown hG7.grown (fun e => own_ne hO27 hX7 (by decide) e.symm)
          have hR8 := hR7.grown hG7.grown (fun e => own_ne hO27 hR7 (by decide) e.symm)
          have hO8 := hO7.grown hG7.grown (fun e => by have := (own_ge hO2 gx e.symm).2; have := HGX.out; omega)
          have hO18 := own_grown hO17 hG7.grown (own_apart hO17 hO27 (by decide))
          have hC8 := hC7.step hG7.grown (fun x hx => .inl (hF2 x hx))
          refine hK _ _ _ hO8 (fun _ h => h) ?_
          clear hK hG7
          try simp only [Act.put, List.getElem_toArray, List.getElem_cons_succ, List.getElem_cons_zero, List.setIfInBounds_toArray, List.set_cons_zero, List.set_cons_succ]
          iterate 2 (refine wpT_q (by rfl) ?_ (by rfl) ?_ ?_; rotate_left; (focus (intro z hz; (try dsimp only at hz); go_simp; rfl)); simp only [Act.put])
          refine wpT_l (by rfl) (by rfl) (fun K hK => ?_)
          have d45 := (clC_at44 htag hX8).2
          have f45 := hX8.frozen 45
          have hXz := hX8.set_ 45 (.slice A4 (zs.length + 1) c4)
          rw [clC_s45 _ _ _ _ htag] at hXz
          have hgz := grownBy_set w8 g 45 (.slice A4 (zs.length + 1) c4)
          have hRz := hR8.grown hgz (by intro e; injection e with e; omega)
          have hOz := hO8.grown hgz (by intro e; injection e with e; omega)
          have hO1z := own_grown hO18 hgz (.inl (own_ne hO18 hX8 (by decide)))
          have hO2z := own_grown hO28 hgz (.inl (own_ne hO28 hX8 (by decide)))
          have hCz := hC8.step hgz (fun x hx => .inl (.inl (by cases hx; rfl)))
          go_wp2_with fail
          refine hK _ _ _ hOz (fun _ h => h) ?_
          clear hK d45 f45
          try simp only [Act.put, List.getElem_toArray, List.getElem_cons_succ, List.getElem_cons_zero, List.setIfInBounds_toArray, List.set_cons_zero, List.set_cons_succ]
          refine wpT_done ?_
          try simp only [Act.put, List.getElem_toArray, List.getElem_cons_succ, List.getElem_cons_zero, List.setIfInBounds_toArray, List.set_cons_zero, List.set_cons_succ]
          go_wp2_with fail
          go_meet
          exact ⟨A4, c4, hXz, hRz, hOz, hO1z, hO2z, hCz⟩
      case rest =>
        obtain ⟨A4, c4, hX9, hR9, hO9, hO19, hO29, hC9⟩ := hcut
        clear hX5 hR5 hO5 hO15 hO25 hC5
        rw [← whoR_snoc zs j T] at hO19
        rw [← saidR_snoc zs j T] at hO29
        obtain ⟨zs2, hz2⟩ : ∃ z, zs ++ [(j, T)] = z := ⟨_, rfl⟩
        have hzl : zs.length + 1 = zs2.length := by rw [← hz2]; simp
        have hh := HH.out
        rw [hz2] at hO19 hO29 hh
        rw [hzl] at hO19 hO29 hX9
        have hzle : zs2.length ≤ zs.length + 1 := Nat.le_of_eq hzl.symm
        clear HH hz2 hzl
        have hn := HNN.out
        have hdv : (cn - 1).tdiv 2 = (f : Int) := by rw [hn, Int.tdiv_eq_ediv_of_nonneg (by omega)]; omega
        clear hn
        have hwf : IntKind.i64.wrap (f : Int) = (f : Int) := IntWalk.i64_in _ (by omega)
        have hf0 : (0 : Int) ≤ (f : Int) := by omega
        have hf5 : (f : Int) ≤ 5 := by omega
        obtain ⟨e0, e1, e2, e3⟩ := cl_cells hX9
        rcases hh with ⟨hlt, hhe, hPn⟩ | ⟨hlt, hhe, hPn⟩
        · have hlt' : (V : Int) < (f : Int) + 1 := by omega
          repeat (first
            | ((with_reducible refine wpl_buildS (ps := []) (fun x => by rw [← HZ.out]; exact build_rp0 x) ?_ ?_); (focus rfl); simp only [Act.put, List.setIfInBounds_toArray, List.set_cons_zero, List.set_cons_succ])
            | ((with_reducible refine wpl_store (gx + 1) _ z z iRp hR9 hzs hzs hz1 ?_ ?_ ?_); (focus rfl); (focus rfl))
            | go_values | go_skip | go_guarded | go_step | go_upon | go_back)
          refine bodyPost_ret (results_cell_val rfl _ _ (gx + 1) _ _ (0, 0) _ _ rfl rfl (hR9.setRow _) Tryd.underlying36 rfl (by rw [hzs]; exact iRp)) rfl ?_
          have hg8 := grownBy_setRow wc (gx + 1) z
          rw [HTE.out, hhe]
          refine ⟨zs2, ?_, ⟨A3, A4, c3, c4, hX9.grown hg8 (by intro e; injection e with e; omega), own_grown hO19 hg8 (.inl (own_ne hO19 hR9 (by decide))), own_grown hO29 hg8 (.inl (own_ne hO29 hR9 (by decide)))⟩, hPn, hzle, hC9.step hg8 (fun x hx => .inr (by cases hx; have := HGX.out; omega))⟩
          rw [HZ.out]
          rfl
        · have hlt' : ¬ (V : Int) < (f : Int) + 1 := by omega
          have f3 := hX9.frozen 3
          have hXa := hX9.set_ 3 (.bool false)
          rw [clC_p] at hXa
          have hga := grownBy_set wc g 3 (.bool false)
          have hRa := hR9.grown hga (by intro e; injection e with e; omega)
          have hOa := hO9.grown hga (by intro e; injection e with e; omega)
          have hO1a := own_grown hO19 hga (.inl (own_ne hO19 hX9 (by decide)))
          have hO2a := own_grown hO29 hga (.inl (own_ne hO29 hX9 (by decide)))
          have hCa := hC9.step hga (fun x hx => .inl (.inl (by cases hx; rfl)))
          have hsp := clC_setq cn tcl ttm false htag (q' := rq0) z32_length [.slice A3 zs2.length c3, .slice A4 zs2.length c4]
          have hXb := hXa.setRow (clC cn tcl ttm false rq0 [.slice A3 zs2.length c3, .slice A4 zs2.length c4]).toArray
          have hgb := grownBy_setRow (wc.setCell ⟨g, 3, none⟩ (.bool false)) g (clC cn tcl ttm false rq0 [.slice A3 zs2.length c3, .slice A4 zs2.length c4]).toArray
          have hRb := hRa.grown hgb (by intro e; injection e with e; omega)
          have hOb := hOa.grown hgb (by intro e; injection e with e; omega)
          have hO1b := own_grown hO1a hgb (.inl (own_ne hO1a hXa (by decide)))
          have hO2b := own_grown hO2a hgb (.inl (own_ne hO2a hXa (by decide)))
          have hCb := hCa.step hgb (fun x hx => .inl (.inl (by cases hx; rfl)))
          have hq0 := fun x => build_rq0 x
          have hql := rqc_length rq0 z32_length
          have hq1 := rqc_one rq0
          have hXb' : Blk ((wc.setCell ⟨g, 3, none⟩ (.bool false)).setRow g (clC cn tcl ttm false rq0 [.slice A3 zs2.length c3, .slice A4 zs2.length c4]).toArray) g 48 (clC cn tcl ttm false rq0 [.slice A3 zs2.length c3, .slice A4 zs2.length c4]).toArray := hXb
          have hlr : T.rp.c.length = 2 := rfl
          have hcr : (T.c.drop 2).take 2 = T.rp.c := rfl
          have hrs2 : T.rp.c.toArray.size = 2 := rfl
          have hro := rp_ones T.rp
          obtain ⟨RQ, hRQ⟩ : ∃ R, rq0.c = R := ⟨_, rfl⟩
          simp only [hRQ] at hq0 hql hq1 hsp
          have HSP := Lib.hid hsp
          have HQ0 := Lib.hid hq0
          clear hsp hq0 hRQ hXb
          go_upto_region 16 with (fail)
          repeat (first
            | ((with_reducible refine wpl_buildS (ps := []) HQ0.out ?_ ?_); (focus rfl); simp only [Act.put, List.setIfInBounds_toArray, List.set_cons_zero, List.set_cons_succ])
            | ((with_reducible refine wpl_store_mid g 4 _ RQ (by rw [hql]; exact i44) hXa (by rw [clC_len _ _ _ _ htag, hql]; simp) (by simpa using hq1) ?_ ?_ ?_); (focus rfl); (focus rfl); rw [HSP.out]; simp only [Act.put])
            | ((with_reducible refine wpl_load_mid gx 2 T.c T.rp.c Tryd.underlying36 rfl iRp hOb hcr hlr ?_ ?_); (focus rfl); simp only [Act.put, List.setIfInBounds_toArray, List.set_cons_zero, List.set_cons_succ])
            | ((with_reducible refine wpl_store (gx + 1) _ z T.rp.c.toArray iRp hRb hzs hrs2 hro ?_ ?_ ?_); (focus rfl); (focus rfl))
            | go_values | go_skip | go_guarded | go_step | go_upon | go_back)
          refine bodyPost_ret (results_cell_val rfl _ _ (gx + 1) _ _ (0, 0) _ _ rfl rfl (hRb.setRow _) Tryd.underlying36 rfl (by rw [hrs2]; exact iRp)) rfl ?_
          have hg8 := grownBy_setRow ((wc.setCell ⟨g, 3, none⟩ (.bool false)).setRow g (clC cn tcl ttm false rq0 [.slice A3 zs2.length c3, .slice A4 zs2.length c4]).toArray) (gx + 1) T.rp.c.toArray
          rw [HTE.out, hhe]
          refine ⟨zs2, by rw [htr]; rfl, ⟨A3, A4, c3, c4, hXb'.grown hg8 (by intro e; injection e with e; omega), own_grown hO1b hg8 (.inl (own_ne hO1b hRb (by decide))), own_grown hO2b hg8 (.inl (own_ne hO2b hRb (by decide)))⟩, hPn, hzle, hCb.step hg8 (fun x hx => .inr (by cases hx; have := HGX.out; omega))⟩
end Go.Proofs.YtbbcofpdfkhljaaDoor
