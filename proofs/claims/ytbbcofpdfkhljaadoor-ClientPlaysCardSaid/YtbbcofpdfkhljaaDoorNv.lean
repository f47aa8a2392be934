/- client: Hear. -/
import Derived.Test.YtbbcofpdfkhljaaDoorNu
namespace Go.Rat
open Go.RowKit Go
theorem run_indexS {P : Program} {w : World} {ρ : Operand → Value} {o : Oper} {t : TypeId} {x y : Operand} {u i v : Value} (ho : o.op = .index t x y) (hx : ρ x = u) (hi : ρ y = i)
    (h : (Instr.index t u i).run P w = .ok v w) : (execOp ρ o).run P w = .ok (.value v) w := by
  unfold execOp
  rw [ho]
  simp only [hx, hi, Sem.run_bind, h]
  rfl
theorem wpl_buildS {P : Program} {w : World} {ops : Array Oper} {rest : List Oper} {a : Act} {Q : Exit → Act → World → Prop} {d : Option Tmp} {tt t : TypeId} {p : String} {af : Array Edge} {parts : List (Nat × Operand)} {ps : List (Nat × Value)} {v : Value}
    (h : ∀ w, (Instr.build t ps.toArray).run P w = .ok v w) (hρ : (parts.map fun (i, x) => (i, a.eval x)) = ps) (hk : wpList P ops Q rest (a.put d v) w) :
    wpList P ops Q ({ dst := d, op := .build t parts.toArray, type := tt, pos := p, after := af, guard := none } :: rest) a w := by
  subst hρ
  exact wpList_plain rfl fun _ hK => by
    unfold Oper.wp
    rw [run_buildS rfl (h _)]
    exact hK _ _ hk
theorem wpl_indexS {P : Program} {w : World} {ops : Array Oper} {rest : List Oper} {a : Act} {Q : Exit → Act → World → Prop} {o' : Oper} {t : TypeId} {x y : Operand} {u i v : Value} (ho : o' = { dst := o'.dst, op := .index t x y, type := o'.type, pos := o'.pos, after := o'.after, guard := none })
    (h : ∀ w, (Instr.index t u i).run P w = .ok v w) (hx : a.eval x = u) (hi : a.eval y = i) (hk : wpList P ops Q rest (a.put o'.dst v) w) :
    wpList P ops Q (o' :: rest) a w := by
  rw [ho]
  refine wpList_plain rfl fun _ hK => ?_
  unfold Oper.wp
  rw [run_indexS rfl hx hi (h _)]
  exact hK _ _ (by rw [ho] at hk; exact hk)
end Go.Rat
namespace Go.Proofs.YtbbcofpdfkhljaaDoor
open Go.RowKit Go.Rat
theorem index_told (w : World) (l : List (Option ToldV)) (hl : l.length = 11) (i : Nat) (hi : i < 11) : (Instr.index 71 (.agg (toldC l).toArray) (.int .i64 (i : Int))).run Tryd.prog w = .ok (.agg (saidC (l.getD i none)).toArray) w := by
  have h := told_at l i (by omega)
  simp only [Instr.index]
  go_simp
def rp0 : RpV := ⟨0, ⟨#[]⟩⟩
/-- What a client hears. -/
def hearC (c : ClV) (j : Int) (t : ToldV) : ClV × RpV × Bool :=
  if 1 ≤ j ∧ j ≤ c.n ∧ c.pend = true ∧ t.cl = c.id ∧ t.tm = c.tm ∧ c.told.getD (j - 1).toNat none = none then
    if ((c.told.set (j - 1).toNat (some t)).count (some t) : Int) ≤ c.n / 2 then ({ c with told := c.told.set (j - 1).toNat (some t) }, rp0, false)
    else ({ c with told := c.told.set (j - 1).toNat (some t), pend := false, q := rq0 }, t.rp, true)
  else (c, rp0, false)
theorem hearC_ok (c : ClV) (j : Int) (t : ToldV) (h : c.ok) : (hearC c j t).1.ok := by
  unfold hearC
  split
  · split
    · exact ⟨h.tag, by simpa using h.len⟩
    · exact ⟨z32_length, by simpa using h.len⟩
  · exact h
theorem hearC_no (c : ClV) (j : Int) (t : ToldV) (h : ¬ (1 ≤ j ∧ j ≤ c.n ∧ c.pend = true ∧ t.cl = c.id ∧ t.tm = c.tm ∧ c.told.getD (j - 1).toNat none = none)) : hearC c j t = (c, rp0, false) := if_neg h
theorem count_step (l : List (Option ToldV)) (x : Option ToldV) (i : Nat) (hi : i < l.length) : (l.take (i + 1)).count x = (l.take i).count x + if l.getD i none = x then 1 else 0 := by
  rw [List.take_add_one, List.getElem?_eq_getElem hi, List.count_append, List.getD_eq_getElem?_getD, List.getElem?_eq_getElem hi]
  simp [List.count_singleton]
theorem told_cells {w : World} {g : Nat} {T : TypeId} {t : ToldV} (h : Blk w g T t.c.toArray) : w.cell? ⟨g, 0, none⟩ = some (.int .i64 t.cl) ∧ w.cell? ⟨g, 1, none⟩ = some (.int .u64 (t.tm : Int)) := ⟨h.cell 0, h.cell 1⟩
theorem clC_told (n id : Int) (tm : Nat) (p : Bool) {q : RqV} (hq : q.tag.length = 32) (l : List (Option ToldV)) (k : Nat) (hk : k < l.length) : ((clC n id tm p q (toldC l)).drop (44 + k * 6)).take 6 = saidC (l.getD k none) := by
  rw [clC_drop _ _ _ _ hq, told_at l k hk]
theorem cl_is {w : World} {g : Nat} {T : TypeId} {n id : Int} {tm : Nat} {p : Bool} {q : RqV} (hq : q.tag.length = 32) {l : List (Option ToldV)} (h : Blk w g T (clC n id tm p q (toldC l)).toArray) {k : Nat} (hk : k < l.length) :
    w.cell? ⟨g, 44 + k * 6, none⟩ = some (.bool (l.getD k none).isSome) := by
  have h1 := clC_told n id tm p hq l k hk
  rw [h.cell (44 + k * 6), List.getElem?_toArray]
  have h2 : (((clC n id tm p q (toldC l)).drop (44 + k * 6)).take 6)[0]? = (saidC (l.getD k none))[0]? := by rw [h1]
  rw [List.getElem?_take_of_lt (by omega), List.getElem?_drop, Nat.add_zero] at h2
  rw [h2]
  cases l.getD k none <;> rfl
theorem zcRp : (#[.int .i64 0, .string ⟨#[]⟩] : Array Value) = rp0.c.toArray := rfl
set_option maxRecDepth 20000 in
set_option maxHeartbeats 8000000 in
theorem chear_any (w : World) (g : Nat) (c : ClV) (hX : Blk w g 73 c.c.toArray) (hok : c.ok) (hn : 0 ≤ c.n ∧ c.n ≤ 11) (j : Int) (t : ToldV) :
    Calls Tryd.prog 12 #[.pointer (some ⟨g, 0, none⟩), .int .i64 j, .agg t.c.toArray] w fun e w' => e = .returned (.tuple #[.agg (hearC c j t).2.1.c.toArray, .bool (hearC c j t).2.2]) ∧ Blk w' g 73 (hearC c j t).1.c.toArray ∧ w.grownBy w' (some g) := by
  have hno := hearC_no c j t
  obtain ⟨cn, id, tm, pend, q, told⟩ := c
  obtain ⟨htag, hlen⟩ := hok
  simp only at htag hlen hn hno
  simp only [ClV.c] at hX
  obtain ⟨tcl, ttm, trp, tat⟩ := t
  simp only at hno
  by_cases h1 : j < 1
  · rw [hno (fun h => absurd h.1 (by omega))]
    simp only [ClV.c]
    clear hno
    have hX1 := (hX.alloc (.cells (ToldV.mk tcl ttm trp tat).c.toArray 38)).alloc (.cells rp0.c.toArray 36)
    have hO := (Blk.new w 38 (ToldV.mk tcl ttm trp tat).c.toArray).alloc (.cells rp0.c.toArray 36)
    have hR := Blk.new (w.alloc (.cells (ToldV.mk tcl ttm trp tat).c.toArray 38)) 36 rp0.c.toArray
    have hb := below_next' (below_alloc w (.cells (ToldV.mk tcl ttm trp tat).c.toArray 38)) (below_alloc (w.alloc (.cells (ToldV.mk tcl ttm trp tat).c.toArray 38)) (.cells rp0.c.toArray 36))
    have hsz : (w.alloc (.cells (ToldV.mk tcl ttm trp tat).c.toArray 38)).heap.size = w.heap.size + 1 := by simp
    rw [hsz] at hR
    have hg0 := hX.lt
    have hT2 := fun (x : World) (b : Nat) (h : Blk x b 38 (ToldV.mk tcl ttm trp tat).c.toArray) => told_cells h
    simp only at hT2
    obtain ⟨O, hOe⟩ : ∃ O, (ToldV.mk tcl ttm trp tat).c.toArray = O := ⟨_, rfl⟩
    have hOs : O.size = 5 := by rw [← hOe]; rfl
    simp only [hOe] at hT2 hX1 hO hR hb hsz ⊢
    have HT2 := Lib.hid hT2
    have HOE := Lib.hid hOe
    clear hT2 hOe
    obtain ⟨z, hz⟩ : ∃ z : Array Value, rp0.c.toArray = z := ⟨_, rfl⟩
    have hzc := zcRp
    rw [hz] at hzc hX1 hO hR hb
    have hzs : z.size = 2 := by rw [← hz]; rfl
    have hz1 : z.all (·.oneCell') = true := by rw [← hz]; simp [rp0, RpV.c, Value.oneCell']
    have HZ := Lib.hid hz
    clear hz
    go_enter Tryd.func12, Tryd.ntmps12
    go_upto_region 1 with (fail)
    obtain ⟨w1, hw1⟩ : ∃ x, (w.alloc (.cells O 38)).alloc (.cells z 36) = x := ⟨_, rfl⟩
    rw [hw1] at hX1 hO hR hb ⊢
    obtain ⟨gx, hgx⟩ : ∃ x, w.heap.size = x := ⟨_, rfl⟩
    rw [hgx] at hO hR hg0 ⊢
    have HGX := Lib.hid hgx
    clear hgx hw1 hsz
    have hX1d : Blk w1.drew g 73 (clC cn id tm pend q (toldC told)).toArray := hX1
    have hOd : Blk w1.drew gx 38 O := hO
    have hRd : Blk w1.drew (gx + 1) 36 z := hR
    have hbd := hb.drew
    have q0 : ∀ x, (Blk x gx 38 O ∧ Blk x g 73 (clC cn id tm pend q (toldC told)).toArray) → x.cell? ⟨g, 0, none⟩ = some (.int .i64 cn) := fun x h => (cl_cells h.2).1
    have q1 : ∀ x, (Blk x gx 38 O ∧ Blk x g 73 (clC cn id tm pend q (toldC told)).toArray) → x.cell? ⟨g, 1, none⟩ = some (.int .i64 id) := fun x h => (cl_cells h.2).2.1
    have q2 : ∀ x, (Blk x gx 38 O ∧ Blk x g 73 (clC cn id tm pend q (toldC told)).toArray) → x.cell? ⟨g, 2, none⟩ = some (.int .u64 (tm : Int)) := fun x h => (cl_cells h.2).2.2.1
    have q3 : ∀ x, (Blk x gx 38 O ∧ Blk x g 73 (clC cn id tm pend q (toldC told)).toArray) → x.cell? ⟨g, 3, none⟩ = some (.bool pend) := fun x h => (cl_cells h.2).2.2.2
    have q4 : ∀ x, (Blk x gx 38 O ∧ Blk x g 73 (clC cn id tm pend q (toldC told)).toArray) → x.cell? ⟨gx, 0, none⟩ = some (.int .i64 tcl) := fun x h => (HT2.out x gx h.1).1
    have q5 : ∀ x, (Blk x gx 38 O ∧ Blk x g 73 (clC cn id tm pend q (toldC told)).toArray) → x.cell? ⟨gx, 1, none⟩ = some (.int .u64 (ttm : Int)) := fun x h => (HT2.out x gx h.1).2
    refine wp_region_plan [(0, true), (1, true), (2, true), (3, true), (4, true), (5, true), (6, true), (7, true), (8, true), (9, true), (10, true), (11, true), (12, true), (13, true), (14, true), (15, true), (16, true), (17, true), (18, true), (19, true), (20, true), (21, true), (22, true), (23, true), (24, true), (25, true), (26, true), (27, true), (28, true), (29, true), (30, true), (31, true), (32, true), (33, true), (34, true), (35, true), (36, true), (37, true), (38, true), (39, true), (40, true), (41, true), (42, true), (43, true), (44, true), (45, true), (46, true), (47, true), (48, true)] (fun x => Blk x gx 38 O ∧ Blk x g 73 (clC cn id tm pend q (toldC told)).toArray) (by kernel_rfl) (by kernel_rfl) (by kernel_rfl) (by kernel_rfl) (fun _ _ d _ _ h => by cases d <;> exact h) ⟨hOd, hX1d⟩ ?_
    simp only [planOps, List.getElem?_toArray, List.getElem?_cons_zero, List.getElem?_cons_succ]
    repeat (first
      | (refine wpS_skip (by rfl) ?_; simp only [Act.put, List.setIfInBounds_toArray, List.set_cons_zero, List.set_cons_succ])
      | (refine wpS_q ?_ (by rfl) ?_ ?_; rotate_left; (focus (intro z hz; (try dsimp only at hz); go_simp; rfl)); simp only [Act.put, List.setIfInBounds_toArray, List.set_cons_zero, List.set_cons_succ]))
    refine wpS_nil ?_
    clear q0 q1 q2 q3 q4 q5
    try clear q6
    repeat (first
      | ((with_reducible refine wpl_loadS (gx + 1) _ z Tryd.underlying36 rfl iRp hRd hzs ?_ ?_ ?_); (focus rfl); (focus rfl); simp only [Act.put, List.setIfInBounds_toArray, List.set_cons_zero, List.set_cons_succ])
      | ((with_reducible refine wpl_store (gx + 1) _ z z iRp hRd hzs hzs hz1 ?_ ?_ ?_); (focus rfl); (focus rfl))
      | go_values | go_skip | go_guarded | go_step | go_upon | go_back)
    refine bodyPost_ret (results_cell_val rfl _ _ (gx + 1) _ _ (0, 0) _ _ rfl rfl (hRd.setRow _) Tryd.underlying36 rfl (by rw [hzs]; exact iRp)) rfl ?_
    have hg8 := grownBy_setRow w1.drew (gx + 1) z
    have hb8 := hbd.grown hg8 hbd.size (fun q hq => by cases hq; have := HGX.out; omega)
    refine ⟨?_, hX1d.grown hg8 (by intro e; injection e with e; omega), grownBy_of_below hb8 _⟩
    rw [HZ.out]
    rfl
  by_cases h2 : cn < j
  · rw [hno (fun h => absurd h.2.1 (by omega))]
    simp only [ClV.c]
    clear hno
    have hX1 := (hX.alloc (.cells (ToldV.mk tcl ttm trp tat).c.toArray 38)).alloc (.cells rp0.c.toArray 36)
    have hO := (Blk.new w 38 (ToldV.mk tcl ttm trp tat).c.toArray).alloc (.cells rp0.c.toArray 36)
    have hR := Blk.new (w.alloc (.cells (ToldV.mk tcl ttm trp tat).c.toArray 38)) 36 rp0.c.toArray
    have hb := below_next' (below_alloc w (.cells (ToldV.mk tcl ttm trp tat).c.toArray 38)) (below_alloc (w.alloc (.cells (ToldV.mk tcl ttm trp tat).c.toArray 38)) (.cells rp0.c.toArray 36))
    have hsz : (w.alloc (.cells (ToldV.mk tcl ttm trp tat).c.toArray 38)).heap.size = w.heap.size + 1 := by simp
    rw [hsz] at hR
    have hg0 := hX.lt
    have hT2 := fun (x : World) (b : Nat) (h : Blk x b 38 (ToldV.mk tcl ttm trp tat).c.toArray) => told_cells h
    simp only at hT2
    obtain ⟨O, hOe⟩ : ∃ O, (ToldV.mk tcl ttm trp tat).c.toArray = O := ⟨_, rfl⟩
    have hOs : O.size = 5 := by rw [← hOe]; rfl
    simp only [hOe] at hT2 hX1 hO hR hb hsz ⊢
    have HT2 := Lib.hid hT2
    have HOE := Lib.hid hOe
    clear hT2 hOe
    obtain ⟨z, hz⟩ : ∃ z : Array Value, rp0.c.toArray = z := ⟨_, rfl⟩
    have hzc := zcRp
    rw [hz] at hzc hX1 hO hR hb
    have hzs : z.size = 2 := by rw [← hz]; rfl
    have hz1 : z.all (·.oneCell') = true := by rw [← hz]; simp [rp0, RpV.c, Value.oneCell']
    have HZ := Lib.hid hz
    clear hz
    go_enter Tryd.func12, Tryd.ntmps12
    go_upto_region 1 with (fail)
    obtain ⟨w1, hw1⟩ : ∃ x, (w.alloc (.cells O 38)).alloc (.cells z 36) = x := ⟨_, rfl⟩
    rw [hw1] at hX1 hO hR hb ⊢
    obtain ⟨gx, hgx⟩ : ∃ x, w.heap.size = x := ⟨_, rfl⟩
    rw [hgx] at hO hR hg0 ⊢
    have HGX := Lib.hid hgx
    clear hgx hw1 hsz
    have hX1d : Blk w1.drew g 73 (clC cn id tm pend q (toldC told)).toArray := hX1
    have hOd : Blk w1.drew gx 38 O := hO
    have hRd : Blk w1.drew (gx + 1) 36 z := hR
    have hbd := hb.drew
    have q0 : ∀ x, (Blk x gx 38 O ∧ Blk x g 73 (clC cn id tm pend q (toldC told)).toArray) → x.cell? ⟨g, 0, none⟩ = some (.int .i64 cn) := fun x h => (cl_cells h.2).1
    have q1 : ∀ x, (Blk x gx 38 O ∧ Blk x g 73 (clC cn id tm pend q (toldC told)).toArray) → x.cell? ⟨g, 1, none⟩ = some (.int .i64 id) := fun x h => (cl_cells h.2).2.1
    have q2 : ∀ x, (Blk x gx 38 O ∧ Blk x g 73 (clC cn id tm pend q (toldC told)).toArray) → x.cell? ⟨g, 2, none⟩ = some (.int .u64 (tm : Int)) := fun x h => (cl_cells h.2).2.2.1
    have q3 : ∀ x, (Blk x gx 38 O ∧ Blk x g 73 (clC cn id tm pend q (toldC told)).toArray) → x.cell? ⟨g, 3, none⟩ = some (.bool pend) := fun x h => (cl_cells h.2).2.2.2
    have q4 : ∀ x, (Blk x gx 38 O ∧ Blk x g 73 (clC cn id tm pend q (toldC told)).toArray) → x.cell? ⟨gx, 0, none⟩ = some (.int .i64 tcl) := fun x h => (HT2.out x gx h.1).1
    have q5 : ∀ x, (Blk x gx 38 O ∧ Blk x g 73 (clC cn id tm pend q (toldC told)).toArray) → x.cell? ⟨gx, 1, none⟩ = some (.int .u64 (ttm : Int)) := fun x h => (HT2.out x gx h.1).2
    refine wp_region_plan [(0, true), (1, true), (2, true), (3, true), (4, true), (5, true), (6, true), (7, true), (8, true), (9, true), (10, true), (11, true), (12, true), (13, true), (14, true), (15, true), (16, true), (17, true), (18, true), (19, true), (20, true), (21, true), (22, true), (23, true), (24, true), (25, true), (26, true), (27, true), (28, true), (29, true), (30, true), (31, true), (32, true), (33, true), (34, true), (35, true), (36, true), (37, true), (38, true), (39, true), (40, true), (41, true), (42, true), (43, true), (44, true), (45, true), (46, true), (47, true), (48, true)] (fun x => Blk x gx 38 O ∧ Blk x g 73 (clC cn id tm pend q (toldC told)).toArray) (by kernel_rfl) (by kernel_rfl) (by kernel_rfl) (by kernel_rfl) (fun _ _ d _ _ h => by cases d <;> exact h) ⟨hOd, hX1d⟩ ?_
    simp only [planOps, List.getElem?_toArray, List.getElem?_cons_zero, List.getElem?_cons_succ]
    repeat (first
      | (refine wpS_skip (by rfl) ?_; simp only [Act.put, List.setIfInBounds_toArray, List.set_cons_zero, List.set_cons_succ])
      | (refine wpS_q ?_ (by rfl) ?_ ?_; rotate_left; (focus (intro z hz; (try dsimp only at hz); go_simp; rfl)); simp only [Act.put, List.setIfInBounds_toArray, List.set_cons_zero, List.set_cons_succ]))
    refine wpS_nil ?_
    clear q0 q1 q2 q3 q4 q5
    try clear q6
    repeat (first
      | ((with_reducible refine wpl_loadS (gx + 1) _ z Tryd.underlying36 rfl iRp hRd hzs ?_ ?_ ?_); (focus rfl); (focus rfl); simp only [Act.put, List.setIfInBounds_toArray, List.set_cons_zero, List.set_cons_succ])
      | ((with_reducible refine wpl_store (gx + 1) _ z z iRp hRd hzs hzs hz1 ?_ ?_ ?_); (focus rfl); (focus rfl))
      | go_values | go_skip | go_guarded | go_step | go_upon | go_back)
    refine bodyPost_ret (results_cell_val rfl _ _ (gx + 1) _ _ (0, 0) _ _ rfl rfl (hRd.setRow _) Tryd.underlying36 rfl (by rw [hzs]; exact iRp)) rfl ?_
    have hg8 := grownBy_setRow w1.drew (gx + 1) z
    have hb8 := hbd.grown hg8 hbd.size (fun q hq => by cases hq; have := HGX.out; omega)
    refine ⟨?_, hX1d.grown hg8 (by intro e; injection e with e; omega), grownBy_of_below hb8 _⟩
    rw [HZ.out]
    rfl
  cases pend
  · rw [hno (fun h => by cases h.2.2.1)]
    simp only [ClV.c]
    clear hno
    have hX1 := (hX.alloc (.cells (ToldV.mk tcl ttm trp tat).c.toArray 38)).alloc (.cells rp0.c.toArray 36)
    have hO := (Blk.new w 38 (ToldV.mk tcl ttm trp tat).c.toArray).alloc (.cells rp0.c.toArray 36)
    have hR := Blk.new (w.alloc (.cells (ToldV.mk tcl ttm trp tat).c.toArray 38)) 36 rp0.c.toArray
    have hb := below_next' (below_alloc w (.cells (ToldV.mk tcl ttm trp tat).c.toArray 38)) (below_alloc (w.alloc (.cells (ToldV.mk tcl ttm trp tat).c.toArray 38)) (.cells rp0.c.toArray 36))
    have hsz : (w.alloc (.cells (ToldV.mk tcl ttm trp tat).c.toArray 38)).heap.size = w.heap.size + 1 := by simp
    rw [hsz] at hR
    have hg0 := hX.lt
    have hT2 := fun (x : World) (b : Nat) (h : Blk x b 38 (ToldV.mk tcl ttm trp tat).c.toArray) => told_cells h
    simp only at hT2
    obtain ⟨O, hOe⟩ : ∃ O, (ToldV.mk tcl ttm trp tat).c.toArray = O := ⟨_, rfl⟩
    have hOs : O.size = 5 := by rw [← hOe]; rfl
    simp only [hOe] at hT2 hX1 hO hR hb hsz ⊢
    have HT2 := Lib.hid hT2
    have HOE := Lib.hid hOe
    clear hT2 hOe
    obtain ⟨z, hz⟩ : ∃ z : Array Value, rp0.c.toArray = z := ⟨_, rfl⟩
    have hzc := zcRp
    rw [hz] at hzc hX1 hO hR hb
    have hzs : z.size = 2 := by rw [← hz]; rfl
    have hz1 : z.all (·.oneCell') = true := by rw [← hz]; simp [rp0, RpV.c, Value.oneCell']
    have HZ := Lib.hid hz
    clear hz
    go_enter Tryd.func12, Tryd.ntmps12
    go_upto_region 1 with (fail)
    obtain ⟨w1, hw1⟩ : ∃ x, (w.alloc (.cells O 38)).alloc (.cells z 36) = x := ⟨_, rfl⟩
    rw [hw1] at hX1 hO hR hb ⊢
    obtain ⟨gx, hgx⟩ : ∃ x, w.heap.size = x := ⟨_, rfl⟩
    rw [hgx] at hO hR hg0 ⊢
    have HGX := Lib.hid hgx
    clear hgx hw1 hsz
    have hX1d : Blk w1.drew g 73 (clC cn id tm false q (toldC told)).toArray := hX1
    have hOd : Blk w1.drew gx 38 O := hO
    have hRd : Blk w1.drew (gx + 1) 36 z := hR
    have hbd := hb.drew
    have q0 : ∀ x, (Blk x gx 38 O ∧ Blk x g 73 (clC cn id tm false q (toldC told)).toArray) → x.cell? ⟨g, 0, none⟩ = some (.int .i64 cn) := fun x h => (cl_cells h.2).1
    have q1 : ∀ x, (Blk x gx 38 O ∧ Blk x g 73 (clC cn id tm false q (toldC told)).toArray) → x.cell? ⟨g, 1, none⟩ = some (.int .i64 id) := fun x h => (cl_cells h.2).2.1
    have q2 : ∀ x, (Blk x gx 38 O ∧ Blk x g 73 (clC cn id tm false q (toldC told)).toArray) → x.cell? ⟨g, 2, none⟩ = some (.int .u64 (tm : Int)) := fun x h => (cl_cells h.2).2.2.1
    have q3 : ∀ x, (Blk x gx 38 O ∧ Blk x g 73 (clC cn id tm false q (toldC told)).toArray) → x.cell? ⟨g, 3, none⟩ = some (.bool false) := fun x h => (cl_cells h.2).2.2.2
    have q4 : ∀ x, (Blk x gx 38 O ∧ Blk x g 73 (clC cn id tm false q (toldC told)).toArray) → x.cell? ⟨gx, 0, none⟩ = some (.int .i64 tcl) := fun x h => (HT2.out x gx h.1).1
    have q5 : ∀ x, (Blk x gx 38 O ∧ Blk x g 73 (clC cn id tm false q (toldC told)).toArray) → x.cell? ⟨gx, 1, none⟩ = some (.int .u64 (ttm : Int)) := fun x h => (HT2.out x gx h.1).2
    refine wp_region_plan [(0, true), (1, true), (2, true), (3, true), (4, true), (5, true), (6, true), (7, true), (8, true), (9, true), (10, true), (11, true), (12, true), (13, true), (14, true), (15, true), (16, true), (17, true), (18, true), (19, true), (20, true), (21, true), (22, true), (23, true), (24, true), (25, true), (26, true), (27, true), (28, true), (29, true), (30, true), (31, true), (32, true), (33, true), (34, true), (35, true), (36, true), (37, true), (38, true), (39, true), (40, true), (41, true), (42, true), (43, true), (44, true), (45, true), (46, true), (47, true), (48, true)] (fun x => Blk x gx 38 O ∧ Blk x g 73 (clC cn id tm false q (toldC told)).toArray) (by kernel_rfl) (by kernel_rfl) (by kernel_rfl) (by kernel_rfl) (fun _ _ d _ _ h => by cases d <;> exact h) ⟨hOd, hX1d⟩ ?_
    simp only [planOps, List.getElem?_toArray, List.getElem?_cons_zero, List.getElem?_cons_succ]
    repeat (first
      | (refine wpS_skip (by rfl) ?_; simp only [Act.put, List.setIfInBounds_toArray, List.set_cons_zero, List.set_cons_succ])
      | (refine wpS_q ?_ (by rfl) ?_ ?_; rotate_left; (focus (intro z hz; (try dsimp only at hz); go_simp; rfl)); simp only [Act.put, List.setIfInBounds_toArray, List.set_cons_zero, List.set_cons_succ]))
    refine wpS_nil ?_
    clear q0 q1 q2 q3 q4 q5
    try clear q6
    repeat (first
      | ((with_reducible refine wpl_loadS (gx + 1) _ z Tryd.underlying36 rfl iRp hRd hzs ?_ ?_ ?_); (focus rfl); (focus rfl); simp only [Act.put, List.setIfInBounds_toArray, List.set_cons_zero, List.set_cons_succ])
      | ((with_reducible refine wpl_store (gx + 1) _ z z iRp hRd hzs hzs hz1 ?_ ?_ ?_); (focus rfl); (focus rfl))
      | go_values | go_skip | go_guarded | go_step | go_upon | go_back)
    refine bodyPost_ret (results_cell_val rfl _ _ (gx + 1) _ _ (0, 0) _ _ rfl rfl (hRd.setRow _) Tryd.underlying36 rfl (by rw [hzs]; exact iRp)) rfl ?_
    have hg8 := grownBy_setRow w1.drew (gx + 1) z
    have hb8 := hbd.grown hg8 hbd.size (fun q hq => by cases hq; have := HGX.out; omega)
    refine ⟨?_, hX1d.grown hg8 (by intro e; injection e with e; omega), grownBy_of_below hb8 _⟩
    rw [HZ.out]
    rfl
  by_cases h3 : tcl = id
  rotate_left
  · have zb : (tcl == id) = false := beq_eq_false_iff_ne.2 h3
    have zb' : (tcl != id) = true := bne_iff_ne.2 h3
    rw [hno (fun h => h3 h.2.2.2.1)]
    simp only [ClV.c]
    clear hno
    have hX1 := (hX.alloc (.cells (ToldV.mk tcl ttm trp tat).c.toArray 38)).alloc (.cells rp0.c.toArray 36)
    have hO := (Blk.new w 38 (ToldV.mk tcl ttm trp tat).c.toArray).alloc (.cells rp0.c.toArray 36)
    have hR := Blk.new (w.alloc (.cells (ToldV.mk tcl ttm trp tat).c.toArray 38)) 36 rp0.c.toArray
    have hb := below_next' (below_alloc w (.cells (ToldV.mk tcl ttm trp tat).c.toArray 38)) (below_alloc (w.alloc (.cells (ToldV.mk tcl ttm trp tat).c.toArray 38)) (.cells rp0.c.toArray 36))
    have hsz : (w.alloc (.cells (ToldV.mk tcl ttm trp tat).c.toArray 38)).heap.size = w.heap.size + 1 := by simp
    rw [hsz] at hR
    have hg0 := hX.lt
    have hT2 := fun (x : World) (b : Nat) (h : Blk x b 38 (ToldV.mk tcl ttm trp tat).c.toArray) => told_cells h
    simp only at hT2
    obtain ⟨O, hOe⟩ : ∃ O, (ToldV.mk tcl ttm trp tat).c.toArray = O := ⟨_, rfl⟩
    have hOs : O.size = 5 := by rw [← hOe]; rfl
    simp only [hOe] at hT2 hX1 hO hR hb hsz ⊢
    have HT2 := Lib.hid hT2
    have HOE := Lib.hid hOe
    clear hT2 hOe
    obtain ⟨z, hz⟩ : ∃ z : Array Value, rp0.c.toArray = z := ⟨_, rfl⟩
    have hzc := zcRp
    rw [hz] at hzc hX1 hO hR hb
    have hzs : z.size = 2 := by rw [← hz]; rfl
    have hz1 : z.all (·.oneCell') = true := by rw [← hz]; simp [rp0, RpV.c, Value.oneCell']
    have HZ := Lib.hid hz
    clear hz
    go_enter Tryd.func12, Tryd.ntmps12
    go_upto_region 1 with (fail)
    obtain ⟨w1, hw1⟩ : ∃ x, (w.alloc (.cells O 38)).alloc (.cells z 36) = x := ⟨_, rfl⟩
    rw [hw1] at hX1 hO hR hb ⊢
    obtain ⟨gx, hgx⟩ : ∃ x, w.heap.size = x := ⟨_, rfl⟩
    rw [hgx] at hO hR hg0 ⊢
    have HGX := Lib.hid hgx
    clear hgx hw1 hsz
    have hX1d : Blk w1.drew g 73 (clC cn id tm true q (toldC told)).toArray := hX1
    have hOd : Blk w1.drew gx 38 O := hO
    have hRd : Blk w1.drew (gx + 1) 36 z := hR
    have hbd := hb.drew
    have q0 : ∀ x, (Blk x gx 38 O ∧ Blk x g 73 (clC cn id tm true q (toldC told)).toArray) → x.cell? ⟨g, 0, none⟩ = some (.int .i64 cn) := fun x h => (cl_cells h.2).1
    have q1 : ∀ x, (Blk x gx 38 O ∧ Blk x g 73 (clC cn id tm true q (toldC told)).toArray) → x.cell? ⟨g, 1, none⟩ = some (.int .i64 id) := fun x h => (cl_cells h.2).2.1
    have q2 : ∀ x, (Blk x gx 38 O ∧ Blk x g 73 (clC cn id tm true q (toldC told)).toArray) → x.cell? ⟨g, 2, none⟩ = some (.int .u64 (tm : Int)) := fun x h => (cl_cells h.2).2.2.1
    have q3 : ∀ x, (Blk x gx 38 O ∧ Blk x g 73 (clC cn id tm true q (toldC told)).toArray) → x.cell? ⟨g, 3, none⟩ = some (.bool true) := fun x h => (cl_cells h.2).2.2.2
    have q4 : ∀ x, (Blk x gx 38 O ∧ Blk x g 73 (clC cn id tm true q (toldC told)).toArray) → x.cell? ⟨gx, 0, none⟩ = some (.int .i64 tcl) := fun x h => (HT2.out x gx h.1).1
    have q5 : ∀ x, (Blk x gx 38 O ∧ Blk x g 73 (clC cn id tm true q (toldC told)).toArray) → x.cell? ⟨gx, 1, none⟩ = some (.int .u64 (ttm : Int)) := fun x h => (HT2.out x gx h.1).2
    refine wp_region_plan [(0, true), (1, true), (2, true), (3, true), (4, true), (5, true), (6, true), (7, true), (8, true), (9, true), (10, true), (11, true), (12, true), (13, true), (14, true), (15, true), (16, true), (17, true), (18, true), (19, true), (20, true), (21, true), (22, true), (23, true), (24, true), (25, true), (26, true), (27, true), (28, true), (29, true), (30, true), (31, true), (32, true), (33, true), (34, true), (35, true), (36, true), (37, true), (38, true), (39, true), (40, true), (41, true), (42, true), (43, true), (44, true), (45, true), (46, true), (47, true), (48, true)] (fun x => Blk x gx 38 O ∧ Blk x g 73 (clC cn id tm true q (toldC told)).toArray) (by kernel_rfl) (by kernel_rfl) (by kernel_rfl) (by kernel_rfl) (fun _ _ d _ _ h => by cases d <;> exact h) ⟨hOd, hX1d⟩ ?_
    simp only [planOps, List.getElem?_toArray, List.getElem?_cons_zero, List.getElem?_cons_succ]
    repeat (first
      | (refine wpS_skip (by rfl) ?_; simp only [Act.put, List.setIfInBounds_toArray, List.set_cons_zero, List.set_cons_succ])
      | (refine wpS_q ?_ (by rfl) ?_ ?_; rotate_left; (focus (intro z hz; (try dsimp only at hz); go_simp; rfl)); simp only [Act.put, List.setIfInBounds_toArray, List.set_cons_zero, List.set_cons_succ]))
    refine wpS_nil ?_
    clear q0 q1 q2 q3 q4 q5
    try clear q6
    repeat (first
      | ((with_reducible refine wpl_loadS (gx + 1) _ z Tryd.underlying36 rfl iRp hRd hzs ?_ ?_ ?_); (focus rfl); (focus rfl); simp only [Act.put, List.setIfInBounds_toArray, List.set_cons_zero, List.set_cons_succ])
      | ((with_reducible refine wpl_store (gx + 1) _ z z iRp hRd hzs hzs hz1 ?_ ?_ ?_); (focus rfl); (focus rfl))
      | go_values | go_skip | go_guarded | go_step | go_upon | go_back)
    refine bodyPost_ret (results_cell_val rfl _ _ (gx + 1) _ _ (0, 0) _ _ rfl rfl (hRd.setRow _) Tryd.underlying36 rfl (by rw [hzs]; exact iRp)) rfl ?_
    have hg8 := grownBy_setRow w1.drew (gx + 1) z
    have hb8 := hbd.grown hg8 hbd.size (fun q hq => by cases hq; have := HGX.out; omega)
    refine ⟨?_, hX1d.grown hg8 (by intro e; injection e with e; omega), grownBy_of_below hb8 _⟩
    rw [HZ.out]
    rfl
  subst h3
  by_cases h4 : ttm = tm
  rotate_left
  · have zb : ((ttm : Int) == (tm : Int)) = false := beq_eq_false_iff_ne.2 (by omega)
    have zb' : ((ttm : Int) != (tm : Int)) = true := bne_iff_ne.2 (by omega)
    rw [hno (fun h => h4 h.2.2.2.2.1)]
    simp only [ClV.c]
    clear hno
    have hX1 := (hX.alloc (.cells (ToldV.mk tcl ttm trp tat).c.toArray 38)).alloc (.cells rp0.c.toArray 36)
    have hO := (Blk.new w 38 (ToldV.mk tcl ttm trp tat).c.toArray).alloc (.cells rp0.c.toArray 36)
    have hR := Blk.new (w.alloc (.cells (ToldV.mk tcl ttm trp tat).c.toArray 38)) 36 rp0.c.toArray
    have hb := below_next' (below_alloc w (.cells (ToldV.mk tcl ttm trp tat).c.toArray 38)) (below_alloc (w.alloc (.cells (ToldV.mk tcl ttm trp tat).c.toArray 38)) (.cells rp0.c.toArray 36))
    have hsz : (w.alloc (.cells (ToldV.mk tcl ttm trp tat).c.toArray 38)).heap.size = w.heap.size + 1 := by simp
    rw [hsz] at hR
    have hg0 := hX.lt
    have hT2 := fun (x : World) (b : Nat) (h : Blk x b 38 (ToldV.mk tcl ttm trp tat).c.toArray) => told_cells h
    simp only at hT2
    obtain ⟨O, hOe⟩ : ∃ O, (ToldV.mk tcl ttm trp tat).c.toArray = O := ⟨_, rfl⟩
    have hOs : O.size = 5 := by rw [← hOe]; rfl
    simp only [hOe] at hT2 hX1 hO hR hb hsz ⊢
    have HT2 := Lib.hid hT2
    have HOE := Lib.hid hOe
    clear hT2 hOe
    obtain ⟨z, hz⟩ : ∃ z : Array Value, rp0.c.toArray = z := ⟨_, rfl⟩
    have hzc := zcRp
    rw [hz] at hzc hX1 hO hR hb
    have hzs : z.size = 2 := by rw [← hz]; rfl
    have hz1 : z.all (·.oneCell') = true := by rw [← hz]; simp [rp0, RpV.c, Value.oneCell']
    have HZ := Lib.hid hz
    clear hz
    go_enter Tryd.func12, Tryd.ntmps12
    go_upto_region 1 with (fail)
    obtain ⟨w1, hw1⟩ : ∃ x, (w.alloc (.cells O 38)).alloc (.cells z 36) = x := ⟨_, rfl⟩
    rw [hw1] at hX1 hO hR hb ⊢
    obtain ⟨gx, hgx⟩ : ∃ x, w.heap.size = x := ⟨_, rfl⟩
    rw [hgx] at hO hR hg0 ⊢
    have HGX := Lib.hid hgx
    clear hgx hw1 hsz
    have hX1d : Blk w1.drew g 73 (clC cn tcl tm true q (toldC told)).toArray := hX1
    have hOd : Blk w1.drew gx 38 O := hO
    have hRd : Blk w1.drew (gx + 1) 36 z := hR
    have hbd := hb.drew
    have q0 : ∀ x, (Blk x gx 38 O ∧ Blk x g 73 (clC cn tcl tm true q (toldC told)).toArray) → x.cell? ⟨g, 0, none⟩ = some (.int .i64 cn) := fun x h => (cl_cells h.2).1
    have q1 : ∀ x, (Blk x gx 38 O ∧ Blk x g 73 (clC cn tcl tm true q (toldC told)).toArray) → x.cell? ⟨g, 1, none⟩ = some (.int .i64 tcl) := fun x h => (cl_cells h.2).2.1
    have q2 : ∀ x, (Blk x gx 38 O ∧ Blk x g 73 (clC cn tcl tm true q (toldC told)).toArray) → x.cell? ⟨g, 2, none⟩ = some (.int .u64 (tm : Int)) := fun x h => (cl_cells h.2).2.2.1
    have q3 : ∀ x, (Blk x gx 38 O ∧ Blk x g 73 (clC cn tcl tm true q (toldC told)).toArray) → x.cell? ⟨g, 3, none⟩ = some (.bool true) := fun x h => (cl_cells h.2).2.2.2
    have q4 : ∀ x, (Blk x gx 38 O ∧ Blk x g 73 (clC cn tcl tm true q (toldC told)).toArray) → x.cell? ⟨gx, 0, none⟩ = some (.int .i64 tcl) := fun x h => (HT2.out x gx h.1).1
    have q5 : ∀ x, (Blk x gx 38 O ∧ Blk x g 73 (clC cn tcl tm true q (toldC told)).toArray) → x.cell? ⟨gx, 1, none⟩ = some (.int .u64 (ttm : Int)) := fun x h => (HT2.out x gx h.1).2
    refine wp_region_plan [(0, true), (1, true), (2, true), (3, true), (4, true), (5, true), (6, true), (7, true), (8, true), (9, true), (10, true), (11, true), (12, true), (13, true), (14, true), (15, true), (16, true), (17, true), (18, true), (19, true), (20, true), (21, true), (22, true), (23, true), (24, true), (25, true), (26, true), (27, true), (28, true), (29, true), (30, true), (31, true), (32, true), (33, true), (34, true), (35, true), (36, true), (37, true), (38, true), (39, true), (40, true), (41, true), (42, true), (43, true), (44, true), (45, true), (46, true), (47, true), (48, true)] (fun x => Blk x gx 38 O ∧ Blk x g 73 (clC cn tcl tm true q (toldC told)).toArray) (by kernel_rfl) (by kernel_rfl) (by kernel_rfl) (by kernel_rfl) (fun _ _ d _ _ h => by cases d <;> exact h) ⟨hOd, hX1d⟩ ?_
    simp only [planOps, List.getElem?_toArray, List.getElem?_cons_zero, List.getElem?_cons_succ]
    repeat (first
      | (refine wpS_skip (by rfl) ?_; simp only [Act.put, List.setIfInBounds_toArray, List.set_cons_zero, List.set_cons_succ])
      | (refine wpS_q ?_ (by rfl) ?_ ?_; rotate_left; (focus (intro z hz; (try dsimp only at hz); go_simp; rfl)); simp only [Act.put, List.setIfInBounds_toArray, List.set_cons_zero, List.set_cons_succ]))
    refine wpS_nil ?_
    clear q0 q1 q2 q3 q4 q5
    try clear q6
    repeat (first
      | ((with_reducible refine wpl_loadS (gx + 1) _ z Tryd.underlying36 rfl iRp hRd hzs ?_ ?_ ?_); (focus rfl); (focus rfl); simp only [Act.put, List.setIfInBounds_toArray, List.set_cons_zero, List.set_cons_succ])
      | ((with_reducible refine wpl_store (gx + 1) _ z z iRp hRd hzs hzs hz1 ?_ ?_ ?_); (focus rfl); (focus rfl))
      | go_values | go_skip | go_guarded | go_step | go_upon | go_back)
    refine bodyPost_ret (results_cell_val rfl _ _ (gx + 1) _ _ (0, 0) _ _ rfl rfl (hRd.setRow _) Tryd.underlying36 rfl (by rw [hzs]; exact iRp)) rfl ?_
    have hg8 := grownBy_setRow w1.drew (gx + 1) z
    have hb8 := hbd.grown hg8 hbd.size (fun q hq => by cases hq; have := HGX.out; omega)
    refine ⟨?_, hX1d.grown hg8 (by intro e; injection e with e; omega), grownBy_of_below hb8 _⟩
    rw [HZ.out]
    rfl
  subst h4
  obtain ⟨k, rfl⟩ : ∃ k : Nat, j = (k : Int) + 1 := ⟨(j - 1).toNat, by omega⟩
  have hk : k < 11 := by omega
  have hkz : ((k : Int) + 1 - 1).toNat = k := by omega
  have hkw : IntKind.i64.wrap (k : Int) = (k : Int) := IntWalk.i64_in _ (by omega)
  have hk0 : (0 : Int) ≤ (k : Int) := by omega
  have hk11 : (k : Int) < 11 := by omega
  rw [hkz] at hno
  cases h5 : told.getD k none with
  | some u =>
    rw [hno (fun h => by rw [h5] at h; cases h.2.2.2.2.2)]
    simp only [ClV.c]
    clear hno
    have hX1 := (hX.alloc (.cells (ToldV.mk tcl ttm trp tat).c.toArray 38)).alloc (.cells rp0.c.toArray 36)
    have hO := (Blk.new w 38 (ToldV.mk tcl ttm trp tat).c.toArray).alloc (.cells rp0.c.toArray 36)
    have hR := Blk.new (w.alloc (.cells (ToldV.mk tcl ttm trp tat).c.toArray 38)) 36 rp0.c.toArray
    have hb := below_next' (below_alloc w (.cells (ToldV.mk tcl ttm trp tat).c.toArray 38)) (below_alloc (w.alloc (.cells (ToldV.mk tcl ttm trp tat).c.toArray 38)) (.cells rp0.c.toArray 36))
    have hsz : (w.alloc (.cells (ToldV.mk tcl ttm trp tat).c.toArray 38)).heap.size = w.heap.size + 1 := by simp
    rw [hsz] at hR
    have hg0 := hX.lt
    have hT2 := fun (x : World) (b : Nat) (h : Blk x b 38 (ToldV.mk tcl ttm trp tat).c.toArray) => told_cells h
    simp only at hT2
    obtain ⟨O, hOe⟩ : ∃ O, (ToldV.mk tcl ttm trp tat).c.toArray = O := ⟨_, rfl⟩
    have hOs : O.size = 5 := by rw [← hOe]; rfl
    simp only [hOe] at hT2 hX1 hO hR hb hsz ⊢
    have HT2 := Lib.hid hT2
    have HOE := Lib.hid hOe
    clear hT2 hOe
    obtain ⟨z, hz⟩ : ∃ z : Array Value, rp0.c.toArray = z := ⟨_, rfl⟩
    have hzc := zcRp
    rw [hz] at hzc hX1 hO hR hb
    have hzs : z.size = 2 := by rw [← hz]; rfl
    have hz1 : z.all (·.oneCell') = true := by rw [← hz]; simp [rp0, RpV.c, Value.oneCell']
    have HZ := Lib.hid hz
    clear hz
    go_enter Tryd.func12, Tryd.ntmps12
    go_upto_region 1 with (fail)
    obtain ⟨w1, hw1⟩ : ∃ x, (w.alloc (.cells O 38)).alloc (.cells z 36) = x := ⟨_, rfl⟩
    rw [hw1] at hX1 hO hR hb ⊢
    obtain ⟨gx, hgx⟩ : ∃ x, w.heap.size = x := ⟨_, rfl⟩
    rw [hgx] at hO hR hg0 ⊢
    have HGX := Lib.hid hgx
    clear hgx hw1 hsz
    have hX1d : Blk w1.drew g 73 (clC cn tcl ttm true q (toldC told)).toArray := hX1
    have hOd : Blk w1.drew gx 38 O := hO
    have hRd : Blk w1.drew (gx + 1) 36 z := hR
    have hbd := hb.drew
    have q0 : ∀ x, (Blk x gx 38 O ∧ Blk x g 73 (clC cn tcl ttm true q (toldC told)).toArray) → x.cell? ⟨g, 0, none⟩ = some (.int .i64 cn) := fun x h => (cl_cells h.2).1
    have q1 : ∀ x, (Blk x gx 38 O ∧ Blk x g 73 (clC cn tcl ttm true q (toldC told)).toArray) → x.cell? ⟨g, 1, none⟩ = some (.int .i64 tcl) := fun x h => (cl_cells h.2).2.1
    have q2 : ∀ x, (Blk x gx 38 O ∧ Blk x g 73 (clC cn tcl ttm true q (toldC told)).toArray) → x.cell? ⟨g, 2, none⟩ = some (.int .u64 (ttm : Int)) := fun x h => (cl_cells h.2).2.2.1
    have q3 : ∀ x, (Blk x gx 38 O ∧ Blk x g 73 (clC cn tcl ttm true q (toldC told)).toArray) → x.cell? ⟨g, 3, none⟩ = some (.bool true) := fun x h => (cl_cells h.2).2.2.2
    have q4 : ∀ x, (Blk x gx 38 O ∧ Blk x g 73 (clC cn tcl ttm true q (toldC told)).toArray) → x.cell? ⟨gx, 0, none⟩ = some (.int .i64 tcl) := fun x h => (HT2.out x gx h.1).1
    have q5 : ∀ x, (Blk x gx 38 O ∧ Blk x g 73 (clC cn tcl ttm true q (toldC told)).toArray) → x.cell? ⟨gx, 1, none⟩ = some (.int .u64 (ttm : Int)) := fun x h => (HT2.out x gx h.1).2
    have q6 : ∀ x, (Blk x gx 38 O ∧ Blk x g 73 (clC cn tcl ttm true q (toldC told)).toArray) → x.cell? ⟨g, 44 + k * 6, none⟩ = some (.bool true) := fun x h => by rw [cl_is htag h.2 (by omega), h5]; rfl
    refine wp_region_plan [(0, true), (1, true), (2, true), (3, true), (4, true), (5, true), (6, true), (7, true), (8, true), (9, true), (10, true), (11, true), (12, true), (13, true), (14, true), (15, true), (16, true), (17, true), (18, true), (19, true), (20, true), (21, true), (22, true), (23, true), (24, true), (25, true), (26, true), (27, true), (28, true), (29, true), (30, true), (31, true), (32, true), (33, true), (34, true), (35, true), (36, true), (37, true), (38, true), (39, true), (40, true), (41, true), (42, true), (43, true), (44, true), (45, true), (46, true), (47, true), (48, true)] (fun x => Blk x gx 38 O ∧ Blk x g 73 (clC cn tcl ttm true q (toldC told)).toArray) (by kernel_rfl) (by kernel_rfl) (by kernel_rfl) (by kernel_rfl) (fun _ _ d _ _ h => by cases d <;> exact h) ⟨hOd, hX1d⟩ ?_
    simp only [planOps, List.getElem?_toArray, List.getElem?_cons_zero, List.getElem?_cons_succ]
    repeat (first
      | (refine wpS_skip (by rfl) ?_; simp only [Act.put, List.setIfInBounds_toArray, List.set_cons_zero, List.set_cons_succ])
      | (refine wpS_q ?_ (by rfl) ?_ ?_; rotate_left; (focus (intro z hz; (try dsimp only at hz); go_simp; rfl)); simp only [Act.put, List.setIfInBounds_toArray, List.set_cons_zero, List.set_cons_succ]))
    refine wpS_nil ?_
    clear q0 q1 q2 q3 q4 q5
    try clear q6
    repeat (first
      | ((with_reducible refine wpl_loadS (gx + 1) _ z Tryd.underlying36 rfl iRp hRd hzs ?_ ?_ ?_); (focus rfl); (focus rfl); simp only [Act.put, List.setIfInBounds_toArray, List.set_cons_zero, List.set_cons_succ])
      | ((with_reducible refine wpl_store (gx + 1) _ z z iRp hRd hzs hzs hz1 ?_ ?_ ?_); (focus rfl); (focus rfl))
      | go_values | go_skip | go_guarded | go_step | go_upon | go_back)
    refine bodyPost_ret (results_cell_val rfl _ _ (gx + 1) _ _ (0, 0) _ _ rfl rfl (hRd.setRow _) Tryd.underlying36 rfl (by rw [hzs]; exact iRp)) rfl ?_
    have hg8 := grownBy_setRow w1.drew (gx + 1) z
    have hb8 := hbd.grown hg8 hbd.size (fun q hq => by cases hq; have := HGX.out; omega)
    refine ⟨?_, hX1d.grown hg8 (by intro e; injection e with e; omega), grownBy_of_below hb8 _⟩
    rw [HZ.out]
    rfl
  | none =>
    have hF : hearC ⟨cn, tcl, ttm, true, q, told⟩ ((k : Int) + 1) ⟨tcl, ttm, trp, tat⟩ = if ((told.set k (some ⟨tcl, ttm, trp, tat⟩)).count (some ⟨tcl, ttm, trp, tat⟩) : Int) ≤ cn / 2 then (⟨cn, tcl, ttm, true, q, told.set k (some ⟨tcl, ttm, trp, tat⟩)⟩, rp0, false) else (⟨cn, tcl, ttm, false, rq0, told.set k (some ⟨tcl, ttm, trp, tat⟩)⟩, trp, true) := by
      unfold hearC
      simp only [hkz]
      rw [if_pos ⟨by omega, by omega, by first | rfl | trivial, by first | rfl | trivial, by first | rfl | trivial, h5⟩]
    clear hno
    have HF := Lib.hid hF
    clear hF
    have hX1 := (hX.alloc (.cells (ToldV.mk tcl ttm trp tat).c.toArray 38)).alloc (.cells rp0.c.toArray 36)
    have hO := (Blk.new w 38 (ToldV.mk tcl ttm trp tat).c.toArray).alloc (.cells rp0.c.toArray 36)
    have hR := Blk.new (w.alloc (.cells (ToldV.mk tcl ttm trp tat).c.toArray 38)) 36 rp0.c.toArray
    have hb := below_next' (below_alloc w (.cells (ToldV.mk tcl ttm trp tat).c.toArray 38)) (below_alloc (w.alloc (.cells (ToldV.mk tcl ttm trp tat).c.toArray 38)) (.cells rp0.c.toArray 36))
    have hsz : (w.alloc (.cells (ToldV.mk tcl ttm trp tat).c.toArray 38)).heap.size = w.heap.size + 1 := by simp
    rw [hsz] at hR
    have hg0 := hX.lt
    have hT2 := fun (x : World) (b : Nat) (h : Blk x b 38 (ToldV.mk tcl ttm trp tat).c.toArray) => told_cells h
    simp only at hT2
    obtain ⟨O, hOe⟩ : ∃ O, (ToldV.mk tcl ttm trp tat).c.toArray = O := ⟨_, rfl⟩
    have hOs : O.size = 5 := by rw [← hOe]; rfl
    simp only [hOe] at hT2 hX1 hO hR hb hsz ⊢
    have HT2 := Lib.hid hT2
    have HOE := Lib.hid hOe
    clear hT2 hOe
    obtain ⟨z, hz⟩ : ∃ z : Array Value, rp0.c.toArray = z := ⟨_, rfl⟩
    have hzc := zcRp
    rw [hz] at hzc hX1 hO hR hb
    have hzs : z.size = 2 := by rw [← hz]; rfl
    have hz1 : z.all (·.oneCell') = true := by rw [← hz]; simp [rp0, RpV.c, Value.oneCell']
    have HZ := Lib.hid hz
    clear hz
    go_enter Tryd.func12, Tryd.ntmps12
    go_upto_region 1 with (fail)
    obtain ⟨w1, hw1⟩ : ∃ x, (w.alloc (.cells O 38)).alloc (.cells z 36) = x := ⟨_, rfl⟩
    rw [hw1] at hX1 hO hR hb ⊢
    obtain ⟨gx, hgx⟩ : ∃ x, w.heap.size = x := ⟨_, rfl⟩
    rw [hgx] at hO hR hg0 ⊢
    have HGX := Lib.hid hgx
    clear hgx hw1 hsz
    have hX1d : Blk w1.drew g 73 (clC cn tcl ttm true q (toldC told)).toArray := hX1
    have hOd : Blk w1.drew gx 38 O := hO
    have hRd : Blk w1.drew (gx + 1) 36 z := hR
    have hbd := hb.drew
    have q0 : ∀ x, (Blk x gx 38 O ∧ Blk x g 73 (clC cn tcl ttm true q (toldC told)).toArray) → x.cell? ⟨g, 0, none⟩ = some (.int .i64 cn) := fun x h => (cl_cells h.2).1
    have q1 : ∀ x, (Blk x gx 38 O ∧ Blk x g 73 (clC cn tcl ttm true q (toldC told)).toArray) → x.cell? ⟨g, 1, none⟩ = some (.int .i64 tcl) := fun x h => (cl_cells h.2).2.1
    have q2 : ∀ x, (Blk x gx 38 O ∧ Blk x g 73 (clC cn tcl ttm true q (toldC told)).toArray) → x.cell? ⟨g, 2, none⟩ = some (.int .u64 (ttm : Int)) := fun x h => (cl_cells h.2).2.2.1
    have q3 : ∀ x, (Blk x gx 38 O ∧ Blk x g 73 (clC cn tcl ttm true q (toldC told)).toArray) → x.cell? ⟨g, 3, none⟩ = some (.bool true) := fun x h => (cl_cells h.2).2.2.2
    have q4 : ∀ x, (Blk x gx 38 O ∧ Blk x g 73 (clC cn tcl ttm true q (toldC told)).toArray) → x.cell? ⟨gx, 0, none⟩ = some (.int .i64 tcl) := fun x h => (HT2.out x gx h.1).1
    have q5 : ∀ x, (Blk x gx 38 O ∧ Blk x g 73 (clC cn tcl ttm true q (toldC told)).toArray) → x.cell? ⟨gx, 1, none⟩ = some (.int .u64 (ttm : Int)) := fun x h => (HT2.out x gx h.1).2
    have q6 : ∀ x, (Blk x gx 38 O ∧ Blk x g 73 (clC cn tcl ttm true q (toldC told)).toArray) → x.cell? ⟨g, 44 + k * 6, none⟩ = some (.bool false) := fun x h => by rw [cl_is htag h.2 (by omega), h5]; rfl
    refine wp_region_plan [(0, true), (1, true), (2, true), (3, true), (4, true), (5, true), (6, true), (7, true), (8, true), (9, true), (10, true), (11, true), (12, true), (13, true), (14, true), (15, true), (16, true), (17, true), (18, true), (19, true), (20, true), (21, true), (22, true), (23, true), (24, true), (25, true), (26, true), (27, true), (28, true), (29, true), (30, true), (31, true), (32, true), (33, true), (34, true), (35, true), (36, true), (37, true), (38, true), (39, true), (40, true), (41, true), (42, true), (43, true), (44, true), (45, true), (46, true), (47, true), (48, true)] (fun x => Blk x gx 38 O ∧ Blk x g 73 (clC cn tcl ttm true q (toldC told)).toArray) (by kernel_rfl) (by kernel_rfl) (by kernel_rfl) (by kernel_rfl) (fun _ _ d _ _ h => by cases d <;> exact h) ⟨hOd, hX1d⟩ ?_
    simp only [planOps, List.getElem?_toArray, List.getElem?_cons_zero, List.getElem?_cons_succ]
    repeat (first
      | (refine wpS_skip (by rfl) ?_; simp only [Act.put, List.setIfInBounds_toArray, List.set_cons_zero, List.set_cons_succ])
      | (refine wpS_q ?_ (by rfl) ?_ ?_; rotate_left; (focus (intro z hz; (try dsimp only at hz); go_simp; rfl)); simp only [Act.put, List.setIfInBounds_toArray, List.set_cons_zero, List.set_cons_succ]))
    refine wpS_nil ?_
    clear q0 q1 q2 q3 q4 q5 q6
    obtain ⟨wd, hwd⟩ : ∃ x, w1.drew = x := ⟨_, rfl⟩
    rw [hwd] at hX1d hOd hRd hbd ⊢
    clear hwd
    have hrq : 2 ≤ 3 := by omega
    have heqs := fun (o : Option ToldV) (x : World) => eq_said 9996 o ⟨tcl, ttm, trp, tat⟩ x
    have hbs := fun (x : World) => build_said x ⟨tcl, ttm, trp, tat⟩
    have hso := said_one (some ⟨tcl, ttm, trp, tat⟩)
    have hsl := said_len (some ⟨tcl, ttm, trp, tat⟩)
    obtain ⟨tv, htv⟩ : ∃ t : ToldV, (⟨tcl, ttm, trp, tat⟩ : ToldV) = t := ⟨_, rfl⟩
    have htr : trp = tv.rp := by rw [← htv]
    have hts : told.set k (some tv) = told.set k (some tv) := rfl
    rw [htv] at HF HOE
    simp only [htv] at heqs hbs hso hsl
    obtain ⟨SM, hSM⟩ : ∃ S : List Value, saidC (some tv) = S := ⟨_, rfl⟩
    have hst := told_set told k (some tv) (by omega)
    rw [hSM] at hst
    simp only [hSM] at heqs hbs hso hsl
    have HEQ := Lib.hid heqs
    simp only [HOE.out] at hbs
    have HBS := Lib.hid hbs
    have HTR := Lib.hid htr
    have HTV := Lib.hid htv
    clear heqs hbs hSM htv htr hts hrq h5
    obtain ⟨l, hle⟩ : ∃ l, told.set k (some tv) = l := ⟨_, rfl⟩
    rw [hle] at HF hst
    have hl11 : l.length = 11 := by rw [← hle, List.length_set]; exact hlen
    have HLE := Lib.hid hle
    clear hle
    have hSMs : SM.toArray.size = 6 := by rw [List.size_toArray, hsl]
    have hS1 : SM.toArray.all (·.oneCell') = true := by simpa using hso
    repeat (first
      | ((with_reducible refine wpl_loadS gx _ O Tryd.underlying38 rfl iTold hOd hOs ?_ ?_ ?_); (focus rfl); (focus rfl); simp only [Act.put, List.setIfInBounds_toArray, List.set_cons_zero, List.set_cons_succ])
      | ((with_reducible refine wpl_buildS HBS.out ?_ ?_); (focus rfl); simp only [Act.put, List.setIfInBounds_toArray, List.set_cons_zero, List.set_cons_succ])
      | ((with_reducible refine wpl_store_fresh SM.toArray iSaid ?_ hSMs hS1 ?_ ?_ ?_); (focus kernel_rfl); (focus rfl); (focus rfl); intro w2 hM hl2 hb2; simp only [Act.put]; refine Hid.out ?_)
      | go_values | go_skip | go_guarded | go_step | go_upon | go_back)
    refine Lib.hid ?_
    have hX2 := hX1d.below hb2 hX1d.lt
    have hO2 := hOd.below hb2 hOd.lt
    have hR2 := hRd.below hb2 hRd.lt
    have hne : g ≠ wd.heap.size := Nat.ne_of_lt hX1d.lt
    have hb12 := below_next' hbd hb2
    obtain ⟨gs, hgs⟩ : ∃ x, wd.heap.size = x := ⟨_, rfl⟩
    rw [hgs] at hM hne ⊢
    clear hX1 hO hR hb hX1d hOd hRd hbd hb2 hl2
    clear hgs
    have hX2 : Blk w2.drew g 73 (clC cn tcl ttm true q (toldC told)).toArray := hX2
    have hO2 : Blk w2.drew gx 38 O := hO2
    have hR2 : Blk w2.drew (gx + 1) 36 z := hR2
    have hM2 : Blk w2.drew gs 70 SM.toArray := hM
    have hb12 := hb12.drew
    clear hM
    go_upto_region 4 with (fail)
    refine wp_region_plan [(0, true), (1, true), (2, true), (3, true), (4, true), (5, true), (6, true), (7, false)] (fun x => Blk x gs 70 SM.toArray) (by kernel_rfl) (by kernel_rfl) (by kernel_rfl) (by kernel_rfl) (fun _ _ d _ _ h => by cases d <;> exact h) hM2 ?_
    simp only [planOps, List.getElem?_toArray, List.getElem?_cons_zero, List.getElem?_cons_succ]
    iterate 3 (refine wpS_q ?_ (by rfl) ?_ ?_; rotate_left; (focus (intro z hz; (try dsimp only at hz); go_simp; rfl)); simp only [Act.put, List.setIfInBounds_toArray, List.set_cons_zero, List.set_cons_succ])
    refine wpS_q (.agg SM.toArray) (by rfl) (fun x hx => load_row_run rfl gs SM.toArray Tryd.underlying70 rfl iSaid hx hSMs rfl) ?_
    simp only [Act.put, List.setIfInBounds_toArray, List.set_cons_zero, List.set_cons_succ]
    iterate 3 (refine wpS_q ?_ (by rfl) ?_ ?_; rotate_left; (focus (intro z hz; (try dsimp only at hz); go_simp; rfl)); simp only [Act.put, List.setIfInBounds_toArray, List.set_cons_zero, List.set_cons_succ])
    refine wpS_l (by rfl) (fun K hK => ?_)
    refine wp_store_midR rfl g (44 + k * 6) _ SM (by rw [hsl]; exact iSaid) hX2 (by rw [clC_len _ _ _ _ htag, hsl, told_len, hlen]; omega) (by simpa using hso) rfl rfl ?_
    rw [clC_setr _ _ _ _ htag, hst]
    have hg3 := grownBy_setRow w2.drew g (clC cn tcl ttm true q (toldC l)).toArray
    have hX3 := hX2.setRow (clC cn tcl ttm true q (toldC l)).toArray
    have hO3 := hO2.grown hg3 (by intro e; injection e with e; omega)
    have hR3 := hR2.grown hg3 (by intro e; injection e with e; omega)
    have hM3 := hM2.grown hg3 (by intro e; injection e with e; exact hne e.symm)
    have hG3 := (grownBy_of_below hb12 (some g)).out (Below.refl _ _)
    have hG3 := grown_trans' hG3 hg3
    obtain ⟨w3, hw3⟩ : ∃ x, w2.drew.setRow g (clC cn tcl ttm true q (toldC l)).toArray = x := ⟨_, rfl⟩
    rw [hw3] at hX3 hO3 hR3 hM3 hG3 ⊢
    refine hK _ _ _ hM3 (fun _ h => h) ?_
    clear hK hw3 hg3 hX2 hO2 hR2 hM2 hb12 hst
    refine wpS_nil ?_
    have hq3 : ((clC cn tcl ttm true q (toldC l)).drop 44).take 66 = toldC l := by
      have := clC_drop cn tcl ttm true htag (toldC l) 0
      rw [Nat.add_zero, List.drop_zero] at this
      rw [this, List.take_of_length_le (by rw [told_len, hl11]; omega)]
    have hl66 : (toldC l).length = 66 := by rw [told_len, hl11]
    go_upto_region 6 with (fail)
    repeat (first
      | ((with_reducible refine wpl_load_mid g 44 _ (toldC l) Tryd.underlying71 rfl iSaids hX3 hq3 hl66 ?_ ?_); (focus rfl); simp only [Act.put, List.setIfInBounds_toArray, List.set_cons_zero, List.set_cons_succ])
      | go_values | go_skip | go_guarded | go_step | go_upon | go_back)
    clear hq3 hl66
    obtain ⟨LL, hLL⟩ : ∃ x, (toldC l).toArray = x := ⟨_, rfl⟩
    have hix := fun (x : World) (i : Nat) (hi : i < 11) => index_told x l hl11 i hi
    rw [hLL]
    simp only [hLL] at hix
    have HIX := Lib.hid hix
    clear hix hLL
    have hG3s := hG3.size
    go_loopw [9, 75] (fun al i wr => ∃ n : Nat, n ≤ 11 ∧ i = .int .i64 (n : Int) ∧ al = .int .i64 ((l.take n).count (some tv) : Int) ∧ Below w3.heap.size w3 wr) (fun _ i _ => 11 - (intOf i).toNat)
    case atStart => exact ⟨0, by omega, rfl, by simp, Below.refl _ _⟩
    case round =>
      obtain ⟨i, hi, rfl, rfl, hbi⟩ := hrel
      have hX4 := hX3.below hbi hX3.lt
      have hO4 := hO3.below hbi hO3.lt
      have hR4 := hR3.below hbi hR3.lt
      have hM4 := hM3.below hbi hM3.lt
      have hct := List.count_le_length (l := l.take i) (a := some tv)
      rw [List.length_take, hl11] at hct
      by_cases hi11 : i < 11
      · have g1 : (i : Int) < 11 := by omega
        have g0 : (0 : Int) ≤ (i : Int) := by omega
        have hst := count_step l (some tv) i (by omega)
        have hsi := said_len (l.getD i none)
        have hs1 := said_one (l.getD i none)
        have heq := HEQ.out (l.getD i none)
        have hix := fun x => HIX.out x i hi11
        obtain ⟨SI, hSI⟩ : ∃ S : List Value, saidC (l.getD i none) = S := ⟨_, rfl⟩
        simp only [hSI] at hsi hs1 heq hix
        have HQ2 := Lib.hid heq
        have HI2 := Lib.hid hix
        have HST := Lib.hid hst
        clear heq hix hSI hst
        have hsis : SI.toArray.size = 6 := by rw [List.size_toArray, hsi]
        have hsi1 : SI.toArray.all (·.oneCell') = true := by simpa using hs1
        obtain ⟨ct, hct2⟩ : ∃ n, (l.take i).count (some tv) = n := ⟨_, rfl⟩
        rw [hct2] at hct ⊢
        have HCT := Lib.hid hct2
        clear hct2
        have hctb : (ct : Int) + 1 < 20 := by omega
        have hct0 : 0 ≤ (ct : Int) := by omega
        obtain ⟨ei, hei⟩ : ∃ b, decide (l.getD i none = some tv) = b := ⟨_, rfl⟩
        have HEI := Lib.hid hei
        have HQ3 := Lib.hid (fun x => by have := HQ2.out x; rwa [hei] at this)
        clear hei HQ2
        repeat (first
          | ((with_reducible refine wpl_indexS rfl HI2.out ?_ ?_ ?_); (focus rfl); (focus rfl); simp only [Act.put, List.setIfInBounds_toArray, List.set_cons_zero, List.set_cons_succ])
          | ((with_reducible refine wpl_store_fresh SI.toArray iSaid ?_ hsis hsi1 ?_ ?_ ?_); (focus kernel_rfl); (focus rfl); (focus rfl); intro w5 hI5 hl5 hb5; simp only [Act.put]; refine Hid.out ?_)
          | go_values | go_skip | go_guarded | go_step | go_upon | go_back)
        refine Lib.hid ?_
        have hM5 := hM4.below hb5 hM4.lt
        have hbi5 : Below w3.heap.size w3 w5 := below_next' hbi hb5
        obtain ⟨gi, hgi⟩ : ∃ x, wr.heap.size = x := ⟨_, rfl⟩
        rw [hgi] at hI5 ⊢
        clear hgi hb5 hl5 hX4 hO4 hR4 hM4
        cases ei
        · have hne2 : ¬ l.getD i none = some tv := of_decide_eq_false HEI.out
          repeat (first
            | ((with_reducible refine wpl_loadS gi _ SI.toArray Tryd.underlying70 rfl iSaid hI5 hsis ?_ ?_ ?_); (focus rfl); (focus rfl); simp only [Act.put, List.setIfInBounds_toArray, List.set_cons_zero, List.set_cons_succ])
            | ((with_reducible refine wpl_loadS gs _ SM.toArray Tryd.underlying70 rfl iSaid hM5 hSMs ?_ ?_ ?_); (focus rfl); (focus rfl); simp only [Act.put, List.setIfInBounds_toArray, List.set_cons_zero, List.set_cons_succ])
            | ((with_reducible refine wpl_eqS gSaid (HQ3.out _) ?_ ?_ ?_ ?_); (focus rfl); (focus rfl); (focus rfl); simp only [Act.put, List.setIfInBounds_toArray, List.set_cons_zero, List.set_cons_succ])
            | go_values | go_skip | go_guarded | go_step | go_upon | go_back)
          exact ⟨⟨i + 1, by omega, congrArg (Value.int .i64) (by omega), by rw [HST.out, HCT.out, if_neg hne2]; rfl, hbi5⟩, by simp only [intOf]; omega⟩
        · have hne2 : l.getD i none = some tv := of_decide_eq_true HEI.out
          repeat (first
            | ((with_reducible refine wpl_loadS gi _ SI.toArray Tryd.underlying70 rfl iSaid hI5 hsis ?_ ?_ ?_); (focus rfl); (focus rfl); simp only [Act.put, List.setIfInBounds_toArray, List.set_cons_zero, List.set_cons_succ])
            | ((with_reducible refine wpl_loadS gs _ SM.toArray Tryd.underlying70 rfl iSaid hM5 hSMs ?_ ?_ ?_); (focus rfl); (focus rfl); simp only [Act.put, List.setIfInBounds_toArray, List.set_cons_zero, List.set_cons_succ])
            | ((with_reducible refine wpl_eqS gSaid (HQ3.out _) ?_ ?_ ?_ ?_); (focus rfl); (focus rfl); (focus rfl); simp only [Act.put, List.setIfInBounds_toArray, List.set_cons_zero, List.set_cons_succ])
            | go_values | go_skip | go_guarded | go_step | go_upon | go_back)
          exact ⟨⟨i + 1, by omega, congrArg (Value.int .i64) (by omega), by rw [HST.out, HCT.out, if_pos hne2]; exact congrArg (Value.int .i64) (by omega), hbi5⟩, by simp only [intOf]; omega⟩
      · obtain rfl : i = 11 := by omega
        have g1 : ¬ ((11 : Nat) : Int) < 11 := by omega
        have hta : l.take 11 = l := List.take_of_length_le (by omega)
        rw [hta] at hct ⊢
        obtain ⟨ct, hct2⟩ : ∃ n, l.count (some tv) = n := ⟨_, rfl⟩
        rw [hct2] at hct HF ⊢
        obtain ⟨hh, hhe⟩ : ∃ h, cn / 2 = h := ⟨_, rfl⟩
        have hhb : 0 ≤ hh ∧ hh ≤ 5 := by omega
        have hhd : cn.tdiv 2 = hh := by rw [Int.tdiv_eq_ediv_of_nonneg (by omega), hhe]
        rw [hhe] at HF
        clear hta hct2 hhe
        have hG4 := grown_below' hG3 hbi
        clear hX3 hO3 hR3 hM3 hG3 hbi hM4
        have hhw : IntKind.i64.wrap hh = hh := IntWalk.i64_in _ (by omega)
        obtain ⟨c0, c1, c2, c3⟩ := cl_cells hX4
        have f3 := hX4.frozen 3
        by_cases hle : (ct : Int) ≤ hh
        · repeat (first
            | ((with_reducible refine wpl_loadS (gx + 1) _ z Tryd.underlying36 rfl iRp hR4 hzs ?_ ?_ ?_); (focus rfl); (focus rfl); simp only [Act.put, List.setIfInBounds_toArray, List.set_cons_zero, List.set_cons_succ])
            | ((with_reducible refine wpl_store (gx + 1) _ z z iRp hR4 hzs hzs hz1 ?_ ?_ ?_); (focus rfl); (focus rfl))
            | go_values | go_skip | go_guarded | go_step | go_upon | go_back)
          refine bodyPost_ret (results_cell_val rfl _ _ (gx + 1) _ _ (0, 0) _ _ rfl rfl (hR4.setRow _) Tryd.underlying36 rfl (by rw [hzs]; exact iRp)) rfl ?_
          have hg8 := grownBy_setRow wr (gx + 1) z
          have hb8 : Below w.heap.size wr (wr.setRow (gx + 1) z) := below_of_grownBy hg8 (fun q hq => by cases hq; have := HGX.out; omega) hG4.size
          have hGF := hG4.out hb8
          simp only [HTV.out, HF.out, if_pos hle]
          refine ⟨?_, hX4.grown hg8 (by intro e; injection e with e; omega), hGF⟩
          rw [HZ.out]
          rfl
        · have hX5 := hX4.set_ 3 (.bool false)
          rw [clC_p] at hX5
          have hg5 := grownBy_set wr g 3 (.bool false)
          have hO5 := hO4.grown hg5 (by intro e; injection e with e; omega)
          have hR5 := hR4.grown hg5 (by intro e; injection e with e; omega)
          have hG5 := grown_trans' hG4 hg5
          have hO5 : Blk (wr.setCell ⟨g, 3, none⟩ (.bool false)) gx 38 tv.c.toArray := by rw [HOE.out]; exact hO5
          have hrl : tv.rp.c.length = 2 := rfl
          have hrc : (tv.c.drop 2).take 2 = tv.rp.c := rfl
          have hr1 : tv.rp.c.toArray.all (·.oneCell') = true := by simp [RpV.c, Value.oneCell']
          have hq0 := fun x => build_rq0 x
          have hql := rqc_length rq0 z32_length
          have hq1 := rqc_one rq0
          have hsp := clC_setq cn tcl ttm false htag (q' := rq0) z32_length (toldC l)
          obtain ⟨RC, hRC⟩ : ∃ R, tv.rp.c = R := ⟨_, rfl⟩
          rw [hRC] at hrl hrc hr1
          obtain ⟨TC, hTC⟩ : ∃ R, tv.c = R := ⟨_, rfl⟩
          rw [hTC] at hrc hO5
          obtain ⟨RQ, hRQ⟩ : ∃ R, rq0.c = R := ⟨_, rfl⟩
          simp only [hRQ] at hq0 hql hq1 hsp
          have HQ0 := Lib.hid hq0
          have HRC := Lib.hid hRC
          have hRCs : RC.toArray.size = 2 := by rw [List.size_toArray, hrl]
          clear hq0 hRQ hRC hTC
          have HSP := Lib.hid hsp
          clear hsp
          have hg6 := grownBy_setRow (wr.setCell ⟨g, 3, none⟩ (.bool false)) g (clC cn tcl ttm false rq0 (toldC l)).toArray
          have hX6 := hX5.setRow (clC cn tcl ttm false rq0 (toldC l)).toArray
          have hO6 := hO5.grown hg6 (by intro e; injection e with e; omega)
          have hR6 := hR5.grown hg6 (by intro e; injection e with e; omega)
          have hG6 := grown_trans' hG5 hg6
          clear hg6 hg5
          go_upto_region 14 with (fail)
          repeat (first
            | ((with_reducible refine wpl_buildS (ps := []) HQ0.out ?_ ?_); (focus rfl); simp only [Act.put, List.setIfInBounds_toArray, List.set_cons_zero, List.set_cons_succ])
            | ((with_reducible refine wpl_store_mid g 4 _ RQ (by rw [hql]; exact i44) hX5 (by rw [clC_len _ _ _ _ htag, hql]; omega) (by simpa using hq1) ?_ ?_ ?_); (focus rfl); (focus rfl); rw [HSP.out]; simp only [Act.put])
            | ((with_reducible refine wpl_load_mid gx 2 TC RC Tryd.underlying36 rfl iRp hO6 hrc hrl ?_ ?_); (focus rfl); simp only [Act.put, List.setIfInBounds_toArray, List.set_cons_zero, List.set_cons_succ])
            | ((with_reducible refine wpl_store (gx + 1) _ z RC.toArray iRp hR6 hzs hRCs hr1 ?_ ?_ ?_); (focus rfl); (focus rfl))
            | go_values | go_skip | go_guarded | go_step | go_upon | go_back)
          refine bodyPost_ret (results_cell_val rfl _ _ (gx + 1) _ _ (0, 0) _ _ rfl rfl (hR6.setRow _) Tryd.underlying36 rfl (by rw [hRCs]; exact iRp)) rfl ?_
          have hg8 := grownBy_setRow ((wr.setCell ⟨g, 3, none⟩ (.bool false)).setRow g (clC cn tcl ttm false rq0 (toldC l)).toArray) (gx + 1) RC.toArray
          have hb8 := below_of_grownBy (B := w.heap.size) hg8 (fun q hq => by cases hq; have := HGX.out; omega) hG6.size
          have hGF := hG6.out hb8
          simp only [HTV.out, HF.out, if_neg hle]
          refine ⟨?_, hX6.grown hg8 (by intro e; injection e with e; omega), hGF⟩
          rw [HTR.out, HRC.out]
          rfl
end Go.Proofs.YtbbcofpdfkhljaaDoor
