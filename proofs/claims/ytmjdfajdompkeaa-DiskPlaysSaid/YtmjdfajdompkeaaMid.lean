/- Whole arrays out of and into the middle of a block. -/
import Derived.Test.YtmjdfajdompkeaaGuard
import Derived.Test.YtmjdfajdompkeaaByt
import Derived.Deep.MidRow
import Derived.Laws.CopyOwn
namespace Go.Proofs.Ytmjdfajdompkeaa
open Go.RowKit Go.Rat
section
variable {P : Program} {w : World} {ops : Array Oper} {rest : List Oper} {a : Act} {Q : Exit → Act → World → Prop} {d : Option Tmp} {ty : TypeId} {x y : Operand} {t : TypeId} {p : String} {af : Array Edge} {T : TypeId}
theorem range_of_row {g o n : Nat} {L cs : List Value} (hB : Blk w g T L.toArray) (hcs : (L.drop o).take n = cs) : w.rangeAt g o cs := by
  intro j v hv
  rw [hB.cell (o + j), List.getElem?_toArray]
  rw [← hcs, List.getElem?_take, List.getElem?_drop] at hv
  split at hv
  · exact hv
  · cases hv
theorem wpl_load_mid (g o : Nat) (L cs : List Value) {n : Nat} {D : TypeDesc}
    (hu : P.underlying ty = some D) (hd : D.isRow = true) (hi : (P.info? ty).map (·.size) = some n) (hB : Blk w g T L.toArray) (hcs : (L.drop o).take n = cs) (hl : cs.length = n)
    (hx : a.eval x = .pointer (some ⟨g, o, none⟩)) (h : wpList P ops Q rest (a.put d (.agg cs.toArray)) w) :
    wpList P ops Q ({ dst := d, op := .load ty x, type := t, pos := p, after := af, guard := none } :: rest) a w :=
  wpList_load_mid rfl ty x rfl g o hx cs D (range_of_row hB hcs) hu hd (by rw [hl]; exact hi) h
theorem wpl_value {o' : Oper} (hg : o'.guard = none) (v : Value) (hv : (execOp a.eval o').run P w = .ok (.value v) w) (h : wpList P ops Q rest (a.put o'.dst v) w) : wpList P ops Q (o' :: rest) a w :=
  wpList_plain hg fun _ hK => by
    unfold Oper.wp
    rw [hv]
    exact hK _ _ h
theorem wpl_nilCheck (b i : Nat) (hx : a.eval x = .pointer (some ⟨b, i, none⟩)) (h : wpList P ops Q rest (a.put d (.pointer (some ⟨b, i, none⟩))) w) :
    wpList P ops Q ({ dst := d, op := .nilCheck x, type := t, pos := p, after := af, guard := none } :: rest) a w :=
  wpl_value rfl _ (by simp [execOp, hx]) h
theorem wpl_fieldAddr (b n k : Nat) (hv : ∀ w : World, (execOp a.eval { dst := d, op := .fieldAddr ty x k, type := t, pos := p, after := af, guard := none }).run P w = .ok (.value (.pointer (some ⟨b, n, none⟩))) w)
    (h : wpList P ops Q rest (a.put d (.pointer (some ⟨b, n, none⟩))) w) :
    wpList P ops Q ({ dst := d, op := .fieldAddr ty x k, type := t, pos := p, after := af, guard := none } :: rest) a w :=
  wpl_value rfl _ (hv w) h
theorem run_store_mid (g o : Nat) (L cs : List Value) (hi : (P.info? ty).map (·.size) = some cs.length) (hB : Blk w g T L.toArray) (hfit : o + cs.length ≤ L.length) (h1 : ∀ v ∈ cs, v.oneCell' = true) :
    (storeVar ty ⟨g, o, none⟩ (.agg cs.toArray)).run P w = .ok () (w.setRow g (Go.splice L o cs).toArray) := by
  have := run_storeCells_at P g o T cs 0 L.toArray w hB (by simpa using hfit) h1
  cases hq : P.info? ty with
  | none => simp [hq] at hi
  | some i =>
    have hs : cs.length = i.size := by simp [hq] at hi; omega
    simp only [Nat.add_zero] at this
    simp [storeVar, sizeOf, typeInfo, hq, Value.cells, hs, this, Go.splice]
theorem wp_store_midR {o' : Oper} {K : Act → World → Prop} (ho : o'.op = .store ty x y) (g o : Nat) (L cs : List Value) (hi : (P.info? ty).map (·.size) = some cs.length) (hB : Blk w g T L.toArray) (hfit : o + cs.length ≤ L.length) (h1 : ∀ v ∈ cs, v.oneCell' = true)
    (hx : a.eval x = .pointer (some ⟨g, o, none⟩)) (hy : a.eval y = .agg cs.toArray) (h : K (a.put o'.dst undef) (w.setRow g (Go.splice L o cs).toArray)) : o'.wp P a w K Q := by
  unfold Oper.wp execOp
  simp only [ho, hx, hy, Instr.storeAt, Instr.sureAddr, Sem.run_bind, Sem.run_pure, Result.andThen_ok, run_store_mid g o L cs hi hB hfit h1]
  exact h
theorem wpl_store_mid (g o : Nat) (L cs : List Value) (hi : (P.info? ty).map (·.size) = some cs.length) (hB : Blk w g T L.toArray) (hfit : o + cs.length ≤ L.length) (h1 : ∀ v ∈ cs, v.oneCell' = true)
    (hx : a.eval x = .pointer (some ⟨g, o, none⟩)) (hy : a.eval y = .agg cs.toArray) (h : wpList P ops Q rest (a.put d undef) (w.setRow g (Go.splice L o cs).toArray)) :
    wpList P ops Q ({ dst := d, op := .store ty x y, type := t, pos := p, after := af, guard := none } :: rest) a w :=
  wpList_plain rfl fun _ hK => wp_store_midR rfl g o L cs hi hB hfit h1 hx hy (hK _ _ h)
end
theorem load_mid_run {P : Program} {w : World} {o : Oper} {a : Act} {ty : TypeId} {x : Operand} {T : TypeId} (ho : o.op = .load ty x) (g off : Nat) (L cs : List Value) {n : Nat} {D : TypeDesc}
    (hu : P.underlying ty = some D) (hd : D.isRow = true) (hi : (P.info? ty).map (·.size) = some n) (hB : Blk w g T L.toArray) (hcs : (L.drop off).take n = cs) (hl : cs.length = n)
    (hx : a.eval x = .pointer (some ⟨g, off, none⟩)) : (execOp a.eval o).run P w = .ok (.value (.agg cs.toArray)) w := by
  unfold execOp
  simp only [ho, hx, Instr.loadAt, Instr.sureAddr, Sem.run_bind, Sem.run_pure, Result.andThen_ok, run_loadVar_mid w g off ty cs D (range_of_row hB hcs) hu hd (by rw [hl]; exact hi)]
theorem wpl_loadM {P : Program} {w : World} {ops : Array Oper} {rest : List Oper} {a : Act} {Q : Exit → Act → World → Prop} {d : Option Tmp} {ty : TypeId} {x : Operand} {t : TypeId} {p : String} {af : Array Edge} {gd : Option (Nat × Bool)} {T : TypeId} (g o : Nat) (L cs : List Value) {n : Nat} {D : TypeDesc}
    (hu : P.underlying ty = some D) (hd : D.isRow = true) (hi : (P.info? ty).map (·.size) = some n) (hB : Blk w g T L.toArray) (hcs : (L.drop o).take n = cs) (hl : cs.length = n)
    (hw : Region.wanted { dst := d, op := .load ty x, type := t, pos := p, after := af, guard := gd } (yielded ops a.tmps) = true)
    (hx : a.eval x = .pointer (some ⟨g, o, none⟩)) (h : wpList P ops Q rest (a.put d (.agg cs.toArray)) w) :
    wpList P ops Q ({ dst := d, op := .load ty x, type := t, pos := p, after := af, guard := gd } :: rest) a w :=
  BigFrame.wpList_want hw fun _ hK => by
    unfold Oper.wp
    rw [load_mid_run rfl g o L cs hu hd hi hB hcs hl hx]
    exact hK _ _ h
theorem wpl_store_fresh {P : Program} {w : World} {ops : Array Oper} {rest : List Oper} {a : Act} {Q : Exit → Act → World → Prop} {d : Option Tmp} {ty : TypeId} {x y : Operand} {t : TypeId} {p : String} {af : Array Edge} {Z : Array Value} {T : TypeId} (cs' : Array Value) {n : Nat}
    (hi : (P.info? ty).map (·.size) = some n) (hZ : Z.size = n) (hs' : cs'.size = n) (h1 : cs'.all (·.oneCell') = true)
    (hx : a.eval x = .pointer (some ⟨w.heap.size, 0, none⟩)) (hy : a.eval y = .agg cs') (h : ∀ z, Blk z w.heap.size T cs' → w.heap.size < z.heap.size → Below w.heap.size w z → wpList P ops Q rest (a.put d undef) z) :
    wpList P ops Q ({ dst := d, op := .store ty x y, type := t, pos := p, after := af, guard := none } :: rest) a (w.alloc (.cells Z T)) :=
  wpl_store w.heap.size T Z cs' hi (Blk.new w T Z) hZ hs' h1 hx hy (h _ ((Blk.new w T Z).setRow _) (by simp) ((below_alloc _ _).grown (grownBy_setRow _ _ _) (by simp) (fun q hq => by cases hq; exact Nat.le_refl _)))
end Go.Proofs.Ytmjdfajdompkeaa
