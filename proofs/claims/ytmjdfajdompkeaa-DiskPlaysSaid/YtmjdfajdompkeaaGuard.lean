/- A load of an array under a guard that says yes. -/
import Derived.Test.YtmjdfajdompkeaaArr
import Derived.Deep.MidRow
namespace Go.Rat
open Go Go.RowKit
theorem load_row_run {P : Program} {w : World} {o : Oper} {a : Act} {ty : TypeId} {x : Operand} {T : TypeId} (ho : o.op = .load ty x) (g : Nat) (cs : Array Value) {n : Nat} {D : TypeDesc}
    (hu : P.underlying ty = some D) (hd : D.isRow = true) (hi : (P.info? ty).map (·.size) = some n) (hB : Blk w g T cs) (hl : cs.size = n)
    (hx : a.eval x = .pointer (some ⟨g, 0, none⟩)) : (execOp a.eval o).run P w = .ok (.value (.agg cs)) w := by
  have hr : w.rangeAt g 0 cs.toList := by
    intro i v hv
    have := hB.cell i
    rw [Nat.zero_add, this, ← Array.getElem?_toList]
    exact hv
  unfold execOp
  simp only [ho, hx, Instr.loadAt, Instr.sureAddr, Sem.run_bind, Sem.run_pure, Result.andThen_ok, run_loadVar_mid w g 0 ty cs.toList D hr hu hd (by rw [hi]; simp [hl])]
theorem wpl_loadG {P : Program} {w : World} {ops : Array Oper} {rest : List Oper} {a : Act} {Q : Exit → Act → World → Prop} {d : Option Tmp} {ty : TypeId} {x : Operand} {t : TypeId} {p : String} {af : Array Edge} {gd : Option (Nat × Bool)} (g : Nat) (T : TypeId) (cs : Array Value) {n : Nat} {e : TypeId}
    (hu : P.underlying ty = some (.array n e)) (hi : (P.info? ty).map (·.size) = some n) (hB : Blk w g T cs) (hs : cs.size = n)
    (hw : Region.wanted { dst := d, op := .load ty x, type := t, pos := p, after := af, guard := gd } (yielded ops a.tmps) = true)
    (hx : a.eval x = .pointer (some ⟨g, 0, none⟩)) (h : wpList P ops Q rest (a.put d (.agg cs)) w) :
    wpList P ops Q ({ dst := d, op := .load ty x, type := t, pos := p, after := af, guard := gd } :: rest) a w :=
  BigFrame.wpList_want hw fun _ hK => by
    unfold Oper.wp
    rw [load_row_run rfl g cs hu rfl hi hB hs hx]
    exact hK _ _ h
end Go.Rat
