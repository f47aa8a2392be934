/- Aggregates compared, in a step. -/
import Derived.Test.YtbbcofpdfkhljaaDoorNn
namespace Go.Rat
open Go.RowKit Go
theorem run_eqAgg {P : Program} {w : World} {ρ : Operand → Value} {o : Oper} {t ty : TypeId} {x y : Operand} {xs ys : Array Value} {b : Bool}
    (ho : o.op = .binOp .eql t x y ty) (hm : P.eqGuardType P.depth t = false) (hx : ρ x = .agg xs) (hy : ρ y = .agg ys)
    (h : (Op.equalIn 10000 t (.agg xs) (.agg ys)).run P w = .ok b w) : (execOp ρ o).run P w = .ok (.value (.bool b)) w := by
  unfold execOp
  rw [ho]
  simp only [hx, hy, Sem.run_bind, run_eqGuard_agg _ _ _ _ _ _ _ hm, Result.andThen_ok, run_eql_struct, h]
  rfl
theorem run_neqAgg {P : Program} {w : World} {ρ : Operand → Value} {o : Oper} {t ty : TypeId} {x y : Operand} {xs ys : Array Value} {b : Bool}
    (ho : o.op = .binOp .neq t x y ty) (hm : P.eqGuardType P.depth t = false) (hx : ρ x = .agg xs) (hy : ρ y = .agg ys)
    (h : (Op.equalIn 10000 t (.agg xs) (.agg ys)).run P w = .ok b w) : (execOp ρ o).run P w = .ok (.value (.bool (!b))) w := by
  unfold execOp
  rw [ho]
  simp only [hx, hy, Sem.run_bind, run_eqGuard_agg _ _ _ _ _ _ _ hm, Result.andThen_ok, run_neq_struct, h]
  rfl
/-- A step that compares two aggregates, guarded or not. -/
theorem wpl_eqS {P : Program} {w : World} {ops : Array Oper} {rest : List Oper} {a : Act} {Q : Exit → Act → World → Prop} {d : Option Tmp} {tt : TypeId} {p : String} {af : Array Edge} {gd : Option (Nat × Bool)} {t ty : TypeId} {x y : Operand} {xs ys : Array Value} {b : Bool}
    (hm : P.eqGuardType P.depth t = false) (h : (Op.equalIn 10000 t (.agg xs) (.agg ys)).run P w = .ok b w)
    (hw : Region.wanted { dst := d, op := .binOp .eql t x y ty, type := tt, pos := p, after := af, guard := gd } (yielded ops a.tmps) = true)
    (hx : a.eval x = .agg xs) (hy : a.eval y = .agg ys) (hk : wpList P ops Q rest (a.put d (.bool b)) w) :
    wpList P ops Q ({ dst := d, op := .binOp .eql t x y ty, type := tt, pos := p, after := af, guard := gd } :: rest) a w :=
  BigFrame.wpList_want hw fun _ hK => by
    unfold Oper.wp
    rw [run_eqAgg rfl hm hx hy h]
    exact hK _ _ hk
theorem wpl_neqS {P : Program} {w : World} {ops : Array Oper} {rest : List Oper} {a : Act} {Q : Exit → Act → World → Prop} {d : Option Tmp} {tt : TypeId} {p : String} {af : Array Edge} {gd : Option (Nat × Bool)} {t ty : TypeId} {x y : Operand} {xs ys : Array Value} {b : Bool}
    (hm : P.eqGuardType P.depth t = false) (h : (Op.equalIn 10000 t (.agg xs) (.agg ys)).run P w = .ok b w)
    (hw : Region.wanted { dst := d, op := .binOp .neq t x y ty, type := tt, pos := p, after := af, guard := gd } (yielded ops a.tmps) = true)
    (hx : a.eval x = .agg xs) (hy : a.eval y = .agg ys) (hk : wpList P ops Q rest (a.put d (.bool (!b))) w) :
    wpList P ops Q ({ dst := d, op := .binOp .neq t x y ty, type := tt, pos := p, after := af, guard := gd } :: rest) a w :=
  BigFrame.wpList_want hw fun _ hK => by
    unfold Oper.wp
    rw [run_neqAgg rfl hm hx hy h]
    exact hK _ _ hk
end Go.Rat
namespace Go.Proofs.YtbbcofpdfkhljaaDoor
open Go.RowKit Go.Rat
theorem g34 : Tryd.prog.eqGuardType Tryd.prog.depth 34 = false := by kernel_rfl
theorem gRq : Tryd.prog.eqGuardType Tryd.prog.depth 44 = false := by kernel_rfl
theorem gRp : Tryd.prog.eqGuardType Tryd.prog.depth 36 = false := by kernel_rfl
theorem gTold : Tryd.prog.eqGuardType Tryd.prog.depth 38 = false := by kernel_rfl
theorem gRTold : Tryd.prog.eqGuardType Tryd.prog.depth 52 = false := by kernel_rfl
theorem gSaid : Tryd.prog.eqGuardType Tryd.prog.depth 70 = false := by kernel_rfl
end Go.Proofs.YtbbcofpdfkhljaaDoor
