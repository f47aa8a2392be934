/- Arguments opened: a struct of five. -/
import Derived.Test.YtmjdfajdompkeaaRds
namespace Go.Rat
open Go.ChangeShapes Go.WideShapes Go.ChangeAt Go.RowKit Go
theorem rds_struct5 {P : Program} {t : TypeId} {f1 f2 f3 f4 f5 : Field} {α β γ δ ε : Type} {c1 : α → List Value} {c2 : β → List Value} {c3 : γ → List Value} {c4 : δ → List Value} {c5 : ε → List Value} {I1 : World → α → Prop} {I2 : World → β → Prop} {I3 : World → γ → Prop} {I4 : World → δ → Prop} {I5 : World → ε → Prop} (hu : P.underlying t = some (.struct #[f1, f2, f3, f4, f5]))
    (h1 : Rds P f1.type c1 I1) (h2 : Rds P f2.type c2 I2) (h3 : Rds P f3.type c3 I3) (h4 : Rds P f4.type c4 I4) (h5 : Rds P f5.type c5 I5)
    (o1 : f1.offset = 0) (o2 : f2.offset = P.cellsOf f1.type) (o3 : f3.offset = P.cellsOf f1.type + P.cellsOf f2.type) (o4 : f4.offset = P.cellsOf f1.type + P.cellsOf f2.type + P.cellsOf f3.type) (o5 : f5.offset = P.cellsOf f1.type + P.cellsOf f2.type + P.cellsOf f3.type + P.cellsOf f4.type)
    (ot : P.cellsOf t = P.cellsOf f1.type + P.cellsOf f2.type + P.cellsOf f3.type + P.cellsOf f4.type + P.cellsOf f5.type) :
    Rds P t (fun x : α × β × γ × δ × ε => c1 x.1 ++ (c2 x.2.1 ++ (c3 x.2.2.1 ++ (c4 x.2.2.2.1 ++ c5 x.2.2.2.2)))) (fun w x => I1 w x.1 ∧ I2 w x.2.1 ∧ I3 w x.2.2.1 ∧ I4 w x.2.2.2.1 ∧ I5 w x.2.2.2.2) := by
  intro H enc w base spare held fuel cs x h
  obtain ⟨xs, n, _, _, hlen, hxs, hf⟩ := DataW.trod_struct hu h
  have e1 := hf 0 f1 rfl
  have e2 := hf 1 f2 rfl
  have e3 := hf 2 f3 rfl
  have e4 := hf 3 f4 rfl
  have e5 := hf 4 f5 rfl
  rw [List.getElem?_eq_getElem (by rw [hxs]; simp)] at e1 e2 e3 e4 e5
  obtain ⟨a, ha, i1⟩ := h1 _ _ _ _ _ _ _ _ _ e1
  obtain ⟨b, hb, i2⟩ := h2 _ _ _ _ _ _ _ _ _ e2
  obtain ⟨c, hc, i3⟩ := h3 _ _ _ _ _ _ _ _ _ e3
  obtain ⟨d, hd, i4⟩ := h4 _ _ _ _ _ _ _ _ _ e4
  obtain ⟨e, he, i5⟩ := h5 _ _ _ _ _ _ _ _ _ e5
  refine ⟨(a, b, c, d, e), ?_, i1, i2, i3, i4, i5⟩
  have p1 := cut_piece ha
  have p2 := cut_piece hb
  have p3 := cut_piece hc
  have p4 := cut_piece hd
  have p5 := cut_piece he
  rw [o1, List.drop_zero, Nat.zero_add, ← o2, p2, o2, ← o3, p3, o3, ← o4, p4, o4, ← o5, p5, o5, ← ot, ← hlen, List.drop_length, List.append_nil] at p1
  exact p1
end Go.Rat
