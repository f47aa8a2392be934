/- Arguments opened: bytes within a struct. -/
import Derived.Test.YtmjdfajdompkeaaOpen
namespace Go.Rat
open Go.ChangeShapes Go.WideShapes Go.ChangeAt Go.RowKit Go
/-- A slice of bytes: where, how many, what room, which. -/
structure SB where
  A : Option Addr
  n : Nat
  c : Nat
  xs : List UInt8
def SB.v (s : SB) : Value := .slice s.A s.n s.c
def SB.ok (w : World) (s : SB) : Prop := RB w s.A s.n s.xs ∧ s.n ≤ s.c ∧ s.c ≤ maxLen
theorem rds_bytes {P : Program} {t e : TypeId} (hu : P.underlying t = some (.slice e)) (he : P.underlying e = some (.int .u8)) (hs : P.cellsOf e = 1) : Rds P t (fun s : SB => [s.v]) SB.ok := by
  intro H enc w base spare held fuel cs x h
  have hcs : ∃ A n c, cs = [.slice A n c] := by
    rcases Go.Deep.open_slice hu h with ⟨h1, _⟩ | ⟨a, len, cap, _, _, _, _, h1, _⟩
    · exact ⟨_, _, _, h1⟩
    · exact ⟨_, _, _, h1⟩
  obtain ⟨A, n, c, rfl⟩ := hcs
  obtain ⟨l, h1, h2, _, h3, h4, _⟩ := slice_cells hu (rds_u8 he) (size := 1) hs (by omega) h
  refine ⟨⟨A, n, c, l⟩, rfl, ?_, h3, h4⟩
  rw [show (l.flatMap fun x => [Value.int .u8 (x.toNat : Int)]) = bvs l from flat_bytes l] at h2
  exact h2
end Go.Rat
