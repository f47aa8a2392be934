/- What the row's list gives: the table's cells; a world for the witness. -/
import Derived.Test.YtohfgplaocgadaaDoorInts
import Derived.Test.YtohfgplaocgadaaDoorRk
import Derived.WalkKit
import Derived.Deep.DeepHandedRow
import Derived.Lib.LaidTab
namespace Go.Proofs.YtohfgplaocgadaaDoor
open Go.ChangeShapes Go.WideShapes Go.ChangeAt Go.RowKit Go.Rat
theorem own : ownKnob Tryd.prog.godebug = none := by kernel_rfl
theorem laidOut : laidOutB Tryd.prog = true := by kernel_rfl
theorem gTab : Tryd.prog.globalNamed "ratchet/sha.table" = some 0 := by kernel_rfl
theorem gTabType : (Tryd.prog.globals[0]?).map (·.type) = some 46 := by kernel_rfl
theorem tab_of {W : World} (h : laidMetH Tryd.prog [("ratchet/sha.table", Rows.laid_ratchet_sha_table)] W) : Tab W tblL := fun i hi =>
  (Lib.tabIs_of_head (zs := tblL) (k := .u32) (rest := []) gTab gTabType Tryd.underlying46 Tryd.underlying22 (by kernel_rfl) (by kernel_rfl) h).cell gTab i (by rw [tblL_length]; exact hi)
noncomputable def laidWorld (os : Os) : World :=
  { World.holding Tryd.prog os ⟨#[], #[], []⟩ with heap := (World.holding Tryd.prog os ⟨#[], #[], []⟩).heap.modify 0 fun
      | .cells _ t frozen => .cells (u32s tblL).toArray t frozen
      | o => o }
end Go.Proofs.YtohfgplaocgadaaDoor
