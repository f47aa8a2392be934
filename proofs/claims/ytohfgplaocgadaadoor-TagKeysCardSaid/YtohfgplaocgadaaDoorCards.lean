/-
  DERIVED. GIVEN WITH THE SEED: THE CARDS: each row of YtohfgplaocgadaaDoorRows.lean that lists a variable, with what it lists TIED to the program's text (the seventh form; the later family's looks); each row that meets fmt, with fmt's text TOLD by the authors' own Lean function (tested against real Go, not proved from fmt's source: count such statements apart). THE CARD IS WHAT COUNTS. Prove the row's statement (the work); the ties are given (YtohfgplaocgadaaDoorTie.lean); close each card by the builder's one call (the guide's Derived/Test/ToyasCard.lean, 'card_holds'). Laid BY PROGRAM, IN A SANDBOX (cutbox-door.mjs). By AI agents, Wed Nov 11 2026. No macro, syntax, notation, axiom, sorry.
-/
import Derived.Test.YtohfgplaocgadaaDoorRows
import GoSem.ClaimSeven
namespace Go.Proofs.YtohfgplaocgadaaDoor
namespace Rows

/-- THE TIED CARD OF 'ratchetlaw02.ShaBlocks'. -/
def shaBlocksCard : Claim7 := { stood := { row := shaBlocksRow, standIns := [], harness := (true, "e1c0d8811c9bbfe9e123b9cfd623124c9e3c841e5b8ff4cb9d5e4d6aa1a44c75"), looks := false }, kinds := [], alts := [], laidByText := true, laidKinds := [.data], laidTests := true, laidLooks := .later }
def ShaBlocksCardSaid : Prop := Claim7.holds Tryd.pinned (.plain (OpenSpec.ofChange shaBlocksSpec)) shaBlocksCard

/-- THE TIED CARD OF 'ratchetlaw02.ShaSums'. -/
def shaSumsCard : Claim7 := { stood := { row := shaSumsRow, standIns := [], harness := (true, "e1c0d8811c9bbfe9e123b9cfd623124c9e3c841e5b8ff4cb9d5e4d6aa1a44c75"), looks := false }, kinds := [], alts := [], laidByText := true, laidKinds := [.data], laidTests := true, laidLooks := .later }
def ShaSumsCardSaid : Prop := Claim7.holds Tryd.pinned (.plain (OpenSpec.ofChange shaSumsSpec)) shaSumsCard

/-- THE TIED CARD OF 'ratchetlaw02.ShaGoesOn'. -/
def shaGoesOnCard : Claim7 := { stood := { row := shaGoesOnRow, standIns := [], harness := (true, "e1c0d8811c9bbfe9e123b9cfd623124c9e3c841e5b8ff4cb9d5e4d6aa1a44c75"), looks := false }, kinds := [], alts := [], laidByText := true, laidKinds := [.data], laidTests := true, laidLooks := .later }
def ShaGoesOnCardSaid : Prop := Claim7.holds Tryd.pinned (.plain (OpenSpec.ofChange shaGoesOnSpec)) shaGoesOnCard

/-- THE TIED CARD OF 'ratchetlaw03.TagNoughts'. -/
def tagNoughtsCard : Claim7 := { stood := { row := tagNoughtsRow, standIns := [], harness := (true, "e1c0d8811c9bbfe9e123b9cfd623124c9e3c841e5b8ff4cb9d5e4d6aa1a44c75"), looks := false }, kinds := [], alts := [], laidByText := true, laidKinds := [.data], laidTests := true, laidLooks := .later }
def TagNoughtsCardSaid : Prop := Claim7.holds Tryd.pinned (.plain (OpenSpec.ofChange tagNoughtsSpec)) tagNoughtsCard

/-- THE TIED CARD OF 'ratchetlaw03.TagSame'. -/
def tagSameCard : Claim7 := { stood := { row := tagSameRow, standIns := [], harness := (true, "e1c0d8811c9bbfe9e123b9cfd623124c9e3c841e5b8ff4cb9d5e4d6aa1a44c75"), looks := false }, kinds := [], alts := [], laidByText := true, laidKinds := [.data], laidTests := true, laidLooks := .later }
def TagSameCardSaid : Prop := Claim7.holds Tryd.pinned (.plain (OpenSpec.ofChange tagSameSpec)) tagSameCard

/-- THE TIED CARD OF 'ratchetlaw03.TagPlays'. -/
def tagPlaysCard : Claim7 := { stood := { row := tagPlaysRow, standIns := [], harness := (true, "e1c0d8811c9bbfe9e123b9cfd623124c9e3c841e5b8ff4cb9d5e4d6aa1a44c75"), looks := false }, kinds := [], alts := [], laidByText := true, laidKinds := [.data], laidTests := true, laidLooks := .later }
def TagPlaysCardSaid : Prop := Claim7.holds Tryd.pinned (.plain (OpenSpec.ofChange tagPlaysSpec)) tagPlaysCard

/-- THE TIED CARD OF 'ratchetlaw03.TagOthers'. -/
def tagOthersCard : Claim7 := { stood := { row := tagOthersRow, standIns := [], harness := (true, "e1c0d8811c9bbfe9e123b9cfd623124c9e3c841e5b8ff4cb9d5e4d6aa1a44c75"), looks := false }, kinds := [], alts := [], laidByText := true, laidKinds := [.data], laidTests := true, laidLooks := .later }
def TagOthersCardSaid : Prop := Claim7.holds Tryd.pinned (.plain (OpenSpec.ofChange tagOthersSpec)) tagOthersCard

/-- THE TIED CARD OF 'ratchetlaw03.TagKeys'. -/
def tagKeysCard : Claim7 := { stood := { row := tagKeysRow, standIns := [], harness := (true, "e1c0d8811c9bbfe9e123b9cfd623124c9e3c841e5b8ff4cb9d5e4d6aa1a44c75"), looks := false }, kinds := [], alts := [], laidByText := true, laidKinds := [.data], laidTests := true, laidLooks := .later }
def TagKeysCardSaid : Prop := Claim7.holds Tryd.pinned (.plain (OpenSpec.ofChange tagKeysSpec)) tagKeysCard

/-- THE SECOND FORM's CARD OF 'ratchetlaw02.ShaBlocks'. -/
def shaBlocksUptoCard : Claim7 := { stood := { row := shaBlocksUptoRow, standIns := [], harness := (true, "e1c0d8811c9bbfe9e123b9cfd623124c9e3c841e5b8ff4cb9d5e4d6aa1a44c75"), looks := false }, kinds := [], alts := [], laidByText := true, laidKinds := [.data], laidTests := true, laidLooks := .later }
def ShaBlocksUptoCardSaid : Prop := Claim7.holds Tryd.pinned (.plain (OpenSpec.upto shaBlocksSpec)) shaBlocksUptoCard

/-- THE SECOND FORM's CARD OF 'ratchetlaw02.ShaSums'. -/
def shaSumsUptoCard : Claim7 := { stood := { row := shaSumsUptoRow, standIns := [], harness := (true, "e1c0d8811c9bbfe9e123b9cfd623124c9e3c841e5b8ff4cb9d5e4d6aa1a44c75"), looks := false }, kinds := [], alts := [], laidByText := true, laidKinds := [.data], laidTests := true, laidLooks := .later }
def ShaSumsUptoCardSaid : Prop := Claim7.holds Tryd.pinned (.plain (OpenSpec.upto shaSumsSpec)) shaSumsUptoCard

/-- THE SECOND FORM's CARD OF 'ratchetlaw02.ShaGoesOn'. -/
def shaGoesOnUptoCard : Claim7 := { stood := { row := shaGoesOnUptoRow, standIns := [], harness := (true, "e1c0d8811c9bbfe9e123b9cfd623124c9e3c841e5b8ff4cb9d5e4d6aa1a44c75"), looks := false }, kinds := [], alts := [], laidByText := true, laidKinds := [.data], laidTests := true, laidLooks := .later }
def ShaGoesOnUptoCardSaid : Prop := Claim7.holds Tryd.pinned (.plain (OpenSpec.upto shaGoesOnSpec)) shaGoesOnUptoCard

/-- THE SECOND FORM's CARD OF 'ratchetlaw03.TagNoughts'. -/
def tagNoughtsUptoCard : Claim7 := { stood := { row := tagNoughtsUptoRow, standIns := [], harness := (true, "e1c0d8811c9bbfe9e123b9cfd623124c9e3c841e5b8ff4cb9d5e4d6aa1a44c75"), looks := false }, kinds := [], alts := [], laidByText := true, laidKinds := [.data], laidTests := true, laidLooks := .later }
def TagNoughtsUptoCardSaid : Prop := Claim7.holds Tryd.pinned (.plain (OpenSpec.upto tagNoughtsSpec)) tagNoughtsUptoCard

/-- THE SECOND FORM's CARD OF 'ratchetlaw03.TagSame'. -/
def tagSameUptoCard : Claim7 := { stood := { row := tagSameUptoRow, standIns := [], harness := (true, "e1c0d8811c9bbfe9e123b9cfd623124c9e3c841e5b8ff4cb9d5e4d6aa1a44c75"), looks := false }, kinds := [], alts := [], laidByText := true, laidKinds := [.data], laidTests := true, laidLooks := .later }
def TagSameUptoCardSaid : Prop := Claim7.holds Tryd.pinned (.plain (OpenSpec.upto tagSameSpec)) tagSameUptoCard

/-- THE SECOND FORM's CARD OF 'ratchetlaw03.TagPlays'. -/
def tagPlaysUptoCard : Claim7 := { stood := { row := tagPlaysUptoRow, standIns := [], harness := (true, "e1c0d8811c9bbfe9e123b9cfd623124c9e3c841e5b8ff4cb9d5e4d6aa1a44c75"), looks := false }, kinds := [], alts := [], laidByText := true, laidKinds := [.data], laidTests := true, laidLooks := .later }
def TagPlaysUptoCardSaid : Prop := Claim7.holds Tryd.pinned (.plain (OpenSpec.upto tagPlaysSpec)) tagPlaysUptoCard

/-- THE SECOND FORM's CARD OF 'ratchetlaw03.TagOthers'. -/
def tagOthersUptoCard : Claim7 := { stood := { row := tagOthersUptoRow, standIns := [], harness := (true, "e1c0d8811c9bbfe9e123b9cfd623124c9e3c841e5b8ff4cb9d5e4d6aa1a44c75"), looks := false }, kinds := [], alts := [], laidByText := true, laidKinds := [.data], laidTests := true, laidLooks := .later }
def TagOthersUptoCardSaid : Prop := Claim7.holds Tryd.pinned (.plain (OpenSpec.upto tagOthersSpec)) tagOthersUptoCard

/-- THE SECOND FORM's CARD OF 'ratchetlaw03.TagKeys'. -/
def tagKeysUptoCard : Claim7 := { stood := { row := tagKeysUptoRow, standIns := [], harness := (true, "e1c0d8811c9bbfe9e123b9cfd623124c9e3c841e5b8ff4cb9d5e4d6aa1a44c75"), looks := false }, kinds := [], alts := [], laidByText := true, laidKinds := [.data], laidTests := true, laidLooks := .later }
def TagKeysUptoCardSaid : Prop := Claim7.holds Tryd.pinned (.plain (OpenSpec.upto tagKeysSpec)) tagKeysUptoCard
end Rows
end Go.Proofs.YtohfgplaocgadaaDoor
