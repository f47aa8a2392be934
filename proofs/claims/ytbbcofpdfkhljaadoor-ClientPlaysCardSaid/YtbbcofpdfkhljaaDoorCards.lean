/-
  DERIVED. GIVEN WITH THE SEED: THE CARDS: each row of YtbbcofpdfkhljaaDoorRows.lean that lists a variable, with what it lists TIED to the program's text (the seventh form; the later family's looks); each row that meets fmt, with fmt's text TOLD by the authors' own Lean function (tested against real Go, not proved from fmt's source: count such statements apart). THE CARD IS WHAT COUNTS. Prove the row's statement (the work); the ties are given (YtbbcofpdfkhljaaDoorTie.lean); close each card by the builder's one call (the guide's Derived/Test/ToyasCard.lean, 'card_holds'). Laid BY PROGRAM, IN A SANDBOX (cutbox-door.mjs). By AI agents, Wed Nov 11 2026. No macro, syntax, notation, axiom, sorry.
-/
import Derived.Test.YtbbcofpdfkhljaaDoorRows
import GoSem.ClaimSeven
namespace Go.Proofs.YtbbcofpdfkhljaaDoor
namespace Rows

/-- THE TIED CARD OF 'ratchetlaw25.ClientPlays'. -/
def clientPlaysCard : Claim7 := { stood := { row := clientPlaysRow, standIns := [], harness := (true, "b7a46ad69f8ccd93d171c258155234c71985d71e23fc22a7f8b50aa6bcfee7dd"), looks := false }, kinds := [], alts := [], laidByText := true, laidKinds := [.data], laidTests := true, laidLooks := .later }
def ClientPlaysCardSaid : Prop := Claim7.holds Tryd.pinned (.plain (OpenSpec.ofChange clientPlaysSpec)) clientPlaysCard

/-- THE TIED CARD OF 'ratchetlaw25.ClientAccepts'. -/
def clientAcceptsCard : Claim7 := { stood := { row := clientAcceptsRow, standIns := [], harness := (true, "b7a46ad69f8ccd93d171c258155234c71985d71e23fc22a7f8b50aa6bcfee7dd"), looks := false }, kinds := [], alts := [], laidByText := true, laidKinds := [.data], laidTests := true, laidLooks := .later }
def ClientAcceptsCardSaid : Prop := Claim7.holds Tryd.pinned (.plain (OpenSpec.ofChange clientAcceptsSpec)) clientAcceptsCard

/-- THE TIED CARD OF 'ratchetlaw25.ClientNil'. -/
def clientNilCard : Claim7 := { stood := { row := clientNilRow, standIns := [], harness := (true, "b7a46ad69f8ccd93d171c258155234c71985d71e23fc22a7f8b50aa6bcfee7dd"), looks := false }, kinds := [], alts := [], laidByText := true, laidKinds := [.data], laidTests := true, laidLooks := .later }
def ClientNilCardSaid : Prop := Claim7.holds Tryd.pinned (.plain (OpenSpec.ofChange clientNilSpec)) clientNilCard

/-- THE TIED CARD OF 'ratchetlaw25.ClientLies'. -/
def clientLiesCard : Claim7 := { stood := { row := clientLiesRow, standIns := [], harness := (true, "b7a46ad69f8ccd93d171c258155234c71985d71e23fc22a7f8b50aa6bcfee7dd"), looks := false }, kinds := [], alts := [], laidByText := true, laidKinds := [.data], laidTests := true, laidLooks := .later }
def ClientLiesCardSaid : Prop := Claim7.holds Tryd.pinned (.plain (OpenSpec.ofChange clientLiesSpec)) clientLiesCard

/-- THE SECOND FORM's CARD OF 'ratchetlaw25.ClientPlays'. -/
def clientPlaysUptoCard : Claim7 := { stood := { row := clientPlaysUptoRow, standIns := [], harness := (true, "b7a46ad69f8ccd93d171c258155234c71985d71e23fc22a7f8b50aa6bcfee7dd"), looks := false }, kinds := [], alts := [], laidByText := true, laidKinds := [.data], laidTests := true, laidLooks := .later }
def ClientPlaysUptoCardSaid : Prop := Claim7.holds Tryd.pinned (.plain (OpenSpec.upto clientPlaysSpec)) clientPlaysUptoCard

/-- THE SECOND FORM's CARD OF 'ratchetlaw25.ClientAccepts'. -/
def clientAcceptsUptoCard : Claim7 := { stood := { row := clientAcceptsUptoRow, standIns := [], harness := (true, "b7a46ad69f8ccd93d171c258155234c71985d71e23fc22a7f8b50aa6bcfee7dd"), looks := false }, kinds := [], alts := [], laidByText := true, laidKinds := [.data], laidTests := true, laidLooks := .later }
def ClientAcceptsUptoCardSaid : Prop := Claim7.holds Tryd.pinned (.plain (OpenSpec.upto clientAcceptsSpec)) clientAcceptsUptoCard

/-- THE SECOND FORM's CARD OF 'ratchetlaw25.ClientNil'. -/
def clientNilUptoCard : Claim7 := { stood := { row := clientNilUptoRow, standIns := [], harness := (true, "b7a46ad69f8ccd93d171c258155234c71985d71e23fc22a7f8b50aa6bcfee7dd"), looks := false }, kinds := [], alts := [], laidByText := true, laidKinds := [.data], laidTests := true, laidLooks := .later }
def ClientNilUptoCardSaid : Prop := Claim7.holds Tryd.pinned (.plain (OpenSpec.upto clientNilSpec)) clientNilUptoCard

/-- THE SECOND FORM's CARD OF 'ratchetlaw25.ClientLies'. -/
def clientLiesUptoCard : Claim7 := { stood := { row := clientLiesUptoRow, standIns := [], harness := (true, "b7a46ad69f8ccd93d171c258155234c71985d71e23fc22a7f8b50aa6bcfee7dd"), looks := false }, kinds := [], alts := [], laidByText := true, laidKinds := [.data], laidTests := true, laidLooks := .later }
def ClientLiesUptoCardSaid : Prop := Claim7.holds Tryd.pinned (.plain (OpenSpec.upto clientLiesSpec)) clientLiesUptoCard
end Rows
end Go.Proofs.YtbbcofpdfkhljaaDoor
