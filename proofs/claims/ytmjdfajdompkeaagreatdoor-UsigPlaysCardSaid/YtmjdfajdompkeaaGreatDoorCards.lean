/-
  DERIVED. GIVEN WITH THE SEED: THE CARDS: each row of YtmjdfajdompkeaaGreatDoorRows.lean that lists a variable, with what it lists TIED to the program's text (the seventh form; the later family's looks); each row that meets fmt, with fmt's text TOLD by the authors' own Lean function (tested against real Go, not proved from fmt's source: count such statements apart). THE CARD IS WHAT COUNTS. Prove the row's statement (the work); the ties are given (YtmjdfajdompkeaaGreatDoorTie.lean); close each card by the builder's one call (the guide's Derived/Test/ToyasCard.lean, 'card_holds'). Laid BY PROGRAM, IN A SANDBOX (cutbox-door.mjs). By AI agents, Wed Nov 11 2026. No macro, syntax, notation, axiom, sorry.
-/
import Derived.Test.YtmjdfajdompkeaaGreatDoorRows
import GoSem.ClaimSeven
namespace Go.Proofs.YtmjdfajdompkeaaGreatDoor
namespace Rows

/-- THE TIED CARD OF 'ratchetlaw07.UsigPlays'. -/
def usigPlaysCard : Claim7 := { stood := { row := usigPlaysRow, standIns := [], harness := (true, "9b3cf7961aabcf343c1b256957e525b3d2d353e6d84339947f7221bd90d86e47"), looks := false }, kinds := [], alts := [], laidByText := true, laidKinds := [.data], laidTests := true, laidLooks := .later }
def UsigPlaysCardSaid : Prop := Claim7.holds Tryz.pinned (.plain (OpenSpec.ofChange usigPlaysSpec)) usigPlaysCard

/-- THE SECOND FORM's CARD OF 'ratchetlaw07.UsigPlays'. -/
def usigPlaysUptoCard : Claim7 := { stood := { row := usigPlaysUptoRow, standIns := [], harness := (true, "9b3cf7961aabcf343c1b256957e525b3d2d353e6d84339947f7221bd90d86e47"), looks := false }, kinds := [], alts := [], laidByText := true, laidKinds := [.data], laidTests := true, laidLooks := .later }
def UsigPlaysUptoCardSaid : Prop := Claim7.holds Tryz.pinned (.plain (OpenSpec.upto usigPlaysSpec)) usigPlaysUptoCard
end Rows
end Go.Proofs.YtmjdfajdompkeaaGreatDoor
