/-
  DERIVED. GIVEN WITH THE SEED: THE CARDS: each row of YtmjdfajdompkeaaDoorRows.lean that lists a variable, with what it lists TIED to the program's text (the seventh form; the later family's looks); each row that meets fmt, with fmt's text TOLD by the authors' own Lean function (tested against real Go, not proved from fmt's source: count such statements apart). THE CARD IS WHAT COUNTS. Prove the row's statement (the work); the ties are given (YtmjdfajdompkeaaDoorTie.lean); close each card by the builder's one call (the guide's Derived/Test/ToyasCard.lean, 'card_holds'). Laid BY PROGRAM, IN A SANDBOX (cutbox-door.mjs). By AI agents, Wed Nov 11 2026. No macro, syntax, notation, axiom, sorry.
-/
import Derived.Test.YtmjdfajdompkeaaDoorRows
import GoSem.ClaimSeven
namespace Go.Proofs.YtmjdfajdompkeaaDoor
namespace Rows

/-- THE TIED CARD OF 'ratchetlaw07.UsigChecks'. -/
def usigChecksCard : Claim7 := { stood := { row := usigChecksRow, standIns := [], harness := (true, "cef892051ce4e6dcce3e349016fb767260eea798e885ee2a574687603b3a28a8"), looks := false }, kinds := [], alts := [], laidByText := true, laidKinds := [.data], laidTests := true, laidLooks := .later }
def UsigChecksCardSaid : Prop := Claim7.holds Tryd.pinned (.plain (OpenSpec.ofChange usigChecksSpec)) usigChecksCard

/-- THE TIED CARD OF 'ratchetlaw07.UsigEnds'. -/
def usigEndsCard : Claim7 := { stood := { row := usigEndsRow, standIns := [], harness := (true, "cef892051ce4e6dcce3e349016fb767260eea798e885ee2a574687603b3a28a8"), looks := false }, kinds := [], alts := [], laidByText := true, laidKinds := [.data], laidTests := true, laidLooks := .later }
def UsigEndsCardSaid : Prop := Claim7.holds Tryd.pinned (.plain (OpenSpec.ofChange usigEndsSpec)) usigEndsCard

/-- THE TIED CARD OF 'ratchetlaw07.UsigNil'. -/
def usigNilCard : Claim7 := { stood := { row := usigNilRow, standIns := [], harness := (true, "cef892051ce4e6dcce3e349016fb767260eea798e885ee2a574687603b3a28a8"), looks := false }, kinds := [], alts := [], laidByText := true, laidKinds := [.data], laidTests := true, laidLooks := .later }
def UsigNilCardSaid : Prop := Claim7.holds Tryd.pinned (.plain (OpenSpec.ofChange usigNilSpec)) usigNilCard

/-- THE TIED CARD OF 'ratchetlaw07.UsigApart'. -/
def usigApartCard : Claim7 := { stood := { row := usigApartRow, standIns := [], harness := (true, "cef892051ce4e6dcce3e349016fb767260eea798e885ee2a574687603b3a28a8"), looks := false }, kinds := [], alts := [], laidByText := true, laidKinds := [.data], laidTests := true, laidLooks := .later }
def UsigApartCardSaid : Prop := Claim7.holds Tryd.pinned (.plain (OpenSpec.ofChange usigApartSpec)) usigApartCard

/-- THE TIED CARD OF 'ratchetlaw07.UsigLost'. -/
def usigLostCard : Claim7 := { stood := { row := usigLostRow, standIns := [], harness := (true, "cef892051ce4e6dcce3e349016fb767260eea798e885ee2a574687603b3a28a8"), looks := false }, kinds := [], alts := [], laidByText := true, laidKinds := [.data], laidTests := true, laidLooks := .later }
def UsigLostCardSaid : Prop := Claim7.holds Tryd.pinned (.plain (OpenSpec.ofChange usigLostSpec)) usigLostCard

/-- THE TIED CARD OF 'ratchetlaw07.UsigOnce'. -/
def usigOnceCard : Claim7 := { stood := { row := usigOnceRow, standIns := [], harness := (true, "cef892051ce4e6dcce3e349016fb767260eea798e885ee2a574687603b3a28a8"), looks := false }, kinds := [], alts := [], laidByText := true, laidKinds := [.data], laidTests := true, laidLooks := .later }
def UsigOnceCardSaid : Prop := Claim7.holds Tryd.pinned (.plain (OpenSpec.ofChange usigOnceSpec)) usigOnceCard

/-- THE SECOND FORM's CARD OF 'ratchetlaw07.UsigChecks'. -/
def usigChecksUptoCard : Claim7 := { stood := { row := usigChecksUptoRow, standIns := [], harness := (true, "cef892051ce4e6dcce3e349016fb767260eea798e885ee2a574687603b3a28a8"), looks := false }, kinds := [], alts := [], laidByText := true, laidKinds := [.data], laidTests := true, laidLooks := .later }
def UsigChecksUptoCardSaid : Prop := Claim7.holds Tryd.pinned (.plain (OpenSpec.upto usigChecksSpec)) usigChecksUptoCard

/-- THE SECOND FORM's CARD OF 'ratchetlaw07.UsigEnds'. -/
def usigEndsUptoCard : Claim7 := { stood := { row := usigEndsUptoRow, standIns := [], harness := (true, "cef892051ce4e6dcce3e349016fb767260eea798e885ee2a574687603b3a28a8"), looks := false }, kinds := [], alts := [], laidByText := true, laidKinds := [.data], laidTests := true, laidLooks := .later }
def UsigEndsUptoCardSaid : Prop := Claim7.holds Tryd.pinned (.plain (OpenSpec.upto usigEndsSpec)) usigEndsUptoCard

/-- THE SECOND FORM's CARD OF 'ratchetlaw07.UsigNil'. -/
def usigNilUptoCard : Claim7 := { stood := { row := usigNilUptoRow, standIns := [], harness := (true, "cef892051ce4e6dcce3e349016fb767260eea798e885ee2a574687603b3a28a8"), looks := false }, kinds := [], alts := [], laidByText := true, laidKinds := [.data], laidTests := true, laidLooks := .later }
def UsigNilUptoCardSaid : Prop := Claim7.holds Tryd.pinned (.plain (OpenSpec.upto usigNilSpec)) usigNilUptoCard

/-- THE SECOND FORM's CARD OF 'ratchetlaw07.UsigApart'. -/
def usigApartUptoCard : Claim7 := { stood := { row := usigApartUptoRow, standIns := [], harness := (true, "cef892051ce4e6dcce3e349016fb767260eea798e885ee2a574687603b3a28a8"), looks := false }, kinds := [], alts := [], laidByText := true, laidKinds := [.data], laidTests := true, laidLooks := .later }
def UsigApartUptoCardSaid : Prop := Claim7.holds Tryd.pinned (.plain (OpenSpec.upto usigApartSpec)) usigApartUptoCard

/-- THE SECOND FORM's CARD OF 'ratchetlaw07.UsigLost'. -/
def usigLostUptoCard : Claim7 := { stood := { row := usigLostUptoRow, standIns := [], harness := (true, "cef892051ce4e6dcce3e349016fb767260eea798e885ee2a574687603b3a28a8"), looks := false }, kinds := [], alts := [], laidByText := true, laidKinds := [.data], laidTests := true, laidLooks := .later }
def UsigLostUptoCardSaid : Prop := Claim7.holds Tryd.pinned (.plain (OpenSpec.upto usigLostSpec)) usigLostUptoCard

/-- THE SECOND FORM's CARD OF 'ratchetlaw07.UsigOnce'. -/
def usigOnceUptoCard : Claim7 := { stood := { row := usigOnceUptoRow, standIns := [], harness := (true, "cef892051ce4e6dcce3e349016fb767260eea798e885ee2a574687603b3a28a8"), looks := false }, kinds := [], alts := [], laidByText := true, laidKinds := [.data], laidTests := true, laidLooks := .later }
def UsigOnceUptoCardSaid : Prop := Claim7.holds Tryd.pinned (.plain (OpenSpec.upto usigOnceSpec)) usigOnceUptoCard
end Rows
end Go.Proofs.YtmjdfajdompkeaaDoor
