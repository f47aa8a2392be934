/-
  No cell of these rows narrows 'for every input' (looked for: loops, veiled, ifaces, maps, wideKeys, modest, calm, conditions, laid).
  DERIVED. THE GIVEN ROWS OF THIS SEAT. 16 by the template 'for every input the law returns true; each argument reads behind the call as it read before'; 0 by the template 'total and deterministic' (their statements: YtmjdfajdompkeaaTotals.lean).
  GIVEN WITH THE SEED: the statements are not yours to turn. If you find one false, say at which input.
  Laid BY PROGRAM, IN A SANDBOX (cutbox-rows.mjs): the forced cells as the released guide's own fill.sh prints them over the translation 328fc2958c856048… (all of the seat's roots in one cut). By AI agents, Wed Nov 11 2026. No macro, syntax, notation, axiom, sorry.
-/
import Derived.Test.YtmjdfajdompkeaaChecked
import GoSem.Claim
import GoSem.ClaimJoined
import GoSem.ClaimMapViews
import Derived.JoinedTies
import Derived.KernelRfl
namespace Go.Proofs.Ytmjdfajdompkeaa
/- THE CELL 'sum', in the pinned program and in every row, IS THE sha256 OF THE DUMP (.gsa) THAT YtmjdfajdompkeaaProg.lean LOADS. Nothing in Lean hashes anything: it is a label: what it is worth is what the hold of that sum in a sandbox is worth. -/
noncomputable def Try.pinned : Pinned := { name := "ytmjdfajdompkeaa", sum := "328fc2958c856048d4e36a7e112743e7388244a387111436bfacc6c24fcd5538", checked := Try.checked }
namespace Rows
def none {H : Type} : Left H := { results := [], args := [] }

/-- 'ratchetlaw04.DiskLast': WHATEVER THE INPUT: true; the input reads as it did. -/
def diskLastSpec : ChangeSpec := { name := "diskLast", fn := fun _ => fun
  | [d1, d2, d3] => { results := [.lit (.bool true)], args := [d1, d2, d3] }
  | _ => none }
def diskLastRow : OpenClaim := { program := "ytmjdfajdompkeaa", sum := "328fc2958c856048d4e36a7e112743e7388244a387111436bfacc6c24fcd5538", func := "ratchet/ratchetlaw04.DiskLast", spec := "diskLast", apart := false }
def DiskLastSaid : Prop := diskLastRow.holds Try.pinned (OpenSpec.ofChange diskLastSpec)

/-- ITS FALSE NEIGHBOUR: 'it returns false'. Refute it at one input. -/
def diskLastWrong : ChangeSpec := { name := "diskLast", fn := fun _ => fun
  | [d1, d2, d3] => { results := [.lit (.bool false)], args := [d1, d2, d3] }
  | _ => none }
def DiskLastWrongFalsely : Prop := diskLastRow.holds Try.pinned (OpenSpec.ofChange diskLastWrong)

/-- 'ratchetlaw04.DiskPower': WHATEVER THE INPUT: true; the input reads as it did. -/
def diskPowerSpec : ChangeSpec := { name := "diskPower", fn := fun _ => fun
  | [d1, d2, d3] => { results := [.lit (.bool true)], args := [d1, d2, d3] }
  | _ => none }
def diskPowerRow : OpenClaim := { program := "ytmjdfajdompkeaa", sum := "328fc2958c856048d4e36a7e112743e7388244a387111436bfacc6c24fcd5538", func := "ratchet/ratchetlaw04.DiskPower", spec := "diskPower", apart := false }
def DiskPowerSaid : Prop := diskPowerRow.holds Try.pinned (OpenSpec.ofChange diskPowerSpec)

/-- ITS FALSE NEIGHBOUR: 'it returns false'. Refute it at one input. -/
def diskPowerWrong : ChangeSpec := { name := "diskPower", fn := fun _ => fun
  | [d1, d2, d3] => { results := [.lit (.bool false)], args := [d1, d2, d3] }
  | _ => none }
def DiskPowerWrongFalsely : Prop := diskPowerRow.holds Try.pinned (OpenSpec.ofChange diskPowerWrong)

/-- 'ratchetlaw04.DiskPlays': WHATEVER THE INPUT: true; the input reads as it did. -/
def diskPlaysSpec : ChangeSpec := { name := "diskPlays", fn := fun _ => fun
  | [d] => { results := [.lit (.bool true)], args := [d] }
  | _ => none }
def diskPlaysRow : OpenClaim := { program := "ytmjdfajdompkeaa", sum := "328fc2958c856048d4e36a7e112743e7388244a387111436bfacc6c24fcd5538", func := "ratchet/ratchetlaw04.DiskPlays", spec := "diskPlays", apart := false }
def DiskPlaysSaid : Prop := diskPlaysRow.holds Try.pinned (OpenSpec.ofChange diskPlaysSpec)

/-- ITS FALSE NEIGHBOUR: 'it returns false'. Refute it at one input. -/
def diskPlaysWrong : ChangeSpec := { name := "diskPlays", fn := fun _ => fun
  | [d] => { results := [.lit (.bool false)], args := [d] }
  | _ => none }
def DiskPlaysWrongFalsely : Prop := diskPlaysRow.holds Try.pinned (OpenSpec.ofChange diskPlaysWrong)

/-- 'ratchetlaw04.DiskNil': WHATEVER THE INPUT: true; the input reads as it did. -/
def diskNilSpec : ChangeSpec := { name := "diskNil", fn := fun _ => fun
  | [d1, d2] => { results := [.lit (.bool true)], args := [d1, d2] }
  | _ => none }
def diskNilRow : OpenClaim := { program := "ytmjdfajdompkeaa", sum := "328fc2958c856048d4e36a7e112743e7388244a387111436bfacc6c24fcd5538", func := "ratchet/ratchetlaw04.DiskNil", spec := "diskNil", apart := false }
def DiskNilSaid : Prop := diskNilRow.holds Try.pinned (OpenSpec.ofChange diskNilSpec)

/-- ITS FALSE NEIGHBOUR: 'it returns false'. Refute it at one input. -/
def diskNilWrong : ChangeSpec := { name := "diskNil", fn := fun _ => fun
  | [d1, d2] => { results := [.lit (.bool false)], args := [d1, d2] }
  | _ => none }
def DiskNilWrongFalsely : Prop := diskNilRow.holds Try.pinned (OpenSpec.ofChange diskNilWrong)

/-- 'ratchetlaw04.DiskFuses': WHATEVER THE INPUT: true; the input reads as it did. -/
def diskFusesSpec : ChangeSpec := { name := "diskFuses", fn := fun _ => fun
  | [d1, d2, d3] => { results := [.lit (.bool true)], args := [d1, d2, d3] }
  | _ => none }
def diskFusesRow : OpenClaim := { program := "ytmjdfajdompkeaa", sum := "328fc2958c856048d4e36a7e112743e7388244a387111436bfacc6c24fcd5538", func := "ratchet/ratchetlaw04.DiskFuses", spec := "diskFuses", apart := false }
def DiskFusesSaid : Prop := diskFusesRow.holds Try.pinned (OpenSpec.ofChange diskFusesSpec)

/-- ITS FALSE NEIGHBOUR: 'it returns false'. Refute it at one input. -/
def diskFusesWrong : ChangeSpec := { name := "diskFuses", fn := fun _ => fun
  | [d1, d2, d3] => { results := [.lit (.bool false)], args := [d1, d2, d3] }
  | _ => none }
def DiskFusesWrongFalsely : Prop := diskFusesRow.holds Try.pinned (OpenSpec.ofChange diskFusesWrong)

/-- 'ratchetlaw05.CellNil': WHATEVER THE INPUT: true; the input reads as it did. -/
def cellNilSpec : ChangeSpec := { name := "cellNil", fn := fun _ => fun
  | [d1, d2] => { results := [.lit (.bool true)], args := [d1, d2] }
  | _ => none }
def cellNilRow : OpenClaim := { program := "ytmjdfajdompkeaa", sum := "328fc2958c856048d4e36a7e112743e7388244a387111436bfacc6c24fcd5538", func := "ratchet/ratchetlaw05.CellNil", spec := "cellNil", unfollowed := true, recurses := true, apart := false }
def CellNilSaid : Prop := cellNilRow.holds Try.pinned (OpenSpec.ofChange cellNilSpec)

/-- ITS FALSE NEIGHBOUR: 'it returns false'. Refute it at one input. -/
def cellNilWrong : ChangeSpec := { name := "cellNil", fn := fun _ => fun
  | [d1, d2] => { results := [.lit (.bool false)], args := [d1, d2] }
  | _ => none }
def CellNilWrongFalsely : Prop := cellNilRow.holds Try.pinned (OpenSpec.ofChange cellNilWrong)

/-- 'ratchetlaw05.CellApart': WHATEVER THE INPUT: true; the input reads as it did. -/
def cellApartSpec : ChangeSpec := { name := "cellApart", fn := fun _ => fun
  | [d1, d2] => { results := [.lit (.bool true)], args := [d1, d2] }
  | _ => none }
def cellApartRow : OpenClaim := { program := "ytmjdfajdompkeaa", sum := "328fc2958c856048d4e36a7e112743e7388244a387111436bfacc6c24fcd5538", func := "ratchet/ratchetlaw05.CellApart", spec := "cellApart", unfollowed := true, recurses := true, apart := false }
def CellApartSaid : Prop := cellApartRow.holds Try.pinned (OpenSpec.ofChange cellApartSpec)

/-- ITS FALSE NEIGHBOUR: 'it returns false'. Refute it at one input. -/
def cellApartWrong : ChangeSpec := { name := "cellApart", fn := fun _ => fun
  | [d1, d2] => { results := [.lit (.bool false)], args := [d1, d2] }
  | _ => none }
def CellApartWrongFalsely : Prop := cellApartRow.holds Try.pinned (OpenSpec.ofChange cellApartWrong)

/-- 'ratchetlaw05.CellElder': WHATEVER THE INPUT: true; the input reads as it did. -/
def cellElderSpec : ChangeSpec := { name := "cellElder", fn := fun _ => fun
  | [d1, d2, d3] => { results := [.lit (.bool true)], args := [d1, d2, d3] }
  | _ => none }
def cellElderRow : OpenClaim := { program := "ytmjdfajdompkeaa", sum := "328fc2958c856048d4e36a7e112743e7388244a387111436bfacc6c24fcd5538", func := "ratchet/ratchetlaw05.CellElder", spec := "cellElder", unfollowed := true, recurses := true, apart := false }
def CellElderSaid : Prop := cellElderRow.holds Try.pinned (OpenSpec.ofChange cellElderSpec)

/-- ITS FALSE NEIGHBOUR: 'it returns false'. Refute it at one input. -/
def cellElderWrong : ChangeSpec := { name := "cellElder", fn := fun _ => fun
  | [d1, d2, d3] => { results := [.lit (.bool false)], args := [d1, d2, d3] }
  | _ => none }
def CellElderWrongFalsely : Prop := cellElderRow.holds Try.pinned (OpenSpec.ofChange cellElderWrong)

/-- 'ratchetlaw05.CellPower': WHATEVER THE INPUT: true; the input reads as it did. -/
def cellPowerSpec : ChangeSpec := { name := "cellPower", fn := fun _ => fun
  | [d] => { results := [.lit (.bool true)], args := [d] }
  | _ => none }
def cellPowerRow : OpenClaim := { program := "ytmjdfajdompkeaa", sum := "328fc2958c856048d4e36a7e112743e7388244a387111436bfacc6c24fcd5538", func := "ratchet/ratchetlaw05.CellPower", spec := "cellPower", unfollowed := true, recurses := true, apart := false }
def CellPowerSaid : Prop := cellPowerRow.holds Try.pinned (OpenSpec.ofChange cellPowerSpec)

/-- ITS FALSE NEIGHBOUR: 'it returns false'. Refute it at one input. -/
def cellPowerWrong : ChangeSpec := { name := "cellPower", fn := fun _ => fun
  | [d] => { results := [.lit (.bool false)], args := [d] }
  | _ => none }
def CellPowerWrongFalsely : Prop := cellPowerRow.holds Try.pinned (OpenSpec.ofChange cellPowerWrong)

/-- 'ratchetlaw06.BookNil': WHATEVER THE INPUT: true; the input reads as it did. -/
def bookNilSpec : ChangeSpec := { name := "bookNil", fn := fun _ => fun
  | [d1, d2, d3] => { results := [.lit (.bool true)], args := [d1, d2, d3] }
  | _ => none }
def bookNilRow : OpenClaim := { program := "ytmjdfajdompkeaa", sum := "328fc2958c856048d4e36a7e112743e7388244a387111436bfacc6c24fcd5538", func := "ratchet/ratchetlaw06.BookNil", spec := "bookNil", unfollowed := true, recurses := true, apart := false }
def BookNilSaid : Prop := bookNilRow.holds Try.pinned (OpenSpec.ofChange bookNilSpec)

/-- ITS FALSE NEIGHBOUR: 'it returns false'. Refute it at one input. -/
def bookNilWrong : ChangeSpec := { name := "bookNil", fn := fun _ => fun
  | [d1, d2, d3] => { results := [.lit (.bool false)], args := [d1, d2, d3] }
  | _ => none }
def BookNilWrongFalsely : Prop := bookNilRow.holds Try.pinned (OpenSpec.ofChange bookNilWrong)

/-- 'ratchetlaw06.BookRoom': WHATEVER THE INPUT: true; the input reads as it did. -/
def bookRoomSpec : ChangeSpec := { name := "bookRoom", fn := fun _ => fun
  | [d1, d2] => { results := [.lit (.bool true)], args := [d1, d2] }
  | _ => none }
def bookRoomRow : OpenClaim := { program := "ytmjdfajdompkeaa", sum := "328fc2958c856048d4e36a7e112743e7388244a387111436bfacc6c24fcd5538", func := "ratchet/ratchetlaw06.BookRoom", spec := "bookRoom", unfollowed := true, recurses := true, apart := false }
def BookRoomSaid : Prop := bookRoomRow.holds Try.pinned (OpenSpec.ofChange bookRoomSpec)

/-- ITS FALSE NEIGHBOUR: 'it returns false'. Refute it at one input. -/
def bookRoomWrong : ChangeSpec := { name := "bookRoom", fn := fun _ => fun
  | [d1, d2] => { results := [.lit (.bool false)], args := [d1, d2] }
  | _ => none }
def BookRoomWrongFalsely : Prop := bookRoomRow.holds Try.pinned (OpenSpec.ofChange bookRoomWrong)

/-- 'ratchetlaw06.BookLives': WHATEVER THE INPUT: true; the input reads as it did. -/
def bookLivesSpec : ChangeSpec := { name := "bookLives", fn := fun _ => fun
  | [d] => { results := [.lit (.bool true)], args := [d] }
  | _ => none }
def bookLivesRow : OpenClaim := { program := "ytmjdfajdompkeaa", sum := "328fc2958c856048d4e36a7e112743e7388244a387111436bfacc6c24fcd5538", func := "ratchet/ratchetlaw06.BookLives", spec := "bookLives", unfollowed := true, recurses := true, apart := false }
def BookLivesSaid : Prop := bookLivesRow.holds Try.pinned (OpenSpec.ofChange bookLivesSpec)

/-- ITS FALSE NEIGHBOUR: 'it returns false'. Refute it at one input. -/
def bookLivesWrong : ChangeSpec := { name := "bookLives", fn := fun _ => fun
  | [d] => { results := [.lit (.bool false)], args := [d] }
  | _ => none }
def BookLivesWrongFalsely : Prop := bookLivesRow.holds Try.pinned (OpenSpec.ofChange bookLivesWrong)

/-- 'ratchetlaw06.BookTorn': WHATEVER THE INPUT: true; the input reads as it did. -/
def bookTornSpec : ChangeSpec := { name := "bookTorn", fn := fun _ => fun
  | [d1, d2, d3, d4, d5] => { results := [.lit (.bool true)], args := [d1, d2, d3, d4, d5] }
  | _ => none }
def bookTornRow : OpenClaim := { program := "ytmjdfajdompkeaa", sum := "328fc2958c856048d4e36a7e112743e7388244a387111436bfacc6c24fcd5538", func := "ratchet/ratchetlaw06.BookTorn", spec := "bookTorn", unfollowed := true, recurses := true, apart := false }
def BookTornSaid : Prop := bookTornRow.holds Try.pinned (OpenSpec.ofChange bookTornSpec)

/-- ITS FALSE NEIGHBOUR: 'it returns false'. Refute it at one input. -/
def bookTornWrong : ChangeSpec := { name := "bookTorn", fn := fun _ => fun
  | [d1, d2, d3, d4, d5] => { results := [.lit (.bool false)], args := [d1, d2, d3, d4, d5] }
  | _ => none }
def BookTornWrongFalsely : Prop := bookTornRow.holds Try.pinned (OpenSpec.ofChange bookTornWrong)

/-- 'ratchetlaw06.BookPlays': WHATEVER THE INPUT: true; the input reads as it did. -/
def bookPlaysSpec : ChangeSpec := { name := "bookPlays", fn := fun _ => fun
  | [d1, d2, d3] => { results := [.lit (.bool true)], args := [d1, d2, d3] }
  | _ => none }
def bookPlaysRow : OpenClaim := { program := "ytmjdfajdompkeaa", sum := "328fc2958c856048d4e36a7e112743e7388244a387111436bfacc6c24fcd5538", func := "ratchet/ratchetlaw06.BookPlays", spec := "bookPlays", unfollowed := true, recurses := true, apart := false }
def BookPlaysSaid : Prop := bookPlaysRow.holds Try.pinned (OpenSpec.ofChange bookPlaysSpec)

/-- ITS FALSE NEIGHBOUR: 'it returns false'. Refute it at one input. -/
def bookPlaysWrong : ChangeSpec := { name := "bookPlays", fn := fun _ => fun
  | [d1, d2, d3] => { results := [.lit (.bool false)], args := [d1, d2, d3] }
  | _ => none }
def BookPlaysWrongFalsely : Prop := bookPlaysRow.holds Try.pinned (OpenSpec.ofChange bookPlaysWrong)

/-- 'ratchetlaw06.BookPower': WHATEVER THE INPUT: true; the input reads as it did. -/
def bookPowerSpec : ChangeSpec := { name := "bookPower", fn := fun _ => fun
  | [d] => { results := [.lit (.bool true)], args := [d] }
  | _ => none }
def bookPowerRow : OpenClaim := { program := "ytmjdfajdompkeaa", sum := "328fc2958c856048d4e36a7e112743e7388244a387111436bfacc6c24fcd5538", func := "ratchet/ratchetlaw06.BookPower", spec := "bookPower", unfollowed := true, recurses := true, apart := false }
def BookPowerSaid : Prop := bookPowerRow.holds Try.pinned (OpenSpec.ofChange bookPowerSpec)

/-- ITS FALSE NEIGHBOUR: 'it returns false'. Refute it at one input. -/
def bookPowerWrong : ChangeSpec := { name := "bookPower", fn := fun _ => fun
  | [d] => { results := [.lit (.bool false)], args := [d] }
  | _ => none }
def BookPowerWrongFalsely : Prop := bookPowerRow.holds Try.pinned (OpenSpec.ofChange bookPowerWrong)

/-- 'ratchetlaw06.BookPeeks': WHATEVER THE INPUT: true; the input reads as it did. -/
def bookPeeksSpec : ChangeSpec := { name := "bookPeeks", fn := fun _ => fun
  | [d1, d2, d3] => { results := [.lit (.bool true)], args := [d1, d2, d3] }
  | _ => none }
def bookPeeksRow : OpenClaim := { program := "ytmjdfajdompkeaa", sum := "328fc2958c856048d4e36a7e112743e7388244a387111436bfacc6c24fcd5538", func := "ratchet/ratchetlaw06.BookPeeks", spec := "bookPeeks", unfollowed := true, recurses := true, apart := false }
def BookPeeksSaid : Prop := bookPeeksRow.holds Try.pinned (OpenSpec.ofChange bookPeeksSpec)

/-- ITS FALSE NEIGHBOUR: 'it returns false'. Refute it at one input. -/
def bookPeeksWrong : ChangeSpec := { name := "bookPeeks", fn := fun _ => fun
  | [d1, d2, d3] => { results := [.lit (.bool false)], args := [d1, d2, d3] }
  | _ => none }
def BookPeeksWrongFalsely : Prop := bookPeeksRow.holds Try.pinned (OpenSpec.ofChange bookPeeksWrong)

/- THE SECOND FORM. 'bulk': how many values and letters a reading holds, each counted each time it is reached (what is shared counts as often as it is met; a slice's spare places count too). A statement '..UptoSaid' is the law's where the arguments, and the package variables that the reading takes, are together of bulk at most 1048576: NARROWER than '..Said'. Prove '..Said' where nothing that the law and all that it calls make is longer than what came in: it says more and counts as full. Else prove '..UptoSaid'. A law counts once. -/
mutual
def uptoBulk {H : Type} : DataW H → Nat
  | .lit (.string bytes) => bytes.length + 1
  | .lit _ => 1
  | .nil => 1
  | .ptr d => uptoBulk d + 1
  | .slice elems spare => uptoBulkAll elems + uptoBulkAll spare + 1
  | .agg parts => uptoBulkAll parts + 1
  | .iface _ d => uptoBulk d + 1
  | .map entries => uptoBulkEntries entries + 1
  | .held _ => 1
def uptoBulkAll {H : Type} : List (DataW H) → Nat
  | [] => 0
  | d :: r => uptoBulk d + uptoBulkAll r
def uptoBulkEntries {H : Type} : List (Lit × DataW H) → Nat
  | [] => 0
  | x :: r => uptoBulkEntry x + uptoBulkEntries r
def uptoBulkEntry {H : Type} : Lit × DataW H → Nat
  | (.string bytes, d) => bytes.length + uptoBulk d + 1
  | (_, d) => uptoBulk d + 1
 end
def uptoSmall : (H : Type) → List (DataW H) → Bool := fun _ ds => decide (uptoBulkAll ds ≤ 1048576)
def OpenSpec.upto (s : _root_.Go.ChangeSpec) : _root_.Go.OpenSpec := { _root_.Go.OpenSpec.ofChange s with cond := some uptoSmall }

/-- 'ratchetlaw04.DiskLast', WHERE WHAT IT READS IS OF BULK AT MOST 1048576: true; the input reads as it did. -/
def diskLastUptoRow : OpenClaim := { program := "ytmjdfajdompkeaa", sum := "328fc2958c856048d4e36a7e112743e7388244a387111436bfacc6c24fcd5538", func := "ratchet/ratchetlaw04.DiskLast", spec := "diskLast", apart := false, narrowed := true }
def DiskLastUptoSaid : Prop := diskLastUptoRow.holds Try.pinned (OpenSpec.upto diskLastSpec)

/-- 'ratchetlaw04.DiskPower', WHERE WHAT IT READS IS OF BULK AT MOST 1048576: true; the input reads as it did. -/
def diskPowerUptoRow : OpenClaim := { program := "ytmjdfajdompkeaa", sum := "328fc2958c856048d4e36a7e112743e7388244a387111436bfacc6c24fcd5538", func := "ratchet/ratchetlaw04.DiskPower", spec := "diskPower", apart := false, narrowed := true }
def DiskPowerUptoSaid : Prop := diskPowerUptoRow.holds Try.pinned (OpenSpec.upto diskPowerSpec)

/-- 'ratchetlaw04.DiskPlays', WHERE WHAT IT READS IS OF BULK AT MOST 1048576: true; the input reads as it did. -/
def diskPlaysUptoRow : OpenClaim := { program := "ytmjdfajdompkeaa", sum := "328fc2958c856048d4e36a7e112743e7388244a387111436bfacc6c24fcd5538", func := "ratchet/ratchetlaw04.DiskPlays", spec := "diskPlays", apart := false, narrowed := true }
def DiskPlaysUptoSaid : Prop := diskPlaysUptoRow.holds Try.pinned (OpenSpec.upto diskPlaysSpec)

/-- 'ratchetlaw04.DiskNil', WHERE WHAT IT READS IS OF BULK AT MOST 1048576: true; the input reads as it did. -/
def diskNilUptoRow : OpenClaim := { program := "ytmjdfajdompkeaa", sum := "328fc2958c856048d4e36a7e112743e7388244a387111436bfacc6c24fcd5538", func := "ratchet/ratchetlaw04.DiskNil", spec := "diskNil", apart := false, narrowed := true }
def DiskNilUptoSaid : Prop := diskNilUptoRow.holds Try.pinned (OpenSpec.upto diskNilSpec)

/-- 'ratchetlaw04.DiskFuses', WHERE WHAT IT READS IS OF BULK AT MOST 1048576: true; the input reads as it did. -/
def diskFusesUptoRow : OpenClaim := { program := "ytmjdfajdompkeaa", sum := "328fc2958c856048d4e36a7e112743e7388244a387111436bfacc6c24fcd5538", func := "ratchet/ratchetlaw04.DiskFuses", spec := "diskFuses", apart := false, narrowed := true }
def DiskFusesUptoSaid : Prop := diskFusesUptoRow.holds Try.pinned (OpenSpec.upto diskFusesSpec)

/-- 'ratchetlaw05.CellNil', WHERE WHAT IT READS IS OF BULK AT MOST 1048576: true; the input reads as it did. -/
def cellNilUptoRow : OpenClaim := { program := "ytmjdfajdompkeaa", sum := "328fc2958c856048d4e36a7e112743e7388244a387111436bfacc6c24fcd5538", func := "ratchet/ratchetlaw05.CellNil", spec := "cellNil", unfollowed := true, recurses := true, apart := false, narrowed := true }
def CellNilUptoSaid : Prop := cellNilUptoRow.holds Try.pinned (OpenSpec.upto cellNilSpec)

/-- 'ratchetlaw05.CellApart', WHERE WHAT IT READS IS OF BULK AT MOST 1048576: true; the input reads as it did. -/
def cellApartUptoRow : OpenClaim := { program := "ytmjdfajdompkeaa", sum := "328fc2958c856048d4e36a7e112743e7388244a387111436bfacc6c24fcd5538", func := "ratchet/ratchetlaw05.CellApart", spec := "cellApart", unfollowed := true, recurses := true, apart := false, narrowed := true }
def CellApartUptoSaid : Prop := cellApartUptoRow.holds Try.pinned (OpenSpec.upto cellApartSpec)

/-- 'ratchetlaw05.CellElder', WHERE WHAT IT READS IS OF BULK AT MOST 1048576: true; the input reads as it did. -/
def cellElderUptoRow : OpenClaim := { program := "ytmjdfajdompkeaa", sum := "328fc2958c856048d4e36a7e112743e7388244a387111436bfacc6c24fcd5538", func := "ratchet/ratchetlaw05.CellElder", spec := "cellElder", unfollowed := true, recurses := true, apart := false, narrowed := true }
def CellElderUptoSaid : Prop := cellElderUptoRow.holds Try.pinned (OpenSpec.upto cellElderSpec)

/-- 'ratchetlaw05.CellPower', WHERE WHAT IT READS IS OF BULK AT MOST 1048576: true; the input reads as it did. -/
def cellPowerUptoRow : OpenClaim := { program := "ytmjdfajdompkeaa", sum := "328fc2958c856048d4e36a7e112743e7388244a387111436bfacc6c24fcd5538", func := "ratchet/ratchetlaw05.CellPower", spec := "cellPower", unfollowed := true, recurses := true, apart := false, narrowed := true }
def CellPowerUptoSaid : Prop := cellPowerUptoRow.holds Try.pinned (OpenSpec.upto cellPowerSpec)

/-- 'ratchetlaw06.BookNil', WHERE WHAT IT READS IS OF BULK AT MOST 1048576: true; the input reads as it did. -/
def bookNilUptoRow : OpenClaim := { program := "ytmjdfajdompkeaa", sum := "328fc2958c856048d4e36a7e112743e7388244a387111436bfacc6c24fcd5538", func := "ratchet/ratchetlaw06.BookNil", spec := "bookNil", unfollowed := true, recurses := true, apart := false, narrowed := true }
def BookNilUptoSaid : Prop := bookNilUptoRow.holds Try.pinned (OpenSpec.upto bookNilSpec)

/-- 'ratchetlaw06.BookRoom', WHERE WHAT IT READS IS OF BULK AT MOST 1048576: true; the input reads as it did. -/
def bookRoomUptoRow : OpenClaim := { program := "ytmjdfajdompkeaa", sum := "328fc2958c856048d4e36a7e112743e7388244a387111436bfacc6c24fcd5538", func := "ratchet/ratchetlaw06.BookRoom", spec := "bookRoom", unfollowed := true, recurses := true, apart := false, narrowed := true }
def BookRoomUptoSaid : Prop := bookRoomUptoRow.holds Try.pinned (OpenSpec.upto bookRoomSpec)

/-- 'ratchetlaw06.BookLives', WHERE WHAT IT READS IS OF BULK AT MOST 1048576: true; the input reads as it did. -/
def bookLivesUptoRow : OpenClaim := { program := "ytmjdfajdompkeaa", sum := "328fc2958c856048d4e36a7e112743e7388244a387111436bfacc6c24fcd5538", func := "ratchet/ratchetlaw06.BookLives", spec := "bookLives", unfollowed := true, recurses := true, apart := false, narrowed := true }
def BookLivesUptoSaid : Prop := bookLivesUptoRow.holds Try.pinned (OpenSpec.upto bookLivesSpec)

/-- 'ratchetlaw06.BookTorn', WHERE WHAT IT READS IS OF BULK AT MOST 1048576: true; the input reads as it did. -/
def bookTornUptoRow : OpenClaim := { program := "ytmjdfajdompkeaa", sum := "328fc2958c856048d4e36a7e112743e7388244a387111436bfacc6c24fcd5538", func := "ratchet/ratchetlaw06.BookTorn", spec := "bookTorn", unfollowed := true, recurses := true, apart := false, narrowed := true }
def BookTornUptoSaid : Prop := bookTornUptoRow.holds Try.pinned (OpenSpec.upto bookTornSpec)

/-- 'ratchetlaw06.BookPlays', WHERE WHAT IT READS IS OF BULK AT MOST 1048576: true; the input reads as it did. -/
def bookPlaysUptoRow : OpenClaim := { program := "ytmjdfajdompkeaa", sum := "328fc2958c856048d4e36a7e112743e7388244a387111436bfacc6c24fcd5538", func := "ratchet/ratchetlaw06.BookPlays", spec := "bookPlays", unfollowed := true, recurses := true, apart := false, narrowed := true }
def BookPlaysUptoSaid : Prop := bookPlaysUptoRow.holds Try.pinned (OpenSpec.upto bookPlaysSpec)

/-- 'ratchetlaw06.BookPower', WHERE WHAT IT READS IS OF BULK AT MOST 1048576: true; the input reads as it did. -/
def bookPowerUptoRow : OpenClaim := { program := "ytmjdfajdompkeaa", sum := "328fc2958c856048d4e36a7e112743e7388244a387111436bfacc6c24fcd5538", func := "ratchet/ratchetlaw06.BookPower", spec := "bookPower", unfollowed := true, recurses := true, apart := false, narrowed := true }
def BookPowerUptoSaid : Prop := bookPowerUptoRow.holds Try.pinned (OpenSpec.upto bookPowerSpec)

/-- 'ratchetlaw06.BookPeeks', WHERE WHAT IT READS IS OF BULK AT MOST 1048576: true; the input reads as it did. -/
def bookPeeksUptoRow : OpenClaim := { program := "ytmjdfajdompkeaa", sum := "328fc2958c856048d4e36a7e112743e7388244a387111436bfacc6c24fcd5538", func := "ratchet/ratchetlaw06.BookPeeks", spec := "bookPeeks", unfollowed := true, recurses := true, apart := false, narrowed := true }
def BookPeeksUptoSaid : Prop := bookPeeksUptoRow.holds Try.pinned (OpenSpec.upto bookPeeksSpec)

end Rows
end Go.Proofs.Ytmjdfajdompkeaa
