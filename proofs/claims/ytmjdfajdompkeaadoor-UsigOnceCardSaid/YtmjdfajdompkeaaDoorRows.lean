/-
  NARROWER THAN 'FOR EVERY INPUT', by the rows' own cells (each row's printed sentence says how): UsigChecks: laid · UsigEnds: laid · UsigNil: laid · UsigApart: laid · UsigLost: laid · UsigOnce: laid.
  DERIVED. THE GIVEN ROWS OF THIS SEAT. 6 by the template 'for every input the law returns true; each argument reads behind the call as it read before'; 0 by the template 'total and deterministic' (their statements: YtmjdfajdompkeaaDoorTotals.lean).
  GIVEN WITH THE SEED: the statements are not yours to turn. If you find one false, say at which input.
  Laid BY PROGRAM, IN A SANDBOX (cutbox-rows.mjs): the forced cells as the released guide's own fill.sh prints them over the translation c68e25bfedbfcc39… (all of the seat's roots in one cut). By AI agents, Wed Nov 11 2026. No macro, syntax, notation, axiom, sorry.
-/
import Derived.Test.YtmjdfajdompkeaaDoorChecked
import GoSem.Claim
import GoSem.ClaimJoined
import GoSem.ClaimMapViews
import Derived.JoinedTies
import Derived.KernelRfl
namespace Go.Proofs.YtmjdfajdompkeaaDoor
/- THE CELL 'sum', in the pinned program and in every row, IS THE sha256 OF THE DUMP (.gsa) THAT YtmjdfajdompkeaaDoorProg.lean LOADS. Nothing in Lean hashes anything: it is a label: what it is worth is what the hold of that sum in a sandbox is worth. -/
noncomputable def Tryd.pinned : Pinned := { name := "ytmjdfajdompkeaadoor", sum := "c68e25bfedbfcc3956d1dc9a6b48d51458f3e54b67eb4bc58e19363f57753c63", checked := Tryd.checked }
namespace Rows
def none {H : Type} : Left H := { results := [], args := [] }

/- WHAT THE LISTED PACKAGE-LEVEL VARIABLES READ AS WHEN THE CALL BEGINS. Each datum BY PROGRAM (the guide's laid-datum.mjs) off the statement by which the dump's own 'gosem.cut.vars' lays the variable. In a bare row this is a premise. The card (YtmjdfajdompkeaaDoorCards.lean) ties it to the program's text. -/
def laid_ratchet_sha_table {H : Type} : DataW H := .agg [.lit (.int .u32 1116352408), .lit (.int .u32 1899447441), .lit (.int .u32 3049323471), .lit (.int .u32 3921009573), .lit (.int .u32 961987163), .lit (.int .u32 1508970993), .lit (.int .u32 2453635748), .lit (.int .u32 2870763221), .lit (.int .u32 3624381080), .lit (.int .u32 310598401), .lit (.int .u32 607225278), .lit (.int .u32 1426881987), .lit (.int .u32 1925078388), .lit (.int .u32 2162078206), .lit (.int .u32 2614888103), .lit (.int .u32 3248222580), .lit (.int .u32 3835390401), .lit (.int .u32 4022224774), .lit (.int .u32 264347078), .lit (.int .u32 604807628), .lit (.int .u32 770255983), .lit (.int .u32 1249150122), .lit (.int .u32 1555081692), .lit (.int .u32 1996064986), .lit (.int .u32 2554220882), .lit (.int .u32 2821834349), .lit (.int .u32 2952996808), .lit (.int .u32 3210313671), .lit (.int .u32 3336571891), .lit (.int .u32 3584528711), .lit (.int .u32 113926993), .lit (.int .u32 338241895), .lit (.int .u32 666307205), .lit (.int .u32 773529912), .lit (.int .u32 1294757372), .lit (.int .u32 1396182291), .lit (.int .u32 1695183700), .lit (.int .u32 1986661051), .lit (.int .u32 2177026350), .lit (.int .u32 2456956037), .lit (.int .u32 2730485921), .lit (.int .u32 2820302411), .lit (.int .u32 3259730800), .lit (.int .u32 3345764771), .lit (.int .u32 3516065817), .lit (.int .u32 3600352804), .lit (.int .u32 4094571909), .lit (.int .u32 275423344), .lit (.int .u32 430227734), .lit (.int .u32 506948616), .lit (.int .u32 659060556), .lit (.int .u32 883997877), .lit (.int .u32 958139571), .lit (.int .u32 1322822218), .lit (.int .u32 1537002063), .lit (.int .u32 1747873779), .lit (.int .u32 1955562222), .lit (.int .u32 2024104815), .lit (.int .u32 2227730452), .lit (.int .u32 2361852424), .lit (.int .u32 2428436474), .lit (.int .u32 2756734187), .lit (.int .u32 3204031479), .lit (.int .u32 3329325298)]

/-- 'ratchetlaw07.UsigChecks': WHATEVER THE INPUT: true; the input reads as it did. -/
def usigChecksSpec : ChangeSpec := { name := "usigChecks", fn := fun _ => fun
  | [d1, d2, d3, d4, d5] => { results := [.lit (.bool true)], args := [d1, d2, d3, d4, d5] }
  | _ => none }
def usigChecksRow : OpenClaim := { program := "ytmjdfajdompkeaadoor", sum := "c68e25bfedbfcc3956d1dc9a6b48d51458f3e54b67eb4bc58e19363f57753c63", func := "ratchet/ratchetlaw07.UsigChecks", spec := "usigChecks", unfollowed := true, recurses := true, named := ["ratchet/sha.table"], apart := false, laid := [("ratchet/sha.table", laid_ratchet_sha_table)] }
def UsigChecksSaid : Prop := usigChecksRow.holds Tryd.pinned (OpenSpec.ofChange usigChecksSpec)

/-- ITS FALSE NEIGHBOUR: 'it returns false'. Refute it at one input. -/
def usigChecksWrong : ChangeSpec := { name := "usigChecks", fn := fun _ => fun
  | [d1, d2, d3, d4, d5] => { results := [.lit (.bool false)], args := [d1, d2, d3, d4, d5] }
  | _ => none }
def UsigChecksWrongFalsely : Prop := usigChecksRow.holds Tryd.pinned (OpenSpec.ofChange usigChecksWrong)

/-- 'ratchetlaw07.UsigEnds': WHATEVER THE INPUT: true; the input reads as it did. -/
def usigEndsSpec : ChangeSpec := { name := "usigEnds", fn := fun _ => fun
  | [d1, d2] => { results := [.lit (.bool true)], args := [d1, d2] }
  | _ => none }
def usigEndsRow : OpenClaim := { program := "ytmjdfajdompkeaadoor", sum := "c68e25bfedbfcc3956d1dc9a6b48d51458f3e54b67eb4bc58e19363f57753c63", func := "ratchet/ratchetlaw07.UsigEnds", spec := "usigEnds", unfollowed := true, recurses := true, named := ["ratchet/sha.table"], apart := false, laid := [("ratchet/sha.table", laid_ratchet_sha_table)] }
def UsigEndsSaid : Prop := usigEndsRow.holds Tryd.pinned (OpenSpec.ofChange usigEndsSpec)

/-- ITS FALSE NEIGHBOUR: 'it returns false'. Refute it at one input. -/
def usigEndsWrong : ChangeSpec := { name := "usigEnds", fn := fun _ => fun
  | [d1, d2] => { results := [.lit (.bool false)], args := [d1, d2] }
  | _ => none }
def UsigEndsWrongFalsely : Prop := usigEndsRow.holds Tryd.pinned (OpenSpec.ofChange usigEndsWrong)

/-- 'ratchetlaw07.UsigNil': WHATEVER THE INPUT: true; the input reads as it did. -/
def usigNilSpec : ChangeSpec := { name := "usigNil", fn := fun _ => fun
  | [d1, d2, d3] => { results := [.lit (.bool true)], args := [d1, d2, d3] }
  | _ => none }
def usigNilRow : OpenClaim := { program := "ytmjdfajdompkeaadoor", sum := "c68e25bfedbfcc3956d1dc9a6b48d51458f3e54b67eb4bc58e19363f57753c63", func := "ratchet/ratchetlaw07.UsigNil", spec := "usigNil", unfollowed := true, recurses := true, named := ["ratchet/sha.table"], apart := false, laid := [("ratchet/sha.table", laid_ratchet_sha_table)] }
def UsigNilSaid : Prop := usigNilRow.holds Tryd.pinned (OpenSpec.ofChange usigNilSpec)

/-- ITS FALSE NEIGHBOUR: 'it returns false'. Refute it at one input. -/
def usigNilWrong : ChangeSpec := { name := "usigNil", fn := fun _ => fun
  | [d1, d2, d3] => { results := [.lit (.bool false)], args := [d1, d2, d3] }
  | _ => none }
def UsigNilWrongFalsely : Prop := usigNilRow.holds Tryd.pinned (OpenSpec.ofChange usigNilWrong)

/-- 'ratchetlaw07.UsigApart': WHATEVER THE INPUT: true; the input reads as it did. -/
def usigApartSpec : ChangeSpec := { name := "usigApart", fn := fun _ => fun
  | [d] => { results := [.lit (.bool true)], args := [d] }
  | _ => none }
def usigApartRow : OpenClaim := { program := "ytmjdfajdompkeaadoor", sum := "c68e25bfedbfcc3956d1dc9a6b48d51458f3e54b67eb4bc58e19363f57753c63", func := "ratchet/ratchetlaw07.UsigApart", spec := "usigApart", unfollowed := true, recurses := true, named := ["ratchet/sha.table"], apart := false, laid := [("ratchet/sha.table", laid_ratchet_sha_table)] }
def UsigApartSaid : Prop := usigApartRow.holds Tryd.pinned (OpenSpec.ofChange usigApartSpec)

/-- ITS FALSE NEIGHBOUR: 'it returns false'. Refute it at one input. -/
def usigApartWrong : ChangeSpec := { name := "usigApart", fn := fun _ => fun
  | [d] => { results := [.lit (.bool false)], args := [d] }
  | _ => none }
def UsigApartWrongFalsely : Prop := usigApartRow.holds Tryd.pinned (OpenSpec.ofChange usigApartWrong)

/-- 'ratchetlaw07.UsigLost': WHATEVER THE INPUT: true; the input reads as it did. -/
def usigLostSpec : ChangeSpec := { name := "usigLost", fn := fun _ => fun
  | [d1, d2, d3] => { results := [.lit (.bool true)], args := [d1, d2, d3] }
  | _ => none }
def usigLostRow : OpenClaim := { program := "ytmjdfajdompkeaadoor", sum := "c68e25bfedbfcc3956d1dc9a6b48d51458f3e54b67eb4bc58e19363f57753c63", func := "ratchet/ratchetlaw07.UsigLost", spec := "usigLost", unfollowed := true, recurses := true, named := ["ratchet/sha.table"], apart := false, laid := [("ratchet/sha.table", laid_ratchet_sha_table)] }
def UsigLostSaid : Prop := usigLostRow.holds Tryd.pinned (OpenSpec.ofChange usigLostSpec)

/-- ITS FALSE NEIGHBOUR: 'it returns false'. Refute it at one input. -/
def usigLostWrong : ChangeSpec := { name := "usigLost", fn := fun _ => fun
  | [d1, d2, d3] => { results := [.lit (.bool false)], args := [d1, d2, d3] }
  | _ => none }
def UsigLostWrongFalsely : Prop := usigLostRow.holds Tryd.pinned (OpenSpec.ofChange usigLostWrong)

/-- 'ratchetlaw07.UsigOnce': WHATEVER THE INPUT: true; the input reads as it did. -/
def usigOnceSpec : ChangeSpec := { name := "usigOnce", fn := fun _ => fun
  | [d] => { results := [.lit (.bool true)], args := [d] }
  | _ => none }
def usigOnceRow : OpenClaim := { program := "ytmjdfajdompkeaadoor", sum := "c68e25bfedbfcc3956d1dc9a6b48d51458f3e54b67eb4bc58e19363f57753c63", func := "ratchet/ratchetlaw07.UsigOnce", spec := "usigOnce", unfollowed := true, recurses := true, named := ["ratchet/sha.table"], apart := false, laid := [("ratchet/sha.table", laid_ratchet_sha_table)] }
def UsigOnceSaid : Prop := usigOnceRow.holds Tryd.pinned (OpenSpec.ofChange usigOnceSpec)

/-- ITS FALSE NEIGHBOUR: 'it returns false'. Refute it at one input. -/
def usigOnceWrong : ChangeSpec := { name := "usigOnce", fn := fun _ => fun
  | [d] => { results := [.lit (.bool false)], args := [d] }
  | _ => none }
def UsigOnceWrongFalsely : Prop := usigOnceRow.holds Tryd.pinned (OpenSpec.ofChange usigOnceWrong)

/- THE SECOND FORM. 'bulk': how many values and letters a reading holds, each counted each time it is reached (what is shared counts as often as it is met; a slice's spare places count too). A statement '..UptoSaid' is the law's where the arguments, and the package variables that the reading takes, are together of bulk at most 1048576: NARROWER than '..Said'. Prove '..Said' where nothing that the law and all that it calls make is longer than what came in: it says more and counts as full. Else prove '..UptoSaid'. A law counts once. -/
mutual
def uptoBulk {H : Type} : DataW H → Nat
  | .lit (.string bytes) => bytes.length + 1
  | .lit _ => 1
  | .nil => 1
  | .ptr d => uptoBulk d + 1
  | .slice elems spare => uptoBulkAll elems + uptoBulkAll spare + 1
  | .agg parts => uptoBulkAll parts + 1
  | .iface _ d => uptoBulk d + 1
  | .map entries => uptoBulkEntries entries + 1
  | .held _ => 1
def uptoBulkAll {H : Type} : List (DataW H) → Nat
  | [] => 0
  | d :: r => uptoBulk d + uptoBulkAll r
def uptoBulkEntries {H : Type} : List (Lit × DataW H) → Nat
  | [] => 0
  | x :: r => uptoBulkEntry x + uptoBulkEntries r
def uptoBulkEntry {H : Type} : Lit × DataW H → Nat
  | (.string bytes, d) => bytes.length + uptoBulk d + 1
  | (_, d) => uptoBulk d + 1
 end
def uptoSmall : (H : Type) → List (DataW H) → Bool := fun _ ds => decide (uptoBulkAll ds ≤ 1048576)
def OpenSpec.upto (s : _root_.Go.ChangeSpec) : _root_.Go.OpenSpec := { _root_.Go.OpenSpec.ofChange s with cond := some uptoSmall }

/-- 'ratchetlaw07.UsigChecks', WHERE WHAT IT READS IS OF BULK AT MOST 1048576: true; the input reads as it did. -/
def usigChecksUptoRow : OpenClaim := { program := "ytmjdfajdompkeaadoor", sum := "c68e25bfedbfcc3956d1dc9a6b48d51458f3e54b67eb4bc58e19363f57753c63", func := "ratchet/ratchetlaw07.UsigChecks", spec := "usigChecks", unfollowed := true, recurses := true, named := ["ratchet/sha.table"], apart := false, laid := [("ratchet/sha.table", laid_ratchet_sha_table)], narrowed := true }
def UsigChecksUptoSaid : Prop := usigChecksUptoRow.holds Tryd.pinned (OpenSpec.upto usigChecksSpec)

/-- 'ratchetlaw07.UsigEnds', WHERE WHAT IT READS IS OF BULK AT MOST 1048576: true; the input reads as it did. -/
def usigEndsUptoRow : OpenClaim := { program := "ytmjdfajdompkeaadoor", sum := "c68e25bfedbfcc3956d1dc9a6b48d51458f3e54b67eb4bc58e19363f57753c63", func := "ratchet/ratchetlaw07.UsigEnds", spec := "usigEnds", unfollowed := true, recurses := true, named := ["ratchet/sha.table"], apart := false, laid := [("ratchet/sha.table", laid_ratchet_sha_table)], narrowed := true }
def UsigEndsUptoSaid : Prop := usigEndsUptoRow.holds Tryd.pinned (OpenSpec.upto usigEndsSpec)

/-- 'ratchetlaw07.UsigNil', WHERE WHAT IT READS IS OF BULK AT MOST 1048576: true; the input reads as it did. -/
def usigNilUptoRow : OpenClaim := { program := "ytmjdfajdompkeaadoor", sum := "c68e25bfedbfcc3956d1dc9a6b48d51458f3e54b67eb4bc58e19363f57753c63", func := "ratchet/ratchetlaw07.UsigNil", spec := "usigNil", unfollowed := true, recurses := true, named := ["ratchet/sha.table"], apart := false, laid := [("ratchet/sha.table", laid_ratchet_sha_table)], narrowed := true }
def UsigNilUptoSaid : Prop := usigNilUptoRow.holds Tryd.pinned (OpenSpec.upto usigNilSpec)

/-- 'ratchetlaw07.UsigApart', WHERE WHAT IT READS IS OF BULK AT MOST 1048576: true; the input reads as it did. -/
def usigApartUptoRow : OpenClaim := { program := "ytmjdfajdompkeaadoor", sum := "c68e25bfedbfcc3956d1dc9a6b48d51458f3e54b67eb4bc58e19363f57753c63", func := "ratchet/ratchetlaw07.UsigApart", spec := "usigApart", unfollowed := true, recurses := true, named := ["ratchet/sha.table"], apart := false, laid := [("ratchet/sha.table", laid_ratchet_sha_table)], narrowed := true }
def UsigApartUptoSaid : Prop := usigApartUptoRow.holds Tryd.pinned (OpenSpec.upto usigApartSpec)

/-- 'ratchetlaw07.UsigLost', WHERE WHAT IT READS IS OF BULK AT MOST 1048576: true; the input reads as it did. -/
def usigLostUptoRow : OpenClaim := { program := "ytmjdfajdompkeaadoor", sum := "c68e25bfedbfcc3956d1dc9a6b48d51458f3e54b67eb4bc58e19363f57753c63", func := "ratchet/ratchetlaw07.UsigLost", spec := "usigLost", unfollowed := true, recurses := true, named := ["ratchet/sha.table"], apart := false, laid := [("ratchet/sha.table", laid_ratchet_sha_table)], narrowed := true }
def UsigLostUptoSaid : Prop := usigLostUptoRow.holds Tryd.pinned (OpenSpec.upto usigLostSpec)

/-- 'ratchetlaw07.UsigOnce', WHERE WHAT IT READS IS OF BULK AT MOST 1048576: true; the input reads as it did. -/
def usigOnceUptoRow : OpenClaim := { program := "ytmjdfajdompkeaadoor", sum := "c68e25bfedbfcc3956d1dc9a6b48d51458f3e54b67eb4bc58e19363f57753c63", func := "ratchet/ratchetlaw07.UsigOnce", spec := "usigOnce", unfollowed := true, recurses := true, named := ["ratchet/sha.table"], apart := false, laid := [("ratchet/sha.table", laid_ratchet_sha_table)], narrowed := true }
def UsigOnceUptoSaid : Prop := usigOnceUptoRow.holds Tryd.pinned (OpenSpec.upto usigOnceSpec)

end Rows
end Go.Proofs.YtmjdfajdompkeaaDoor
