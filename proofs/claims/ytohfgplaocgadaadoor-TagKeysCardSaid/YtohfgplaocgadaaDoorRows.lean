/-
  NARROWER THAN 'FOR EVERY INPUT', by the rows' own cells (each row's printed sentence says how): ShaBlocks: laid · ShaSums: laid · ShaGoesOn: laid · TagNoughts: laid · TagSame: laid · TagPlays: laid · TagOthers: laid · TagKeys: laid.
  DERIVED. THE GIVEN ROWS OF THIS SEAT. 8 by the template 'for every input the law returns true; each argument reads behind the call as it read before'; 0 by the template 'total and deterministic' (their statements: YtohfgplaocgadaaDoorTotals.lean).
  GIVEN WITH THE SEED: the statements are not yours to turn. If you find one false, say at which input.
  Laid BY PROGRAM, IN A SANDBOX (cutbox-rows.mjs): the forced cells as the released guide's own fill.sh prints them over the translation 6e15233940996c57… (all of the seat's roots in one cut). By AI agents, Wed Nov 11 2026. No macro, syntax, notation, axiom, sorry.
-/
import Derived.Test.YtohfgplaocgadaaDoorChecked
import GoSem.Claim
import GoSem.ClaimJoined
import GoSem.ClaimMapViews
import Derived.JoinedTies
import Derived.KernelRfl
namespace Go.Proofs.YtohfgplaocgadaaDoor
/- THE CELL 'sum', in the pinned program and in every row, IS THE sha256 OF THE DUMP (.gsa) THAT YtohfgplaocgadaaDoorProg.lean LOADS. Nothing in Lean hashes anything: it is a label: what it is worth is what the hold of that sum in a sandbox is worth. -/
noncomputable def Tryd.pinned : Pinned := { name := "ytohfgplaocgadaadoor", sum := "6e15233940996c57a7b01dd23f6deb26994ed377ab86b22839e07962a4d0409b", checked := Tryd.checked }
namespace Rows
def none {H : Type} : Left H := { results := [], args := [] }

/- WHAT THE LISTED PACKAGE-LEVEL VARIABLES READ AS WHEN THE CALL BEGINS. Each datum BY PROGRAM (the guide's laid-datum.mjs) off the statement by which the dump's own 'gosem.cut.vars' lays the variable. In a bare row this is a premise. The card (YtohfgplaocgadaaDoorCards.lean) ties it to the program's text. -/
def laid_ratchet_sha_table {H : Type} : DataW H := .agg [.lit (.int .u32 1116352408), .lit (.int .u32 1899447441), .lit (.int .u32 3049323471), .lit (.int .u32 3921009573), .lit (.int .u32 961987163), .lit (.int .u32 1508970993), .lit (.int .u32 2453635748), .lit (.int .u32 2870763221), .lit (.int .u32 3624381080), .lit (.int .u32 310598401), .lit (.int .u32 607225278), .lit (.int .u32 1426881987), .lit (.int .u32 1925078388), .lit (.int .u32 2162078206), .lit (.int .u32 2614888103), .lit (.int .u32 3248222580), .lit (.int .u32 3835390401), .lit (.int .u32 4022224774), .lit (.int .u32 264347078), .lit (.int .u32 604807628), .lit (.int .u32 770255983), .lit (.int .u32 1249150122), .lit (.int .u32 1555081692), .lit (.int .u32 1996064986), .lit (.int .u32 2554220882), .lit (.int .u32 2821834349), .lit (.int .u32 2952996808), .lit (.int .u32 3210313671), .lit (.int .u32 3336571891), .lit (.int .u32 3584528711), .lit (.int .u32 113926993), .lit (.int .u32 338241895), .lit (.int .u32 666307205), .lit (.int .u32 773529912), .lit (.int .u32 1294757372), .lit (.int .u32 1396182291), .lit (.int .u32 1695183700), .lit (.int .u32 1986661051), .lit (.int .u32 2177026350), .lit (.int .u32 2456956037), .lit (.int .u32 2730485921), .lit (.int .u32 2820302411), .lit (.int .u32 3259730800), .lit (.int .u32 3345764771), .lit (.int .u32 3516065817), .lit (.int .u32 3600352804), .lit (.int .u32 4094571909), .lit (.int .u32 275423344), .lit (.int .u32 430227734), .lit (.int .u32 506948616), .lit (.int .u32 659060556), .lit (.int .u32 883997877), .lit (.int .u32 958139571), .lit (.int .u32 1322822218), .lit (.int .u32 1537002063), .lit (.int .u32 1747873779), .lit (.int .u32 1955562222), .lit (.int .u32 2024104815), .lit (.int .u32 2227730452), .lit (.int .u32 2361852424), .lit (.int .u32 2428436474), .lit (.int .u32 2756734187), .lit (.int .u32 3204031479), .lit (.int .u32 3329325298)]

/-- 'ratchetlaw02.ShaBlocks': WHATEVER THE INPUT: true; the input reads as it did. -/
def shaBlocksSpec : ChangeSpec := { name := "shaBlocks", fn := fun _ => fun
  | [d1, d2] => { results := [.lit (.bool true)], args := [d1, d2] }
  | _ => none }
def shaBlocksRow : OpenClaim := { program := "ytohfgplaocgadaadoor", sum := "6e15233940996c57a7b01dd23f6deb26994ed377ab86b22839e07962a4d0409b", func := "ratchet/ratchetlaw02.ShaBlocks", spec := "shaBlocks", named := ["ratchet/sha.table"], apart := false, laid := [("ratchet/sha.table", laid_ratchet_sha_table)] }
def ShaBlocksSaid : Prop := shaBlocksRow.holds Tryd.pinned (OpenSpec.ofChange shaBlocksSpec)

/-- ITS FALSE NEIGHBOUR: 'it returns false'. Refute it at one input. -/
def shaBlocksWrong : ChangeSpec := { name := "shaBlocks", fn := fun _ => fun
  | [d1, d2] => { results := [.lit (.bool false)], args := [d1, d2] }
  | _ => none }
def ShaBlocksWrongFalsely : Prop := shaBlocksRow.holds Tryd.pinned (OpenSpec.ofChange shaBlocksWrong)

/-- 'ratchetlaw02.ShaSums': WHATEVER THE INPUT: true; the input reads as it did. -/
def shaSumsSpec : ChangeSpec := { name := "shaSums", fn := fun _ => fun
  | [d] => { results := [.lit (.bool true)], args := [d] }
  | _ => none }
def shaSumsRow : OpenClaim := { program := "ytohfgplaocgadaadoor", sum := "6e15233940996c57a7b01dd23f6deb26994ed377ab86b22839e07962a4d0409b", func := "ratchet/ratchetlaw02.ShaSums", spec := "shaSums", named := ["ratchet/sha.table"], apart := false, laid := [("ratchet/sha.table", laid_ratchet_sha_table)] }
def ShaSumsSaid : Prop := shaSumsRow.holds Tryd.pinned (OpenSpec.ofChange shaSumsSpec)

/-- ITS FALSE NEIGHBOUR: 'it returns false'. Refute it at one input. -/
def shaSumsWrong : ChangeSpec := { name := "shaSums", fn := fun _ => fun
  | [d] => { results := [.lit (.bool false)], args := [d] }
  | _ => none }
def ShaSumsWrongFalsely : Prop := shaSumsRow.holds Tryd.pinned (OpenSpec.ofChange shaSumsWrong)

/-- 'ratchetlaw02.ShaGoesOn': WHATEVER THE INPUT: true; the input reads as it did. -/
def shaGoesOnSpec : ChangeSpec := { name := "shaGoesOn", fn := fun _ => fun
  | [d1, d2] => { results := [.lit (.bool true)], args := [d1, d2] }
  | _ => none }
def shaGoesOnRow : OpenClaim := { program := "ytohfgplaocgadaadoor", sum := "6e15233940996c57a7b01dd23f6deb26994ed377ab86b22839e07962a4d0409b", func := "ratchet/ratchetlaw02.ShaGoesOn", spec := "shaGoesOn", named := ["ratchet/sha.table"], apart := false, laid := [("ratchet/sha.table", laid_ratchet_sha_table)] }
def ShaGoesOnSaid : Prop := shaGoesOnRow.holds Tryd.pinned (OpenSpec.ofChange shaGoesOnSpec)

/-- ITS FALSE NEIGHBOUR: 'it returns false'. Refute it at one input. -/
def shaGoesOnWrong : ChangeSpec := { name := "shaGoesOn", fn := fun _ => fun
  | [d1, d2] => { results := [.lit (.bool false)], args := [d1, d2] }
  | _ => none }
def ShaGoesOnWrongFalsely : Prop := shaGoesOnRow.holds Tryd.pinned (OpenSpec.ofChange shaGoesOnWrong)

/-- 'ratchetlaw03.TagNoughts': WHATEVER THE INPUT: true; the input reads as it did. -/
def tagNoughtsSpec : ChangeSpec := { name := "tagNoughts", fn := fun _ => fun
  | [d1, d2, d3] => { results := [.lit (.bool true)], args := [d1, d2, d3] }
  | _ => none }
def tagNoughtsRow : OpenClaim := { program := "ytohfgplaocgadaadoor", sum := "6e15233940996c57a7b01dd23f6deb26994ed377ab86b22839e07962a4d0409b", func := "ratchet/ratchetlaw03.TagNoughts", spec := "tagNoughts", named := ["ratchet/sha.table"], apart := false, laid := [("ratchet/sha.table", laid_ratchet_sha_table)] }
def TagNoughtsSaid : Prop := tagNoughtsRow.holds Tryd.pinned (OpenSpec.ofChange tagNoughtsSpec)

/-- ITS FALSE NEIGHBOUR: 'it returns false'. Refute it at one input. -/
def tagNoughtsWrong : ChangeSpec := { name := "tagNoughts", fn := fun _ => fun
  | [d1, d2, d3] => { results := [.lit (.bool false)], args := [d1, d2, d3] }
  | _ => none }
def TagNoughtsWrongFalsely : Prop := tagNoughtsRow.holds Tryd.pinned (OpenSpec.ofChange tagNoughtsWrong)

/-- 'ratchetlaw03.TagSame': WHATEVER THE INPUT: true; the input reads as it did. -/
def tagSameSpec : ChangeSpec := { name := "tagSame", fn := fun _ => fun
  | [d1, d2, d3] => { results := [.lit (.bool true)], args := [d1, d2, d3] }
  | _ => none }
def tagSameRow : OpenClaim := { program := "ytohfgplaocgadaadoor", sum := "6e15233940996c57a7b01dd23f6deb26994ed377ab86b22839e07962a4d0409b", func := "ratchet/ratchetlaw03.TagSame", spec := "tagSame", named := ["ratchet/sha.table"], apart := false, laid := [("ratchet/sha.table", laid_ratchet_sha_table)] }
def TagSameSaid : Prop := tagSameRow.holds Tryd.pinned (OpenSpec.ofChange tagSameSpec)

/-- ITS FALSE NEIGHBOUR: 'it returns false'. Refute it at one input. -/
def tagSameWrong : ChangeSpec := { name := "tagSame", fn := fun _ => fun
  | [d1, d2, d3] => { results := [.lit (.bool false)], args := [d1, d2, d3] }
  | _ => none }
def TagSameWrongFalsely : Prop := tagSameRow.holds Tryd.pinned (OpenSpec.ofChange tagSameWrong)

/-- 'ratchetlaw03.TagPlays': WHATEVER THE INPUT: true; the input reads as it did. -/
def tagPlaysSpec : ChangeSpec := { name := "tagPlays", fn := fun _ => fun
  | [d1, d2, d3, d4] => { results := [.lit (.bool true)], args := [d1, d2, d3, d4] }
  | _ => none }
def tagPlaysRow : OpenClaim := { program := "ytohfgplaocgadaadoor", sum := "6e15233940996c57a7b01dd23f6deb26994ed377ab86b22839e07962a4d0409b", func := "ratchet/ratchetlaw03.TagPlays", spec := "tagPlays", named := ["ratchet/sha.table"], apart := false, laid := [("ratchet/sha.table", laid_ratchet_sha_table)] }
def TagPlaysSaid : Prop := tagPlaysRow.holds Tryd.pinned (OpenSpec.ofChange tagPlaysSpec)

/-- ITS FALSE NEIGHBOUR: 'it returns false'. Refute it at one input. -/
def tagPlaysWrong : ChangeSpec := { name := "tagPlays", fn := fun _ => fun
  | [d1, d2, d3, d4] => { results := [.lit (.bool false)], args := [d1, d2, d3, d4] }
  | _ => none }
def TagPlaysWrongFalsely : Prop := tagPlaysRow.holds Tryd.pinned (OpenSpec.ofChange tagPlaysWrong)

/-- 'ratchetlaw03.TagOthers': WHATEVER THE INPUT: true; the input reads as it did. -/
def tagOthersSpec : ChangeSpec := { name := "tagOthers", fn := fun _ => fun
  | [d1, d2, d3] => { results := [.lit (.bool true)], args := [d1, d2, d3] }
  | _ => none }
def tagOthersRow : OpenClaim := { program := "ytohfgplaocgadaadoor", sum := "6e15233940996c57a7b01dd23f6deb26994ed377ab86b22839e07962a4d0409b", func := "ratchet/ratchetlaw03.TagOthers", spec := "tagOthers", named := ["ratchet/sha.table"], apart := false, laid := [("ratchet/sha.table", laid_ratchet_sha_table)] }
def TagOthersSaid : Prop := tagOthersRow.holds Tryd.pinned (OpenSpec.ofChange tagOthersSpec)

/-- ITS FALSE NEIGHBOUR: 'it returns false'. Refute it at one input. -/
def tagOthersWrong : ChangeSpec := { name := "tagOthers", fn := fun _ => fun
  | [d1, d2, d3] => { results := [.lit (.bool false)], args := [d1, d2, d3] }
  | _ => none }
def TagOthersWrongFalsely : Prop := tagOthersRow.holds Tryd.pinned (OpenSpec.ofChange tagOthersWrong)

/-- 'ratchetlaw03.TagKeys': WHATEVER THE INPUT: true; the input reads as it did. -/
def tagKeysSpec : ChangeSpec := { name := "tagKeys", fn := fun _ => fun
  | [d1, d2, d3, d4] => { results := [.lit (.bool true)], args := [d1, d2, d3, d4] }
  | _ => none }
def tagKeysRow : OpenClaim := { program := "ytohfgplaocgadaadoor", sum := "6e15233940996c57a7b01dd23f6deb26994ed377ab86b22839e07962a4d0409b", func := "ratchet/ratchetlaw03.TagKeys", spec := "tagKeys", named := ["ratchet/sha.table"], apart := false, laid := [("ratchet/sha.table", laid_ratchet_sha_table)] }
def TagKeysSaid : Prop := tagKeysRow.holds Tryd.pinned (OpenSpec.ofChange tagKeysSpec)

/-- ITS FALSE NEIGHBOUR: 'it returns false'. Refute it at one input. -/
def tagKeysWrong : ChangeSpec := { name := "tagKeys", fn := fun _ => fun
  | [d1, d2, d3, d4] => { results := [.lit (.bool false)], args := [d1, d2, d3, d4] }
  | _ => none }
def TagKeysWrongFalsely : Prop := tagKeysRow.holds Tryd.pinned (OpenSpec.ofChange tagKeysWrong)

/- THE SECOND FORM. 'bulk': how many values and letters a reading holds, each counted each time it is reached (what is shared counts as often as it is met; a slice's spare places count too). A statement '..UptoSaid' is the law's where the arguments, and the package variables that the reading takes, are together of bulk at most 1048576: NARROWER than '..Said'. Prove '..Said' where nothing that the law and all that it calls make is longer than what came in: it says more and counts as full. Else prove '..UptoSaid'. A law counts once. -/
mutual
def uptoBulk {H : Type} : DataW H → Nat
  | .lit (.string bytes) => bytes.length + 1
  | .lit _ => 1
  | .nil => 1
  | .ptr d => uptoBulk d + 1
  | .slice elems spare => uptoBulkAll elems + uptoBulkAll spare + 1
  | .agg parts => uptoBulkAll parts + 1
  | .iface _ d => uptoBulk d + 1
  | .map entries => uptoBulkEntries entries + 1
  | .held _ => 1
def uptoBulkAll {H : Type} : List (DataW H) → Nat
  | [] => 0
  | d :: r => uptoBulk d + uptoBulkAll r
def uptoBulkEntries {H : Type} : List (Lit × DataW H) → Nat
  | [] => 0
  | x :: r => uptoBulkEntry x + uptoBulkEntries r
def uptoBulkEntry {H : Type} : Lit × DataW H → Nat
  | (.string bytes, d) => bytes.length + uptoBulk d + 1
  | (_, d) => uptoBulk d + 1
 end
def uptoSmall : (H : Type) → List (DataW H) → Bool := fun _ ds => decide (uptoBulkAll ds ≤ 1048576)
def OpenSpec.upto (s : _root_.Go.ChangeSpec) : _root_.Go.OpenSpec := { _root_.Go.OpenSpec.ofChange s with cond := some uptoSmall }

/-- 'ratchetlaw02.ShaBlocks', WHERE WHAT IT READS IS OF BULK AT MOST 1048576: true; the input reads as it did. -/
def shaBlocksUptoRow : OpenClaim := { program := "ytohfgplaocgadaadoor", sum := "6e15233940996c57a7b01dd23f6deb26994ed377ab86b22839e07962a4d0409b", func := "ratchet/ratchetlaw02.ShaBlocks", spec := "shaBlocks", named := ["ratchet/sha.table"], apart := false, laid := [("ratchet/sha.table", laid_ratchet_sha_table)], narrowed := true }
def ShaBlocksUptoSaid : Prop := shaBlocksUptoRow.holds Tryd.pinned (OpenSpec.upto shaBlocksSpec)

/-- 'ratchetlaw02.ShaSums', WHERE WHAT IT READS IS OF BULK AT MOST 1048576: true; the input reads as it did. -/
def shaSumsUptoRow : OpenClaim := { program := "ytohfgplaocgadaadoor", sum := "6e15233940996c57a7b01dd23f6deb26994ed377ab86b22839e07962a4d0409b", func := "ratchet/ratchetlaw02.ShaSums", spec := "shaSums", named := ["ratchet/sha.table"], apart := false, laid := [("ratchet/sha.table", laid_ratchet_sha_table)], narrowed := true }
def ShaSumsUptoSaid : Prop := shaSumsUptoRow.holds Tryd.pinned (OpenSpec.upto shaSumsSpec)

/-- 'ratchetlaw02.ShaGoesOn', WHERE WHAT IT READS IS OF BULK AT MOST 1048576: true; the input reads as it did. -/
def shaGoesOnUptoRow : OpenClaim := { program := "ytohfgplaocgadaadoor", sum := "6e15233940996c57a7b01dd23f6deb26994ed377ab86b22839e07962a4d0409b", func := "ratchet/ratchetlaw02.ShaGoesOn", spec := "shaGoesOn", named := ["ratchet/sha.table"], apart := false, laid := [("ratchet/sha.table", laid_ratchet_sha_table)], narrowed := true }
def ShaGoesOnUptoSaid : Prop := shaGoesOnUptoRow.holds Tryd.pinned (OpenSpec.upto shaGoesOnSpec)

/-- 'ratchetlaw03.TagNoughts', WHERE WHAT IT READS IS OF BULK AT MOST 1048576: true; the input reads as it did. -/
def tagNoughtsUptoRow : OpenClaim := { program := "ytohfgplaocgadaadoor", sum := "6e15233940996c57a7b01dd23f6deb26994ed377ab86b22839e07962a4d0409b", func := "ratchet/ratchetlaw03.TagNoughts", spec := "tagNoughts", named := ["ratchet/sha.table"], apart := false, laid := [("ratchet/sha.table", laid_ratchet_sha_table)], narrowed := true }
def TagNoughtsUptoSaid : Prop := tagNoughtsUptoRow.holds Tryd.pinned (OpenSpec.upto tagNoughtsSpec)

/-- 'ratchetlaw03.TagSame', WHERE WHAT IT READS IS OF BULK AT MOST 1048576: true; the input reads as it did. -/
def tagSameUptoRow : OpenClaim := { program := "ytohfgplaocgadaadoor", sum := "6e15233940996c57a7b01dd23f6deb26994ed377ab86b22839e07962a4d0409b", func := "ratchet/ratchetlaw03.TagSame", spec := "tagSame", named := ["ratchet/sha.table"], apart := false, laid := [("ratchet/sha.table", laid_ratchet_sha_table)], narrowed := true }
def TagSameUptoSaid : Prop := tagSameUptoRow.holds Tryd.pinned (OpenSpec.upto tagSameSpec)

/-- 'ratchetlaw03.TagPlays', WHERE WHAT IT READS IS OF BULK AT MOST 1048576: true; the input reads as it did. -/
def tagPlaysUptoRow : OpenClaim := { program := "ytohfgplaocgadaadoor", sum := "6e15233940996c57a7b01dd23f6deb26994ed377ab86b22839e07962a4d0409b", func := "ratchet/ratchetlaw03.TagPlays", spec := "tagPlays", named := ["ratchet/sha.table"], apart := false, laid := [("ratchet/sha.table", laid_ratchet_sha_table)], narrowed := true }
def TagPlaysUptoSaid : Prop := tagPlaysUptoRow.holds Tryd.pinned (OpenSpec.upto tagPlaysSpec)

/-- 'ratchetlaw03.TagOthers', WHERE WHAT IT READS IS OF BULK AT MOST 1048576: true; the input reads as it did. -/
def tagOthersUptoRow : OpenClaim := { program := "ytohfgplaocgadaadoor", sum := "6e15233940996c57a7b01dd23f6deb26994ed377ab86b22839e07962a4d0409b", func := "ratchet/ratchetlaw03.TagOthers", spec := "tagOthers", named := ["ratchet/sha.table"], apart := false, laid := [("ratchet/sha.table", laid_ratchet_sha_table)], narrowed := true }
def TagOthersUptoSaid : Prop := tagOthersUptoRow.holds Tryd.pinned (OpenSpec.upto tagOthersSpec)

/-- 'ratchetlaw03.TagKeys', WHERE WHAT IT READS IS OF BULK AT MOST 1048576: true; the input reads as it did. -/
def tagKeysUptoRow : OpenClaim := { program := "ytohfgplaocgadaadoor", sum := "6e15233940996c57a7b01dd23f6deb26994ed377ab86b22839e07962a4d0409b", func := "ratchet/ratchetlaw03.TagKeys", spec := "tagKeys", named := ["ratchet/sha.table"], apart := false, laid := [("ratchet/sha.table", laid_ratchet_sha_table)], narrowed := true }
def TagKeysUptoSaid : Prop := tagKeysUptoRow.holds Tryd.pinned (OpenSpec.upto tagKeysSpec)

end Rows
end Go.Proofs.YtohfgplaocgadaaDoor
