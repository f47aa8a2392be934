/- disk: what a disk is, in plain words and in memory. -/
import Derived.Test.YtmjdfajdompkeaaMapV
import Derived.Test.YtmjdfajdompkeaaMid
import Derived.Test.YtmjdfajdompkeaaEq
import Derived.Test.YtmjdfajdompkeaaRegion
namespace Go.Proofs.Ytmjdfajdompkeaa
open Go.RowKit Go.Rat
/-- From w to w': new blocks; of the old ones only those of F may have turned. -/
structure Chg (F : Nat → Prop) (w w' : World) : Prop where
  os : w'.os = w.os
  tape : w'.tape = w.tape
  output : w'.output = w.output
  size : w.heap.size ≤ w'.heap.size
  block : ∀ k, k < w.heap.size → ¬ F k → w'.heap[k]? = w.heap[k]?
section
variable {F G : Nat → Prop} {w w' w'' : World}
theorem Chg.refl (F : Nat → Prop) (w : World) : Chg F w w := ⟨rfl, rfl, rfl, Nat.le_refl _, fun _ _ _ => rfl⟩
theorem Chg.trans (h : Chg F w w') (k : Chg G w' w'') (hG : ∀ x, G x → F x ∨ w.heap.size ≤ x) : Chg F w w'' :=
  ⟨k.os.trans h.os, k.tape.trans h.tape, k.output.trans h.output, Nat.le_trans h.size k.size, fun x hx hF => (k.block x (Nat.lt_of_lt_of_le hx h.size) (fun hg => by
    rcases hG x hg with h1 | h1
    · exact hF h1
    · omega)).trans (h.block x hx hF)⟩
theorem Chg.mono (h : Chg F w w') (hG : ∀ x, F x → G x) : Chg G w w' := ⟨h.os, h.tape, h.output, h.size, fun x hx hF => h.block x hx (fun hf => hF (hG x hf))⟩
theorem Chg.of_grown {g : Nat} (h : w.grownBy w' (some g)) (hg : F g) : Chg F w w' := ⟨h.os, h.tape, h.output, h.size, fun x hx hF => h.block x hx (fun e => hF (by cases e; exact hg))⟩
theorem Chg.of_grown' {row : Option Nat} (h : w.grownBy w' row) (hg : ∀ g, row = some g → F g) : Chg F w w' := ⟨h.os, h.tape, h.output, h.size, fun x hx hF => h.block x hx (fun e => hF (hg x e.symm))⟩
theorem Chg.of_below (F : Nat → Prop) (h : Below w.heap.size w w') : Chg F w w' := ⟨h.os, h.tape, h.output, h.size, fun x hx _ => h.block x hx⟩
theorem Chg.below {B : Nat} (h : Chg F w w') (hF : ∀ x, F x → B ≤ x) (hB : B ≤ w.heap.size) : Below B w w' := ⟨h.os, h.tape, h.output, h.size, fun x hx => h.block x (by omega) (fun hf => by have := hF x hf; omega)⟩
theorem Chg.blk {g : Nat} {T : TypeId} {cs : Array Value} (h : Chg F w w') (hB : Blk w g T cs) (hg : ¬ F g) : Blk w' g T cs := (h.block g hB.lt hg).trans hB
theorem Chg.mapV {z : Value} {g : Nat} {f : Int → Value} (h : Chg F w w') (hB : MapV z w g f) (hg : ¬ F g) : MapV z w' g f := hB.same (h.block g hB.lt hg)
theorem Chg.own {base size n c : Nat} {e : TypeId} {A : Option Addr} {xs : List Value} (h : Chg F w w') (hO : w.ownsRow base e size (.slice A n c) n xs) (hg : ∀ x, A.map (·.block) = some x → ¬ F x) : w'.ownsRow base e size (.slice A n c) n xs := by
  refine ⟨hO.1, ?_⟩
  rcases hO.2 with h1 | ⟨g, cap, cur, hv, hb, hgg, rest⟩
  · exact .inl h1
  · refine .inr ⟨g, cap, cur, hv, hb, ?_, rest⟩
    injection hv with h3 h4 h5
    subst h3
    rw [h.block g (Array.getElem?_eq_some_iff.1 hgg).1 (hg g rfl)]
    exact hgg
theorem Chg.rb {A : Option Addr} {n : Nat} {xs : List UInt8} (h : Chg F w w') (hr : RB w A n xs) (hg : ∀ x, A.map (·.block) = some x → ¬ F x) : RB w' A n xs := by
  refine ⟨hr.1, fun hn => ?_⟩
  obtain ⟨ad, rfl, hb, hc⟩ := hr.2 hn
  refine ⟨ad, rfl, Nat.lt_of_lt_of_le hb h.size, fun j u hu => ?_⟩
  rw [World.cell?_of_block (w := w) (h.block _ (by rw [block_of_add]; exact hb) (by rw [block_of_add]; exact hg _ rfl))]
  exact hc j u hu
end
/-- A sector, a disk. -/
structure Sec where
  b : List UInt8
  lost : Bool
def zs : List UInt8 := List.replicate 128 0
theorem zs_length : zs.length = 128 := by rw [zs, List.length_replicate]
def zsec : Sec := ⟨zs, false⟩
def secL (s : Sec) : List Value := bvs s.b ++ [.bool s.lost]
def secV (s : Sec) : Value := .agg (secL s).toArray
structure DS where
  sure : Int → Sec
  now : Int → Sec
  loose : List (Int × List UInt8)
  off : Bool
  fuse : Int
def looseC (l : List (Int × List UInt8)) : List Value := l.flatMap fun x => .int .i64 x.1 :: bvs x.2
structure DOk (d : DS) : Prop where
  sure : ∀ a, (d.sure a).b.length = 128
  now : ∀ a, (d.now a).b.length = 128
  loose : ∀ x ∈ d.loose, (0 ≤ x.1 ∧ x.1 < 32768) ∧ x.2.length = 128
  fuse : -1 ≤ d.fuse ∧ d.fuse ≤ 9223372036854775807
/-- Where a disk lies. -/
structure DL where
  g : Nat
  gs : Nat
  gn : Nat
  A : Option Addr
  c : Nat
def DL.fp (l : DL) (x : Nat) : Prop := x = l.g ∨ x = l.gs ∨ x = l.gn ∨ l.A.map (·.block) = some x
structure DiskAt (w : World) (base : Nat) (l : DL) (d : DS) : Prop where
  blk : Blk w l.g 107 #[.map (some l.gs), .map (some l.gn), .slice l.A d.loose.length l.c, .bool d.off, .int .i64 d.fuse]
  sure : MapV (secV zsec) w l.gs (fun a => secV (d.sure a))
  now : MapV (secV zsec) w l.gn (fun a => secV (d.now a))
  row : w.ownsRow base 112 129 (.slice l.A d.loose.length l.c) d.loose.length (looseC d.loose)
  ne1 : l.g ≠ l.gs
  ne2 : l.g ≠ l.gn
  ne3 : l.gs ≠ l.gn
  rg : l.A.map (·.block) ≠ some l.g
  rs : l.A.map (·.block) ≠ some l.gs
  rn : l.A.map (·.block) ≠ some l.gn
  bg : base ≤ l.g
  bs : base ≤ l.gs
  bn : base ≤ l.gn
  ok : DOk d
section
variable {w w' : World} {base : Nat} {l : DL} {d : DS} {F : Nat → Prop}
theorem DiskAt.fp_lt (h : DiskAt w base l d) {x : Nat} (hx : l.fp x) : base ≤ x ∧ x < w.heap.size := by
  rcases hx with rfl | rfl | rfl | hx
  · exact ⟨h.bg, h.blk.lt⟩
  · exact ⟨h.bs, h.sure.lt⟩
  · exact ⟨h.bn, h.now.lt⟩
  · exact World.ownsRow.lt h.row x (by cases hA : l.A <;> simp_all [Value.ownBlock])
theorem DiskAt.kept (h : DiskAt w base l d) (hc : Chg F w w') (hF : ∀ x, l.fp x → ¬ F x) : DiskAt w' base l d :=
  ⟨hc.blk h.blk (hF _ (.inl rfl)), hc.mapV h.sure (hF _ (.inr (.inl rfl))), hc.mapV h.now (hF _ (.inr (.inr (.inl rfl)))), hc.own h.row (fun x hx => hF x (.inr (.inr (.inr hx)))),
    h.ne1, h.ne2, h.ne3, h.rg, h.rs, h.rn, h.bg, h.bs, h.bn, h.ok⟩
theorem DiskAt.below (h : DiskAt w base l d) (hb : Below w.heap.size w w') : DiskAt w' base l d :=
  h.kept (Chg.of_below (fun _ => False) hb) (fun _ _ hf => hf)
end
theorem secL_length {s : Sec} (h : s.b.length = 128) : (secL s).length = 129 := by rw [secL, List.length_append, bvs_length, h]; rfl
theorem i128 : (Try.prog.info? 28).map (·.size) = some 128 := by kernel_rfl
theorem i129 : (Try.prog.info? 110).map (·.size) = some 129 := by kernel_rfl
theorem w129 : (Try.prog.info? 112).map (·.size) = some 129 := by kernel_rfl
theorem zerosec (w : World) : (zeroValue 110).run Try.prog w = .ok (secV zsec) w := by kernel_rfl
end Go.Proofs.Ytmjdfajdompkeaa
