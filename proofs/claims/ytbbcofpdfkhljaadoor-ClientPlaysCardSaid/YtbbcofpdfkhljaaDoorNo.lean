/- Arguments of a statement, opened: what a value that can be read as data looks like in memory. -/
import Derived.ProofKit
import Derived.OpenShut
import Derived.ShutString
import Derived.ChangeOld
import Derived.SizedLaws
import Derived.Deep.Slices
import Derived.Test.YtbbcofpdfkhljaaDoorNa
import Derived.Test.YtbbcofpdfkhljaaDoorNh
import Derived.WalkKit
import Derived.Deep.DeepHandedRow
import Derived.Lib.LaidTab
namespace Go.Rat
open Go.ChangeShapes Go.WideShapes Go.ChangeAt Go.RowKit Go

/-- Whatever reads at type t has the cells of some a, and I holds of it. -/
def Rds (P : Program) (t : TypeId) {α : Type} (cells : α → List Value) (I : World → α → Prop) : Prop :=
  ∀ (H : Type) (enc : TypeId × Value → H) (w : World) (base : Nat) (spare : Nat → Bool) (held : Bool) (fuel : Nat) (cs : List Value) (x : DataW H × List MemPlace), DataW.trod enc P w base spare held fuel t cs = some x → ∃ a, cs = cells a ∧ I w a

section
variable {P : Program} {t : TypeId}
theorem wf_bounds {k : IntKind} {n : Int} (h : (Lit.int k n).wf = true) : k.min ≤ n ∧ n ≤ k.max := by simpa [Lit.wf] using h
theorem rds_u8 (hu : P.underlying t = some (.int .u8)) : Rds P t (fun x : UInt8 => [.int .u8 (x.toNat : Int)]) (fun _ _ => True) := by
  intro H enc w base spare held fuel cs x h
  obtain ⟨n, rfl, _, hw⟩ := DataW.trod_int hu h
  have hb := wf_bounds hw
  simp [IntKind.min, IntKind.max, IntKind.signed, IntKind.bits] at hb
  refine ⟨UInt8.ofNat n.toNat, ?_, trivial⟩
  have : (UInt8.ofNat n.toNat).toNat = n.toNat := by rw [UInt8.toNat_ofNat']; omega
  show _ = [Value.int .u8 ((UInt8.ofNat n.toNat).toNat : Int)]
  rw [this, Int.toNat_of_nonneg hb.1]
theorem rds_u16 (hu : P.underlying t = some (.int .u16)) : Rds P t (fun x : UInt16 => [.int .u16 (x.toNat : Int)]) (fun _ _ => True) := by
  intro H enc w base spare held fuel cs x h
  obtain ⟨n, rfl, _, hw⟩ := DataW.trod_int hu h
  have hb := wf_bounds hw
  simp [IntKind.min, IntKind.max, IntKind.signed, IntKind.bits] at hb
  refine ⟨UInt16.ofNat n.toNat, ?_, trivial⟩
  have : (UInt16.ofNat n.toNat).toNat = n.toNat := by rw [UInt16.toNat_ofNat']; omega
  show _ = [Value.int .u16 ((UInt16.ofNat n.toNat).toNat : Int)]
  rw [this, Int.toNat_of_nonneg hb.1]
theorem rds_u32 (hu : P.underlying t = some (.int .u32)) : Rds P t (fun x : UInt32 => [.int .u32 (x.toNat : Int)]) (fun _ _ => True) := by
  intro H enc w base spare held fuel cs x h
  obtain ⟨n, rfl, _, hw⟩ := DataW.trod_int hu h
  have hb := wf_bounds hw
  simp [IntKind.min, IntKind.max, IntKind.signed, IntKind.bits] at hb
  refine ⟨UInt32.ofNat n.toNat, ?_, trivial⟩
  have : (UInt32.ofNat n.toNat).toNat = n.toNat := by rw [UInt32.toNat_ofNat']; omega
  show _ = [Value.int .u32 ((UInt32.ofNat n.toNat).toNat : Int)]
  rw [this, Int.toNat_of_nonneg hb.1]
theorem rds_u64 (hu : P.underlying t = some (.int .u64)) : Rds P t (fun x : UInt64 => [.int .u64 (x.toNat : Int)]) (fun _ _ => True) := by
  intro H enc w base spare held fuel cs x h
  obtain ⟨n, rfl, _, hw⟩ := DataW.trod_int hu h
  have hb := wf_bounds hw
  simp [IntKind.min, IntKind.max, IntKind.signed, IntKind.bits] at hb
  refine ⟨UInt64.ofNat n.toNat, ?_, trivial⟩
  have : (UInt64.ofNat n.toNat).toNat = n.toNat := by rw [UInt64.toNat_ofNat']; omega
  show _ = [Value.int .u64 ((UInt64.ofNat n.toNat).toNat : Int)]
  rw [this, Int.toNat_of_nonneg hb.1]
theorem rds_i64 (hu : P.underlying t = some (.int .i64)) : Rds P t (fun n : Int => [.int .i64 n]) (fun _ n => -9223372036854775808 ≤ n ∧ n ≤ 9223372036854775807) := by
  intro H enc w base spare held fuel cs x h
  obtain ⟨n, rfl, _, hw⟩ := DataW.trod_int hu h
  have hb := wf_bounds hw
  simp [IntKind.min, IntKind.max, IntKind.signed, IntKind.bits] at hb
  exact ⟨n, rfl, hb⟩
theorem rds_i8 (hu : P.underlying t = some (.int .i8)) : Rds P t (fun n : Int => [.int .i8 n]) (fun _ n => -128 ≤ n ∧ n ≤ 127) := by
  intro H enc w base spare held fuel cs x h
  obtain ⟨n, rfl, _, hw⟩ := DataW.trod_int hu h
  have hb := wf_bounds hw
  simp [IntKind.min, IntKind.max, IntKind.signed, IntKind.bits] at hb
  exact ⟨n, rfl, hb⟩
theorem rds_bool (hu : P.underlying t = some .bool) : Rds P t (fun b : Bool => [.bool b]) (fun _ _ => True) := by
  intro H enc w base spare held fuel cs x h
  obtain ⟨b, rfl, _⟩ := DataW.trod_bool hu h
  exact ⟨b, rfl, trivial⟩
theorem rds_string (hu : P.underlying t = some .string) : Rds P t (fun s : ByteArray => [.string s]) (fun _ s => s.size ≤ maxLen) := by
  intro H enc w base spare held fuel cs x h
  obtain ⟨s, rfl, _, hs⟩ := DataW.trod_string hu h
  exact ⟨s, rfl, hs⟩
theorem cut_piece {cs : List Value} {o s : Nat} {l : List Value} (h : (cs.drop o).take s = l) : cs.drop o = l ++ cs.drop (o + s) := by
  rw [← List.drop_drop, ← h, List.take_append_drop]
/-- A struct of two, three, five fields. -/
theorem rds_struct2 {f1 f2 : Field} {α β : Type} {c1 : α → List Value} {c2 : β → List Value} {I1 : World → α → Prop} {I2 : World → β → Prop} (hu : P.underlying t = some (.struct #[f1, f2]))
    (h1 : Rds P f1.type c1 I1) (h2 : Rds P f2.type c2 I2)
    (o1 : f1.offset = 0) (o2 : f2.offset = P.cellsOf f1.type) (ot : P.cellsOf t = P.cellsOf f1.type + P.cellsOf f2.type) :
    Rds P t (fun x : α × β => c1 x.1 ++ c2 x.2) (fun w x => I1 w x.1 ∧ I2 w x.2) := by
  intro H enc w base spare held fuel cs x h
  obtain ⟨xs, n, _, _, hlen, hxs, hf⟩ := DataW.trod_struct hu h
  have e1 := hf 0 f1 rfl
  have e2 := hf 1 f2 rfl
  rw [List.getElem?_eq_getElem (by rw [hxs]; simp)] at e1 e2
  obtain ⟨a, ha, i1⟩ := h1 _ _ _ _ _ _ _ _ _ e1
  obtain ⟨b, hb, i2⟩ := h2 _ _ _ _ _ _ _ _ _ e2
  refine ⟨(a, b), ?_, i1, i2⟩
  have p1 := cut_piece ha
  have p2 := cut_piece hb
  rw [o1] at p1
  rw [List.drop_zero, Nat.zero_add, ← o2, p2, o2, ← ot, ← hlen, List.drop_length, List.append_nil] at p1
  exact p1
theorem rds_struct3 {f1 f2 f3 : Field} {α β γ : Type} {c1 : α → List Value} {c2 : β → List Value} {c3 : γ → List Value} {I1 : World → α → Prop} {I2 : World → β → Prop} {I3 : World → γ → Prop} (hu : P.underlying t = some (.struct #[f1, f2, f3]))
    (h1 : Rds P f1.type c1 I1) (h2 : Rds P f2.type c2 I2) (h3 : Rds P f3.type c3 I3)
    (o1 : f1.offset = 0) (o2 : f2.offset = P.cellsOf f1.type) (o3 : f3.offset = P.cellsOf f1.type + P.cellsOf f2.type) (ot : P.cellsOf t = P.cellsOf f1.type + P.cellsOf f2.type + P.cellsOf f3.type) :
    Rds P t (fun x : α × β × γ => c1 x.1 ++ (c2 x.2.1 ++ c3 x.2.2)) (fun w x => I1 w x.1 ∧ I2 w x.2.1 ∧ I3 w x.2.2) := by
  intro H enc w base spare held fuel cs x h
  obtain ⟨xs, n, _, _, hlen, hxs, hf⟩ := DataW.trod_struct hu h
  have e1 := hf 0 f1 rfl
  have e2 := hf 1 f2 rfl
  have e3 := hf 2 f3 rfl
  rw [List.getElem?_eq_getElem (by rw [hxs]; simp)] at e1 e2 e3
  obtain ⟨a, ha, i1⟩ := h1 _ _ _ _ _ _ _ _ _ e1
  obtain ⟨b, hb, i2⟩ := h2 _ _ _ _ _ _ _ _ _ e2
  obtain ⟨c, hc, i3⟩ := h3 _ _ _ _ _ _ _ _ _ e3
  refine ⟨(a, b, c), ?_, i1, i2, i3⟩
  have p1 := cut_piece ha
  have p2 := cut_piece hb
  have p3 := cut_piece hc
  rw [o1, List.drop_zero, Nat.zero_add, ← o2, p2, o2, ← o3, p3, o3, ← ot, ← hlen, List.drop_length, List.append_nil] at p1
  exact p1
theorem cells_split {w : World} {base n : Nat} {a : Addr} {cs : List Value} (h : w.cells? base a n = some cs) : cs.length = n ∧ ∀ j u, cs[j]? = some u → w.cell? (a.add j) = some u := by
  obtain ⟨_, hl, hc⟩ := World.cells?_some h
  refine ⟨hl, fun j u hu => ?_⟩
  have hj : j < cs.length := (List.getElem?_eq_some_iff.1 hu).1
  rw [hc j (by omega)]
  exact hu
/-- A slice that came in. -/
theorem slice_cells {e : TypeId} {α : Type} {cells : α → List Value} {I : World → α → Prop} (hu : P.underlying t = some (.slice e)) (hR : Rds P e cells I) {size : Nat} (hs : P.cellsOf e = size) (hs0 : 0 < size)
    {H : Type} {enc : TypeId × Value → H} {w : World} {base : Nat} {spare : Nat → Bool} {held : Bool} {fuel : Nat} {A : Option Addr} {n c : Nat} {x : DataW H × List MemPlace} (h : DataW.trod enc P w base spare held fuel t [.slice A n c] = some x) :
    ∃ l : List α, l.length = n ∧ Reads w w.heap.size size A n (l.flatMap cells) ∧ (∀ a ∈ l, I w a ∧ (cells a).length = size) ∧ n ≤ c ∧ c ≤ maxLen ∧ ((A = none ∧ n = 0 ∧ c = 0) ∨ ∃ a elems sp, A = some a ∧ x.1 = .slice elems sp ∧ elems.length = n ∧ elems.length + sp.length = (if spare a.block then c else n)) := by
  subst hs
  rcases Go.Deep.open_slice hu h with ⟨hcs, hx⟩ | ⟨a, len, cap, m, k, D, Pl, hcs, _, hl, hm, hmm, hx, hel⟩
  · simp only [List.cons.injEq, Value.slice.injEq, and_true] at hcs
    obtain ⟨rfl, rfl, rfl⟩ := hcs
    exact ⟨[], rfl, ⟨by simp, fun h => absurd h (by omega)⟩, by simp, by omega, by simp [maxLen], .inl ⟨rfl, rfl, rfl⟩⟩
  · simp only [List.cons.injEq, Value.slice.injEq, and_true] at hcs
    obtain ⟨rfl, rfl, rfl⟩ := hcs
    have hnm : n ≤ m := by subst hmm; split <;> omega
    have F : ∀ i, i < n → ∃ b, w.cells? base (a.add (i * P.cellsOf e)) (P.cellsOf e) = some (cells b) ∧ I w b := by
      intro i hi
      obtain ⟨cs', h1, h2⟩ := hel i (by omega)
      obtain ⟨b, rfl, hI⟩ := hR _ _ _ _ _ _ _ _ _ h2
      exact ⟨b, h1, hI⟩
    obtain ⟨l, hll, hli⟩ : ∃ l : List α, l.length = n ∧ ∀ i b, l[i]? = some b → w.cells? base (a.add (i * P.cellsOf e)) (P.cellsOf e) = some (cells b) ∧ I w b := by
      clear hel hx hmm hnm hl hm h
      induction n with
      | zero => exact ⟨[], rfl, by simp⟩
      | succ n ih =>
        obtain ⟨l, h1, h2⟩ := ih (fun i hi => F i (by omega))
        obtain ⟨b, hb⟩ := F n (by omega)
        refine ⟨l ++ [b], by simp [h1], fun i b' hb' => ?_⟩
        rcases Nat.lt_or_ge i l.length with hlt | hge
        · rw [List.getElem?_append_left hlt] at hb'
          exact h2 i b' hb'
        · rw [List.getElem?_append_right hge] at hb'
          have : i - l.length = 0 := by
            rcases Nat.eq_zero_or_pos (i - l.length) with h | h
            · exact h
            · rw [List.getElem?_eq_none (by simp; omega)] at hb'; cases hb'
          rw [this] at hb'
          simp at hb'
          subst hb'
          have : i = n := by omega
          subst this
          exact hb
    have hlen : ∀ b ∈ l, (cells b).length = P.cellsOf e := by
      intro b hb
      obtain ⟨i, hi, rfl⟩ := List.getElem_of_mem hb
      exact (cells_split (hli i _ (List.getElem?_eq_getElem hi)).1).1
    have hcell : ∀ j u, (l.flatMap cells)[j]? = some u → w.cell? (a.add j) = some u := by
      intro j u hu
      have key : ∀ (l' : List α) (o : Nat), (∀ i b, l'[i]? = some b → w.cells? base (a.add ((o + i) * P.cellsOf e)) (P.cellsOf e) = some (cells b)) → ∀ j u, (l'.flatMap cells)[j]? = some u → w.cell? (a.add (o * P.cellsOf e + j)) = some u := by
        intro l'
        induction l' with
        | nil => intro o _ j u hu; simp at hu
        | cons b l' ih =>
          intro o hl' j u hu
          have hb := cells_split (hl' 0 b rfl)
          rw [List.flatMap_cons] at hu
          rcases Nat.lt_or_ge j (cells b).length with hlt | hge
          · rw [List.getElem?_append_left hlt] at hu
            have := hb.2 j u hu
            rwa [add_of_add] at this
          · rw [List.getElem?_append_right hge] at hu
            have := ih (o + 1) (fun i b' hb' => by have := hl' (i + 1) b' hb'; rwa [show o + 1 + i = o + (i + 1) by omega]) _ u hu
            rw [hb.1] at this hge
            rwa [show (o + 1) * P.cellsOf e + (j - P.cellsOf e) = o * P.cellsOf e + j by rw [Nat.succ_mul]; omega] at this
      have := key l 0 (fun i b hb => by rw [Nat.zero_add]; exact (hli i b hb).1) j u hu
      rwa [Nat.zero_mul, Nat.zero_add] at this
    have hfl : (l.flatMap cells).length = n * P.cellsOf e := by
      rw [List.length_flatMap, List.map_congr_left (g := fun _ => P.cellsOf e) (fun b hb => hlen b hb), List.map_const', List.sum_replicate_nat, hll]
    refine ⟨l, hll, ⟨hfl, fun hn => ⟨a, rfl, ?_, hcell⟩⟩, fun b hb => ⟨?_, hlen b hb⟩, hl, hm, .inr ⟨a, _, _, rfl, by rw [hx], by simp, by simp; omega⟩⟩
    · have := hcell 0 ((l.flatMap cells)[0]'(by rw [hfl]; exact Nat.mul_pos hn hs0)) (List.getElem?_eq_getElem _)
      have h2 := World.block_lt_of_cell? w _ this
      rwa [block_of_add] at h2
    · obtain ⟨i, hi, rfl⟩ := List.getElem_of_mem hb
      exact (hli i _ (List.getElem?_eq_getElem hi)).2
end
theorem flat_bytes : ∀ l : List UInt8, (l.flatMap fun x => [Value.int .u8 (x.toNat : Int)]) = bvs l
  | [] => rfl
  | x :: l => by rw [List.flatMap_cons, flat_bytes l]; rfl
theorem okWide_block {P : Program} {w : World} {r : Reach} {base : Nat} {t e : TypeId} {a : Addr} {n c : Nat} (ht : P.underlying t = some (.slice e)) (h : Value.okWide P w r base t (.slice (some a) n c)) : a.block < w.heap.size := by
  simp only [Value.okWide, ht, Cell.okWide, Cell.ok] at h
  obtain ⟨_, _, _, _, row, cells, hs, _⟩ := h
  rcases Nat.lt_or_ge a.block w.heap.size with hlt | hge
  · exact hlt
  · simp [World.shape?, Array.getElem?_eq_none hge] at hs
end Go.Rat
namespace Go.Rat
open Go.ChangeShapes Go.WideShapes Go.ChangeAt Go.RowKit Go
/-- A slice of bytes: where, how many, what room, which. -/
structure SB where
  A : Option Addr
  n : Nat
  c : Nat
  xs : List UInt8
def SB.v (s : SB) : Value := .slice s.A s.n s.c
def SB.ok (w : World) (s : SB) : Prop := RB w s.A s.n s.xs ∧ s.n ≤ s.c ∧ s.c ≤ maxLen
theorem rds_bytes {P : Program} {t e : TypeId} (hu : P.underlying t = some (.slice e)) (he : P.underlying e = some (.int .u8)) (hs : P.cellsOf e = 1) : Rds P t (fun s : SB => [s.v]) SB.ok := by
  intro H enc w base spare held fuel cs x h
  have hcs : ∃ A n c, cs = [.slice A n c] := by
    rcases Go.Deep.open_slice hu h with ⟨h1, _⟩ | ⟨a, len, cap, _, _, _, _, h1, _⟩
    · exact ⟨_, _, _, h1⟩
    · exact ⟨_, _, _, h1⟩
  obtain ⟨A, n, c, rfl⟩ := hcs
  obtain ⟨l, h1, h2, _, h3, h4, _⟩ := slice_cells hu (rds_u8 he) (size := 1) hs (by omega) h
  refine ⟨⟨A, n, c, l⟩, rfl, ?_, h3, h4⟩
  rw [show (l.flatMap fun x => [Value.int .u8 (x.toNat : Int)]) = bvs l from flat_bytes l] at h2
  exact h2
end Go.Rat
namespace Go.Rat
open Go.ChangeShapes Go.WideShapes Go.ChangeAt Go.RowKit Go
theorem rds_struct5 {P : Program} {t : TypeId} {f1 f2 f3 f4 f5 : Field} {α β γ δ ε : Type} {c1 : α → List Value} {c2 : β → List Value} {c3 : γ → List Value} {c4 : δ → List Value} {c5 : ε → List Value} {I1 : World → α → Prop} {I2 : World → β → Prop} {I3 : World → γ → Prop} {I4 : World → δ → Prop} {I5 : World → ε → Prop} (hu : P.underlying t = some (.struct #[f1, f2, f3, f4, f5]))
    (h1 : Rds P f1.type c1 I1) (h2 : Rds P f2.type c2 I2) (h3 : Rds P f3.type c3 I3) (h4 : Rds P f4.type c4 I4) (h5 : Rds P f5.type c5 I5)
    (o1 : f1.offset = 0) (o2 : f2.offset = P.cellsOf f1.type) (o3 : f3.offset = P.cellsOf f1.type + P.cellsOf f2.type) (o4 : f4.offset = P.cellsOf f1.type + P.cellsOf f2.type + P.cellsOf f3.type) (o5 : f5.offset = P.cellsOf f1.type + P.cellsOf f2.type + P.cellsOf f3.type + P.cellsOf f4.type)
    (ot : P.cellsOf t = P.cellsOf f1.type + P.cellsOf f2.type + P.cellsOf f3.type + P.cellsOf f4.type + P.cellsOf f5.type) :
    Rds P t (fun x : α × β × γ × δ × ε => c1 x.1 ++ (c2 x.2.1 ++ (c3 x.2.2.1 ++ (c4 x.2.2.2.1 ++ c5 x.2.2.2.2)))) (fun w x => I1 w x.1 ∧ I2 w x.2.1 ∧ I3 w x.2.2.1 ∧ I4 w x.2.2.2.1 ∧ I5 w x.2.2.2.2) := by
  intro H enc w base spare held fuel cs x h
  obtain ⟨xs, n, _, _, hlen, hxs, hf⟩ := DataW.trod_struct hu h
  have e1 := hf 0 f1 rfl
  have e2 := hf 1 f2 rfl
  have e3 := hf 2 f3 rfl
  have e4 := hf 3 f4 rfl
  have e5 := hf 4 f5 rfl
  rw [List.getElem?_eq_getElem (by rw [hxs]; simp)] at e1 e2 e3 e4 e5
  obtain ⟨a, ha, i1⟩ := h1 _ _ _ _ _ _ _ _ _ e1
  obtain ⟨b, hb, i2⟩ := h2 _ _ _ _ _ _ _ _ _ e2
  obtain ⟨c, hc, i3⟩ := h3 _ _ _ _ _ _ _ _ _ e3
  obtain ⟨d, hd, i4⟩ := h4 _ _ _ _ _ _ _ _ _ e4
  obtain ⟨e, he, i5⟩ := h5 _ _ _ _ _ _ _ _ _ e5
  refine ⟨(a, b, c, d, e), ?_, i1, i2, i3, i4, i5⟩
  have p1 := cut_piece ha
  have p2 := cut_piece hb
  have p3 := cut_piece hc
  have p4 := cut_piece hd
  have p5 := cut_piece he
  rw [o1, List.drop_zero, Nat.zero_add, ← o2, p2, o2, ← o3, p3, o3, ← o4, p4, o4, ← o5, p5, o5, ← ot, ← hlen, List.drop_length, List.append_nil] at p1
  exact p1
end Go.Rat
namespace Go.Rat
open Go Go.RowKit Go.ChangeShapes Go.WideShapes
section
variable {H : Type} {enc : TypeId × Value → H} {P : Program} {W : World} {base : Nat} {sp : Nat → Bool} {held : Bool}
theorem mapM_ints {e : TypeId} {q : IntKind} (he : P.underlying e = some (.int q)) {m : Nat} {cs : List Value} : ∀ (L : List Nat) (xs : List (DataW H × List MemPlace)),
    L.mapM (fun i => DataW.trod enc P W base sp held m e ((cs.drop (i * 1)).take 1)) = some xs →
    ∃ ls : List Int, xs = ls.map (fun a => (.lit (.int q a), [])) ∧ L.map (fun i => (cs.drop i).take 1) = ls.map (fun a => [Value.int q a]) ∧ ∀ a ∈ ls, (Lit.int q a).wf = true
  | [], xs, h => by
    simp at h
    subst h
    exact ⟨[], rfl, rfl, by simp⟩
  | i :: L, xs, h => by
    rw [List.mapM_cons] at h
    simp only [bind, Option.bind_eq_some_iff, pure, Option.some.injEq] at h
    obtain ⟨y, hy, ys, hys, rfl⟩ := h
    obtain ⟨ls, rfl, hl, hw⟩ := mapM_ints he L ys hys
    obtain ⟨a, ea, rfl, wa⟩ := DataW.trod_int he hy
    refine ⟨a :: ls, rfl, ?_, by simpa [wa] using hw⟩
    rw [Nat.mul_one] at ea
    simp only [List.map_cons, hl, ea]
theorem cells_of_drops : ∀ (cs : List Value) (ls : List Int) (q : IntKind), cs.length = ls.length → (List.range cs.length).map (fun i => (cs.drop i).take 1) = ls.map (fun a => [Value.int q a]) → cs = ls.map (Value.int q) := by
  intro cs ls q hl h
  refine List.ext_getElem (by simpa using hl) fun i h1 h2 => ?_
  have := congrArg (fun L => L[i]?) h
  simp only [List.getElem?_map, List.getElem?_range h1, Option.map_some, List.getElem?_eq_getElem (show i < ls.length by omega), Option.some.injEq] at this
  rw [List.drop_eq_getElem_cons h1, List.take_succ_cons, List.take_zero] at this
  simpa using this
theorem open_ints {t e : TypeId} {n : Nat} {q : IntKind} (ht : P.underlying t = some (.array n e)) (he : P.underlying e = some (.int q)) (hc : P.cellsOf e = 1) (hs : P.cellsOf t = n) {r : Reach} {b0 : Nat} {v : Value} {d : DataW H} {ps : List MemPlace}
    (hval : Value.okWide P W r b0 t v) (hd : DataW.Trod enc P W base sp held t v d ps) :
    ∃ l : List Int, l.length = n ∧ v = .agg (l.map (Value.int q)).toArray ∧ d = .agg (l.map fun a => .lit (.int q a)) ∧ ps = [] ∧ ∀ a ∈ l, (Lit.int q a).wf = true := by
  obtain ⟨fuel, hf⟩ := hd
  simp only [Value.okWide, ht] at hval
  obtain ⟨cs, rfl, hcs, _⟩ := hval
  cases fuel with
  | zero => simp [DataW.trod] at hf
  | succ m =>
    rw [DataW.trod_step] at hf
    unfold DataW.trodStep at hf
    simp only [ht, Value.cells] at hf
    rw [if_pos (by simpa using hcs), hc] at hf
    simp only [Option.map_eq_some_iff] at hf
    obtain ⟨ys, hy, e1⟩ := hf
    obtain ⟨ls, rfl, hl, hw⟩ := mapM_ints he _ ys hy
    have hll : ls.length = n := by have := congrArg List.length hl; simpa using this.symm
    have hcl : cs.toList.length = n := by rw [← hs]; simpa using hcs
    simp only [Prod.mk.injEq] at e1
    refine ⟨ls, hll, ?_, by rw [← e1.1]; simp [Function.comp_def], by rw [← e1.2]; simp [List.flatMap_eq_nil_iff], hw⟩
    have := cells_of_drops cs.toList ls q (by omega) (by rw [hcl]; exact hl)
    rw [← this]
theorem shut_ints {t e : TypeId} {n : Nat} {q : IntKind} (ht : P.underlying t = some (.array n e)) (he : P.underlying e = some (.int q)) (hc : P.cellsOf e = 1) (hs : P.cellsOf t = n) {l : List Int} (hl : l.length = n) (hw : ∀ a ∈ l, (Lit.int q a).wf = true) :
    DataW.Trod enc P W base sp held t (.agg (l.map (Value.int q)).toArray) (.agg (l.map fun a => .lit (.int q a))) [] := by
  refine ⟨2, ?_⟩
  rw [DataW.trod_step]
  unfold DataW.trodStep
  simp only [ht, Value.cells]
  rw [if_pos (by simp [hs, hl]), hc]
  have key : (List.range n).mapM (fun i => DataW.trod enc P W base sp held 1 e (((l.map (Value.int q)).drop (i * 1)).take 1)) = some (l.map fun a => (.lit (.int q a), [])) := by
    subst hl
    have gen : ∀ L : List Nat, (∀ i ∈ L, i < l.length) → L.mapM (fun i => DataW.trod enc P W base sp held 1 e (((l.map (Value.int q)).drop (i * 1)).take 1)) = some (L.map fun i => (.lit (.int q (l.getD i 0)), [])) := by
      intro L
      induction L with
      | nil => intro _; rfl
      | cons i L ih =>
        intro h
        have hi := h i (by simp)
        have h1 : ((l.map (Value.int q)).drop (i * 1)).take 1 = [Value.int q l[i]] := by
          rw [Nat.mul_one, List.drop_eq_getElem_cons (by simpa using hi), List.take_succ_cons, List.take_zero, List.getElem_map]
        rw [List.mapM_cons, h1, trod_int_mk 0 he (hw _ (List.getElem_mem hi)), ih (fun j hj => h j (by simp [hj]))]
        simp [List.getD_eq_getElem?_getD, List.getElem?_eq_getElem hi]
    rw [gen _ (by simp)]
    congr 1
    refine List.ext_getElem (by simp) fun i h1 h2 => ?_
    simp [List.getD_eq_getElem?_getD, List.getElem?_eq_getElem (show i < l.length by simpa using h2)]
  have key' : (List.range n).mapM (fun i => DataW.trod enc P W base sp held 1 e ((((l.map (Value.int q)).toArray.toList).drop (i * 1)).take 1)) = some (l.map fun a => (.lit (.int q a), [])) := key
  rw [key']
  simp [Function.comp_def, List.flatMap_eq_nil_iff]
/-- Numbers below 256 are bytes. -/
theorem ints_bytes {l : List Int} (h : ∀ a ∈ l, (Lit.int .u8 a).wf = true) : ∃ xs : List UInt8, xs.length = l.length ∧ l.map (Value.int .u8) = bvs xs := by
  refine ⟨l.map ub, by simp, ?_⟩
  rw [bvs, List.map_map]
  refine List.map_congr_left fun a ha => ?_
  have hb := wf_bounds (h a ha)
  simp [IntKind.min, IntKind.max, IntKind.signed, IntKind.bits] at hb
  exact (bv_ub hb.1 (by omega)).symm
end
end Go.Rat
namespace Go.Proofs.YtbbcofpdfkhljaaDoor.H
open Go.ChangeShapes Go.WideShapes Go.ChangeAt Go.RowKit Go.Rat
theorem own : ownKnob Tryd.prog.godebug = none := by kernel_rfl
theorem laidOut : laidOutB Tryd.prog = true := by kernel_rfl
theorem gTab : Tryd.prog.globalNamed "ratchet/sha.table" = some 0 := by kernel_rfl
theorem gTabType : (Tryd.prog.globals[0]?).map (·.type) = some 105 := by kernel_rfl
theorem tab_of {W : World} (h : laidMetH Tryd.prog [("ratchet/sha.table", Rows.laid_ratchet_sha_table)] W) : Tab W tblL := fun i hi =>
  (Lib.tabIs_of_head (zs := tblL) (k := .u32) (rest := []) gTab gTabType Tryd.underlying105 Tryd.underlying91 (by kernel_rfl) (by kernel_rfl) h).cell gTab i (by rw [tblL_length]; exact hi)
noncomputable def laidWorld (os : Os) : World :=
  { World.holding Tryd.prog os ⟨#[], #[], []⟩ with heap := (World.holding Tryd.prog os ⟨#[], #[], []⟩).heap.modify 0 fun
      | .cells _ t frozen => .cells (u32s tblL).toArray t frozen
      | o => o }
end Go.Proofs.YtbbcofpdfkhljaaDoor.H
