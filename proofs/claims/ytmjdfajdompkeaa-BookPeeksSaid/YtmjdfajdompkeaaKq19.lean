/- Arguments of a statement, opened: what a value that can be read as data looks like in memory. -/
import Derived.Test.YtmjdfajdompkeaaKq18
import Derived.ProofKit
import Derived.OpenShut
import Derived.ShutString
import Derived.ChangeOld
import Derived.SizedLaws
import Derived.Deep.Slices
namespace Go.Rat
open Go.ChangeShapes Go.WideShapes Go.ChangeAt Go.RowKit Go

/-- Whatever reads at type t has the cells of some a, and I holds of it. -/
def Rds (P : Program) (t : TypeId) {α : Type} (cells : α → List Value) (I : World → α → Prop) : Prop :=
  ∀ (H : Type) (enc : TypeId × Value → H) (w : World) (base : Nat) (spare : Nat → Bool) (held : Bool) (fuel : Nat) (cs : List Value) (x : DataW H × List MemPlace), DataW.trod enc P w base spare held fuel t cs = some x → ∃ a, cs = cells a ∧ I w a

section
variable {P : Program} {t : TypeId}
theorem wf_bounds {k : IntKind} {n : Int} (h : (Lit.int k n).wf = true) : k.min ≤ n ∧ n ≤ k.max := by simpa [Lit.wf] using h
theorem rds_u8 (hu : P.underlying t = some (.int .u8)) : Rds P t (fun x : UInt8 => [.int .u8 (x.toNat : Int)]) (fun _ _ => True) := by
  intro H enc w base spare held fuel cs x h
  obtain ⟨n, rfl, _, hw⟩ := DataW.trod_int hu h
  have hb := wf_bounds hw
  simp [IntKind.min, IntKind.max, IntKind.signed, IntKind.bits] at hb
  refine ⟨UInt8.ofNat n.toNat, ?_, trivial⟩
  have : (UInt8.ofNat n.toNat).toNat = n.toNat := by rw [UInt8.toNat_ofNat']; omega
  show _ = [Value.int .u8 ((UInt8.ofNat n.toNat).toNat : Int)]
  rw [this, Int.toNat_of_nonneg hb.1]
theorem rds_u16 (hu : P.underlying t = some (.int .u16)) : Rds P t (fun x : UInt16 => [.int .u16 (x.toNat : Int)]) (fun _ _ => True) := by
  intro H enc w base spare held fuel cs x h
  obtain ⟨n, rfl, _, hw⟩ := DataW.trod_int hu h
  have hb := wf_bounds hw
  simp [IntKind.min, IntKind.max, IntKind.signed, IntKind.bits] at hb
  refine ⟨UInt16.ofNat n.toNat, ?_, trivial⟩
  have : (UInt16.ofNat n.toNat).toNat = n.toNat := by rw [UInt16.toNat_ofNat']; omega
  show _ = [Value.int .u16 ((UInt16.ofNat n.toNat).toNat : Int)]
  rw [this, Int.toNat_of_nonneg hb.1]
theorem rds_u32 (hu : P.underlying t = some (.int .u32)) : Rds P t (fun x : UInt32 => [.int .u32 (x.toNat : Int)]) (fun _ _ => True) := by
  intro H enc w base spare held fuel cs x h
  obtain ⟨n, rfl, _, hw⟩ := DataW.trod_int hu h
  have hb := wf_bounds hw
  simp [IntKind.min, IntKind.max, IntKind.signed, IntKind.bits] at hb
  refine ⟨UInt32.ofNat n.toNat, ?_, trivial⟩
  have : (UInt32.ofNat n.toNat).toNat = n.toNat := by rw [UInt32.toNat_ofNat']; omega
  show _ = [Value.int .u32 ((UInt32.ofNat n.toNat).toNat : Int)]
  rw [this, Int.toNat_of_nonneg hb.1]
theorem rds_u64 (hu : P.underlying t = some (.int .u64)) : Rds P t (fun x : UInt64 => [.int .u64 (x.toNat : Int)]) (fun _ _ => True) := by
  intro H enc w base spare held fuel cs x h
  obtain ⟨n, rfl, _, hw⟩ := DataW.trod_int hu h
  have hb := wf_bounds hw
  simp [IntKind.min, IntKind.max, IntKind.signed, IntKind.bits] at hb
  refine ⟨UInt64.ofNat n.toNat, ?_, trivial⟩
  have : (UInt64.ofNat n.toNat).toNat = n.toNat := by rw [UInt64.toNat_ofNat']; omega
  show _ = [Value.int .u64 ((UInt64.ofNat n.toNat).toNat : Int)]
  rw [this, Int.toNat_of_nonneg hb.1]
theorem rds_i64 (hu : P.underlying t = some (.int .i64)) : Rds P t (fun n : Int => [.int .i64 n]) (fun _ n => -9223372036854775808 ≤ n ∧ n ≤ 9223372036854775807) := by
  intro H enc w base spare held fuel cs x h
  obtain ⟨n, rfl, _, hw⟩ := DataW.trod_int hu h
  have hb := wf_bounds hw
  simp [IntKind.min, IntKind.max, IntKind.signed, IntKind.bits] at hb
  exact ⟨n, rfl, hb⟩
theorem rds_i8 (hu : P.underlying t = some (.int .i8)) : Rds P t (fun n : Int => [.int .i8 n]) (fun _ n => -128 ≤ n ∧ n ≤ 127) := by
  intro H enc w base spare held fuel cs x h
  obtain ⟨n, rfl, _, hw⟩ := DataW.trod_int hu h
  have hb := wf_bounds hw
  simp [IntKind.min, IntKind.max, IntKind.signed, IntKind.bits] at hb
  exact ⟨n, rfl, hb⟩
theorem rds_bool (hu : P.underlying t = some .bool) : Rds P t (fun b : Bool => [.bool b]) (fun _ _ => True) := by
  intro H enc w base spare held fuel cs x h
  obtain ⟨b, rfl, _⟩ := DataW.trod_bool hu h
  exact ⟨b, rfl, trivial⟩
theorem rds_string (hu : P.underlying t = some .string) : Rds P t (fun s : ByteArray => [.string s]) (fun _ s => s.size ≤ maxLen) := by
  intro H enc w base spare held fuel cs x h
  obtain ⟨s, rfl, _, hs⟩ := DataW.trod_string hu h
  exact ⟨s, rfl, hs⟩
theorem cut_piece {cs : List Value} {o s : Nat} {l : List Value} (h : (cs.drop o).take s = l) : cs.drop o = l ++ cs.drop (o + s) := by
  rw [← List.drop_drop, ← h, List.take_append_drop]
/-- A struct of two, three, five fields. -/
theorem rds_struct2 {f1 f2 : Field} {α β : Type} {c1 : α → List Value} {c2 : β → List Value} {I1 : World → α → Prop} {I2 : World → β → Prop} (hu : P.underlying t = some (.struct #[f1, f2]))
    (h1 : Rds P f1.type c1 I1) (h2 : Rds P f2.type c2 I2)
    (o1 : f1.offset = 0) (o2 : f2.offset = P.cellsOf f1.type) (ot : P.cellsOf t = P.cellsOf f1.type + P.cellsOf f2.type) :
    Rds P t (fun x : α × β => c1 x.1 ++ c2 x.2) (fun w x => I1 w x.1 ∧ I2 w x.2) := by
  intro H enc w base spare held fuel cs x h
  obtain ⟨xs, n, _, _, hlen, hxs, hf⟩ := DataW.trod_struct hu h
  have e1 := hf 0 f1 rfl
  have e2 := hf 1 f2 rfl
  rw [List.getElem?_eq_getElem (by rw [hxs]; simp)] at e1 e2
  obtain ⟨a, ha, i1⟩ := h1 _ _ _ _ _ _ _ _ _ e1
  obtain ⟨b, hb, i2⟩ := h2 _ _ _ _ _ _ _ _ _ e2
  refine ⟨(a, b), ?_, i1, i2⟩
  have p1 := cut_piece ha
  have p2 := cut_piece hb
  rw [o1] at p1
  rw [List.drop_zero, Nat.zero_add, ← o2, p2, o2, ← ot, ← hlen, List.drop_length, List.append_nil] at p1
  exact p1
theorem rds_struct3 {f1 f2 f3 : Field} {α β γ : Type} {c1 : α → List Value} {c2 : β → List Value} {c3 : γ → List Value} {I1 : World → α → Prop} {I2 : World → β → Prop} {I3 : World → γ → Prop} (hu : P.underlying t = some (.struct #[f1, f2, f3]))
    (h1 : Rds P f1.type c1 I1) (h2 : Rds P f2.type c2 I2) (h3 : Rds P f3.type c3 I3)
    (o1 : f1.offset = 0) (o2 : f2.offset = P.cellsOf f1.type) (o3 : f3.offset = P.cellsOf f1.type + P.cellsOf f2.type) (ot : P.cellsOf t = P.cellsOf f1.type + P.cellsOf f2.type + P.cellsOf f3.type) :
    Rds P t (fun x : α × β × γ => c1 x.1 ++ (c2 x.2.1 ++ c3 x.2.2)) (fun w x => I1 w x.1 ∧ I2 w x.2.1 ∧ I3 w x.2.2) := by
  intro H enc w base spare held fuel cs x h
  obtain ⟨xs, n, _, _, hlen, hxs, hf⟩ := DataW.trod_struct hu h
  have e1 := hf 0 f1 rfl
  have e2 := hf 1 f2 rfl
  have e3 := hf 2 f3 rfl
  rw [List.getElem?_eq_getElem (by rw [hxs]; simp)] at e1 e2 e3
  obtain ⟨a, ha, i1⟩ := h1 _ _ _ _ _ _ _ _ _ e1
  obtain ⟨b, hb, i2⟩ := h2 _ _ _ _ _ _ _ _ _ e2
  obtain ⟨c, hc, i3⟩ := h3 _ _ _ _ _ _ _ _ _ e3
  refine ⟨(a, b, c), ?_, i1, i2, i3⟩
  have p1 := cut_piece ha
  have p2 := cut_piece hb
  have p3 := cut_piece hc
  rw [o1, List.drop_zero, Nat.zero_add, ← o2, p2, o2, ← o3, p3, o3, ← ot, ← hlen, List.drop_length, List.append_nil] at p1
  exact p1
theorem cells_split {w : World} {base n : Nat} {a : Addr} {cs : List Value} (h : w.cells? base a n = some cs) : cs.length = n ∧ ∀ j u, cs[j]? = some u → w.cell? (a.add j) = some u := by
  obtain ⟨_, hl, hc⟩ := World.cells?_some h
  refine ⟨hl, fun j u hu => ?_⟩
  have hj : j < cs.length := (List.getElem?_eq_some_iff.1 hu).1
  rw [hc j (by omega)]
  exact hu
/-- A slice that came in. -/
theorem slice_cells {e : TypeId} {α : Type} {cells : α → List Value} {I : World → α → Prop} (hu : P.underlying t = some (.slice e)) (hR : Rds P e cells I) {size : Nat} (hs : P.cellsOf e = size) (hs0 : 0 < size)
    {H : Type} {enc : TypeId × Value → H} {w : World} {base : Nat} {spare : Nat → Bool} {held : Bool} {fuel : Nat} {A : Option Addr} {n c : Nat} {x : DataW H × List MemPlace} (h : DataW.trod enc P w base spare held fuel t [.slice A n c] = some x) :
    ∃ l : List α, l.length = n ∧ Reads w w.heap.size size A n (l.flatMap cells) ∧ (∀ a ∈ l, I w a ∧ (cells a).length = size) ∧ n ≤ c ∧ c ≤ maxLen ∧ ((A = none ∧ n = 0 ∧ c = 0) ∨ ∃ a elems sp, A = some a ∧ x.1 = .slice elems sp ∧ elems.length = n ∧ elems.length + sp.length = (if spare a.block then c else n)) := by
  subst hs
  rcases Go.Deep.open_slice hu h with ⟨hcs, hx⟩ | ⟨a, len, cap, m, k, D, Pl, hcs, _, hl, hm, hmm, hx, hel⟩
  · simp only [List.cons.injEq, Value.slice.injEq, and_true] at hcs
    obtain ⟨rfl, rfl, rfl⟩ := hcs
    exact ⟨[], rfl, ⟨by simp, fun h => absurd h (by omega)⟩, by simp, by omega, by simp [maxLen], .inl ⟨rfl, rfl, rfl⟩⟩
  · simp only [List.cons.injEq, Value.slice.injEq, and_true] at hcs
    obtain ⟨rfl, rfl, rfl⟩ := hcs
    have hnm : n ≤ m := by subst hmm; split <;> omega
    have F : ∀ i, i < n → ∃ b, w.cells? base (a.add (i * P.cellsOf e)) (P.cellsOf e) = some (cells b) ∧ I w b := by
      intro i hi
      obtain ⟨cs', h1, h2⟩ := hel i (by omega)
      obtain ⟨b, rfl, hI⟩ := hR _ _ _ _ _ _ _ _ _ h2
      exact ⟨b, h1, hI⟩
    obtain ⟨l, hll, hli⟩ : ∃ l : List α, l.length = n ∧ ∀ i b, l[i]? = some b → w.cells? base (a.add (i * P.cellsOf e)) (P.cellsOf e) = some (cells b) ∧ I w b := by
      clear hel hx hmm hnm hl hm h
      induction n with
      | zero => exact ⟨[], rfl, by simp⟩
      | succ n ih =>
        obtain ⟨l, h1, h2⟩ := ih (fun i hi => F i (by omega))
        obtain ⟨b, hb⟩ := F n (by omega)
        refine ⟨l ++ [b], by simp [h1], fun i b' hb' => ?_⟩
        rcases Nat.lt_or_ge i l.length with hlt | hge
        · rw [List.getElem?_append_left hlt] at hb'
          exact h2 i b' hb'
        · rw [List.getElem?_append_right hge] at hb'
          have : i - l.length = 0 := by
            rcases Nat.eq_zero_or_pos (i - l.length) with h | h
            · exact h
            · rw [List.getElem?_eq_none (by simp; omega)] at hb'; cases hb'
          rw [this] at hb'
          simp at hb'
          subst hb'
          have : i = n := by omega
          subst this
          exact hb
    have hlen : ∀ b ∈ l, (cells b).length = P.cellsOf e := by
      intro b hb
      obtain ⟨i, hi, rfl⟩ := List.getElem_of_mem hb
      exact (cells_split (hli i _ (List.getElem?_eq_getElem hi)).1).1
    have hcell : ∀ j u, (l.flatMap cells)[j]? = some u → w.cell? (a.add j) = some u := by
      intro j u hu
      have key : ∀ (l' : List α) (o : Nat), (∀ i b, l'[i]? = some b → w.cells? base (a.add ((o + i) * P.cellsOf e)) (P.cellsOf e) = some (cells b)) → ∀ j u, (l'.flatMap cells)[j]? = some u → w.cell? (a.add (o * P.cellsOf e + j)) = some u := by
        intro l'
        induction l' with
        | nil => intro o _ j u hu; simp at hu
        | cons b l' ih =>
          intro o hl' j u hu
          have hb := cells_split (hl' 0 b rfl)
          rw [List.flatMap_cons] at hu
          rcases Nat.lt_or_ge j (cells b).length with hlt | hge
          · rw [List.getElem?_append_left hlt] at hu
            have := hb.2 j u hu
            rwa [add_of_add] at this
          · rw [List.getElem?_append_right hge] at hu
            have := ih (o + 1) (fun i b' hb' => by have := hl' (i + 1) b' hb'; rwa [show o + 1 + i = o + (i + 1) by omega]) _ u hu
            rw [hb.1] at this hge
            rwa [show (o + 1) * P.cellsOf e + (j - P.cellsOf e) = o * P.cellsOf e + j by rw [Nat.succ_mul]; omega] at this
      have := key l 0 (fun i b hb => by rw [Nat.zero_add]; exact (hli i b hb).1) j u hu
      rwa [Nat.zero_mul, Nat.zero_add] at this
    have hfl : (l.flatMap cells).length = n * P.cellsOf e := by
      rw [List.length_flatMap, List.map_congr_left (g := fun _ => P.cellsOf e) (fun b hb => hlen b hb), List.map_const', List.sum_replicate_nat, hll]
    refine ⟨l, hll, ⟨hfl, fun hn => ⟨a, rfl, ?_, hcell⟩⟩, fun b hb => ⟨?_, hlen b hb⟩, hl, hm, .inr ⟨a, _, _, rfl, by rw [hx], by simp, by simp; omega⟩⟩
    · have := hcell 0 ((l.flatMap cells)[0]'(by rw [hfl]; exact Nat.mul_pos hn hs0)) (List.getElem?_eq_getElem _)
      have h2 := World.block_lt_of_cell? w _ this
      rwa [block_of_add] at h2
    · obtain ⟨i, hi, rfl⟩ := List.getElem_of_mem hb
      exact (hli i _ (List.getElem?_eq_getElem hi)).2
end
theorem flat_bytes : ∀ l : List UInt8, (l.flatMap fun x => [Value.int .u8 (x.toNat : Int)]) = bvs l
  | [] => rfl
  | x :: l => by rw [List.flatMap_cons, flat_bytes l]; rfl
theorem okWide_block {P : Program} {w : World} {r : Reach} {base : Nat} {t e : TypeId} {a : Addr} {n c : Nat} (ht : P.underlying t = some (.slice e)) (h : Value.okWide P w r base t (.slice (some a) n c)) : a.block < w.heap.size := by
  simp only [Value.okWide, ht, Cell.okWide, Cell.ok] at h
  obtain ⟨_, _, _, _, row, cells, hs, _⟩ := h
  rcases Nat.lt_or_ge a.block w.heap.size with hlt | hge
  · exact hlt
  · simp [World.shape?, Array.getElem?_eq_none hge] at hs
end Go.Rat
namespace Go.Rat
open Go.ChangeShapes Go.WideShapes Go.ChangeAt Go.RowKit Go
/-- A slice of bytes: where, how many, what room, which. -/
structure SB where
  A : Option Addr
  n : Nat
  c : Nat
  xs : List UInt8
def SB.v (s : SB) : Value := .slice s.A s.n s.c
def SB.ok (w : World) (s : SB) : Prop := RB w s.A s.n s.xs ∧ s.n ≤ s.c ∧ s.c ≤ maxLen
theorem rds_bytes {P : Program} {t e : TypeId} (hu : P.underlying t = some (.slice e)) (he : P.underlying e = some (.int .u8)) (hs : P.cellsOf e = 1) : Rds P t (fun s : SB => [s.v]) SB.ok := by
  intro H enc w base spare held fuel cs x h
  have hcs : ∃ A n c, cs = [.slice A n c] := by
    rcases Go.Deep.open_slice hu h with ⟨h1, _⟩ | ⟨a, len, cap, _, _, _, _, h1, _⟩
    · exact ⟨_, _, _, h1⟩
    · exact ⟨_, _, _, h1⟩
  obtain ⟨A, n, c, rfl⟩ := hcs
  obtain ⟨l, h1, h2, _, h3, h4, _⟩ := slice_cells hu (rds_u8 he) (size := 1) hs (by omega) h
  refine ⟨⟨A, n, c, l⟩, rfl, ?_, h3, h4⟩
  rw [show (l.flatMap fun x => [Value.int .u8 (x.toNat : Int)]) = bvs l from flat_bytes l] at h2
  exact h2
end Go.Rat
namespace Go.Rat
open Go.ChangeShapes Go.WideShapes Go.ChangeAt Go.RowKit Go
theorem rds_struct5 {P : Program} {t : TypeId} {f1 f2 f3 f4 f5 : Field} {α β γ δ ε : Type} {c1 : α → List Value} {c2 : β → List Value} {c3 : γ → List Value} {c4 : δ → List Value} {c5 : ε → List Value} {I1 : World → α → Prop} {I2 : World → β → Prop} {I3 : World → γ → Prop} {I4 : World → δ → Prop} {I5 : World → ε → Prop} (hu : P.underlying t = some (.struct #[f1, f2, f3, f4, f5]))
    (h1 : Rds P f1.type c1 I1) (h2 : Rds P f2.type c2 I2) (h3 : Rds P f3.type c3 I3) (h4 : Rds P f4.type c4 I4) (h5 : Rds P f5.type c5 I5)
    (o1 : f1.offset = 0) (o2 : f2.offset = P.cellsOf f1.type) (o3 : f3.offset = P.cellsOf f1.type + P.cellsOf f2.type) (o4 : f4.offset = P.cellsOf f1.type + P.cellsOf f2.type + P.cellsOf f3.type) (o5 : f5.offset = P.cellsOf f1.type + P.cellsOf f2.type + P.cellsOf f3.type + P.cellsOf f4.type)
    (ot : P.cellsOf t = P.cellsOf f1.type + P.cellsOf f2.type + P.cellsOf f3.type + P.cellsOf f4.type + P.cellsOf f5.type) :
    Rds P t (fun x : α × β × γ × δ × ε => c1 x.1 ++ (c2 x.2.1 ++ (c3 x.2.2.1 ++ (c4 x.2.2.2.1 ++ c5 x.2.2.2.2)))) (fun w x => I1 w x.1 ∧ I2 w x.2.1 ∧ I3 w x.2.2.1 ∧ I4 w x.2.2.2.1 ∧ I5 w x.2.2.2.2) := by
  intro H enc w base spare held fuel cs x h
  obtain ⟨xs, n, _, _, hlen, hxs, hf⟩ := DataW.trod_struct hu h
  have e1 := hf 0 f1 rfl
  have e2 := hf 1 f2 rfl
  have e3 := hf 2 f3 rfl
  have e4 := hf 3 f4 rfl
  have e5 := hf 4 f5 rfl
  rw [List.getElem?_eq_getElem (by rw [hxs]; simp)] at e1 e2 e3 e4 e5
  obtain ⟨a, ha, i1⟩ := h1 _ _ _ _ _ _ _ _ _ e1
  obtain ⟨b, hb, i2⟩ := h2 _ _ _ _ _ _ _ _ _ e2
  obtain ⟨c, hc, i3⟩ := h3 _ _ _ _ _ _ _ _ _ e3
  obtain ⟨d, hd, i4⟩ := h4 _ _ _ _ _ _ _ _ _ e4
  obtain ⟨e, he, i5⟩ := h5 _ _ _ _ _ _ _ _ _ e5
  refine ⟨(a, b, c, d, e), ?_, i1, i2, i3, i4, i5⟩
  have p1 := cut_piece ha
  have p2 := cut_piece hb
  have p3 := cut_piece hc
  have p4 := cut_piece hd
  have p5 := cut_piece he
  rw [o1, List.drop_zero, Nat.zero_add, ← o2, p2, o2, ← o3, p3, o3, ← o4, p4, o4, ← o5, p5, o5, ← ot, ← hlen, List.drop_length, List.append_nil] at p1
  exact p1
end Go.Rat
namespace Go.Proofs.Ytmjdfajdompkeaa
open Go.RowKit Go.Rat
abbrev DStep := UInt8 × Int × UInt8 × Int × SB
def dstepC (x : DStep) : List Value := [.int .u8 (x.1.toNat : Int)] ++ ([.int .i64 x.2.1] ++ ([.int .u8 (x.2.2.1.toNat : Int)] ++ ([.int .i8 x.2.2.2.1] ++ [x.2.2.2.2.v])))
def dstepOk (w : World) (x : DStep) : Prop := (-9223372036854775808 ≤ x.2.1 ∧ x.2.1 ≤ 9223372036854775807) ∧ (-128 ≤ x.2.2.2.1 ∧ x.2.2.2.1 ≤ 127) ∧ SB.ok w x.2.2.2.2
theorem dstep_at {w : World} {A : Option Addr} {n : Nat} {l : List DStep} (h : Reads w w.heap.size 5 A n (l.flatMap dstepC)) {k : Nat} (hk : k < n) :
    ∃ ad x, A = some ad ∧ x ∈ l ∧ l[k]? = some x ∧ (ad.add (k * 5)).block < w.heap.size ∧ (∀ j u, (dstepC x)[j]? = some u → w.cell? ((ad.add (k * 5)).add j) = some u) ∧ (∀ j u, 0 < j → (dstepC x)[j]? = some u → w.cell? ⟨(ad.add (k * 5)).block, (ad.add (k * 5)).off + j, none⟩ = some u) := by
  obtain ⟨ad, rfl, hb, hc⟩ := h.2 (by omega)
  have hlen := flat_len dstepC 5 (fun _ => rfl) l
  have hkl : k < l.length := by have := h.1; omega
  have hg : l[k]? = some l[k] := List.getElem?_eq_getElem hkl
  have hall : ∀ j u, (dstepC l[k])[j]? = some u → w.cell? (ad.add (k * 5 + j)) = some u := fun j u hu => by
    have hj : j < 5 := by
      have := (List.getElem?_eq_some_iff.1 hu).1
      simpa [dstepC] using this
    have F := flat_get dstepC 5 (fun _ => rfl) l k j _ hg hj
    exact hc _ _ (F.trans hu)
  refine ⟨ad, l[k], rfl, List.getElem_mem hkl, hg, by rw [block_of_add]; exact hb, fun j u hu => ?_, fun j u hj hu => ?_⟩
  · rw [show (ad.add (k * 5)).add j = ad.add (k * 5 + j) by
      by_cases h0 : j = 0
      · subst h0; simp [Addr.add]
      · rw [← add_field _ _ _ (by omega)]; unfold Addr.add; rw [if_neg h0]]
    exact hall j u hu
  · rw [add_field _ _ _ hj]
    exact hall j u hu
/-- A struct that stands anywhere. -/
theorem wpl_load_any {P : Program} {w : World} {ops : Array Oper} {rest : List Oper} {a : Act} {Q : Exit → Act → World → Prop} {d : Option Tmp} {ty : TypeId} {x : Operand} {t : TypeId} {p : String} {af : Array Edge} (ad : Addr) (cs : List Value) {D : TypeDesc}
    (hu : P.underlying ty = some D) (hd : D.isRow = true) {n : Nat} (hi : (P.info? ty).map (·.size) = some n) (hl : cs.length = n) (hc : ∀ j u, cs[j]? = some u → w.cell? (ad.add j) = some u)
    (hx : a.eval x = .pointer (some ad)) (h : wpList P ops Q rest (a.put d (.agg cs.toArray)) w) :
    wpList P ops Q ({ dst := d, op := .load ty x, type := t, pos := p, after := af, guard := none } :: rest) a w := by
  subst hl
  have hrun : (loadVar ty ad).run P w = .ok (.agg cs.toArray) w := by
    have hl : (loadCells ad cs.length).run P w = .ok cs.toArray w := run_loadCells_list (P := P) w ad cs hc
    cases hq : P.info? ty with
    | none => simp [hq] at hi
    | some i =>
      have hs : i.size = cs.length := by simpa [hq] using hi
      have hagg : (isAgg ty).run P w = .ok true w := by
        unfold isAgg
        rw [Sem.run_bind, run_underlying hu w]
        cases D <;> simp_all
      simp [loadVar, Sem.run_bind, hagg, sizeOf, typeInfo, hq, hs, hl]
  refine wpList_plain rfl fun _ hK => ?_
  unfold Oper.wp execOp
  simp only [hx, Instr.loadAt, Instr.sureAddr, Sem.run_bind, Sem.run_pure, Result.andThen_ok, hrun]
  exact hK _ _ h
theorem i47 : (Try.prog.info? 47).map (·.size) = some 5 := by kernel_rfl
theorem RWs.mono {w : World} {base b2 c : Nat} {A : Option Addr} {l : List RW} (h : RWs w base A c l) (hb : b2 ≤ base) : RWs w b2 A c l := by
  obtain ⟨h1, h2⟩ := h
  refine ⟨h1, ?_⟩
  rcases h2 with h3 | ⟨g, cap, cur, hv, hbg, rest⟩
  · exact .inl h3
  · exact .inr ⟨g, cap, cur, hv, Nat.le_trans hb hbg, rest⟩
theorem RDk.mono {w : World} {base b2 : Nat} {l : RL} {d : DS} (h : RDk w base l d) (hb : b2 ≤ base) : RDk w b2 l d := by
  obtain ⟨r, h1, h2⟩ := h
  exact ⟨r, ⟨h1.blk, h1.row1.mono hb, h1.row2.mono hb, h1.n1, h1.n2, h1.n12, Nat.le_trans hb h1.bg, h1.ok⟩, h2⟩
def PicksOk (l : List DStep) (k : Nat) : Prop := ∀ (j : Nat) (x : DStep), j < k → l[j]? = some x → x.2.2.2.2.n ≤ 200
set_option maxHeartbeats 4000000 in
theorem dfew_any (w : World) (A : Option Addr) (m c : Nat) (l : List DStep) (hr : Reads w w.heap.size 5 A m (l.flatMap dstepC)) (most : Nat) (hm : most < 1000000) :
    Calls Try.prog 28 #[.slice A m c, .int .i64 (most : Int)] w fun e w' => (e = .returned (.bool false) ∨ (e = .returned (.bool true) ∧ m ≤ most ∧ PicksOk l m)) ∧ w' = w := by
  by_cases hbig : most < m
  · have hbi : (most : Int) < (m : Int) := by omega
    go_enter Try.func28, Try.ntmps28
    go_wp2_with fail
    go_ret
    exact ⟨.inl rfl, rfl⟩
  · have hbi : ¬ (most : Int) < (m : Int) := by omega
    have hml : m ≤ most := by omega
    go_enter Try.func28, Try.ntmps28
    go_wp2_with fail
    go_loopw [5] (fun i wr => ∃ k : Nat, k ≤ m ∧ i = .int .i64 (k : Int) ∧ wr = w ∧ PicksOk l k) (fun i _ => m - (intOf i).toNat)
    case atStart => exact ⟨0, Nat.zero_le _, rfl, rfl, fun j x hj => by omega⟩
    case round =>
      obtain ⟨k, hk, rfl, rfl, hall⟩ := hrel
      have HALL := Lib.hid hall
      clear hall
      by_cases hkm : k < m
      · obtain ⟨ad, ⟨x1, x2, x3, x4, ⟨A2, n2, z2, ps⟩⟩, e, hxl, hg, hadl, _, hcs⟩ := dstep_at hr hkm
        cases e
        have q4 := hcs 4 (.slice A2 n2 z2) (by omega) rfl
        obtain ⟨P, hP⟩ : ∃ P, ad.add (k * 5) = P := ⟨_, rfl⟩
        rw [hP] at q4
        have HG := Lib.hid hg
        have g1 : (k : Int) < (m : Int) := by omega
        have g0 : (0 : Int) ≤ (k : Int) := by omega
        clear hxl hcs hadl hg
        by_cases hp2 : 200 < n2
        · have hp2' : (200 : Int) < (n2 : Int) := by omega
          go_wp2_with fail
          go_ret
          exact ⟨.inl rfl, rfl⟩
        · have hp2' : ¬ (200 : Int) < (n2 : Int) := by omega
          go_wp2_with fail
          exact ⟨⟨k + 1, by omega, by first | omega | exact congrArg (Value.int .i64) (by omega), by first | rfl | trivial, fun j x hj hx => by
            by_cases hjk : j < k
            · exact HALL.out j x hjk hx
            · obtain rfl : j = k := by omega
              rw [HG.out] at hx
              cases hx
              exact Nat.le_of_not_lt hp2⟩, by simp only [intOf]; omega⟩
      · obtain rfl : k = m := by omega
        have g1 : ¬ (k : Int) < (k : Int) := by omega
        go_wp2_with fail
        go_ret
        first | exact ⟨.inr ⟨rfl, hml, HALL.out⟩, rfl⟩ | exact ⟨.inr ⟨rfl, HALL.out⟩, rfl⟩ | exact ⟨⟨hml, HALL.out⟩, rfl⟩ | exact ⟨hml, HALL.out⟩
end Go.Proofs.Ytmjdfajdompkeaa
namespace Go.Proofs.Ytmjdfajdompkeaa
open Go.RowKit Go.Rat
theorem writeD_len (d : DS) (a : Int) (b : List UInt8) : (writeD d a b).loose.length ≤ d.loose.length + 1 := by
  unfold writeD
  split
  · unfold burnD
    split
    · simp [offD, putD]
    · split <;> simp [putD]
  · omega
theorem syncAll_len (d : DS) : (syncAll d).loose.length ≤ d.loose.length := by
  unfold syncAll
  split
  · exact Nat.le_refl _
  · split
    · unfold burnD
      split
      · exact Nat.le_refl _
      · split <;> exact Nat.le_refl _
    · simp [syncD]
theorem onAll_len (d : DS) (ps : List UInt8) : (onAll d ps).loose.length ≤ d.loose.length := by
  unfold onAll
  split
  · simp [onD]
  · exact Nat.le_refl _
theorem Two.rfp {w : World} {base : Nat} {l : DL} {L : RL} {d : DS} (h : Two w base l L d) {x : Nat} (hx : L.fp x) : base ≤ x ∧ x < w.heap.size := h.r.fp_lt hx
theorem below_rmoved {w a b : World} {l l' : RL} {d : DS} {base : Nat} (h : Below w.heap.size w a ∧ base ≤ a.heap.size) (hw : w.heap.size ≤ base) (hD : RDk a base l d) (hm : RMoved a b l l') : Below w.heap.size w b ∧ base ≤ b.heap.size :=
  ⟨h.1.trans (hm.chg.below (fun _ hx => Nat.le_trans hw (hD.fp_lt hx).1) h.1.size), Nat.le_trans h.2 hm.chg.size⟩
set_option maxRecDepth 20000 in
set_option maxHeartbeats 8000000 in
theorem diskPlays_any (w : World) (A : Option Addr) (m c : Nat) (l : List DStep) (hr : Reads w w.heap.size 5 A m (l.flatMap dstepC)) (hi : ∀ x ∈ l, dstepOk w x) :
    Calls Try.prog 5 #[.slice A m c] w fun e w' => e = .returned (.bool true) ∧ Below w.heap.size w w' := by
  obtain ⟨base, hbase⟩ : ∃ b, w.heap.size = b := ⟨_, rfl⟩
  have HBASE := Lib.hid hbase
  have HI := Lib.hid hi
  clear hi
  go_enter Try.func5, Try.ntmps5
  go_wp2_with fail
  refine (dfew_any w A m c l hr 200 (by omega)).mono ?_
  rintro e w1 ⟨(rfl | ⟨rfl, hm200, hpk⟩), rfl⟩
  · simp only []
    go_wp2_with (go_at_call 19; refine (works4_any _).mono ?_; rintro e w2 ⟨rfl, hb2⟩)
    go_ret
    exact ⟨rfl, hb2⟩
  simp only []
  have HPK := Lib.hid hpk
  clear hpk
  go_wp2_with fail
  refine (dnew_any w1).mono ?_
  rintro e w2 ⟨l0, rfl, hD, hb⟩
  have hbb : Below w1.heap.size w1 w2 ∧ base ≤ w2.heap.size := ⟨hb, by rw [← hbase]; exact hb.size⟩
  rw [hbase] at hD
  clear hb
  simp only []
  obtain ⟨g, hlg⟩ : ∃ g, l0.g = g := ⟨_, rfl⟩
  rw [hlg]
  go_wp2_with fail
  refine (rgnew w2).mono ?_
  rintro e w3 ⟨L0, rfl, hR, hLg, hb⟩
  have hT : Two w3 base l0 L0 ds0 := ⟨hD.below hb, hR.mono hbb.2, fun x hx hf => by
    have := (hD.fp_lt hx).2
    have := (hR.fp_lt hf).1
    omega⟩
  have hbb := below_base hbb hb
  clear hb hD hR hLg
  simp only []
  obtain ⟨G, hLG⟩ : ∃ g, L0.g = g := ⟨_, rfl⟩
  rw [hLG]
  go_upto_block 0 with (fail)
  have hbb1 := hbb.1
  have hbb2 := hbb.2
  go_cut [] (fun wx => Below w1.heap.size w1 wx)
  case first =>
    go_wp2_with fail
    go_loopw [5] (fun i wr => ∃ (k : Nat) (d : DS) (l' : DL) (L' : RL), k ≤ m ∧ i = .int .i64 (k : Int) ∧ Two wr base l' L' d ∧ l'.g = g ∧ L'.g = G ∧ d.loose.length ≤ k ∧ Below w1.heap.size w1 wr ∧ base ≤ wr.heap.size) (fun i _ => m - (intOf i).toNat)
    case atStart => exact ⟨0, ds0, l0, L0, Nat.zero_le _, rfl, hT, hlg, hLG, Nat.le_refl _, hbb1, hbb2⟩
    case round =>
      clear hbb hT hbb1 hbb2 hlg hLG
      obtain ⟨k, d, l', L', hk, rfl, hT, hlg, hLG, hlo, hbk, hbks⟩ := hrel
      by_cases hkm : k < m
      · obtain ⟨ad, ⟨x1, x2, x3, x4, ⟨A2, n2, z2, ps⟩⟩, e, hxl, hg, hadl, hcs, _⟩ := dstep_at hr hkm
        cases e
        obtain ⟨hx2, hx4, hR2, _, _⟩ := HI.out _ hxl
        have hn2 : n2 ≤ 200 := HPK.out k _ hkm hg
        simp only [] at hR2 hx2 hx4
        have hl2 := hR2.len
        obtain ⟨P, hP⟩ : ∃ P, ad.add (k * 5) = P := ⟨_, rfl⟩
        rw [hP] at hadl hcs
        have hQ : ∀ j u, ([.int .u8 (x1.toNat : Int), .int .i64 x2, .int .u8 (x3.toNat : Int), .int .i8 x4, .slice A2 n2 z2] : List Value)[j]? = some u → wr.cell? (P.add j) = some u := fun j u hu => (hbk.cell (by rw [block_of_add]; exact hadl)).trans (hcs j u hu)
        have HQ := Lib.hid hQ
        have HL2 := Lib.hid hl2
        have hbb : Below w1.heap.size w1 wr ∧ base ≤ wr.heap.size := ⟨hbk, hbks⟩
        have g1 : (k : Int) < (m : Int) := by omega
        have g0 : (0 : Int) ≤ (k : Int) := by omega
        have hx3 := x3.toNat_lt
        obtain ⟨q, hq⟩ : ∃ q, x1.toNat % 6 = q := ⟨_, rfl⟩
        have hq6 : q = 0 ∨ q = 1 ∨ q = 2 ∨ q = 3 ∨ q = 4 ∨ q = 5 := by omega
        have hq0 : (x1.toNat : Int) % 6 = (q : Int) := by omega
        have HQ0 := Lib.hid hq0
        clear hxl hcs hQ hl2 hbk hbks hg hq hq0
        have h5 : (#[.int .u8 (x1.toNat : Int), .int .i64 x2, .int .u8 (x3.toNat : Int), .int .i8 x4, .slice A2 n2 z2] : Array Value).all (·.oneCell') = true := by simp [Value.oneCell']
        repeat (first
          | ((with_reducible refine wpl_load_any P [.int .u8 (x1.toNat : Int), .int .i64 x2, .int .u8 (x3.toNat : Int), .int .i8 x4, .slice A2 n2 z2] Try.underlying47 rfl i47 rfl HQ.out ?_ ?_); (focus rfl); simp only [Act.put, List.setIfInBounds_toArray, List.set_cons_zero, List.set_cons_succ])
          | ((with_reducible refine wpl_store_fresh #[.int .u8 (x1.toNat : Int), .int .i64 x2, .int .u8 (x3.toNat : Int), .int .i8 x4, .slice A2 n2 z2] i47 ?_ rfl h5 ?_ ?_ ?_); (focus kernel_rfl); (focus rfl); (focus rfl); intro w7 hX hl7 hb7; simp only [Act.put]; refine Hid.out ?_)
          | go_values | go_skip | go_guarded | go_step | go_upon | go_back)
        refine Lib.hid ?_
        have hT0 := hT
        have hT := hT.below hb7
        have hbb := below_base hbb hb7
        clear hb7 hl7 h5 HQ hadl
        obtain ⟨gx, hgx⟩ : ∃ x, wr.heap.size = x := ⟨_, rfl⟩
        rw [hgx] at hX ⊢
        have hgf : ¬ l'.fp gx := fun q => by have := (hT0.p.fp_lt q).2; omega
        have hgF : ¬ L'.fp gx := fun q => by have := (hT0.rfp q).2; omega
        clear hgx hT0
        have c0 := hX.cell 0
        simp only [List.getElem?_toArray, List.getElem?_cons_zero] at c0
        go_upto_block 2 with (fail)
        have hq0 := HQ0.out
        rw [hq0]
        go_cut [7] (fun s wx => s = .bool true ∧ ∃ (d : DS) (l' : DL) (L' : RL), Two wx base l' L' d ∧ l'.g = g ∧ L'.g = G ∧ d.loose.length ≤ k + 1 ∧ Below w1.heap.size w1 wx ∧ base ≤ wx.heap.size)
        case first =>
          clear hq0 c0
          rcases hq6 with rfl | rfl | rfl | rfl | rfl | rfl
          · have c1 := hX.cell 1
            simp only [List.getElem?_toArray, List.getElem?_cons_zero, List.getElem?_cons_succ] at c1
            have hbl := readB_length hT.p.ok x2
            have hrd1 := fun w' (h' : DiskAt w' base l' d) => gread w' base g l' d h' hlg x2
            have hrd2 := fun w' (h' : RDk w' base L' d) => rgread w' base G L' d h' hLG x2
            generalize readB d x2 = b at *
            generalize readE d x2 = R at *
            have HR1 := Lib.hid hrd1
            have HR2 := Lib.hid hrd2
            have hbs : (bvs b).toArray.size = 128 := by rw [bvs_size, hbl]
            have hx : ∀ w, (Op.equalIn 10000 28 (.agg (bvs b).toArray) (.agg (bvs b).toArray)).run Try.prog w = .ok true w := fun w => by rw [eql128 b b hbl hbl w, decide_eq_true rfl]
            clear hrd1 hrd2
            repeat (first
              | (go_at_call 26; refine (HR1.out _ hT.p).mono ?_; rintro e w8 ⟨rfl, hb8⟩; simp only [])
              | ((with_reducible refine wpl_store_fresh (bvs b).toArray i128 ?_ hbs (bvs_all _) ?_ ?_ ?_); (focus kernel_rfl); (focus rfl); (focus rfl); intro w9 hS9 hl9 hb9; simp only [Act.put]; refine Hid.out ?_)
              | go_values | go_skip | go_guarded | go_step | go_upon | go_back)
            refine Lib.hid ?_
            have hb89 := below_next' hb8 hb9
            have hX := hX.below hb89 hX.lt
            have hT := hT.below hb89
            have hbb := below_base hbb hb89
            have c1 := hX.cell 1
            simp only [List.getElem?_toArray, List.getElem?_cons_zero, List.getElem?_cons_succ] at c1
            obtain ⟨g8, hg8⟩ : ∃ x, w8.heap.size = x := ⟨_, rfl⟩
            rw [hg8] at hS9 ⊢
            clear hb8 hb9 hb89 hl9 hg8
            repeat (first
              | (go_at_call 30; refine (HR2.out _ hT.r).mono ?_; rintro e w10 ⟨rfl, hb10⟩; simp only [])
              | ((with_reducible refine wpl_store_fresh (bvs b).toArray i128 ?_ hbs (bvs_all _) ?_ ?_ ?_); (focus kernel_rfl); (focus rfl); (focus rfl); intro w11 hS11 hl11 hb11; simp only [Act.put]; refine Hid.out ?_)
              | go_values | go_skip | go_guarded | go_step | go_upon | go_back)
            refine Lib.hid ?_
            have hb89 := below_next' hb10 hb11
            have hT := hT.below hb89
            have hbb := below_base hbb hb89
            have hS9 := hS9.below hb89 hS9.lt
            obtain ⟨g10, hg10⟩ : ∃ x, w10.heap.size = x := ⟨_, rfl⟩
            rw [hg10] at hS11 ⊢
            clear hb10 hb11 hb89 hl11 hg10
            repeat (first
              | ((with_reducible refine wpl_load g8 _ _ Try.underlying28 i128 hS9 hbs ?_ ?_); (focus rfl); simp only [Act.put, List.setIfInBounds_toArray, List.set_cons_zero, List.set_cons_succ])
              | ((with_reducible refine wpl_load g10 _ _ Try.underlying28 i128 hS11 hbs ?_ ?_); (focus rfl); simp only [Act.put, List.setIfInBounds_toArray, List.set_cons_zero, List.set_cons_succ])
              | go_values | go_skip | go_guarded | go_step | go_upon | go_back)
            go_meet
            exact ⟨rfl, d, l', L', hT, hlg, hLG, by omega, hbb.1, hbb.2⟩
          · have q1 : ∀ z, Blk z gx 47 #[.int .u8 (x1.toNat : Int), .int .i64 x2, .int .u8 (x3.toNat : Int), .int .i8 x4, .slice A2 n2 z2] → z.cell? ⟨gx, 1, none⟩ = some (.int .i64 x2) := fun z hz => hz.cell 1
            have q2 : ∀ z, Blk z gx 47 #[.int .u8 (x1.toNat : Int), .int .i64 x2, .int .u8 (x3.toNat : Int), .int .i8 x4, .slice A2 n2 z2] → z.cell? ⟨gx, 2, none⟩ = some (.int .u8 (x3.toNat : Int)) := fun z hz => hz.cell 2
            have hlen : d.loose.length < 1000000000 := by omega
            have hll := writeD_len d x2 (rep x3)
            go_wp2_with fail
            refine wp_region_plan [(0, true), (1, true), (2, true), (3, true), (4, true), (7, true), (8, true), (9, true), (10, true), (11, true), (5, false), (6, false), (12, false), (13, false), (14, true), (15, true)]
              (fun z => Blk z gx 47 #[.int .u8 (x1.toNat : Int), .int .i64 x2, .int .u8 (x3.toNat : Int), .int .i8 x4, .slice A2 n2 z2]) (by kernel_rfl) (by kernel_rfl) (by kernel_rfl) (by kernel_rfl) (fun _ _ d _ _ h => by cases d <;> exact h) hX ?_
            simp only [planOps, List.getElem?_toArray, List.getElem?_cons_zero, List.getElem?_cons_succ]
            iterate 10 (refine wpS_q ?_ (by rfl) ?_ ?_; rotate_left; (focus (intro z hz; (try dsimp only at hz); go_simp; rfl)); simp only [Act.put, List.setIfInBounds_toArray, List.set_cons_zero, List.set_cons_succ])
            refine wpS_l (by rfl) (fun K hK => ?_)
            go_wp2_with fail
            refine (bytes_any _ x3).mono ?_
            rintro e w8 ⟨rfl, hb⟩
            have hb3 : Below w7.heap.size w7 w8 := drew_below.trans hb
            have hX := hX.below hb3 hX.lt
            have hT := hT.below hb3
            have hbb := below_base hbb hb3
            refine hK _ _ _ hX (fun _ h => h) ?_
            clear hK hb hb3
            refine wpS_l (by rfl) (fun K hK => ?_)
            go_wp2_with fail
            refine (gwrite _ base g _ _ hT.p hlg hbb.2 x2 (rep x3) (rep_length x3) hlen).mono ?_
            rintro e w9 ⟨l9, rfl, hlg9, hD9, hm⟩
            have hbb := base_moved hbb (Nat.le_of_eq HBASE.out) hT.p hm
            have hX := hm.chg.blk hX hgf
            have hT := hT.left hm hD9
            refine hK _ _ _ hX (fun _ h => h) ?_
            clear hK hm
            refine wpS_l (by rfl) (fun K hK => ?_)
            go_wp2_with fail
            refine (bytes_any _ x3).mono ?_
            rintro e w10 ⟨rfl, hb⟩
            have hX := hX.below hb hX.lt
            have hT : DiskAt w10 base l9 (writeD d x2 (rep x3)) ∧ RDk w10 base L' d ∧ ∀ x, l9.fp x → ¬ L'.fp x := ⟨hT.1.below hb, hT.2.1.below hb, hT.2.2⟩
            have hbb := below_base hbb hb
            refine hK _ _ _ hX (fun _ h => h) ?_
            clear hK hb
            refine wpS_l (by rfl) (fun K hK => ?_)
            go_wp2_with fail
            refine (rgwrite _ base G _ _ hT.2.1 hLG hbb.2 x2 (rep x3) (rep_length x3) hlen).mono ?_
            rintro e w11 ⟨L9, rfl, hLG9, hR9, hm⟩
            have hbb := below_rmoved hbb (Nat.le_of_eq HBASE.out) hT.2.1 hm
            have hX := hm.chg.blk hX hgF
            have hT := Two.right hT hm hR9
            refine hK _ _ _ hX (fun _ h => h) ?_
            clear hK hm
            iterate 2 (refine wpS_q ?_ (by rfl) ?_ ?_; rotate_left; (focus (intro z hz; (try dsimp only at hz); go_simp; rfl)); simp only [Act.put, List.setIfInBounds_toArray, List.set_cons_zero, List.set_cons_succ])
            refine wpS_nil ?_
            go_wp2_with fail
            go_meet
            exact ⟨rfl, _, l9, L9, hT, hlg9, hLG9, by omega, hbb.1, hbb.2⟩
          · have hll := syncAll_len d
            go_wp2_with fail
            refine (gsync _ base g _ _ hT.p hlg).mono ?_
            rintro e w9 ⟨l9, rfl, hlg9, hD9, hm⟩
            have hbb := base_moved hbb (Nat.le_of_eq HBASE.out) hT.p hm
            have hT := hT.left hm hD9
            simp only []
            clear hm
            go_wp2_with fail
            refine (rgsync _ base G _ _ hT.2.1 hLG hbb.2).mono ?_
            rintro e w11 ⟨L9, rfl, hLG9, hR9, hm⟩
            have hbb := below_rmoved hbb (Nat.le_of_eq HBASE.out) hT.2.1 hm
            have hT := Two.right hT hm hR9
            simp only []
            clear hm
            go_wp2_with fail
            go_meet
            exact ⟨rfl, _, l9, L9, hT, hlg9, hLG9, by omega, hbb.1, hbb.2⟩
          · have c3 := hX.cell 3
            simp only [List.getElem?_toArray, List.getElem?_cons_zero, List.getElem?_cons_succ] at c3
            go_wp2_with fail
            refine (gfuse _ base g _ _ hT.p hlg x4 (by omega)).mono ?_
            rintro e w9 ⟨l9, rfl, hlg9, hD9, hm⟩
            have hbb := base_moved hbb (Nat.le_of_eq HBASE.out) hT.p hm
            have hX := hm.chg.blk hX hgf
            have hT := hT.left hm hD9
            have c3 := hX.cell 3
            simp only [List.getElem?_toArray, List.getElem?_cons_zero, List.getElem?_cons_succ] at c3
            simp only []
            obtain ⟨_, _, _, _, f3, u, cu⟩ := hT.2.1.cells
            have hR9 := hT.2.1.fuses x4 (by omega)
            have hgr := grownBy_set w9 L'.g 3 (.int .i64 (max x4 (-1)))
            have hm9 := RMoved.of_grown (l := L') hgr
            have hbb := below_rmoved hbb (Nat.le_of_eq HBASE.out) hT.2.1 hm9
            have hT := Two.right hT hm9 hR9
            rw [hLG] at f3 cu hT hbb
            clear hm hm9 hgr hR9
            go_wp2_with fail
            · have e : max x4 (-1) = -1 := by omega
              rw [e] at hT hbb
              go_meet
              exact ⟨rfl, _, l9, L', hT, hlg9, hLG, Nat.le_trans hlo (by omega), hbb.1, hbb.2⟩
            · have e : max x4 (-1) = x4 := by omega
              rw [e] at hT hbb
              go_meet
              exact ⟨rfl, _, l9, L', hT, hlg9, hLG, Nat.le_trans hlo (by omega), hbb.1, hbb.2⟩
          · go_wp2_with fail
            refine (goff _ base g _ _ hT.p hlg).mono ?_
            rintro e w9 ⟨l9, rfl, hlg9, hD9, hm⟩
            have hbb := base_moved hbb (Nat.le_of_eq HBASE.out) hT.p hm
            have hT := hT.left hm hD9
            simp only []
            clear hm
            go_wp2_with fail
            refine (rgoff _ base G _ _ hT.2.1 hLG).mono ?_
            rintro e w11 ⟨L9, rfl, hLG9, hR9, hm⟩
            have hbb := below_rmoved hbb (Nat.le_of_eq HBASE.out) hT.2.1 hm
            have hT := Two.right hT hm hR9
            simp only []
            clear hm
            go_wp2_with fail
            go_meet
            exact ⟨rfl, _, l9, L9, hT, hlg9, hLG9, Nat.le_trans hlo (by omega), hbb.1, hbb.2⟩
          · have q4 : ∀ z, Blk z gx 47 #[.int .u8 (x1.toNat : Int), .int .i64 x2, .int .u8 (x3.toNat : Int), .int .i8 x4, .slice A2 n2 z2] → z.cell? ⟨gx, 4, none⟩ = some (.slice A2 n2 z2) := fun z hz => hz.cell 4
            have hll := onAll_len d ps
            have hap : n2 ≠ 0 → ∀ x, A2.map (·.block) = some x → x < base := fun hn0 x hx => by
              obtain ⟨a1, hA, hlt, _⟩ := hR2.2 (by omega)
              rw [hA] at hx
              have hxe : a1.block = x := Option.some.inj hx
              have hbe := HBASE.out
              omega
            go_wp2_with fail
            refine wp_region_plan [(0, true), (1, true), (2, true), (4, true), (5, true), (6, true), (3, false), (7, false), (8, true), (9, true)]
              (fun z => Blk z gx 47 #[.int .u8 (x1.toNat : Int), .int .i64 x2, .int .u8 (x3.toNat : Int), .int .i8 x4, .slice A2 n2 z2]) (by kernel_rfl) (by kernel_rfl) (by kernel_rfl) (by kernel_rfl) (fun _ _ d _ _ h => by cases d <;> exact h) hX ?_
            simp only [planOps, List.getElem?_toArray, List.getElem?_cons_zero, List.getElem?_cons_succ]
            iterate 6 (refine wpS_q ?_ (by rfl) ?_ ?_; rotate_left; (focus (intro z hz; (try dsimp only at hz); go_simp; rfl)); simp only [Act.put, List.setIfInBounds_toArray, List.set_cons_zero, List.set_cons_succ])
            have hT := hT.below drew_below
            have hbb := below_base hbb (drew_below (w := w7))
            refine wpS_l (by rfl) (fun K hK => ?_)
            go_wp2_with fail
            refine (gonN _ base g _ _ hT.p hlg A2 n2 z2 ps (hR2.below hbb.1) (fun hn0 x hx hf => by have := hap hn0 x hx; have := (hT.p.fp_lt hf).1; omega)).mono ?_
            rintro e w9 ⟨l9, rfl, hlg9, hD9, hm⟩
            have hbb := base_moved hbb (Nat.le_of_eq HBASE.out) hT.p hm
            have hX := hm.chg.blk (show Blk w7.drew gx 47 #[.int .u8 (x1.toNat : Int), .int .i64 x2, .int .u8 (x3.toNat : Int), .int .i8 x4, .slice A2 n2 z2] from hX) hgf
            have hT := hT.left hm hD9
            refine hK _ _ _ hX (fun _ h => h) ?_
            clear hK hm
            refine wpS_l (by rfl) (fun K hK => ?_)
            go_wp2_with fail
            refine (rgon _ base G _ _ hT.2.1 hLG hbb.2 A2 n2 z2 ps (hR2.below hbb.1) (fun hn0 x hx hf => by have := hap hn0 x hx; have := (hT.2.1.fp_lt hf).1; omega)).mono ?_
            rintro e w11 ⟨L9, rfl, hLG9, hR9, hm⟩
            have hbb := below_rmoved hbb (Nat.le_of_eq HBASE.out) hT.2.1 hm
            have hX := hm.chg.blk hX hgF
            have hT := Two.right hT hm hR9
            refine hK _ _ _ hX (fun _ h => h) ?_
            clear hK hm
            iterate 2 (refine wpS_q ?_ (by rfl) ?_ ?_; rotate_left; (focus (intro z hz; (try dsimp only at hz); go_simp; rfl)); simp only [Act.put, List.setIfInBounds_toArray, List.set_cons_zero, List.set_cons_succ])
            refine wpS_nil ?_
            go_wp2_with fail
            go_meet
            exact ⟨rfl, _, l9, L9, hT, hlg9, hLG9, by omega, hbb.1, hbb.2⟩
        case rest =>
          clear hT hbb hX hgf hgF c0 hlo hlg hLG HQ0 hq0 hq6
          obtain ⟨rfl, d1, l1, L1, hT, hlg, hLG, hlo, hbk, hbks⟩ := hcut
          obtain ⟨A9, c9, k1, k2, _⟩ := hT.r.cells
          rw [hLG] at k1 k2
          obtain ⟨o, ho⟩ : ∃ o, d1.off = o := ⟨_, rfl⟩
          rw [ho] at k2
          have HO := Lib.hid ho
          clear ho
          have hno : ((!o) == o) = false := by cases o <;> rfl
          go_wp2_with fail
          refine wp_region_plan [(0, true), (1, true), (2, true), (3, true), (5, true), (6, true), (7, true), (8, true), (4, false), (9, true), (10, true), (11, true), (12, true), (14, true), (15, true), (16, true), (17, true), (18, true), (13, false), (19, true), (20, true)]
            (fun z => z.cell? ⟨G, 1, none⟩ = some (.slice A9 d1.loose.length c9) ∧ z.cell? ⟨G, 2, none⟩ = some (.bool o)) (by kernel_rfl) (by kernel_rfl) (by kernel_rfl) (by kernel_rfl) (fun _ _ d _ _ h => by cases d <;> exact h) ⟨k1, k2⟩ ?_
          simp only [planOps, List.getElem?_toArray, List.getElem?_cons_zero, List.getElem?_cons_succ]
          iterate 8 (refine wpS_q ?_ (by rfl) ?_ ?_; rotate_left; (focus (intro z hz; (try dsimp only at hz); go_simp; rfl)); simp only [Act.put, List.setIfInBounds_toArray, List.set_cons_zero, List.set_cons_succ])
          have hT := hT.below drew_below
          have hbb := below_base ⟨hbk, hbks⟩ (drew_below (w := wc))
          clear hbk hbks
          refine wpS_l (by rfl) (fun K hK => ?_)
          go_wp2_with fail
          refine (gpower _ base g _ _ hT.p hlg).mono ?_
          rw [HO.out]
          rintro e w8 ⟨rfl, rfl⟩
          refine hK _ _ _ ⟨k1, k2⟩ (fun _ h => h) ?_
          clear hK
          iterate 9 (refine wpS_q ?_ (by rfl) ?_ ?_; rotate_left; (focus (intro z hz; (try dsimp only at hz); go_simp; rfl)); simp only [Act.put, List.setIfInBounds_toArray, List.set_cons_zero, List.set_cons_succ])
          refine wpS_l (by rfl) (fun K hK => ?_)
          go_wp2_with fail
          refine (gloose _ base g _ _ hT.p hlg).mono ?_
          rintro e w8 ⟨rfl, rfl⟩
          refine hK _ _ _ ⟨k1, k2⟩ (fun _ h => h) ?_
          clear hK
          iterate 2 (refine wpS_q ?_ (by rfl) ?_ ?_; rotate_left; (focus (intro z hz; (try dsimp only at hz); go_simp; rfl)); simp only [Act.put, List.setIfInBounds_toArray, List.set_cons_zero, List.set_cons_succ])
          refine wpS_nil ?_
          clear k1 k2
          generalize wc.drew = w8 at *
          obtain ⟨r, hr10⟩ : ∃ r, k % 10 = r := ⟨_, rfl⟩
          have hm10 : (k : Int) % 10 = (r : Int) := by omega
          have hm10' : (k : Int).tmod 10 = (r : Int) := by rw [← hr10]; rfl
          have hm1 : (m : Int) - 1 = ((m - 1 : Nat) : Int) := by omega
          clear hr10 HO hno
          obtain ⟨va, hva⟩ : ∃ v, ((r : Int) != 9) = v := ⟨_, rfl⟩
          obtain ⟨vb, hvb⟩ : ∃ v, ((k : Int) != ((m - 1 : Nat) : Int)) = v := ⟨_, rfl⟩
          rcases (show (va = true ∧ vb = true) ∨ va = false ∨ (va = true ∧ vb = false) by cases va <;> cases vb <;> simp) with ⟨rfl, rfl⟩ | rfl | ⟨rfl, rfl⟩
          · go_wp2_with fail
            exact ⟨⟨k + 1, d1, l1, L1, by omega, congrArg (Value.int .i64) (by omega), hT, hlg, hLG, hlo, hbb.1, hbb.2⟩, by simp only [intOf]; omega⟩
          all_goals
            have hbb1 := hbb.1
            have hbb2 := hbb.2
            go_wp2_with fail
            go_loopw [12] (fun i wr => ∃ j : Nat, j ≤ k + 1 ∧ i = .int .i64 (j : Int) ∧ Two wr base l1 L1 d1 ∧ Below w1.heap.size w1 wr ∧ base ≤ wr.heap.size) (fun i _ => k + 1 - (intOf i).toNat)
            case atStart => exact ⟨0, Nat.zero_le _, rfl, hT, hbb1, hbb2⟩
            case round =>
              clear hT hbb hbb1 hbb2 hm10 hm10' hm1 hva hvb
              obtain ⟨j, hj, rfl, hT, hbk, hbks⟩ := hrel
              by_cases hjk : j < k + 1
              · obtain ⟨ad2, ⟨y1, y2, y3, y4, ⟨A4, n4, z4, ps4⟩⟩, e, _, _, hadl, _, hcs⟩ := dstep_at hr (show j < m by omega)
                cases e
                have q1 := hcs 1 (.int .i64 y2) (by omega) rfl
                obtain ⟨P2, hP2⟩ : ∃ P, ad.add (j * 5) = P := ⟨_, rfl⟩
                rw [hP2] at hadl q1
                have Q1 : Hid (∀ z, Below w1.heap.size w1 z → z.cell? ⟨P2.block, P2.off + 1, none⟩ = some (.int .i64 y2)) := Lib.hid (fun z hz => (hz.cell (p := ⟨P2.block, P2.off + 1, none⟩) hadl).trans q1)
                have g3 : (j : Int) ≤ (k : Int) := by omega
                have g4 : (0 : Int) ≤ (j : Int) := by omega
                have g5 : (j : Int) < (m : Int) := by omega
                clear hcs q1 hadl
                have hbl := readB_length hT.p.ok y2
                have hrd1 := fun w' (h' : DiskAt w' base l1 d1) => gread w' base g l1 d1 h' hlg y2
                have hrd2 := fun w' (h' : RDk w' base L1 d1) => rgread w' base G L1 d1 h' hLG y2
                generalize readB d1 y2 = b at *
                generalize readE d1 y2 = R at *
                have HR1 := Lib.hid hrd1
                have HR2 := Lib.hid hrd2
                have hbs : (bvs b).toArray.size = 128 := by rw [bvs_size, hbl]
                have hx : ∀ w, (Op.equalIn 10000 28 (.agg (bvs b).toArray) (.agg (bvs b).toArray)).run Try.prog w = .ok true w := fun w => by rw [eql128 b b hbl hbl w, decide_eq_true rfl]
                have hbb : Below w1.heap.size w1 wr ∧ base ≤ wr.heap.size := ⟨hbk, hbks⟩
                clear hrd1 hrd2 hbk hbks
                have c1 := Q1.out _ hbb.1
                repeat (first
                  | (go_at_call 26; refine (HR1.out _ hT.p).mono ?_; rintro e w8 ⟨rfl, hb8⟩; simp only [])
                  | ((with_reducible refine wpl_store_fresh (bvs b).toArray i128 ?_ hbs (bvs_all _) ?_ ?_ ?_); (focus kernel_rfl); (focus rfl); (focus rfl); intro w9 hS9 hl9 hb9; simp only [Act.put]; refine Hid.out ?_)
                  | go_values | go_skip | go_guarded | go_step | go_upon | go_back)
                refine Lib.hid ?_
                have hb89 := below_next' hb8 hb9
                have hT := hT.below hb89
                have hbb := below_base hbb hb89
                have c1 := Q1.out _ hbb.1
                obtain ⟨g8, hg8⟩ : ∃ x, w8.heap.size = x := ⟨_, rfl⟩
                rw [hg8] at hS9 ⊢
                clear hb8 hb9 hb89 hl9 hg8
                repeat (first
                  | (go_at_call 30; refine (HR2.out _ hT.r).mono ?_; rintro e w10 ⟨rfl, hb10⟩; simp only [])
                  | ((with_reducible refine wpl_store_fresh (bvs b).toArray i128 ?_ hbs (bvs_all _) ?_ ?_ ?_); (focus kernel_rfl); (focus rfl); (focus rfl); intro w11 hS11 hl11 hb11; simp only [Act.put]; refine Hid.out ?_)
                  | go_values | go_skip | go_guarded | go_step | go_upon | go_back)
                refine Lib.hid ?_
                have hb89 := below_next' hb10 hb11
                have hT := hT.below hb89
                have hbb := below_base hbb hb89
                have hS9 := hS9.below hb89 hS9.lt
                obtain ⟨g10, hg10⟩ : ∃ x, w10.heap.size = x := ⟨_, rfl⟩
                rw [hg10] at hS11 ⊢
                clear hb10 hb11 hb89 hl11 hg10
                repeat (first
                  | ((with_reducible refine wpl_load g8 _ _ Try.underlying28 i128 hS9 hbs ?_ ?_); (focus rfl); simp only [Act.put, List.setIfInBounds_toArray, List.set_cons_zero, List.set_cons_succ])
                  | ((with_reducible refine wpl_load g10 _ _ Try.underlying28 i128 hS11 hbs ?_ ?_); (focus rfl); simp only [Act.put, List.setIfInBounds_toArray, List.set_cons_zero, List.set_cons_succ])
                  | go_values | go_skip | go_guarded | go_step | go_upon | go_back)
                exact ⟨⟨j + 1, by omega, congrArg (Value.int .i64) (by omega), hT, hbb.1, hbb.2⟩, by simp only [intOf]; omega⟩
              · obtain rfl : j = k + 1 := by omega
                have g3 : ¬ (((k + 1 : Nat) : Int)) ≤ (k : Int) := by omega
                go_wp2_with fail
                exact ⟨⟨k + 1, d1, l1, L1, by omega, congrArg (Value.int .i64) (by omega), hT, hlg, hLG, hlo, hbk, hbks⟩, by simp only [intOf]; omega⟩
      · obtain rfl : k = m := by omega
        have g1 : ¬ (k : Int) < (k : Int) := by omega
        go_wp2_with fail
        go_meet
        exact hbk
  case rest =>
    clear hbb hbb1 hbb2 hT
    go_wp2_with (go_at_call 19; refine (works4_any _).mono ?_; rintro e w2 ⟨rfl, hb2⟩)
    go_ret
    exact ⟨rfl, below_next' hcut hb2⟩
theorem diskPlays_walk (w : World) (A : Option Addr) (m c : Nat) (l : List DStep) (_ : l.length = m) (hr : Reads w w.heap.size 5 A m (l.flatMap fun x => [Value.int .u8 (x.1.toNat : Int)] ++ ([Value.int .i64 x.2.1] ++ ([Value.int .u8 (x.2.2.1.toNat : Int)] ++ ([Value.int .i8 x.2.2.2.1] ++ [x.2.2.2.2.v]))))) (hi : ∀ a ∈ l, (True ∧ (-9223372036854775808 ≤ a.2.1 ∧ a.2.1 ≤ 9223372036854775807) ∧ True ∧ (-128 ≤ a.2.2.2.1 ∧ a.2.2.2.1 ≤ 127) ∧ SB.ok w a.2.2.2.2) ∧ ([Value.int .u8 (a.1.toNat : Int)] ++ ([Value.int .i64 a.2.1] ++ ([Value.int .u8 (a.2.2.1.toNat : Int)] ++ ([Value.int .i8 a.2.2.2.1] ++ [a.2.2.2.2.v])))).length = 5) (_ : m ≤ c) (_ : c * 48 ≤ 140737488351232) :
    Calls Try.prog 5 #[.slice A m c] w fun e w' => e = .returned (.bool true) ∧ Below w.heap.size w w' :=
  diskPlays_any w A m c l hr (fun x hx => ⟨(hi x hx).1.2.1, (hi x hx).1.2.2.2.1, (hi x hx).1.2.2.2.2⟩)
end Go.Proofs.Ytmjdfajdompkeaa
