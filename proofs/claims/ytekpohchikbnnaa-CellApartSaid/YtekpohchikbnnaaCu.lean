/- CellApart: in plain words; two cells on one disk. -/
import Derived.Test.YtekpohchikbnnaaCp
import Derived.Test.YtekpohchikbnnaaRde
namespace Go.Proofs.Ytekpohchikbnnaa
open Go.RowKit Go.Rat
structure ApSt (d : DS) (S : Int) (wa : Nat) (ha : List UInt8) (wb : Nat) (hb : List UInt8) (K : Nat) : Prop where
  a : ∃ n, CellSt d 0 wa n ha K
  b : ∃ n, CellSt d S wb n hb K
  fuse : d.fuse = -1
  loose : d.loose.length ≤ K
theorem ap_start {S : Int} (hS : 20 ≤ S ∧ S ≤ 49) : (fmF ds0 0).2 = 0 ∧ (fmF ds0 0).1.loose = [] ∧ (fmF (fmF ds0 0).1 S).2 = 0 ∧ ApSt (fmF (fmF ds0 0).1 S).1 S 0 [] 0 [] 2 := by
  obtain ⟨h1, h2, h3, h4, h5, _, _⟩ := format_calm (d := ds0) (p := 0) (by omega) rfl rfl
  obtain ⟨k1, k2, k3, k4, k5, k6, _⟩ := format_calm (p := S) (by omega) h2 h3
  exact ⟨h1, h4, k1, ⟨⟨2, h5.keep k2 fun a h7 h8 => k6 a (by omega)⟩, ⟨2, k5⟩, k3, by rw [k4]; simp⟩⟩
section
variable {d : DS} {S : Int} {wa wb K : Nat} {ha hb : List UInt8}
theorem ApSt.opA (h : ApSt d S wa ha wb hb K) : opE d 0 = 0 ∧ openCell d 0 = ⟨0, ha, wa, false⟩ := by
  obtain ⟨n, h1⟩ := h.a
  obtain ⟨h2, h3⟩ := h1.open_
  exact ⟨h2, by rw [openCell, h3]⟩
theorem ApSt.opB (h : ApSt d S wa ha wb hb K) : opE d S = 0 ∧ openCell d S = ⟨S, hb, wb, false⟩ := by
  obtain ⟨n, h1⟩ := h.b
  obtain ⟨h2, h3⟩ := h1.open_
  exact ⟨h2, by rw [openCell, h3]⟩
theorem ApSt.putA (h : ApSt d S wa ha wb hb K) (hS : 20 ≤ S ∧ S ≤ 49) (hK : K < 1000) {b : List UInt8} (hl : b.length ≤ 1100) : (ptF d 0 wa b).2 = 0 ∧ ApSt (ptF d 0 wa b).1 S (1 - wa) b wb hb (K + 1) := by
  obtain ⟨n, h1⟩ := h.a
  obtain ⟨m, h2⟩ := h.b
  have hw := h1.wh
  have h64 : (2 : Nat) ^ 64 = 18446744073709551616 := by decide
  obtain ⟨k1, k2, k3, k4, k5, k6⟩ := put_calm (b := b) h.fuse h1 (by omega) hl
  exact ⟨k1, ⟨_, k5⟩, ⟨m, (h2.keep k2 fun a h7 h8 => by rw [k6, nowW_out _ _ _ _ (by omega)]).up (Nat.le_succ K) (by omega)⟩, k3, by rw [k4]; simp⟩
theorem ApSt.putB (h : ApSt d S wa ha wb hb K) (hS : 20 ≤ S ∧ S ≤ 49) (hK : K < 1000) {b : List UInt8} (hl : b.length ≤ 1100) : (ptF d S wb b).2 = 0 ∧ ApSt (ptF d S wb b).1 S wa ha (1 - wb) b (K + 1) := by
  obtain ⟨n, h1⟩ := h.a
  obtain ⟨m, h2⟩ := h.b
  have hw := h2.wh
  have h64 : (2 : Nat) ^ 64 = 18446744073709551616 := by decide
  obtain ⟨k1, k2, k3, k4, k5, k6⟩ := put_calm (b := b) h.fuse h2 (by omega) hl
  exact ⟨k1, ⟨n, (h1.keep k2 fun a h7 h8 => by rw [k6, nowW_out _ _ _ _ (by omega)]).up (Nat.le_succ K) (by omega)⟩, ⟨_, k5⟩, k3, by rw [k4]; simp⟩
theorem ApSt.put_out (h : ApSt d S wa ha wb hb K) (hS : 20 ≤ S ∧ S ≤ 49) (hK : K < 1000) {a : Int} (hl : S + 20 ≤ a ∧ a < 32768) (b : List UInt8) : writeE d a = 0 ∧ ApSt (writeD d a b) S wa ha wb hb (K + 1) := by
  obtain ⟨n, h1⟩ := h.a
  obtain ⟨m, h2⟩ := h.b
  have h64 : (2 : Nat) ^ 64 = 18446744073709551616 := by decide
  obtain ⟨_, _, h3⟩ := write_eff (d := d) b h1.off (a := a) (by omega)
  obtain ⟨h3, h4⟩ := h3 (by rw [h.fuse]; omega)
  rw [h4]
  have hn : ∀ x, x ≠ a → (putD d a b).now x = d.now x := fun x hx => if_neg hx
  exact ⟨h3, ⟨n, (h1.keep (d' := putD d a b) h1.off fun x h7 h8 => hn x (by omega)).up (Nat.le_succ K) (by omega)⟩, ⟨m, (h2.keep (d' := putD d a b) h1.off fun x h7 h8 => hn x (by omega)).up (Nat.le_succ K) (by omega)⟩, h.fuse, by have := h.loose; simp [putD]; omega⟩
end
abbrev Beside := Bool × Bool × SB × UInt8 × UInt8
def besideC (x : Beside) : List Value := [.bool x.1] ++ ([.bool x.2.1] ++ ([x.2.2.1.v] ++ ([.int .u8 (x.2.2.2.1.toNat : Int)] ++ [.int .u8 (x.2.2.2.2.toNat : Int)])))
theorem beside_at {w : World} {A : Option Addr} {n : Nat} {l : List Beside} (h : Reads w w.heap.size 5 A n (l.flatMap besideC)) {k : Nat} (hk : k < n) :
    ∃ ad x, A = some ad ∧ x ∈ l ∧ (ad.add (k * 5)).block < w.heap.size ∧ ∀ j u, (besideC x)[j]? = some u → w.cell? ((ad.add (k * 5)).add j) = some u := by
  obtain ⟨ad, rfl, hb, hc⟩ := h.2 (by omega)
  have hlen := flat_len besideC 5 (fun _ => rfl) l
  have hkl : k < l.length := by have := h.1; omega
  have hg : l[k]? = some l[k] := List.getElem?_eq_getElem hkl
  refine ⟨ad, l[k], rfl, List.getElem_mem hkl, by rw [block_of_add]; exact hb, fun j u hu => ?_⟩
  have hj : j < 5 := by
    have := (List.getElem?_eq_some_iff.1 hu).1
    simpa [besideC] using this
  have F := flat_get besideC 5 (fun _ => rfl) l k j _ hg hj
  rw [show (ad.add (k * 5)).add j = ad.add (k * 5 + j) by
    by_cases h0 : j = 0
    · subst h0; simp [Addr.add]
    · rw [← add_field _ _ _ (by omega)]; unfold Addr.add; rw [if_neg h0]]
  exact hc _ _ (F.trans hu)
/-- A struct that stands anywhere. -/
theorem wpl_load_at {P : Program} {w : World} {ops : Array Oper} {rest : List Oper} {a : Act} {Q : Exit → Act → World → Prop} {d : Option Tmp} {ty : TypeId} {x : Operand} {t : TypeId} {p : String} {af : Array Edge} (ad : Addr) (cs : List Value) {D : TypeDesc}
    (hu : P.underlying ty = some D) (hd : D.isRow = true) {n : Nat} (hi : (P.info? ty).map (·.size) = some n) (hl : cs.length = n) (hc : ∀ j u, cs[j]? = some u → w.cell? (ad.add j) = some u)
    (hx : a.eval x = .pointer (some ad)) (h : wpList P ops Q rest (a.put d (.agg cs.toArray)) w) :
    wpList P ops Q ({ dst := d, op := .load ty x, type := t, pos := p, after := af, guard := none } :: rest) a w := by
  subst hl
  have hrun : (loadVar ty ad).run P w = .ok (.agg cs.toArray) w := by
    have hl : (loadCells ad cs.length).run P w = .ok cs.toArray w := run_loadCells_list (P := P) w ad cs hc
    cases hq : P.info? ty with
    | none => simp [hq] at hi
    | some i =>
      have hs : i.size = cs.length := by simpa [hq] using hi
      have hagg : (isAgg ty).run P w = .ok true w := by
        unfold isAgg
        rw [Sem.run_bind, run_underlying hu w]
        cases D <;> simp_all
      simp [loadVar, Sem.run_bind, hagg, sizeOf, typeInfo, hq, hs, hl]
  refine wpList_plain rfl fun _ hK => ?_
  unfold Oper.wp execOp
  simp only [hx, Instr.loadAt, Instr.sureAddr, Sem.run_bind, Sem.run_pure, Result.andThen_ok, hrun]
  exact hK _ _ h
theorem i66 : (Try.prog.info? 66).map (·.size) = some 5 := by kernel_rfl
/-- Where the two cells stand, and what they had. -/
structure ApAt (w : World) (base : Nat) (l : DL) (d : DS) (g ka kb gs : Nat) (S : Int) (wa : Nat) (ha : List UInt8) (wb : Nat) (hb : List UInt8) (cs : Array Value) : Prop where
  D : DiskAt w base l d
  g : l.g = g
  A : CellAt w base l ka ⟨0, ha, wa, false⟩
  B : CellAt w base l kb ⟨S, hb, wb, false⟩
  H : Blk w gs 64 cs
  nf : ¬ l.fp gs
  gb : base ≤ gs
  ne : ka ≠ kb
  nA : gs ≠ ka
  nB : gs ≠ kb
section
variable {w w' : World} {base : Nat} {l l' : DL} {d d' : DS} {g ka kb gs : Nat} {S : Int} {wa wb : Nat} {ha hb : List UInt8} {cs : Array Value}
theorem str_ne8 : (64 : TypeId) ≠ 5 := by decide
theorem ApAt.below (h : ApAt w base l d g ka kb gs S wa ha wb hb cs) (k : Below w.heap.size w w') : ApAt w' base l d g ka kb gs S wa ha wb hb cs :=
  ⟨h.D.below k, h.g, h.A.below k, h.B.below k, h.H.below k h.H.lt, h.nf, h.gb, h.ne, h.nA, h.nB⟩
theorem fp_kept {F : Nat → Prop} {x : Nat} (hf : ¬ l.fp x) (hx : x < w.heap.size) (h : ∀ x, l'.fp x → l.fp x ∨ w.heap.size ≤ x) (_ : Chg F w w') : ¬ l'.fp x := fun q => by
  rcases h x q with h1 | h1
  · exact hf h1
  · omega
theorem ApAt.moved (h : ApAt w base l d g ka kb gs S wa ha wb hb cs) (k : Moved w w' l l') (hD : DiskAt w' base l' d') : ApAt w' base l' d' g ka kb gs S wa ha wb hb cs :=
  ⟨hD, (congrArg Prod.fst k.g).trans h.g, h.A.moved k, h.B.moved k, k.chg.blk h.H h.nf, fp_kept h.nf h.H.lt k.fp k.chg, h.gb, h.ne, h.nA, h.nB⟩
theorem ApAt.putA (h : ApAt w base l d g ka kb gs S wa ha wb hb cs) (k : CMoved w w' l l' ka) (hD : DiskAt w' base l' d') {wa' : Nat} {ha' : List UInt8} (hA : CellAt w' base l' ka ⟨0, ha', wa', false⟩) : ApAt w' base l' d' g ka kb gs S wa' ha' wb hb cs := by
  have hg : l'.g = l.g := congrArg Prod.fst k.g
  obtain ⟨_, _, _, hBk, _⟩ := h.A.blk
  refine ⟨hD, hg.trans h.g, hA, h.B.kept k.chg (fun q => ?_) (fun x hx => ?_) hg k.fp, k.chg.blk h.H (fun q => ?_), fp_kept h.nf h.H.lt k.fp k.chg, h.gb, h.ne, h.nA, h.nB⟩
  · rcases q with q | q
    · exact h.B.out q
    · exact h.ne q.symm
  · rcases hx with hx | rfl
    · exact .inl hx
    · exact .inr ⟨_, _, hBk, cell_ne8⟩
  · rcases q with q | q
    · exact h.nf q
    · exact h.nA q
theorem ApAt.putB (h : ApAt w base l d g ka kb gs S wa ha wb hb cs) (k : CMoved w w' l l' kb) (hD : DiskAt w' base l' d') {wb' : Nat} {hb' : List UInt8} (hB : CellAt w' base l' kb ⟨S, hb', wb', false⟩) : ApAt w' base l' d' g ka kb gs S wa ha wb' hb' cs := by
  have hg : l'.g = l.g := congrArg Prod.fst k.g
  obtain ⟨_, _, _, hBk, _⟩ := h.B.blk
  refine ⟨hD, hg.trans h.g, h.A.kept k.chg (fun q => ?_) (fun x hx => ?_) hg k.fp, hB, k.chg.blk h.H (fun q => ?_), fp_kept h.nf h.H.lt k.fp k.chg, h.gb, h.ne, h.nA, h.nB⟩
  · rcases q with q | q
    · exact h.A.out q
    · exact h.ne q
  · rcases hx with hx | rfl
    · exact .inl hx
    · exact .inr ⟨_, _, hBk, cell_ne8⟩
  · rcases q with q | q
    · exact h.nf q
    · exact h.nB q
theorem ApAt.set (h : ApAt w base l d g ka kb gs S wa ha wb hb cs) (i : Nat) (u : Value) : ApAt (w.setCell ⟨gs, i, none⟩ u) base l d g ka kb gs S wa ha wb hb (cs.setIfInBounds i u) := by
  have hg := grownBy_set w gs i u
  have hc : Chg (fun x => x = gs) w (w.setCell ⟨gs, i, none⟩ u) := Chg.of_grown hg rfl
  refine ⟨h.D.beside hg h.nf, h.g, h.A.kept hc (fun q => h.nA q.symm) (fun x hx => ?_) rfl (fun _ q => .inl q), h.B.kept hc (fun q => h.nB q.symm) (fun x hx => ?_) rfl (fun _ q => .inl q), h.H.set_ i u, h.nf, h.gb, h.ne, h.nA, h.nB⟩
  · subst hx
    exact .inr ⟨_, _, h.H, str_ne8⟩
  · subst hx
    exact .inr ⟨_, _, h.H, str_ne8⟩
end
end Go.Proofs.Ytekpohchikbnnaa
