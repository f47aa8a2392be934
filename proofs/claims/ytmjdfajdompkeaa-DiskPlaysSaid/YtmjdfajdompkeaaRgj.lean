/- The document's disk, by what the program's is: the contracts. -/
import Derived.Test.YtmjdfajdompkeaaRgi
namespace Go.Proofs.Ytmjdfajdompkeaa
open Go.RowKit Go.Rat
/-- A disk of the document's that goes with d. -/
def RDk (w : World) (base : Nat) (l : RL) (d : DS) : Prop := ∃ r, RefAt w base l r ∧ RefD d r
section
variable {w w' : World} {base : Nat} {l l' : RL} {d : DS} {r : RS} {F : Nat → Prop}
theorem RDk.fp_lt (h : RDk w base l d) {x : Nat} (hx : l.fp x) : base ≤ x ∧ x < w.heap.size := by
  obtain ⟨r, h1, _⟩ := h
  exact h1.fp_lt hx
theorem RDk.kept (h : RDk w base l d) (hc : Chg F w w') (hF : ∀ x, l.fp x → ¬ F x) : RDk w' base l d := by
  obtain ⟨r, h1, h2⟩ := h
  exact ⟨r, h1.kept hc hF, h2⟩
theorem RDk.below (h : RDk w base l d) (hb : Below w.heap.size w w') : RDk w' base l d := by
  obtain ⟨r, h1, h2⟩ := h
  exact ⟨r, h1.below hb, h2⟩
theorem RefD.len (h : RefD d r) : r.soft.length = d.loose.length := by rw [h.soft, List.length_map]
theorem RDk.cells (h : RDk w base l d) : ∃ A c, w.cell? ⟨l.g, 1, none⟩ = some (.slice A d.loose.length c) ∧ w.cell? ⟨l.g, 2, none⟩ = some (.bool d.off) ∧ w.frozen? ⟨l.g, 3, none⟩ = false ∧ ∃ u, w.cell? ⟨l.g, 3, none⟩ = some u := by
  obtain ⟨r, h1, h2⟩ := h
  have c1 := h1.blk.cell 1
  have c2 := h1.blk.cell 2
  have c3 := h1.blk.cell 3
  simp only [List.getElem?_toArray, List.getElem?_cons_zero, List.getElem?_cons_succ] at c1 c2 c3
  rw [h2.len] at c1
  rw [h2.off] at c2
  exact ⟨_, _, c1, c2, h1.blk.frozen 3, _, c3⟩
theorem RDk.fuses (h : RDk w base l d) (n : Int) (hn : n ≤ 9223372036854775807) : RDk (w.setCell ⟨l.g, 3, none⟩ (.int .i64 (max n (-1)))) base l (fuseD d n) := by
  obtain ⟨r, h1, h2⟩ := h
  have hB := h1.blk.set_ 3 (.int .i64 (max n (-1)))
  simp only [List.setIfInBounds_toArray, List.set_cons_zero, List.set_cons_succ] at hB
  exact ⟨_, h1.turn r.off (max n (-1)) (by omega) (grownBy_set w l.g 3 _) hB, h2.fuses n⟩
theorem RefD.writes (h : RefD d r) (a : Int) (b : List UInt8) : RefD (writeD d a b) (writeR r a b) ∧ writeRE r a = writeE d a := by
  unfold writeD writeR writeRE writeE burnB
  rw [h.off, h.fuse]
  by_cases hr : readyE d.off a = 0
  · rw [if_pos hr, if_pos hr, if_pos hr, if_pos hr]
    refine ⟨(h.put a b).burn, ?_⟩
    by_cases hf : d.fuse = 0
    · simp [hf]
    · simp [hf]
  · rw [if_neg hr, if_neg hr, if_neg hr, if_neg hr]
    exact ⟨h, rfl⟩
theorem RefD.syncs (h : RefD d r) : RefD (syncAll d) (syncR r) ∧ syncRE r = syncE d := by
  unfold syncAll syncR syncRE syncE burnB
  rw [h.off, h.fuse]
  by_cases ho : d.off = true
  · simp only [ho, if_true]
    exact ⟨h, trivial⟩
  · simp only [ho]
    by_cases hf : d.fuse = 0
    · simp only [hf, decide_true, if_true]
      exact ⟨h.burn, trivial⟩
    · simp only [hf, decide_false]
      have h1 := h.burn.sync
      rw [(burnR_soft r).1, (burnR_soft r).2] at h1
      exact ⟨h1, rfl⟩
theorem RefD.ons (h : RefD d r) (ps : List UInt8) : RefD (onAll d ps) (onR r ps) ∧ onRE r = onE d := by
  unfold onAll onR onRE onE
  rw [h.off]
  by_cases ho : d.off = true
  · simp only [ho, if_true]
    exact ⟨h.on ps, trivial⟩
  · simp only [ho]
    exact ⟨h, trivial⟩
end
theorem rgnew (w : World) : Calls Try.prog 29 #[] w fun e w' => ∃ l : RL, e = .returned (.pointer (some ⟨l.g, 0, none⟩)) ∧ RDk w' w.heap.size l ds0 ∧ l.g = w.heap.size ∧ Below w.heap.size w w' := by
  refine (rnew_any w).mono ?_
  rintro e w' ⟨l, h1, h2, h3, h4⟩
  exact ⟨l, h1, ⟨rs0, h2, refD0⟩, h3, h4⟩
section
variable (w : World) (base : Nat) (g : Nat) (l : RL) (d : DS) (h : RDk w base l d) (hg : l.g = g)
include h hg
theorem rgread (a : Int) : Calls Try.prog 30 #[.pointer (some ⟨g, 0, none⟩), .int .i64 a] w fun e w' => e = .returned (.tuple #[.agg (bvs (readB d a)).toArray, .int .i64 (readE d a)]) ∧ Below w.heap.size w w' := by
  subst hg
  obtain ⟨r, h1, h2⟩ := h
  rw [(h2.reads a).1, (h2.reads a).2]
  exact rread_any w base l r h1 a
theorem rgoff : Calls Try.prog 34 #[.pointer (some ⟨g, 0, none⟩)] w fun e w' => ∃ l', e = .returned (.tuple #[]) ∧ l'.g = g ∧ RDk w' base l' (offD d) ∧ RMoved w w' l l' := by
  subst hg
  obtain ⟨r, h1, h2⟩ := h
  refine (roff_any w base l r h1).mono ?_
  rintro e w' ⟨k1, k2, k3⟩
  exact ⟨l, k1, rfl, ⟨_, k2, h2.offs⟩, RMoved.of_grown k3⟩
theorem rgwrite (hbase : base ≤ w.heap.size) (a : Int) (b : List UInt8) (hb : b.length = 128) (hlo : d.loose.length < 1000000000) : Calls Try.prog 31 #[.pointer (some ⟨g, 0, none⟩), .int .i64 a, .agg (bvs b).toArray] w fun e w' => ∃ l', e = .returned (.int .i64 (writeE d a)) ∧ l'.g = g ∧ RDk w' base l' (writeD d a b) ∧ RMoved w w' l l' := by
  subst hg
  obtain ⟨r, h1, h2⟩ := h
  obtain ⟨h3, h4⟩ := h2.writes a b
  rw [← h4]
  refine (rwrite_any w base l r h1 hbase a b hb (by rw [h2.len]; exact hlo)).mono ?_
  rintro e w' ⟨l', k1, k2, k3⟩
  exact ⟨l', k1, k3.g, ⟨_, k2, h3⟩, k3⟩
theorem rgsync (hbase : base ≤ w.heap.size) : Calls Try.prog 32 #[.pointer (some ⟨g, 0, none⟩)] w fun e w' => ∃ l', e = .returned (.int .i64 (syncE d)) ∧ l'.g = g ∧ RDk w' base l' (syncAll d) ∧ RMoved w w' l l' := by
  subst hg
  obtain ⟨r, h1, h2⟩ := h
  obtain ⟨h3, h4⟩ := h2.syncs
  rw [← h4]
  refine (rsync_any w base l r h1 hbase).mono ?_
  rintro e w' ⟨l', k1, k2, k3⟩
  exact ⟨l', k1, k3.g, ⟨_, k2, h3⟩, k3⟩
theorem rgon (hbase : base ≤ w.heap.size) (A' : Option Addr) (m c' : Nat) (ps : List UInt8) (hr : RB w A' m ps) (hap : m ≠ 0 → ∀ x, A'.map (·.block) = some x → ¬ l.fp x) : Calls Try.prog 35 #[.pointer (some ⟨g, 0, none⟩), .slice A' m c'] w fun e w' => ∃ l', e = .returned (.int .i64 (onE d)) ∧ l'.g = g ∧ RDk w' base l' (onAll d ps) ∧ RMoved w w' l l' := by
  subst hg
  obtain ⟨r, h1, h2⟩ := h
  obtain ⟨h3, h4⟩ := h2.ons ps
  rw [← h4]
  refine (ron_any w base l r h1 hbase A' m c' ps hr hap).mono ?_
  rintro e w' ⟨l', k1, k2, k3⟩
  exact ⟨l', k1, k3.g, ⟨_, k2, h3⟩, k3⟩
end
/-- Both disks, side by side, that go with one d. -/
structure Two (w : World) (base : Nat) (l : DL) (L : RL) (d : DS) : Prop where
  p : DiskAt w base l d
  r : RDk w base L d
  x : ∀ x, l.fp x → ¬ L.fp x
section
variable {w w' : World} {base : Nat} {l l' : DL} {L L' : RL} {d d' : DS}
theorem Two.below (h : Two w base l L d) (hb : Below w.heap.size w w') : Two w' base l L d := ⟨h.p.below hb, h.r.below hb, h.x⟩
/-- The program's has moved. -/
theorem Two.left (h : Two w base l L d) (hm : Moved w w' l l') (hD : DiskAt w' base l' d') : DiskAt w' base l' d' ∧ RDk w' base L d ∧ ∀ x, l'.fp x → ¬ L.fp x :=
  ⟨hD, h.r.kept hm.chg (fun x hx hf => h.x x hf hx), fun x hx hf => by
    rcases hm.fp x hx with h1 | h1
    · exact h.x x h1 hf
    · have := (h.r.fp_lt hf).2
      omega⟩
/-- The document's has moved behind it. -/
theorem Two.right (h : DiskAt w base l d' ∧ RDk w base L d ∧ ∀ x, l.fp x → ¬ L.fp x) (hm : RMoved w w' L L') (hR : RDk w' base L' d') : Two w' base l L' d' :=
  ⟨h.1.kept hm.chg (fun x hx hf => h.2.2 x hx hf), hR, fun x hx hf => by
    rcases hm.fp x hf with h1 | h1
    · exact h.2.2 x hx h1
    · have := (h.1.fp_lt hx).2
      omega⟩
end
end Go.Proofs.Ytmjdfajdompkeaa
