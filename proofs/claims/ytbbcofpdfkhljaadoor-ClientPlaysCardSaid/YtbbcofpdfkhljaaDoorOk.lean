/- ratchetlaw25.ClientPlays: what lies apart. -/
import Derived.Test.YtbbcofpdfkhljaaDoorOj
namespace Go.Proofs.YtbbcofpdfkhljaaDoor
open Go.RowKit Go.Rat
theorem blk_ne {w : World} {a b : Nat} {T1 T2 : TypeId} {c1 c2 : Array Value} (h1 : Blk w a T1 c1) (h2 : Blk w b T2 c2) (h : T1 ≠ T2) : a ≠ b := fun e => by
  subst e
  unfold Blk at h1 h2
  rw [h1] at h2
  injection h2 with h2
  injection h2 with _ h2
  exact h h2
theorem RcAt.grown {w w' : World} {B g b : Nat} {c : ClV} {zs : List (Int × ToldV)} {T : TypeId} {cs : Array Value} (h : RcAt w B g c zs) (hB : Blk w b T cs) (h1 : 48 ≠ T) (h2 : 3 ≠ T) (h3 : 52 ≠ T) (k : w.grownBy w' (some b)) : RcAt w' B g c zs := by
  obtain ⟨A1, A2, c1, c2, hX, hO1, hO2⟩ := h
  exact ⟨A1, A2, c1, c2, hX.grown k (fun e => blk_ne hX hB h1 (by injection e)), own_grown hO1 k (.inl (own_ne hO1 hB h2)), own_grown hO2 k (.inl (own_ne hO2 hB h3))⟩
theorem RcAt.ne {w : World} {B g b : Nat} {c : ClV} {zs : List (Int × ToldV)} {T : TypeId} {cs : Array Value} (h : RcAt w B g c zs) (hB : Blk w b T cs) (h1 : T ≠ 48) : b ≠ g := by
  obtain ⟨A1, A2, c1, c2, hX, _, _⟩ := h
  exact blk_ne hB hX h1
theorem RcAt.cells {w : World} {B g : Nat} {c : ClV} {zs : List (Int × ToldV)} (h : RcAt w B g c zs) : w.cell? ⟨g, 2, none⟩ = some (.int .u64 (c.tm : Int)) ∧ w.cell? ⟨g, 3, none⟩ = some (.bool c.pend) := by
  obtain ⟨A1, A2, c1, c2, hX, _, _⟩ := h
  exact ⟨(cl_cells hX).2.2.1, (cl_cells hX).2.2.2⟩
theorem RcAt.blk {w : World} {B g : Nat} {c : ClV} {zs : List (Int × ToldV)} (h : RcAt w B g c zs) : ∃ L : List Value, Blk w g 48 L.toArray ∧ (c.q.tag.length = 32 → (L.drop 4).take 40 = c.q.c) := by
  obtain ⟨A1, A2, c1, c2, hX, _, _⟩ := h
  exact ⟨_, hX, fun ht => clC_q _ _ _ _ ht _⟩
theorem Chg.keep {w w' : World} {B g b : Nat} {T : TypeId} {cs : Array Value} (h : Chg (RFp w B g) w w') (hB : Blk w b T cs) (hg : b ≠ g) (h1 : T ≠ 3) (h2 : T ≠ 52) : Blk w' b T cs := h.blk hB (RFp.blk hB hg h1 h2)
theorem Chg.belowB {w w' : World} {B g : Nat} (h : Chg (RFp w B g) w w') (hg : B ≤ g) (hw : B ≤ w.heap.size) : Below B w w' := h.below (fun x hx => by
  rcases hx with hx | hx
  · omega
  · exact hx.1) hw
theorem nOk_f {n id : Int} (h : nOk n id) : ∃ f : Nat, n = 2 * (f : Int) + 1 ∧ 1 ≤ f ∧ f ≤ 5 := ⟨((n - 1) / 2).toNat, by obtain ⟨⟨h1, h2, h3⟩, _⟩ := h; omega, by obtain ⟨⟨h1, h2, h3⟩, _⟩ := h; omega, by obtain ⟨⟨h1, h2, h3⟩, _⟩ := h; omega⟩
theorem askC_cpl {f : Nat} {c : ClV} {zs : List (Int × ToldV)} (h : Cpl f c zs) (n : Nat) (tb : List Int) (o : OpV) :
    (o.may ∧ c.pend = false ∧ (askC n tb c o).2.2 = 0 ∧ Cpl f (askC n tb c o).1 []) ∨ ((askC n tb c o).2.2 ≠ 0 ∧ (askC n tb c o).1 = c) := by
  unfold askC
  by_cases hm : o.may
  · cases hp : c.pend
    · rw [if_pos hm, if_neg (by simp)]
      have := cpl0 f c.id (c.tm + 1) true (askQ n tb c.id (c.tm + 1) o) (askQ_tag _ _ _ _ _)
      exact .inl ⟨hm, rfl, rfl, by rw [show c.n = 2 * (f : Int) + 1 from h.n_]; exact this⟩
    · rw [if_pos hm, if_pos rfl]
      exact .inr ⟨by show (3 : Int) ≠ 0; decide, rfl⟩
  · rw [if_neg hm]
    exact .inr ⟨by show (1 : Int) ≠ 0; decide, rfl⟩
theorem askC_q (n : Nat) (tb : List Int) (c : ClV) (o : OpV) : (askC n tb c o).2.1.tag.length = 32 := by
  unfold askC
  split
  · split
    · exact z32_length
    · exact askQ_tag _ _ _ _ _
  · exact z32_length
theorem askC_tm (n : Nat) (tb : List Int) (c : ClV) (o : OpV) : (askC n tb c o).1.tm ≤ c.tm + 1 ∧ (askC n tb c o).1.id = c.id := by
  unfold askC
  split
  · split
    · exact ⟨Nat.le_succ c.tm, rfl⟩
    · exact ⟨Nat.le_refl (c.tm + 1), rfl⟩
  · exact ⟨Nat.le_succ c.tm, rfl⟩
theorem hearC_tm (c : ClV) (j : Int) (t : ToldV) : (hearC c j t).1.tm = c.tm ∧ (hearC c j t).1.id = c.id := by
  unfold hearC
  split
  · split <;> exact ⟨rfl, rfl⟩
  · exact ⟨rfl, rfl⟩
end Go.Proofs.YtbbcofpdfkhljaaDoor
