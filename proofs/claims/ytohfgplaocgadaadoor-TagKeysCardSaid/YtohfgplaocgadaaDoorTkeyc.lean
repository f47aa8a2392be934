/- The law TagKeys: a row of slices. -/
import Derived.Test.YtohfgplaocgadaaDoorTkeys
namespace Go.Proofs.YtohfgplaocgadaaDoor
open Go.RowKit Go.Rat
theorem OB.below {w w' : World} {base n c : Nat} {e : TypeId} {A : Option Addr} {xs : List UInt8} (h : OB e w base A n c xs) (hb : Below w.heap.size w w') : OB e w' base A n c xs := OB.grown h (grownBy_of_below hb none) (.inr rfl)
theorem slinfo : (Tryd.prog.info? 28).map (fun i => (i.zero, i.size, i.bytes)) = some (some (.slice none 0 0), 1, 24) := by kernel_rfl
/-- A row of slices of the call's own, each to be read, none in the row's block. -/
structure Row (w : World) (base : Nat) (A : Option Addr) (N c : Nat) (ps : List Pt) : Prop where
  own : w.ownsRow base 28 1 (.slice A N c) N (ps.map Pt.v)
  len : ps.length = N
  ok : ∀ p ∈ ps, PtOk w p
  apart : ∀ p ∈ ps, Apart A p.A
  lt : ∀ p ∈ ps, ∀ g, p.A.map (·.block) = some g → g < w.heap.size
theorem Row.nil (w : World) (base : Nat) : Row w base none 0 0 [] := ⟨World.ownsRow_nil _ _ _ _, rfl, by simp, by simp, by simp⟩
theorem Row.below {w w' : World} {base N c : Nat} {A : Option Addr} {ps : List Pt} (h : Row w base A N c ps) (hb : Below w.heap.size w w') : Row w' base A N c ps :=
  ⟨World.ownsRow.kept h.own (grownBy_of_below hb none) (by
    by_cases hA : (Value.slice A N c).ownBlock = none
    · exact .inl hA
    · exact .inr hA), h.len, fun p hp => (h.ok p hp).below hb, h.apart, fun p hp g hg => Nat.lt_of_lt_of_le (h.lt p hp g hg) hb.size⟩
theorem app_slice {w : World} {ops : Array Oper} {rest : List Oper} {o : Oper} {a : Act} {Q : Exit → Act → World → Prop} (hgd : o.guard = none) (s x : Operand)
    (ho : o.op = .call { callee := .builtin .append, args := #[s, x], argTypes := #[43, 43] })
    (base : Nat) (A : Option Addr) (n c : Nat) (ps : List Pt) (hs : a.eval s = .slice A n c) (hR : Row w base A n c ps)
    (p : Pt) (hp : PtOk w p) (hpn : ∀ g, p.A.map (·.block) = some g → g < w.heap.size) (hap : Apart A p.A) (T : TypeId)
    (w0 : World) (hw : w0 = w.alloc (.cells #[p.v] T))
    (hx : a.eval x = .slice (some ⟨w.heap.size, 0, none⟩) 1 1) (hn : n < 1000) (hbase : base ≤ w.heap.size)
    (h : ∀ A2 c2 w2, Row w2 base A2 (n + 1) c2 (ps ++ [p]) → Below base w0 w2 → wpList Tryd.prog ops Q rest (a.put o.dst (.slice A2 (n + 1) c2)) w2) :
    wpList Tryd.prog ops Q (o :: rest) a w0 := by
  obtain ⟨i0, hi, hz0, hz1, hz2⟩ := info_parts slinfo
  subst hw
  have hR0 := hR.below (below_alloc w (.cells #[p.v] T))
  have hread : Reads (w.alloc (.cells #[p.v] T)) (w.heap.size + 1) 1 (some ⟨w.heap.size, 0, none⟩) 1 [p.v] :=
    ⟨rfl, fun _ => ⟨_, rfl, Nat.lt_succ_self _, cell_one_new w p.v T⟩⟩
  refine wpl_append hgd s x 43 ho base 28 i0 _ 1 24 Tryd.underlying43 hi hz0 hz1 hz2 rfl (by omega) A n c (ps.map Pt.v) hs hR0.own _ 1 1 [p.v] hx ⟨_, hread⟩ (by intro u hu; simp at hu; subst hu; rfl) (by simp only [maxLen]; omega) (by omega) (by simp; omega) ?_
  intro A2 N2 c2 w2 _ _ hO hG
  have hN2 : N2 = n + 1 := by
    have h1 := hO.1
    rw [List.length_append, List.length_map, hR.len] at h1
    simp at h1
    omega
  subst hN2
  have hb : Below base (w.alloc (.cells #[p.v] T)) w2 := (Below.refl _ _).grown hG.grown (by simp; omega) (fun k hk => by
    have := World.ownsRow.lt hR.own k (by cases A <;> simp_all [Value.ownBlock])
    exact this.1)
  refine h A2 c2 w2 ⟨?_, by rw [List.length_append, hR.len]; rfl, ?_, ?_, ?_⟩ hb
  · rw [List.map_append]
    exact hO
  · intro q hq
    rcases List.mem_append.1 hq with h1 | h1
    · exact PtOk.grew (hR0.ok q h1) (hR.apart q h1) hG
    · obtain rfl : q = p := by simpa using h1
      exact PtOk.grew (hp.below (below_alloc _ _)) hap hG
  · intro q hq
    rcases List.mem_append.1 hq with h1 | h1
    · exact (hR.apart q h1).grew hG (fun g hg => by have := hR.lt q h1 g hg; simp; omega)
    · obtain rfl : q = p := by simpa using h1
      exact hap.grew hG (fun g hg => by have := hpn g hg; simp; omega)
  · intro q hq g hg
    have hsz := hG.grown.size
    simp at hsz
    rcases List.mem_append.1 hq with h1 | h1
    · have := hR.lt q h1 g hg
      omega
    · obtain rfl : q = p := by simpa using h1
      have := hpn g hg
      omega
/-- The row that a Row has in memory: the k-th slice. -/
theorem Row.at_ {w : World} {base N c : Nat} {A : Option Addr} {ps : List Pt} (h : Row w base A N c ps) {k : Nat} (hk : k < ps.length) : ∃ g, A = some ⟨g, 0, none⟩ ∧ w.cell? ⟨g, k, none⟩ = some (.slice ps[k].A ps[k].n ps[k].c) := by
  have hl := h.len
  obtain ⟨g, cap, hv, _, _⟩ := World.ownsRow.form h.own (by omega)
  have hA : A = some ⟨g, 0, none⟩ := by injection hv
  refine ⟨g, hA, ?_⟩
  have := World.ownsRow.cells (g := g) h.own (by rw [hA]; rfl) k (.slice ps[k].A ps[k].n ps[k].c) (by rw [List.getElem?_map, List.getElem?_eq_getElem hk]; rfl)
  rw [show (⟨g, 0, none⟩ : Addr).add k = ⟨g, k, none⟩ by unfold Addr.add; split <;> simp_all] at this
  exact this
theorem Row.apart_new {w : World} {base N c : Nat} {A B : Option Addr} {ps : List Pt} (h : Row w base A N c ps) (hB : ∀ g, B.map (·.block) = some g → w.heap.size ≤ g) : Apart A B := by
  intro g hg hb
  have h1 := World.ownsRow.lt h.own g (by cases A <;> simp_all [Value.ownBlock])
  have h2 := hB g hb
  omega
theorem allK_rep (n : Nat) (tb : List Int) (j : Nat) (hj : j < 11) : (allK n tb).take j ++ [repK n tb ((j : Int) + 1)] = (allK n tb).take (j + 1) := by
  rw [List.take_add_one, allK, List.getElem?_append_left (by simpa using hj), List.getElem?_map, List.getElem?_range hj]
  rfl
theorem allK_cli (n : Nat) (tb : List Int) (j : Nat) (hj : j < 8) : (allK n tb).take (11 + j) ++ [cliK n tb ((j : Int) + 1)] = (allK n tb).take (11 + j + 1) := by
  rw [List.take_add_one, allK, List.getElem?_append_right (by simp), List.length_map, List.length_range, Nat.add_sub_cancel_left, List.getElem?_map, List.getElem?_range hj]
  rfl
end Go.Proofs.YtohfgplaocgadaaDoor
