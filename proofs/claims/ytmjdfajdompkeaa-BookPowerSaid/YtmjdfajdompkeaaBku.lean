/- book: same, pages of the laws. -/
import Derived.Test.YtmjdfajdompkeaaBk4
namespace Go.Proofs.Ytmjdfajdompkeaa
open Go.RowKit Go.Rat
theorem lpages_any (w : World) (n : Nat) (hn : n ≤ 140737488355328) : Calls Try.prog 48 #[.int .i64 (n : Int)] w fun e w' => e = .returned (.int .i64 (pagesN n : Int)) ∧ w = w' := by
  have h : ((n : Int) + 2 + 107) / 108 = ((pagesN n : Nat) : Int) := by unfold pagesN; omega
  have H := Lib.hid h
  clear h
  go_enter Try.func48, Try.ntmps48
  go_wp2_with fail
  go_ret
  exact ⟨congrArg (fun i => Ending.returned (.int .i64 i)) (by have := H.out; omega), rfl⟩
theorem lt_of_cell {w : World} {a : Addr} {v : Value} (h : w.cell? a = some v) : a.block < w.heap.size := by
  rcases Nat.lt_or_ge a.block w.heap.size with hl | hl
  · exact hl
  · simp [World.cell?, Array.getElem?_eq_none hl] at h
theorem RowR.below {w w' : World} {A : Option Addr} {N : Nat} {ps : List Pt} (h : RowR w A N ps) (hb : Below w.heap.size w w') : RowR w' A N ps :=
  ⟨h.len, fun hN => by
    obtain ⟨ad, e, hc⟩ := h.cells hN
    exact ⟨ad, e, fun k p hp => (hb.cell (lt_of_cell (hc k p hp))).trans (hc k p hp)⟩, fun p hp => (h.ok p hp).below hb⟩
theorem RowR.at_ {w : World} {A : Option Addr} {N : Nat} {ps : List Pt} (h : RowR w A N ps) {k : Nat} (hk : k < N) : ∃ ad p, A = some ad ∧ ps[k]? = some p ∧ w.cell? (ad.add k) = some p.v ∧ PtOk w p := by
  obtain ⟨ad, rfl, hc⟩ := h.cells (by omega)
  have hl := h.len
  have hk' : k < ps.length := by omega
  have hg : ps[k]? = some ps[k] := List.getElem?_eq_getElem hk'
  exact ⟨ad, ps[k], rfl, hg, hc k _ hg, h.ok _ (List.getElem_mem hk')⟩
theorem bstr_eqb (xs ys : List UInt8) : ((bstr xs).toList == (bstr ys).toList) = decide (xs = ys) := by
  rw [ByteArray.toList_eq, ByteArray.toList_eq, data_bstr, data_bstr]
  by_cases h : xs = ys
  · subst h; simp
  · simp [h]
set_option maxRecDepth 20000 in
set_option maxHeartbeats 4000000 in
theorem same_any (w : World) (A : Option Addr) (N c : Nat) (ps : List Pt) (h : RowR w A N ps) (A' : Option Addr) (N' c' : Nat) (qs : List Pt) (h' : RowR w A' N' qs) (hNb : N ≤ 100000) (e : ps.map (·.xs) = qs.map (·.xs)) :
    Calls Try.prog 49 #[.slice A N c, .slice A' N' c'] w fun e w' => e = .returned (.bool true) ∧ Below w.heap.size w w' := by
  have hN : N = N' := by
    have h1 := congrArg List.length e
    rw [List.length_map, List.length_map, h.len, h'.len] at h1
    exact h1
  subst hN
  have HE := Lib.hid e
  clear e
  go_enter Try.func49, Try.ntmps49
  go_wp2_with fail
  go_loopw [5] (fun iv wr => ∃ k : Nat, k ≤ N ∧ iv = .int .i64 (k : Int) ∧ Below w.heap.size w wr) (fun iv _ => N - (intOf iv).toNat)
  case atStart => exact ⟨0, Nat.zero_le _, rfl, Below.refl _ _⟩
  case round =>
    obtain ⟨k, hk, rfl, hbr⟩ := hrel
    have h := h.below hbr
    have h' := h'.below hbr
    by_cases hkN : k < N
    · obtain ⟨ad, ⟨A1, n1, c1, x⟩, rfl, hp1, hq1, ho1⟩ := h.at_ hkN
      obtain ⟨ad', ⟨A2, n2, c2, y⟩, rfl, hp2, hq2, ho2⟩ := h'.at_ hkN
      have hxy : x = y := by
        have h1 := congrArg (fun l => l[k]?) HE.out
        simp only [List.getElem?_map, hp1, hp2, Option.map_some] at h1
        exact Option.some.inj h1
      subst hxy
      simp only [Pt.v] at hq1 hq2
      have g1 : (k : Int) < (N : Int) := by omega
      have g0 : (0 : Int) ≤ (k : Int) := by omega
      have g2 : (k : Int) ≤ 100000 := by omega
      go_wp2_with fail
      refine wp_region_plan [(0, true), (1, true), (2, true), (3, true), (4, true), (5, true), (6, true), (7, true), (8, true), (9, true), (10, true)] (fun z => z.cell? (ad.add k) = some (.slice A1 n1 c1) ∧ z.cell? (ad'.add k) = some (.slice A2 n2 c2) ∧ RB z A1 n1 x ∧ RB z A2 n2 x) (by kernel_rfl) (by kernel_rfl) (by kernel_rfl) (by kernel_rfl) (fun _ _ d _ _ h => by cases d <;> exact h) ⟨hq1, hq2, ho1.r, ho2.r⟩ ?_
      simp only [planOps, List.getElem?_toArray, List.getElem?_cons_zero, List.getElem?_cons_succ]
      iterate 4 (refine wpS_q ?_ (by rfl) ?_ ?_; rotate_left; (focus (intro z hz; (try dsimp only at hz); go_simp; rfl)); simp only [Act.put, List.setIfInBounds_toArray, List.set_cons_zero, List.set_cons_succ])
      refine wpS_q (.string (bstr x)) (by rfl) (fun z hz => by have hcv := conv_str hz.2.2.1 c1; go_simp) ?_
      simp only [Act.put, List.setIfInBounds_toArray, List.set_cons_zero, List.set_cons_succ]
      iterate 4 (refine wpS_q ?_ (by rfl) ?_ ?_; rotate_left; (focus (intro z hz; (try dsimp only at hz); go_simp; rfl)); simp only [Act.put, List.setIfInBounds_toArray, List.set_cons_zero, List.set_cons_succ])
      refine wpS_q (.string (bstr x)) (by rfl) (fun z hz => by have hcv := conv_str hz.2.2.2 c2; go_simp) ?_
      simp only [Act.put, List.setIfInBounds_toArray, List.set_cons_zero, List.set_cons_succ]
      have hne : ((bstr x).toList != (bstr x).toList) = false := by simp
      iterate 1 (refine wpS_q ?_ (by rfl) ?_ ?_; rotate_left; (focus (intro z hz; (try dsimp only at hz); go_simp; rfl)); simp only [Act.put, List.setIfInBounds_toArray, List.set_cons_zero, List.set_cons_succ])
      refine wpS_nil ?_
      go_wp2_with fail
      exact ⟨⟨k + 1, by omega, congrArg (Value.int .i64) (by omega), below_next' hbr drew_below⟩, by simp only [intOf]; omega⟩
    · have g1 : ¬ (k : Int) < (N : Int) := by omega
      go_wp2_with fail
      go_ret
      exact ⟨rfl, hbr⟩
end Go.Proofs.Ytmjdfajdompkeaa
