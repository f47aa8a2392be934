/- The document's disk: the last write for a sector. -/
import Derived.Test.YtmjdfajdompkeaaRgb
namespace Go.Proofs.Ytmjdfajdompkeaa
open Go.RowKit Go.Rat
set_option maxRecDepth 20000 in
set_option maxHeartbeats 4000000 in
theorem rlast_any (w : World) (base c : Nat) (A : Option Addr) (l : List RW) (h : RWs w base A c l) (ok : ∀ x ∈ l, RWok x) (n : Nat) (hn : l.length = n) (a : Int) :
    Calls Try.prog 59 #[.slice A n c, .int .i64 a] w fun e w' => e = .returned (.tuple #[.agg (rwC (lastV l a)).toArray, .bool (lastL l a).isSome]) ∧ Below w.heap.size w w' := by
  have hcap := own_cap (show w.ownsRow base 114 130 (.slice A n c) n (rwsC l) from hn ▸ h)
  have hlen : n ≤ 9223372036854775807 := Nat.le_trans hcap.1 hcap.2
  have hZ := Blk.new w 114 (rwC zrw).toArray
  have hb1 := below_alloc w (.cells (rwC zrw).toArray 114)
  have hz1 : (rwC zrw).toArray.all (·.oneCell') = true := by
    rw [List.all_toArray, List.all_eq_true]
    exact rwC_one _
  have hzs : (rwC zrw).toArray.size = 130 := by
    have := rwC_length (x := zrw) zs_length
    simpa using this
  have hfz : l ≠ [] ∨ True := .inr trivial
  obtain ⟨z, hz⟩ : ∃ z : Array Value, (rwC zrw).toArray = z := ⟨_, rfl⟩
  have hzc : Try.zeroCells114 = z := by rw [← hz]; exact zr130
  rw [hz] at hZ hb1 hz1 hzs
  have HZ := Lib.hid hz
  clear hz hfz hcap
  have h1 : RWs (w.alloc (.cells z 114)) base A c l := World.ownsRow.alloc h _
  go_enter Try.func59, Try.ntmps59
  go_upto_region 1 with (fail)
  generalize w.alloc (.cells z 114) = w1 at *
  go_wp2_with fail
  go_loopw [6] (fun i wr => ∃ k : Nat, k ≤ n ∧ i = .int .i64 ((k : Int) - 1) ∧ wr = w1 ∧ ∀ x ∈ l.drop k, x.at_ ≠ a) (fun i _ => (intOf i + 1).toNat)
  case atStart => exact ⟨n, Nat.le_refl _, rfl, rfl, by rw [← hn, List.drop_length]; simp⟩
  case round =>
    obtain ⟨k, hk, rfl, rfl, hnone⟩ := hrel
    have HNONE := Lib.hid hnone
    clear hnone
    cases k with
    | zero =>
      have hfin : lastV l a = zrw ∧ (lastL l a).isSome = false := by
        have := lastL_none (l := l) (a := a) (by simpa using HNONE.out)
        rw [lastV, this]
        exact ⟨rfl, rfl⟩
      have HFIN := Lib.hid hfin
      clear hfin
      have e0 : ((0 : Nat) : Int) - 1 = -1 := rfl
      rw [e0]
      repeat (first
        | ((with_reducible refine wpl_store w.heap.size _ _ z r130 hZ hzs hzs hz1 ?_ ?_ ?_); (focus rfl); (focus rfl))
        | go_values | go_skip | go_guarded | go_step | go_upon | go_back)
      refine bodyPost_ret (results_cell_tmp rfl _ _ w.heap.size _ _ (0, 0) _ _ rfl rfl (hZ.setRow _) Try.underlying114 rfl (by rw [hzs]; exact r130)) rfl ?_
      exact ⟨by rw [HFIN.out.1, HFIN.out.2, HZ.out]; rfl, hb1.grown (grownBy_setRow _ _ _) hb1.size (fun p hp => by cases hp; exact Nat.le_refl _)⟩
    | succ k =>
      have hkl : k < l.length := by omega
      obtain ⟨g, L, rfl, hgB, hgL, hLl⟩ := h1.at_ ok hkl
      have hx := ok _ (List.getElem_mem hkl)
      have hlast : ∀ (hh : l[k].at_ = a), lastL l a = some l[k] := fun hh => lastL_at hkl HNONE.out hh
      have hdrop : l.drop k = l[k] :: l.drop (k + 1) := List.drop_eq_getElem_cons hkl
      generalize l[k] = x at *
      have hcl := rwC_length hx.2
      have hcs : (rwC x).toArray.size = 130 := by simpa using hcl
      have hc1 : (rwC x).toArray.all (·.oneCell') = true := by
        rw [List.all_toArray, List.all_eq_true]
        exact rwC_one _
      have hc0 := hgB.cell (k * 130)
      have h0 : L[k * 130]? = some (.int .i64 x.at_) := by
        have := congrArg (fun q => q[0]?) hgL
        simp only [List.getElem?_take, List.getElem?_drop, Nat.add_zero] at this
        simpa [rwC] using this
      rw [List.getElem?_toArray, h0] at hc0
      have e1 : ((k + 1 : Nat) : Int) - 1 = (k : Int) := by omega
      rw [e1]
      have g1 : (0 : Int) ≤ (k : Int) := by omega
      have g2 : (k : Int) < (n : Int) := by omega
      have HGL := Lib.hid hgL
      have HDROP := Lib.hid hdrop
      have HLAST := Lib.hid hlast
      clear hgL hdrop hlast h0 h1
      by_cases hxa : x.at_ = a
      · have hfin : lastV l a = x ∧ (lastL l a).isSome = true := by
          rw [lastV, HLAST.out hxa]
          exact ⟨rfl, rfl⟩
        have HFIN := Lib.hid hfin
        clear hfin
        rw [hxa] at hc0
        obtain ⟨cx, hcx⟩ : ∃ cx, rwC x = cx := ⟨_, rfl⟩
        rw [hcx] at HGL hcl hcs hc1
        have HCX := Lib.hid hcx
        clear hcx
        repeat (first
          | ((with_reducible refine wpl_load_mid g (k * 130) L cx Try.underlying114 rfl r130 hgB HGL.out hcl ?_ ?_); (focus rfl); simp only [Act.put, List.setIfInBounds_toArray, List.set_cons_zero, List.set_cons_succ])
          | ((with_reducible refine wpl_store w.heap.size _ _ cx.toArray r130 hZ hzs hcs hc1 ?_ ?_ ?_); (focus rfl); (focus rfl))
          | go_values | go_skip | go_guarded | go_step | go_upon | go_back)
        refine bodyPost_ret (results_cell_tmp rfl _ _ w.heap.size _ _ (0, 0) _ _ rfl rfl (hZ.setRow _) Try.underlying114 rfl (by rw [hcs]; exact r130)) rfl ?_
        exact ⟨by rw [HFIN.out.1, HFIN.out.2, HCX.out]; rfl, hb1.grown (grownBy_setRow _ _ _) hb1.size (fun p hp => by cases hp; exact Nat.le_refl _)⟩
      · go_wp2_with fail
        exact ⟨⟨k, by omega, by first | rfl | trivial, by first | rfl | trivial, fun y hy => by
          rw [HDROP.out] at hy
          rcases List.mem_cons.1 hy with rfl | hy
          · exact hxa
          · exact HNONE.out y hy⟩, by simp only [intOf]; omega⟩
end Go.Proofs.Ytmjdfajdompkeaa
