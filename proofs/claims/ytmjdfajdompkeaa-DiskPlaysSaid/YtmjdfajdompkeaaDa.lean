/- disk: New, ready, Off, burns, Fuse, Power, Loose. -/
import Derived.Test.YtmjdfajdompkeaaDk
namespace Go.Proofs.Ytmjdfajdompkeaa
open Go.RowKit Go.Rat
def ds0 : DS := ⟨fun _ => zsec, fun _ => zsec, [], false, -1⟩
theorem ds0_ok : DOk ds0 := ⟨fun _ => zs_length, fun _ => zs_length, by simp [ds0], by simp [ds0]⟩
def Dp (l : DL) : Value := .pointer (some ⟨l.g, 0, none⟩)
set_option maxHeartbeats 400000 in
theorem dnew_any (w : World) : Calls Try.prog 20 #[] w fun e w' => ∃ l, e = .returned (.pointer (some ⟨l.g, 0, none⟩)) ∧ DiskAt w' w.heap.size l ds0 ∧ Below w.heap.size w w' := by
  have hmm := @run_makeMap Try.prog
  go_enter Try.func20, Try.ntmps20
  go_wp2_with fail
  go_ret
  refine ⟨⟨w.heap.size + 1 + 1, w.heap.size, w.heap.size + 1, none, 0⟩, rfl, ?_, ((below_alloc w _).alloc (by simp) _).alloc (by simp; omega) _⟩
  have h1 := MapV.new (secV zsec) w
  have h2 : MapV (secV zsec) ((w.alloc (.map #[] 0)).alloc (.map #[] 0)) (w.heap.size + 1) (fun _ => secV zsec) := by simpa using MapV.new (secV zsec) (w.alloc (.map #[] 0))
  have hs2 : ((w.alloc (.map #[] 0)).alloc (.map #[] 0)).heap.size = w.heap.size + 1 + 1 := by simp
  have h3 := Blk.new ((w.alloc (.map #[] 0)).alloc (.map #[] 0)) 107 #[.map (some w.heap.size), .map (some (w.heap.size + 1)), .slice none 0 0, .bool false, .int .i64 (-1)]
  rw [hs2] at h3
  refine ⟨h3, (h1.grown (World.grownBy_alloc _ _ none) (by simp)).grown (World.grownBy_alloc _ _ none) (by simp), h2.grown (World.grownBy_alloc _ _ none) (by simp), World.ownsRow_nil _ _ _ _, ?_, ?_, ?_, by simp, by simp, by simp, ?_, ?_, ?_, ds0_ok⟩
  all_goals simp only []
  all_goals omega
def readyE (off : Bool) (a : Int) : Int := if off = true then 8 else if 0 ≤ a ∧ a < 32768 then 0 else 1
theorem readyE_off (a : Int) : readyE true a = 8 := rfl
theorem readyE_ok {a : Int} (h : 0 ≤ a ∧ a < 32768) : readyE false a = 0 := by rw [readyE, if_neg (by decide), if_pos h]
theorem readyE_bad {a : Int} (h : ¬ (0 ≤ a ∧ a < 32768)) : readyE false a = 1 := by rw [readyE, if_neg (by decide), if_neg h]
set_option maxHeartbeats 400000 in
theorem dready_any (w : World) (base : Nat) (l : DL) (d : DS) (h : DiskAt w base l d) (at_ : Int) :
    Calls Try.prog 57 #[.pointer (some ⟨l.g, 0, none⟩), .int .i64 at_] w fun e w' => e = .returned (.int .i64 (readyE d.off at_)) ∧ w = w' := by
  have c3 := h.blk.cell 3
  simp only [List.getElem?_toArray, List.getElem?_cons_zero, List.getElem?_cons_succ] at c3
  cases hoff : d.off
  · rw [hoff] at c3
    by_cases h1 : at_ < 0
    · rw [readyE_bad (by omega)]
      go_enter Try.func57, Try.ntmps57
      go_wp2_with fail
      go_ret
      exact ⟨rfl, rfl⟩
    · by_cases h2 : at_ < 32768
      · rw [readyE_ok (by omega)]
        have h3 : ¬ 32768 ≤ at_ := by omega
        go_enter Try.func57, Try.ntmps57
        go_wp2_with fail
        go_ret
        exact ⟨rfl, rfl⟩
      · rw [readyE_bad (by omega)]
        have h3 : 32768 ≤ at_ := by omega
        go_enter Try.func57, Try.ntmps57
        go_wp2_with fail
        go_ret
        exact ⟨rfl, rfl⟩
  · rw [hoff] at c3
    rw [readyE_off]
    go_enter Try.func57, Try.ntmps57
    go_wp2_with fail
    go_ret
    exact ⟨rfl, rfl⟩
/-- What the power's going leaves. -/
def offD (d : DS) : DS := { d with off := true, fuse := -1 }
def burnD (d : DS) : DS := if d.fuse = 0 then offD d else if 0 < d.fuse then { d with fuse := d.fuse - 1 } else d
def burnB (d : DS) : Bool := decide (d.fuse = 0)
def fuseD (d : DS) (n : Int) : DS := { d with fuse := max n (-1) }
/-- A disk whose block alone has turned, in the power and the fuse. -/
theorem DiskAt.turn {w w' : World} {base : Nat} {l : DL} {d : DS} (h : DiskAt w base l d) (off : Bool) (fuse : Int) (hf : -1 ≤ fuse ∧ fuse ≤ 9223372036854775807) (hg : w.grownBy w' (some l.g))
    (hB : Blk w' l.g 107 #[.map (some l.gs), .map (some l.gn), .slice l.A d.loose.length l.c, .bool off, .int .i64 fuse]) : DiskAt w' base l { d with off := off, fuse := fuse } :=
  ⟨hB, h.sure.grown hg (by intro e; injection e with e; exact h.ne1 e.symm), h.now.grown hg (by intro e; injection e with e; exact h.ne2 e.symm),
    World.ownsRow.kept h.row hg (by
      by_cases hA : (Value.slice l.A d.loose.length l.c).ownBlock = none
      · exact .inl hA
      · refine .inr ?_
        have := h.rg
        cases hl : l.A <;> simp_all [Value.ownBlock]), h.ne1, h.ne2, h.ne3, h.rg, h.rs, h.rn, h.bg, h.bs, h.bn, ⟨h.ok.sure, h.ok.now, h.ok.loose, hf⟩⟩
theorem setCell_grown (w : World) (g k : Nat) (v : Value) : w.grownBy (w.setCell ⟨g, k, none⟩ v) (some g) := grownBy_set w g k v
set_option maxHeartbeats 400000 in
theorem doff_any (w : World) (base : Nat) (l : DL) (d : DS) (h : DiskAt w base l d) :
    Calls Try.prog 24 #[.pointer (some ⟨l.g, 0, none⟩)] w fun e w' => e = .returned (.tuple #[]) ∧ DiskAt w' base l (offD d) ∧ w.grownBy w' (some l.g) := by
  have f0 := h.blk.frozen 3
  have f1 := h.blk.frozen 4
  have c3 := h.blk.cell 3
  have c4 := h.blk.cell 4
  simp only [List.getElem?_toArray, List.getElem?_cons_zero, List.getElem?_cons_succ] at c3 c4
  have hB := (h.blk.set_ 3 (.bool true)).set_ 4 (.int .i64 (-1))
  simp only [List.setIfInBounds_toArray, List.set_cons_zero, List.set_cons_succ] at hB
  have hg := (grownBy_set w l.g 3 (.bool true)).trans (grownBy_set (w.setCell ⟨l.g, 3, none⟩ (.bool true)) l.g 4 (.int .i64 (-1)))
  have hD := h.turn true (-1) (by omega) hg hB
  clear h hB
  go_enter Try.func24, Try.ntmps24
  go_wp2_with fail
  go_end0
  exact ⟨rfl, hD, hg⟩
set_option maxHeartbeats 400000 in
theorem dburns_any (w : World) (base : Nat) (l : DL) (d : DS) (h : DiskAt w base l d) :
    Calls Try.prog 58 #[.pointer (some ⟨l.g, 0, none⟩)] w fun e w' => e = .returned (.bool (burnB d)) ∧ DiskAt w' base l (burnD d) ∧ w.grownBy w' (some l.g) := by
  have hf := h.ok.fuse
  have c4 := h.blk.cell 4
  have f1 := h.blk.frozen 4
  simp only [List.getElem?_toArray, List.getElem?_cons_zero, List.getElem?_cons_succ] at c4
  by_cases h0 : d.fuse = 0
  · rw [burnB, burnD, if_pos h0, decide_eq_true h0]
    rw [h0] at c4
    have H0 := Lib.hid h0
    clear h0
    go_enter Try.func58, Try.ntmps58
    go_wp2_with (go_at_call 24; refine (doff_any w base l d h).mono ?_; rintro e w2 ⟨rfl, hD, hg⟩)
    go_ret
    exact ⟨rfl, hD, hg⟩
  · rw [burnB, burnD, if_neg h0, decide_eq_false h0]
    have h0' : (d.fuse == 0) = false := by simpa using h0
    by_cases h1 : 0 < d.fuse
    · rw [if_pos h1]
      have hB := h.blk.set_ 4 (.int .i64 (d.fuse - 1))
      simp only [List.setIfInBounds_toArray, List.set_cons_zero, List.set_cons_succ] at hB
      have hg := grownBy_set w l.g 4 (.int .i64 (d.fuse - 1))
      have hD := h.turn d.off (d.fuse - 1) (by omega) hg hB
      clear hB h h0
      go_enter Try.func58, Try.ntmps58
      go_wp2_with fail
      go_ret
      exact ⟨rfl, hD, hg⟩
    · rw [if_neg h1]
      go_enter Try.func58, Try.ntmps58
      go_wp2_with fail
      go_ret
      exact ⟨rfl, h, World.grownBy.refl _ _⟩
set_option maxHeartbeats 400000 in
theorem dfuse_any (w : World) (base : Nat) (l : DL) (d : DS) (h : DiskAt w base l d) (n : Int) (hn : n ≤ 9223372036854775807) :
    Calls Try.prog 33 #[.pointer (some ⟨l.g, 0, none⟩), .int .i64 n] w fun e w' => e = .returned (.tuple #[]) ∧ DiskAt w' base l (fuseD d n) ∧ w.grownBy w' (some l.g) := by
  have c4 := h.blk.cell 4
  have f1 := h.blk.frozen 4
  simp only [List.getElem?_toArray, List.getElem?_cons_zero, List.getElem?_cons_succ] at c4
  have hB := h.blk.set_ 4 (.int .i64 (max n (-1)))
  simp only [List.setIfInBounds_toArray, List.set_cons_zero, List.set_cons_succ] at hB
  have hg := grownBy_set w l.g 4 (.int .i64 (max n (-1)))
  have hD := h.turn d.off (max n (-1)) (by omega) hg hB
  clear hB h
  go_enter Try.func33, Try.ntmps33
  go_wp2_with fail
  · have e : max n (-1) = -1 := by omega
    rw [e] at hD hg
    go_end0
    exact ⟨rfl, by rw [fuseD, e]; exact hD, hg⟩
  · have e : max n (-1) = n := by omega
    rw [e] at hD hg
    go_end0
    exact ⟨rfl, by rw [fuseD, e]; exact hD, hg⟩
set_option maxHeartbeats 400000 in
theorem dpower_any (w : World) (base : Nat) (l : DL) (d : DS) (h : DiskAt w base l d) :
    Calls Try.prog 36 #[.pointer (some ⟨l.g, 0, none⟩)] w fun e w' => e = .returned (.bool (!d.off)) ∧ w = w' := by
  have c3 := h.blk.cell 3
  simp only [List.getElem?_toArray, List.getElem?_cons_zero, List.getElem?_cons_succ] at c3
  go_enter Try.func36, Try.ntmps36
  go_wp2_with fail
  go_ret
  exact ⟨rfl, rfl⟩
set_option maxHeartbeats 400000 in
theorem dloose_any (w : World) (base : Nat) (l : DL) (d : DS) (h : DiskAt w base l d) :
    Calls Try.prog 27 #[.pointer (some ⟨l.g, 0, none⟩)] w fun e w' => e = .returned (.int .i64 (d.loose.length : Int)) ∧ w = w' := by
  have c2 := h.blk.cell 2
  simp only [List.getElem?_toArray, List.getElem?_cons_zero, List.getElem?_cons_succ] at c2
  go_enter Try.func27, Try.ntmps27
  go_wp2_with fail
  go_ret
  exact ⟨rfl, rfl⟩
end Go.Proofs.Ytmjdfajdompkeaa
