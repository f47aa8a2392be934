/- The document's disk: New, Off, burns. -/
import Derived.Test.YtmjdfajdompkeaaRga
namespace Go.Proofs.Ytmjdfajdompkeaa
open Go.RowKit Go.Rat
def rs0 : RS := ⟨[], [], false, -1⟩
theorem rs0_ok : ROk rs0 := ⟨by simp [rs0], by simp [rs0], by simp [rs0], List.Pairwise.nil⟩
def offR (r : RS) : RS := { r with off := true, fuse := -1 }
set_option maxHeartbeats 400000 in
theorem rnew_any (w : World) : Calls Try.prog 29 #[] w fun e w' => ∃ l : RL, e = .returned (.pointer (some ⟨l.g, 0, none⟩)) ∧ RefAt w' w.heap.size l rs0 ∧ l.g = w.heap.size ∧ Below w.heap.size w w' := by
  go_enter Try.func29, Try.ntmps29
  go_wp2_with fail
  go_ret
  refine ⟨⟨w.heap.size, none, 0, none, 0⟩, rfl, ?_, rfl, below_alloc w _⟩
  exact ⟨Blk.new w 51 #[.slice none 0 0, .slice none 0 0, .bool false, .int .i64 (-1)], World.ownsRow_nil _ _ _ _, World.ownsRow_nil _ _ _ _, by simp, by simp, by simp, Nat.le_refl _, rs0_ok⟩
/-- The disk's block alone has turned, in the power and the fuse. -/
theorem RefAt.turn {w w' : World} {base : Nat} {l : RL} {r : RS} (h : RefAt w base l r) (off : Bool) (fuse : Int) (hf : -1 ≤ fuse ∧ fuse ≤ 9223372036854775807) (hg : w.grownBy w' (some l.g))
    (hB : Blk w' l.g 51 #[.slice l.A1 r.sure.length l.c1, .slice l.A2 r.soft.length l.c2, .bool off, .int .i64 fuse]) : RefAt w' base l { r with off := off, fuse := fuse } :=
  have hc := Chg.of_grown (F := fun x => x = l.g) hg rfl
  ⟨hB, hc.own h.row1 (fun x hx e => h.n1 (by rw [hx, e])), hc.own h.row2 (fun x hx e => h.n2 (by rw [hx, e])), h.n1, h.n2, h.n12, h.bg, ⟨h.ok.sure, h.ok.soft, hf, h.ok.nod⟩⟩
set_option maxHeartbeats 400000 in
theorem roff_any (w : World) (base : Nat) (l : RL) (r : RS) (h : RefAt w base l r) :
    Calls Try.prog 34 #[.pointer (some ⟨l.g, 0, none⟩)] w fun e w' => e = .returned (.tuple #[]) ∧ RefAt w' base l (offR r) ∧ w.grownBy w' (some l.g) := by
  have f0 := h.blk.frozen 2
  have f1 := h.blk.frozen 3
  have c3 := h.blk.cell 2
  have c4 := h.blk.cell 3
  simp only [List.getElem?_toArray, List.getElem?_cons_zero, List.getElem?_cons_succ] at c3 c4
  have hB := (h.blk.set_ 2 (.bool true)).set_ 3 (.int .i64 (-1))
  simp only [List.setIfInBounds_toArray, List.set_cons_zero, List.set_cons_succ] at hB
  have hg := (grownBy_set w l.g 2 (.bool true)).trans (grownBy_set (w.setCell ⟨l.g, 2, none⟩ (.bool true)) l.g 3 (.int .i64 (-1)))
  have hD := h.turn true (-1) (by omega) hg hB
  clear h hB
  go_enter Try.func34, Try.ntmps34
  go_wp2_with fail
  go_end0
  exact ⟨rfl, hD, hg⟩
set_option maxHeartbeats 400000 in
theorem rburns_any (w : World) (base : Nat) (l : RL) (r : RS) (h : RefAt w base l r) :
    Calls Try.prog 60 #[.pointer (some ⟨l.g, 0, none⟩)] w fun e w' => e = .returned (.bool (decide (r.fuse = 0))) ∧ RefAt w' base l (burnR r) ∧ w.grownBy w' (some l.g) := by
  have hf := h.ok.fuse
  have c4 := h.blk.cell 3
  have f1 := h.blk.frozen 3
  simp only [List.getElem?_toArray, List.getElem?_cons_zero, List.getElem?_cons_succ] at c4
  by_cases h0 : r.fuse = 0
  · rw [burnR, if_pos h0, decide_eq_true h0]
    rw [h0] at c4
    have H0 := Lib.hid h0
    clear h0
    go_enter Try.func60, Try.ntmps60
    go_wp2_with (go_at_call 34; refine (roff_any w base l r h).mono ?_; rintro e w2 ⟨rfl, hD, hg⟩)
    go_ret
    exact ⟨rfl, hD, hg⟩
  · rw [burnR, if_neg h0, decide_eq_false h0]
    have h0' : (r.fuse == 0) = false := by simpa using h0
    by_cases h1 : 0 < r.fuse
    · rw [if_pos h1]
      have hB := h.blk.set_ 3 (.int .i64 (r.fuse - 1))
      simp only [List.setIfInBounds_toArray, List.set_cons_zero, List.set_cons_succ] at hB
      have hg := grownBy_set w l.g 3 (.int .i64 (r.fuse - 1))
      have hD := h.turn r.off (r.fuse - 1) (by omega) hg hB
      clear hB h h0
      go_enter Try.func60, Try.ntmps60
      go_wp2_with fail
      go_ret
      exact ⟨rfl, hD, hg⟩
    · rw [if_neg h1]
      go_enter Try.func60, Try.ntmps60
      go_wp2_with fail
      go_ret
      exact ⟨rfl, h, World.grownBy.refl _ _⟩
end Go.Proofs.Ytmjdfajdompkeaa
