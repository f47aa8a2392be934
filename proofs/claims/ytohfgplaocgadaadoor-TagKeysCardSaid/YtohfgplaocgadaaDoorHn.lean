/- sha: Start, New. -/
import Derived.Test.YtohfgplaocgadaaDoorHash
namespace Go.Proofs.YtohfgplaocgadaaDoor
open Go.RowKit Go.Rat
set_option maxHeartbeats 1200000 in
theorem start_any (w : World) : Calls Tryd.prog 33 #[] w fun e w' => e = .returned (.agg (u32s start).toArray) ∧ Below w.heap.size w w' := by
  obtain ⟨t, hT⟩ : ∃ t, (u32s start).toArray = t := ⟨_, rfl⟩
  have hts : t.size = 8 := by rw [← hT, u32s_size]; rfl
  have ht1 : t.all (·.oneCell') = true := by rw [← hT]; exact u32s_one _
  rw [hT]
  have HT := Lib.hid hT
  clear hT
  go_enter Tryd.func33, Tryd.ntmps33
  repeat (first
            | ((with_reducible refine wpl_build t ?_ ?_); (focus rw [← HT.out]; kernel_rfl); simp only [Act.put, List.setIfInBounds_toArray, List.set_cons_zero, List.set_cons_succ])
            | ((with_reducible refine wpl_store w.heap.size _ _ t i8x32 (Blk.new w _ _) ?_ hts ht1 ?_ ?_ ?_); (focus kernel_rfl); (focus rfl); (focus rfl))
            | go_values | go_skip | go_guarded | go_step | go_upon | go_back | (simp only [Int.not_lt] at *; go_simp))
  refine bodyPost_ret (results_cell_row rfl _ _ w.heap.size _ _ (0, 0) _ rfl ((Blk.new w _ _).setRow _) Tryd.underlying23 rfl (by rw [hts]; exact i8x32)) rfl ?_
  exact ⟨rfl, (below_alloc _ _).grown (grownBy_setRow _ _ _) (by simp) (fun q hq => by cases hq; exact Nat.le_refl _)⟩
set_option maxRecDepth 8000 in
set_option maxHeartbeats 1200000 in
theorem new_any (w : World) : Calls Tryd.prog 35 #[] w fun e w' => ∃ g, e = .returned (.pointer (some ⟨g, 0, none⟩)) ∧ w.heap.size ≤ g ∧ Blk w' g 65 (hashL h0 0).toArray ∧ Below w.heap.size w w' := by
  obtain ⟨s, hS⟩ : ∃ s, (u32s start).toArray = s := ⟨_, rfl⟩
  obtain ⟨t, hT⟩ : ∃ t, (hashL h0 0).toArray = t := ⟨_, rfl⟩
  rw [hT]
  have HT := Lib.hid hT
  have HS := Lib.hid hS
  clear hT hS
  go_enter Tryd.func35, Tryd.ntmps35
  repeat (first
            | ((with_reducible refine wpl_build t ?_ ?_); (focus rw [← HT.out, ← HS.out]; kernel_rfl); simp only [Act.put, List.setIfInBounds_toArray, List.set_cons_zero, List.set_cons_succ])
            | (go_at_call 33; refine (start_any _).mono ?_; rw [HS.out]; rintro e w2 ⟨rfl, hb2⟩; simp only [])
            | go_values | go_skip | go_guarded | go_step | go_upon | go_back)
  go_ret
  exact ⟨w2.heap.size, rfl, hb2.size, Blk.new _ _ _, below_alloc2 hb2 (Nat.le_refl _) _⟩
end Go.Proofs.YtohfgplaocgadaaDoor
