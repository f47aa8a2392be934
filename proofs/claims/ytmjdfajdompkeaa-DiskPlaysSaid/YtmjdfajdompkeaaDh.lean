/- disk: of no disk; the anchor. -/
import Derived.Test.YtmjdfajdompkeaaDg
namespace Go.Proofs.Ytmjdfajdompkeaa
open Go.RowKit Go.Rat
set_option maxHeartbeats 400000 in
theorem nready_any (w : World) (a : Int) : Calls Try.prog 57 #[.pointer none, .int .i64 a] w fun e w' => e = .returned (.int .i64 2) ∧ w = w' := by
  go_enter Try.func57, Try.ntmps57
  go_wp2_with fail
  go_ret
  exact ⟨rfl, rfl⟩
set_option maxHeartbeats 400000 in
theorem noff_any (w : World) : Calls Try.prog 24 #[.pointer none] w fun e w' => e = .returned (.tuple #[]) ∧ w = w' := by
  go_enter Try.func24, Try.ntmps24
  go_wp2_with fail
  go_end0
  exact ⟨rfl, rfl⟩
set_option maxHeartbeats 400000 in
theorem nfuse_any (w : World) (n : Int) : Calls Try.prog 33 #[.pointer none, .int .i64 n] w fun e w' => e = .returned (.tuple #[]) ∧ w = w' := by
  go_enter Try.func33, Try.ntmps33
  go_wp2_with fail
  go_end0
  exact ⟨rfl, rfl⟩
set_option maxHeartbeats 400000 in
theorem nsync_any (w : World) : Calls Try.prog 23 #[.pointer none] w fun e w' => e = .returned (.int .i64 2) ∧ w = w' := by
  go_enter Try.func23, Try.ntmps23
  go_wp2_with (go_at_call 57; refine (nready_any w 0).mono ?_; rintro e w2 ⟨rfl, rfl⟩; simp only [])
  go_ret
  exact ⟨rfl, rfl⟩
set_option maxHeartbeats 400000 in
theorem non_any (w : World) (A : Option Addr) (m c : Nat) : Calls Try.prog 25 #[.pointer none, .slice A m c] w fun e w' => e = .returned (.int .i64 2) ∧ w = w' := by
  go_enter Try.func25, Try.ntmps25
  go_wp2_with fail
  go_ret
  exact ⟨rfl, rfl⟩
set_option maxHeartbeats 400000 in
theorem npower_any (w : World) : Calls Try.prog 36 #[.pointer none] w fun e w' => e = .returned (.bool false) ∧ w = w' := by
  go_enter Try.func36, Try.ntmps36
  go_wp2_with fail
  go_ret
  exact ⟨rfl, rfl⟩
set_option maxHeartbeats 400000 in
theorem nloose_any (w : World) : Calls Try.prog 27 #[.pointer none] w fun e w' => e = .returned (.int .i64 0) ∧ w = w' := by
  go_enter Try.func27, Try.ntmps27
  go_wp2_with fail
  go_ret
  exact ⟨rfl, rfl⟩
set_option maxRecDepth 20000 in
set_option maxHeartbeats 1000000 in
theorem nwrite_any (w : World) (a : Int) (b : List UInt8) : Calls Try.prog 21 #[.pointer none, .int .i64 a, .agg (bvs b).toArray] w fun e w' => e = .returned (.int .i64 2) ∧ Below w.heap.size w w' := by
  have hb1 := below_alloc w (.cells (bvs b).toArray 28)
  go_enter Try.func21, Try.ntmps21
  go_wp2_with (go_at_call 57; refine (nready_any _ a).mono ?_; rintro e w2 ⟨rfl, rfl⟩; simp only [])
  go_ret
  exact ⟨rfl, hb1⟩
set_option maxRecDepth 20000 in
set_option maxHeartbeats 1000000 in
theorem nread_any (w : World) (a : Int) : Calls Try.prog 26 #[.pointer none, .int .i64 a] w fun e w' => e = .returned (.tuple #[.agg (bvs zs).toArray, .int .i64 2]) ∧ Below w.heap.size w w' := by
  have hZ := Blk.new w 28 (bvs zs).toArray
  have hb1 := below_alloc w (.cells (bvs zs).toArray 28)
  obtain ⟨z, hz⟩ : ∃ z : Array Value, (bvs zs).toArray = z := ⟨_, rfl⟩
  have hzc : Try.zeroCells28 = z := by rw [← hz]; exact zc128
  have hzs : z.size = 128 := by rw [← hz]; exact zsA_size
  have hz1 : z.all (·.oneCell') = true := by rw [← hz]; exact bvs_all _
  rw [hz] at hZ hb1 ⊢
  clear hz
  have hzi : (Try.prog.info? 28).map (·.size) = some z.size := by rw [hzs]; exact i128
  go_enter Try.func26, Try.ntmps26
  go_upto_region 1 with (fail)
  generalize w.alloc (.cells z 28) = w1 at *
  repeat (first
    | (go_at_call 57; refine (nready_any _ a).mono ?_; rintro e w2 ⟨rfl, rfl⟩; simp only [])
    | ((with_reducible refine wpl_load w.heap.size _ _ Try.underlying28 i128 hZ hzs ?_ ?_); (focus rfl); simp only [Act.put, List.setIfInBounds_toArray, List.set_cons_zero, List.set_cons_succ])
    | ((with_reducible refine wpl_store w.heap.size _ _ z i128 hZ hzs hzs hz1 ?_ ?_ ?_); (focus rfl); (focus rfl))
    | go_values | go_skip | go_guarded | go_step | go_upon | go_back)
  refine bodyPost_ret (results_cell_tmp rfl _ _ w.heap.size _ _ (0, 0) _ _ rfl rfl (hZ.setRow _) Try.underlying28 rfl hzi) rfl ?_
  exact ⟨rfl, hb1.grown (grownBy_setRow _ _ _) hb1.size (fun p hp => by cases hp; exact Nat.le_refl _)⟩
end Go.Proofs.Ytmjdfajdompkeaa
