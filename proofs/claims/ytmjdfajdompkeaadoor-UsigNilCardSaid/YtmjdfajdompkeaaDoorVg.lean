/- The law UsigNil, walked. -/
import Derived.Test.YtmjdfajdompkeaaDoorVf
namespace Go.Proofs.YtmjdfajdompkeaaDoor
open Go.RowKit Go.Rat
set_option maxRecDepth 20000 in
set_option maxHeartbeats 8000000 in
theorem usigNil_any (n : Nat) (hn64 : n = 64) (w : World) (tb : List Int) (htb : H.tblL = tb) (hT : H.Tab w tb) (i p : Int) (A : Option Addr) (m c : Nat) : Calls Tryd.prog 5 #[.int .i64 i, .int .i64 p, .slice A m c] w fun e w' => e = .returned (.bool true) ∧ Below w.heap.size w w' := by
  by_cases hbig : 4096 < m
  · have hbi : (4096 : Int) < (m : Int) := by omega
    go_enter Tryd.func5, Tryd.ntmps5
    go_wp2_with (go_at_call 9; refine (works7_any n hn64 w tb htb hT).mono ?_; rintro e w2 ⟨rfl, hb2⟩)
    go_ret
    exact ⟨rfl, hb2⟩
  · have hbi : ¬ (4096 : Int) < (m : Int) := by omega
    have hz32s : (bvs z32).toArray.size = 32 := by rw [bvs_size, z32_length]
    go_enter Tryd.func5, Tryd.ntmps5
    go_wp2_with fail
    refine (unew_nil w i p).mono ?_
    rintro e w1 ⟨rfl, rfl⟩
    simp only []
    go_wp2_with fail
    refine (unext_nil w A m c).mono ?_
    rintro e w2 ⟨rfl, hb2⟩
    simp only []
    repeat (first
      | ((with_reducible refine wpl_store_fresh (bvs z32).toArray i32 ?_ hz32s (bvs_all _) ?_ ?_ ?_); (focus kernel_rfl); (focus rfl); (focus rfl); intro w3 hS3 hl3 hb3; simp only [Act.put]; refine Hid.out ?_)
      | go_values | go_skip | go_guarded | go_step | go_upon | go_back)
    refine Lib.hid ?_
    have hb := below_next' hb2 hb3
    obtain ⟨g3, hg3⟩ : ∃ x, w2.heap.size = x := ⟨_, rfl⟩
    rw [hg3]
    clear hb2 hb3 hS3 hl3 hg3
    go_wp2_with fail
    refine (ulast_nil w3).mono ?_
    rintro e w4 ⟨rfl, hb4⟩
    simp only []
    repeat (first
      | ((with_reducible refine wpl_store_fresh (bvs z32).toArray i32 ?_ hz32s (bvs_all _) ?_ ?_ ?_); (focus kernel_rfl); (focus rfl); (focus rfl); intro w5 hS5 hl5 hb5; simp only [Act.put]; refine Hid.out ?_)
      | go_values | go_skip | go_guarded | go_step | go_upon | go_back)
    refine Lib.hid ?_
    have hb := below_next' hb (below_next' hb4 hb5)
    obtain ⟨g5, hg5⟩ : ∃ x, w4.heap.size = x := ⟨_, rfl⟩
    rw [hg5]
    clear hb4 hb5 hS5 hl5 hg5
    go_wp2_with (first
      | (go_at_call 14; refine (uformat_nil w5 p).mono ?_; rintro e w6 ⟨rfl, hb6⟩; have hb := below_next' hb hb6)
      | (go_at_call 9; refine (works7_any n hn64 w6 tb htb (H.Tab.below hT hb)).mono ?_; rintro e w7 ⟨rfl, hb7⟩; have hb := below_next' hb hb7))
    go_ret
    exact ⟨rfl, hb⟩
theorem usigNil_walk (W : World) (hT : H.Tab W H.tblL) (i : Int) (_ : -9223372036854775808 ≤ i ∧ i ≤ 9223372036854775807) (p : Int) (_ : -9223372036854775808 ≤ p ∧ p ≤ 9223372036854775807) (A : Option Addr) (m c : Nat) (xs : List UInt8) (_ : xs.length = m) (_ : RB W A m xs) (_ : m ≤ c) (_ : m ≤ 140737488351232) (_ : ∀ ad, A = some ad → ad.block < W.heap.size) :
    Calls Tryd.prog 5 #[.int .i64 i, .int .i64 p, .slice A m c] W fun e w' => e = .returned (.bool true) ∧ Below W.heap.size W w' :=
  usigNil_any 64 rfl W H.tblL rfl hT i p A m c
end Go.Proofs.YtmjdfajdompkeaaDoor
