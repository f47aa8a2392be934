/- The law CellNil, walked. -/
import Derived.Test.YtmjdfajdompkeaaCl
namespace Go.Proofs.Ytmjdfajdompkeaa
open Go.RowKit Go.Rat
theorem copen_nil (w : World) (p : Int) : Calls Try.prog 38 #[.pointer none, .int .i64 p] w fun e w' => e = .returned (.tuple #[.pointer none, .int .i64 2]) ∧ Below w.heap.size w w' := by
  go_enter Try.func38, Try.ntmps38
  go_upto_region 2 with (fail)
  have hC := Blk.new w 121 #[.pointer none, .int .i64 p, .slice none 0 0, .int .i64 0, .bool false]
  have hb1 := below_alloc w (.cells #[.pointer none, .int .i64 p, .slice none 0 0, .int .i64 0, .bool false] 121)
  obtain ⟨w1, hw1⟩ : ∃ x, w.alloc (.cells #[.pointer none, .int .i64 p, .slice none 0 0, .int .i64 0, .bool false] 121) = x := ⟨_, rfl⟩
  rw [hw1] at hC hb1 ⊢
  have c0 := hC.cell 0
  have c1 := hC.cell 1
  simp only [List.getElem?_toArray, List.getElem?_cons_zero, List.getElem?_cons_succ] at c0 c1
  clear hw1 hC
  go_wp2_with fail
  refine (may_nil w1 p).mono ?_
  rintro e w2 ⟨rfl, hb2⟩
  simp only []
  clear c0 c1
  go_wp2_with fail
  go_ret2
  exact ⟨rfl, hb1.trans (hb2.mono hb1.size)⟩
theorem cformat_nil (w : World) (p : Int) : Calls Try.prog 41 #[.pointer none, .int .i64 p] w fun e w' => e = .returned (.int .i64 2) ∧ Below w.heap.size w w' := by
  go_enter Try.func41, Try.ntmps41
  go_upto_region 2 with (fail)
  have hC := Blk.new w 119 #[.pointer none, .int .i64 p]
  have hb1 := below_alloc w (.cells #[.pointer none, .int .i64 p] 119)
  obtain ⟨w1, hw1⟩ : ∃ x, w.alloc (.cells #[.pointer none, .int .i64 p] 119) = x := ⟨_, rfl⟩
  rw [hw1] at hC hb1 ⊢
  have c0 := hC.cell 0
  have c1 := hC.cell 1
  simp only [List.getElem?_toArray, List.getElem?_cons_zero, List.getElem?_cons_succ] at c0 c1
  clear hw1 hC
  go_wp2_with fail
  refine (may_nil w1 p).mono ?_
  rintro e w2 ⟨rfl, hb2⟩
  simp only []
  clear c0 c1
  go_wp2_with fail
  go_ret
  exact ⟨rfl, hb1.trans (hb2.mono hb1.size)⟩
set_option maxHeartbeats 1000000 in
theorem cellNil_walk (w : World) (p : Int) (_ : -9223372036854775808 ≤ p ∧ p ≤ 9223372036854775807) (A : Option Addr) (n c : Nat) (xs : List UInt8) (_ : xs.length = n) (_ : RB w A n xs) (_ : n ≤ c) (_ : n ≤ 140737488351232) :
    Calls Try.prog 8 #[.int .i64 p, .slice A n c] w fun e w' => e = .returned (.bool true) ∧ Below w.heap.size w w' := by
  by_cases hbig : 4096 < n
  · have hbi : (4096 : Int) < (n : Int) := by omega
    go_enter Try.func8, Try.ntmps8
    go_wp2_with (go_at_call 37; refine (works5_any w).mono ?_; rintro e w2 ⟨rfl, hb2⟩)
    go_ret
    exact ⟨rfl, hb2⟩
  · have hbi : ¬ (4096 : Int) < (n : Int) := by omega
    go_enter Try.func8, Try.ntmps8
    go_wp2_with fail
    refine (copen_nil w p).mono ?_
    rintro e w2 ⟨rfl, hb2⟩
    simp only []
    go_wp2_with fail
    refine (cput_nil w2 A n c).mono ?_
    rintro e w2' ⟨rfl, rfl⟩
    simp only []
    go_wp2_with fail
    refine (cget_nil w2).mono ?_
    rintro e w2' ⟨rfl, rfl⟩
    simp only []
    go_wp2_with fail
    refine (cformat_nil w2 p).mono ?_
    rintro e w3 ⟨rfl, hb3⟩
    simp only []
    have hb3 := hb2.trans (hb3.mono hb2.size)
    go_wp2_with fail
    refine (works5_any w3).mono ?_
    rintro e w4 ⟨rfl, hb4⟩
    simp only []
    have hb4 := hb3.trans (hb4.mono hb3.size)
    go_wp2_with fail
    go_ret
    exact ⟨rfl, hb4⟩
end Go.Proofs.Ytmjdfajdompkeaa
