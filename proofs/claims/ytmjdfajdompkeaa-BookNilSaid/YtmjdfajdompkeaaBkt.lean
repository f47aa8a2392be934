/- The law BookNil, walked. -/
import Derived.Test.YtmjdfajdompkeaaBk4
namespace Go.Proofs.Ytmjdfajdompkeaa
open Go.RowKit Go.Rat
set_option maxHeartbeats 1000000 in
theorem bookNil_walk (w : World) (p : Int) (_ : -9223372036854775808 ≤ p ∧ p ≤ 9223372036854775807) (size : Int) (_ : -9223372036854775808 ≤ size ∧ size ≤ 9223372036854775807) (A : Option Addr) (n c : Nat) (xs : List UInt8) (_ : xs.length = n) (_ : RB w A n xs) (_ : n ≤ c) (_ : n ≤ 140737488351232) :
    Calls Try.prog 12 #[.int .i64 p, .int .i64 size, .slice A n c] w fun e w' => e = .returned (.bool true) ∧ Below w.heap.size w w' := by
  by_cases hbig : 8192 < n
  · have hbi : (8192 : Int) < (n : Int) := by omega
    go_enter Try.func12, Try.ntmps12
    go_wp2_with (go_at_call 43; refine (works6_any w).mono ?_; rintro e w2 ⟨rfl, hb2⟩)
    go_ret
    exact ⟨rfl, hb2⟩
  · have hbi : ¬ (8192 : Int) < (n : Int) := by omega
    go_enter Try.func12, Try.ntmps12
    go_wp2_with fail
    refine (bopen_nil w p size).mono ?_
    rintro e w2 ⟨rfl, rfl⟩
    simp only []
    go_wp2_with fail
    refine (bappend_nil w A n c (by omega)).mono ?_
    rintro e w2 ⟨rfl, hb2⟩
    simp only []
    go_wp2_with fail
    refine (blen_nil w2).mono ?_
    rintro e w2' ⟨rfl, rfl⟩
    simp only []
    go_wp2_with fail
    refine (bformat_nil w2 p).mono ?_
    rintro e w3 ⟨rfl, hb3⟩
    have hb3 := below_next' hb2 hb3
    simp only []
    go_wp2_with fail
    refine (works6_any w3).mono ?_
    rintro e w4 ⟨rfl, hb4⟩
    simp only []
    go_wp2_with fail
    go_ret
    exact ⟨rfl, below_next' hb3 hb4⟩
end Go.Proofs.Ytmjdfajdompkeaa
