/- octet: of no cut (a nil receiver). -/
import Derived.Test.YtohfgplaocgadaaOctLaw
namespace Go.Proofs.Ytohfgplaocgadaa
open Go.RowKit Go.Rat
set_option maxHeartbeats 400000 in
theorem take_nil (w : World) (k : Int) : Calls Try.prog 35 #[.pointer none, .int .i64 k] w fun e w' => e = .returned (.slice none 0 0) ∧ w = w' := by
  go_enter Try.func35, Try.ntmps35
  go_wp2_with fail
  go_ret
  exact ⟨rfl, rfl⟩
set_option maxHeartbeats 400000 in
theorem sum_nil (w : World) (k : Int) : Calls Try.prog 36 #[.func (.func 35) #[.pointer none] #[], .int .i64 k] w fun e w' => e = .returned (.int .u64 0) ∧ w = w' := by
  go_enter Try.func36, Try.ntmps36
  go_wp2_with (go_at_call 35; refine (take_nil _ k).mono ?_; rintro e w' ⟨rfl, rfl⟩)
  go_loop [4, 11] (fun n i => i = .int .i64 0 ∧ n = .int .u64 0) (fun _ _ => 0)
  case atStart => exact ⟨rfl, rfl⟩
  case round =>
    obtain ⟨rfl, rfl⟩ := hrel
    go_wp2_with fail
    go_ret
    exact ⟨rfl, rfl⟩
set_option maxHeartbeats 400000 in
theorem octetNil_walk (w : World) (a0 : Int) (_hb : -9223372036854775808 ≤ a0 ∧ a0 ≤ 9223372036854775807) :
    Calls Try.prog 8 #[.int .i64 a0] w fun e w' => e = .returned (.bool true) ∧ Below w.heap.size w w' := by
  have hn := fun (w : World) (n c : Nat) => Lib.run_eql_slice_nil w 22 5 none n c 0 0 Try.underlying22
  go_enter Try.func8, Try.ntmps8
  go_wp2_with (first | (go_at_call 36; refine (sum_nil _ _).mono ?_; rintro e w' ⟨rfl, rfl⟩) | (go_at_call 9; refine (works_any _).mono ?_; rintro e w1 ⟨rfl, hb1⟩) | go_in)
  go_ret
  exact ⟨rfl, hb1⟩
end Go.Proofs.Ytohfgplaocgadaa
