/- sha: the turns. -/
import Derived.Test.YtohfgplaocgadaaDoorByt
import Derived.Test.YtohfgplaocgadaaDoorRegion
namespace Go.Proofs.YtohfgplaocgadaaDoor
open Go.RowKit Go.Rat
/-- A turn to the right, as the document's code has it. -/
def rotF (x : Int) (k : Nat) : Int := bits .or .u32 (x / 2 ^ k) (x * 2 ^ (32 - k) % 4294967296)
theorem or_comm32 (a b : Int) : bits .or .u32 a b = bits .or .u32 b a := by simp only [bits, BitVec.or_comm]
theorem and31 : ∀ k : Fin 32, 0 < k.val → bits .and .u64 (IntKind.u64.wrap (-(k.val : Int))) 31 = 32 - (k.val : Int) := by decide +kernel
set_option maxHeartbeats 400000 in
theorem rl_any (w : World) (x : Int) (k : Nat) (hk : k < 32) (hk0 : 0 < k) : Calls Tryd.prog 46 #[.int .u32 x, .int .i64 (-(k : Int))] w fun e w' => e = .returned (.int .u32 (rotF x k)) ∧ w = w' := by
  have hq := and31 ⟨k, hk⟩ hk0
  dsimp only at hq
  have h1 : (0 : Int) ≤ 32 - (k : Int) := by omega
  have h2 : (32 : Int) - (32 - (k : Int)) = (k : Int) := by omega
  have h3 : (32 - (k : Int)).toNat = 32 - k := by omega
  obtain ⟨t, hT⟩ : ∃ t, rotF x k = t := ⟨_, rfl⟩
  rw [hT]
  have HT := Lib.hid hT
  clear hT
  go_enter Tryd.func46, Tryd.ntmps46
  go_wp2_with fail
  go_ret
  exact ⟨by rw [← HT.out]; unfold rotF; rw [or_comm32]; rfl, rfl⟩
set_option maxHeartbeats 400000 in
theorem turn_any (w : World) (x : Int) (k : Nat) (hk : k < 32) (hk0 : 0 < k) : Calls Tryd.prog 29 #[.int .u32 x, .int .i64 (k : Int)] w fun e w' => e = .returned (.int .u32 (rotF x k)) ∧ w = w' := by
  obtain ⟨t, hT⟩ : ∃ t, rotF x k = t := ⟨_, rfl⟩
  rw [hT]
  have HT := Lib.hid hT
  clear hT
  go_enter Tryd.func29, Tryd.ntmps29
  go_wp2_with (go_at_call 46; refine (rl_any _ x k hk hk0).mono ?_; rw [HT.out]; rintro e w1 ⟨rfl, rfl⟩)
  go_ret
  exact ⟨rfl, rfl⟩
set_option maxHeartbeats 400000 in
theorem rot_any (w : World) (x : Int) (k : Nat) (hk : k < 32) (hk0 : 0 < k) : Calls Tryd.prog 30 #[.int .u32 x, .int .u64 (k : Int)] w fun e w' => e = .returned (.int .u32 (rotF x k)) ∧ w = w' := by
  obtain ⟨t, hT⟩ : ∃ t, rotF x k = t := ⟨_, rfl⟩
  rw [hT]
  have HT := Lib.hid hT
  clear hT
  go_enter Tryd.func30, Tryd.ntmps30
  go_wp2_with fail
  go_ret
  exact ⟨by rw [← HT.out]; rfl, rfl⟩
end Go.Proofs.YtohfgplaocgadaaDoor
