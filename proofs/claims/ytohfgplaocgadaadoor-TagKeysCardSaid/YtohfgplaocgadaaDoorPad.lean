/- ratchetlaw02: padding. -/
import Derived.Test.YtohfgplaocgadaaDoorRsum
namespace Go.Proofs.YtohfgplaocgadaaDoor
open Go.RowKit Go.Rat
theorem ob_one (w : World) (e : TypeId) (x : UInt8) : OB e (w.alloc (.cells #[bv x] e)) w.heap.size (some ⟨w.heap.size, 0, none⟩) 1 1 [x] :=
  ⟨by simp [bvs], .inr ⟨w.heap.size, 1, #[bv x], rfl, Nat.le_refl _, _root_.Go.heap_alloc_new w _, Nat.le_refl _, by simp [maxLen], by simp, by simp [bvs]⟩⟩
set_option maxRecDepth 8000 in
set_option maxHeartbeats 4000000 in
theorem padding_any (w : World) (m : Nat) (hm : m < 1099511627776) :
    Calls Tryd.prog 16 #[.int .i64 (m : Int)] w fun e w' => ∃ A N c, e = .returned (.slice A N c) ∧ N ≤ c ∧ OB 5 w' w.heap.size A N c (padding m) ∧ Below w.heap.size w w' := by
  obtain ⟨PD, hPD⟩ : ∃ PD, padding m = PD := ⟨_, rfl⟩
  have hpd : 128 :: List.replicate (zs m) 0 ++ be8 ((m : Int) * 8) = PD := hPD ▸ rfl
  rw [hPD]
  have HPD := Lib.hid hpd
  clear hpd hPD
  go_enter Tryd.func16, Tryd.ntmps16
  have hO3 : OB 5 (w.alloc (.cells #[.int .u8 128] 5)) w.heap.size (some ⟨w.heap.size, 0, none⟩) 1 1 (128 :: List.replicate 0 0) := ob_one w 5 128
  have hb3 := below_alloc w (.cells #[.int .u8 128] 5)
  have hbs3 : w.heap.size ≤ (w.alloc (.cells #[.int .u8 128] 5)).heap.size := hb3.size
  go_wp2_with fail
  go_loopw [3] (fun v wr => ∃ A4 N4 c4 j, j ≤ zs m ∧ v = .slice A4 N4 c4 ∧ OB 5 wr w.heap.size A4 N4 c4 (128 :: List.replicate j 0) ∧ Below w.heap.size w wr) (fun v _ => (64 + zs m - lenV v))
  case atStart => exact ⟨_, 1, 1, 0, Nat.zero_le _, rfl, hO3, hb3⟩
  case round =>
    obtain ⟨A4, N4, c4, j, hj, rfl, hO4, hB4⟩ := hrel
    have hN4 := hO4.len
    rw [List.length_cons, List.length_replicate] at hN4
    have hzd : zs m = (119 - m % 64) % 64 := rfl
    have hbs : w.heap.size ≤ wr.heap.size := hB4.size
    have gw : IntKind.i64.wrap ((m : Int) + (N4 : Int)) = (m : Int) + (N4 : Int) := IntWalk.i64_in _ (by omega)
    by_cases hz : j = zs m
    · subst hz
      have h56 : ((((m : Int) + (N4 : Int)) % 64) != 56) = false := by rw [bne_eq_false_iff_eq]; omega
      obtain ⟨M, hM⟩ : ∃ M : Int, (m : Int) * 8 = M := ⟨_, rfl⟩
      have HM := Lib.hid hM
      go_wp2_with fail
      clear hM h56
      go_loopw [3, 5] (fun v i wq => ∃ A6 N6 c6, ∃ q : Nat, q ≤ 8 ∧ v = .slice A6 N6 c6 ∧ i = .int .i64 (7 - (q : Int)) ∧ OB 5 wq w.heap.size A6 N6 c6 (128 :: List.replicate (zs m) 0 ++ (be8 M).take q) ∧ Below w.heap.size w wq) (fun _ i _ => (intOf i + 1).toNat)
      case atStart => exact ⟨A4, N4, c4, 0, by omega, rfl, rfl, by simpa using hO4, hB4⟩
      case round =>
        obtain ⟨A6, N6, c6, q, hq, rfl, rfl, hO6, hB6⟩ := hrel
        have hbs6 : w.heap.size ≤ wr.heap.size := hB6.size
        have hN6 := hO6.len
        rw [List.length_append, List.length_cons, List.length_replicate, List.length_take] at hN6
        have h8 : (be8 M).length = 8 := rfl
        by_cases hq8 : q < 8
        · have hstep : ∀ x, (be8 M)[q]? = some x → 128 :: List.replicate (zs m) 0 ++ (be8 M).take q ++ [x] = 128 :: List.replicate (zs m) 0 ++ (be8 M).take (q + 1) := fun x hx => by
            rw [List.take_add_one, hx, List.append_assoc]
            rfl
          have HST := Lib.hid hstep
          clear hstep
          have hcase : q = 0 ∨ q = 1 ∨ q = 2 ∨ q = 3 ∨ q = 4 ∨ q = 5 ∨ q = 6 ∨ q = 7 := by omega
          rcases hcase with rfl | rfl | rfl | rfl | rfl | rfl | rfl | rfl
          all_goals (
            go_wp2_with (at_builtin; refine app_bytes rfl _ _ rfl w.heap.size _ _ _ _ rfl (hO6.alloc _) _ _ _ [ub (_ % 256)] rfl (RB.one_ _ _ (bv_ub (Int.emod_nonneg _ (by decide)) (Int.emod_lt_of_pos _ (by decide))).symm) (by omega) (by simp; omega) ?_; intro A7 N7 c7 w7 hc7 hc8 hO7 hG7)
            rw [HST.out _ (by rfl)] at hO7
            have hB7 := hG7.own (below_alloc2 hB6 (Nat.le_refl _) _) (Nat.le_refl _) (hO6.alloc _)
            exact ⟨⟨A7, N7, c7, _, by omega, rfl, congrArg (Value.int .i64) (by omega), hO7, hB7⟩, by simp only [intOf]; omega⟩)
        · obtain rfl : q = 8 := by omega
          rw [show (be8 M).take 8 = be8 M from rfl, ← HM.out, HPD.out] at hO6
          go_wp2_with fail
          go_ret
          exact ⟨A6, N6, c6, rfl, hO6.cap.1, hO6, hB6⟩
    · have h56 : ((((m : Int) + (N4 : Int)) % 64) != 56) = true := by rw [bne_iff_ne]; omega
      go_wp2_with (at_builtin; refine app_bytes rfl _ _ rfl w.heap.size _ _ _ _ rfl (hO4.alloc _) _ _ _ [0] rfl (RB.one_ _ _ rfl) (by omega) (by simp; omega) ?_; intro A5 N5 c5 w5 hc6 hc7 hO5 hG5)
      have hB5 := hG5.own (below_alloc2 hB4 (Nat.le_refl _) _) (Nat.le_refl _) (hO4.alloc _)
      have hN5 := hO5.len
      rw [List.length_append, List.length_cons, List.length_replicate] at hN5
      simp only [List.length_cons, List.length_nil] at hN5
      refine ⟨⟨A5, N5, c5, j + 1, by omega, rfl, ?_, hB5⟩, by simp only [lenV]; omega⟩
      rw [List.replicate_succ', ← List.cons_append]
      exact hO5
end Go.Proofs.YtohfgplaocgadaaDoor
