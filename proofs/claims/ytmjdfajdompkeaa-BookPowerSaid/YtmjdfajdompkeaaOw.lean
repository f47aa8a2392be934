/- octet.Word, the document's Word, slices.Clone, in a seat that has them. -/
import Derived.Test.YtmjdfajdompkeaaByt
namespace Go.Proofs.Ytmjdfajdompkeaa
open Go.RowKit Go.Rat
set_option maxHeartbeats 400000 in
theorem clone_any (w : World) (A : Option Addr) (n c : Nat) (xs : List UInt8) (hr : RB w A n xs) (hn : n ≤ 140737488355328) :
    Calls Try.prog 66 #[.slice A n c] w fun e w' => ∃ A' c', e = .returned (.slice A' n c') ∧ OB 5 w' w.heap.size A' n c' xs ∧ Below w.heap.size w w' := by
  rcases A with _ | ad
  · obtain rfl : n = 0 := hr.nil0
    obtain rfl : xs = [] := List.eq_nil_of_length_eq_zero hr.len
    have hnil := fun (w : World) (n c : Nat) => Lib.run_eql_slice_nil w 22 5 none n c 0 0 Try.underlying22
    go_enter Try.func66, Try.ntmps66
    go_wp2_with fail
    go_ret
    exact ⟨none, 0, rfl, OB.nil_ _ _ _, Below.refl _ _⟩
  · have hnil := fun (w : World) (n c : Nat) => Lib.run_eql_slice_nil w 22 5 (some ad) n c 0 0 Try.underlying22
    go_enter Try.func66, Try.ntmps66
    go_wp2_with (at_builtin; refine app_bytes rfl _ _ rfl w.heap.size _ _ _ [] rfl (OB.empty _ _) _ _ _ xs rfl (hr.below (below_alloc _ _)) (by omega) (by simp) ?_; intro A2 N2 c2 w2 hc2 hc3 hO hG)
    go_ret
    obtain rfl : N2 = n := by have := hO.len; have := hr.len; simp at *; omega
    exact ⟨A2, c2, rfl, hO, hG.below (below_alloc _ _) (by simp) (by simp)⟩

theorem take_first {xs : List UInt8} {zs ys : List Value} {n : Nat} (hl : n ≤ zs.length) (h : zs.take (n * 1) = bvs xs) : (zs ++ ys).take (n * 1) = bvs xs := by
  rw [List.take_append_of_le_length (by omega), h]
set_option maxHeartbeats 400000 in
theorem grow_any (w : World) (base : Nat) (A : Option Addr) (n c : Nat) (xs : List UInt8) (k : Int) (hO : OB 5 w base A n c xs) (hb : base ≤ w.heap.size) (h0 : 0 ≤ k) (h1 : k ≤ 8) (hn : n ≤ 140737488000000) :
    Calls Try.prog 106 #[.slice A n c, .int .i64 k] w fun e w' => ∃ A' c', e = .returned (.slice A' n c') ∧ OB 5 w' base A' n c' xs ∧ Below w.heap.size w w' := by
  have hnc := hO.cap.1
  have hc := hO.cap.2
  by_cases hk : k ≤ (c : Int) - n
  · go_enter Try.func106, Try.ntmps106
    go_wp2_with fail
    go_ret
    exact ⟨A, c, rfl, hO, Below.refl _ _⟩
  · obtain ⟨zs, hz, hzt⟩ := own_full hO
    have hzl := hz.1
    go_enter Try.func106, Try.ntmps106
    go_wp2_with (at_builtin; refine app_zeros rfl _ _ rfl base _ _ zs rfl hz _ rfl (by omega) (by omega) hb ?_; intro A2 N2 c2 w2 hc2 hc3 hO2 hG; have hN2 : n ≤ N2 := (by have h1 := hO2.1; simp at h1; omega))
    go_ret
    refine ⟨A2, c2, rfl, ?_, hG.below (Below.refl _ _) (Nat.le_refl _) (by simp)⟩
    have := own_shorter hO2 (k := n) (by omega)
    rwa [take_first (by omega) hzt] at this

/-- A number by its bytes, the highest one first. -/
def be (size x : Nat) : List UInt8 := (List.range size).map fun j => UInt8.ofNat (x / 2 ^ (8 * (size - 1 - j)))
theorem be_length (size x : Nat) : (be size x).length = size := by simp [be]
theorem be_snoc (size x k : Nat) (h : k < size) : (be size x).take (k + 1) = (be size x).take k ++ [UInt8.ofNat (x / 2 ^ (8 * (size - 1 - k)))] := by
  rw [List.take_succ_eq_append_getElem (by rw [be_length]; exact h)]
  simp [be]
theorem bv_be (x k : Nat) : Value.int .u8 ((x : Int) / 2 ^ k % 256) = bv (UInt8.ofNat (x / 2 ^ k)) := by
  unfold bv
  congr 1

set_option maxHeartbeats 400000 in
theorem put64_any (w : World) (A : Option Addr) (n c : Nat) (xs : List UInt8) (x : Nat) (hr : RB w A n xs) (hn : n ≤ 140737487000000) (_hx : x < 2 ^ 64) :
    Calls Try.prog 94 #[.slice A n c, .int .u64 x, .int .i64 8] w fun e w' => ∃ A' N' c', e = .returned (.slice A' N' c') ∧ OB 5 w' w.heap.size A' N' c' (xs ++ be 8 x) ∧ Below w.heap.size w w' := by
  have hxl := hr.len
  go_enter Try.func94, Try.ntmps94
  go_wp2_with (first | (go_at_call 66; refine (clone_any _ A n c xs hr (by omega)).mono ?_; rintro e w1 ⟨A1, c1, rfl, hO1, hb1⟩) | (go_at_call 106; refine (grow_any w1 w.heap.size A1 n c1 xs 8 hO1 hb1.size (by omega) (by omega) (by omega)).mono ?_; rintro e w2 ⟨A2, c2, rfl, hO2, hb2⟩))
  go_loopw [7, 8] (fun v i wr => ∃ (k : Nat) (A3 : Option Addr) (N3 c3 : Nat), k ≤ 8 ∧ i = .int .i64 (8 - 1 - (k : Int)) ∧ v = .slice A3 N3 c3 ∧ OB 5 wr w.heap.size A3 N3 c3 (xs ++ (be 8 x).take k) ∧ Below w.heap.size w wr) (fun _ i _ => (intOf i + 1).toNat)
  case atStart => exact ⟨0, A2, n, c2, by omega, rfl, rfl, by simpa using hO2, hb1.trans (hb2.mono hb1.size)⟩
  case round =>
    obtain ⟨k, A3, N3, c3, hk, rfl, rfl, hO3, hb3⟩ := hrel
    clear hO1 hb1 hO2 hb2
    have hN3 := hO3.len
    go_wp2_with (at_builtin; refine app_bytes rfl _ _ rfl w.heap.size _ _ _ (xs ++ (be 8 x).take k) rfl (hO3.alloc _) _ _ _ [UInt8.ofNat (x / 2 ^ (8 * (7 - k)))] rfl (RB.one_ _ _ (bv_be _ _)) (by simp [be_length] at hN3; omega) (by simp; exact Nat.le_succ_of_le hb3.size) ?_; intro A4 N4 c4 w4 hc4 hc4' hO4 hG4)
    · go_roundw
      case rel => exact ⟨k + 1, A4, N4, c4, by omega, by go_num, rfl, by rw [be_snoc 8 x k (by omega), ← List.append_assoc]; exact hO4, hG4.own (below_alloc2 hb3 (Nat.le_refl _) _) (Nat.le_refl _) (hO3.alloc _)⟩
      case measure => simp [intOf]; omega
    · go_ret
      exact ⟨A3, N3, c3, rfl, by rwa [List.take_of_length_le (by rw [be_length]; omega)] at hO3, hb3⟩

set_option maxHeartbeats 400000 in
theorem word_any (w : World) (A : Option Addr) (n c : Nat) (xs : List UInt8) (x : Nat) (hr : RB w A n xs) (hn : n ≤ 140737487000000) (hx : x < 2 ^ 64) :
    Calls Try.prog 73 #[.slice A n c, .int .u64 x] w fun e w' => ∃ A' N' c', e = .returned (.slice A' N' c') ∧ OB 5 w' w.heap.size A' N' c' (xs ++ be 8 x) ∧ Below w.heap.size w w' := by
  go_enter Try.func73, Try.ntmps73
  go_wp2_with (go_at_call 94; refine (put64_any _ A n c xs x hr hn hx).mono ?_; rintro e w1 ⟨A1, N1, c1, rfl, hO1, hb1⟩)
  go_ret
  exact ⟨A1, N1, c1, rfl, hO1, hb1⟩

set_option maxHeartbeats 400000 in
theorem rput_any (w : World) (A : Option Addr) (n c : Nat) (xs : List UInt8) (x sz : Nat) (hr : RB w A n xs) (hn : n ≤ 140737487000000) (_hx : x < 2 ^ 64) (hsz : sz ≤ 8) :
    Calls Try.prog 98 #[.slice A n c, .int .u64 x, .int .i64 sz] w fun e w' => ∃ A' N' c', e = .returned (.slice A' N' c') ∧ OB 5 w' w.heap.size A' N' c' (xs ++ be sz x) ∧ Below w.heap.size w w' := by
  have hxl := hr.len
  go_enter Try.func98, Try.ntmps98
  go_wp2_with (at_builtin; refine app_bytes rfl _ _ rfl w.heap.size _ _ _ [] rfl (OB.empty _ _) _ _ _ xs rfl (hr.below (below_alloc _ _)) (by omega) (by simp) ?_; intro A2 N2 c2 w2 hc2 hc3 hO2 hG2)
  go_loopw [7, 8] (fun v i wr => ∃ (k : Nat) (A3 : Option Addr) (N3 c3 : Nat), k ≤ sz ∧ i = .int .i64 (sz - 1 - (k : Int)) ∧ v = .slice A3 N3 c3 ∧ OB 5 wr w.heap.size A3 N3 c3 (xs ++ (be sz x).take k) ∧ Below w.heap.size w wr) (fun _ i _ => (intOf i + 1).toNat)
  case atStart => exact ⟨0, A2, N2, c2, by omega, by go_num, rfl, by simpa using hO2, hG2.below (below_alloc _ _) (by simp) (by simp)⟩
  case round =>
    obtain ⟨k, A3, N3, c3, hk, rfl, rfl, hO3, hb3⟩ := hrel
    clear hO2 hG2
    have hN3 := hO3.len
    by_cases hks : k < sz
    · have hc0 : (0 : Int) ≤ (sz : Int) - 1 - (k : Int) := by omega
      go_wp2_with (at_builtin; refine app_bytes rfl _ _ rfl w.heap.size _ _ _ (xs ++ (be sz x).take k) rfl (hO3.alloc _) _ _ _ [UInt8.ofNat (x / 2 ^ (8 * (sz - 1 - k)))] rfl (RB.one_ _ _ (bv_be _ _)) (by simp [be_length] at hN3; omega) (by simp; exact Nat.le_succ_of_le hb3.size) ?_; intro A4 N4 c4 w4 hc4 hc4' hO4 hG4)
      go_roundw
      case rel => exact ⟨k + 1, A4, N4, c4, by omega, by go_num, rfl, by rw [be_snoc sz x k (by omega), ← List.append_assoc]; exact hO4, hG4.own (below_alloc2 hb3 (Nat.le_refl _) _) (Nat.le_refl _) (hO3.alloc _)⟩
      case measure => simp [intOf]; omega
    · obtain rfl : k = sz := by omega
      go_wp2_with fail
      go_ret
      exact ⟨A3, N3, c3, rfl, by rwa [List.take_of_length_le (by rw [be_length]; omega)] at hO3, hb3⟩

set_option maxHeartbeats 400000 in
theorem rword_any (w : World) (A : Option Addr) (n c : Nat) (xs : List UInt8) (x : Nat) (hr : RB w A n xs) (hn : n ≤ 140737487000000) (hx : x < 2 ^ 64) :
    Calls Try.prog 78 #[.slice A n c, .int .u64 x] w fun e w' => ∃ A' N' c', e = .returned (.slice A' N' c') ∧ OB 5 w' w.heap.size A' N' c' (xs ++ be 8 x) ∧ Below w.heap.size w w' := by
  go_enter Try.func78, Try.ntmps78
  go_wp2_with (go_at_call 98; refine (rput_any _ A n c xs x 8 hr hn hx (by omega)).mono ?_; rintro e w1 ⟨A1, N1, c1, rfl, hO1, hb1⟩)
  go_ret
  exact ⟨A1, N1, c1, rfl, hO1, hb1⟩
end Go.Proofs.Ytmjdfajdompkeaa
