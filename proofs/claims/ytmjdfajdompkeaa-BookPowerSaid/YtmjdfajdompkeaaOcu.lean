/- octet: a cut, Half, over Ow. -/
import Derived.Test.YtmjdfajdompkeaaNum
namespace Go.Proofs.Ytmjdfajdompkeaa
open Go.RowKit Go.Rat
/-- A cut at block g (of type T) has the bytes xs left; bad: it is spoilt; its bytes lie in block gb. -/
def CutAt (w : World) (g : Nat) (T : TypeId) (gb : Option Nat) (xs : List UInt8) (bad : Bool) : Prop :=
  ∃ A n c, Blk w g T #[.slice A n c, .bool bad] ∧ RB w A n xs ∧ n ≤ c ∧ c ≤ 9223372036854775807 ∧ A.map (·.block) = gb ∧ gb ≠ some g
theorem CutAt.grown {w w' : World} {g : Nat} {T : TypeId} {gb : Option Nat} {xs : List UInt8} {bad : Bool} {row : Option Nat} (h : CutAt w g T gb xs bad) (hg : w.grownBy w' row) (h1 : some g ≠ row) (h2 : gb ≠ row ∨ row = none) : CutAt w' g T gb xs bad := by
  obtain ⟨A, n, c, hB, hR, h3, h4, h5, h6⟩ := h
  exact ⟨A, n, c, hB.grown hg h1, hR.grown hg (by rw [h5]; exact h2), h3, h4, h5, h6⟩

/-- What is taken: the bytes, those that are left, whether it is spoilt. -/
def takeF (xs : List UInt8) (bad : Bool) (k : Int) : List UInt8 × List UInt8 × Bool :=
  if bad = true ∨ k < 0 ∨ (xs.length : Int) < k then ([], xs, true) else (xs.take k.toNat, xs.drop k.toNat, false)
theorem takeF_bad {xs : List UInt8} {bad : Bool} {k : Int} (h : bad = true ∨ k < 0 ∨ (xs.length : Int) < k) : takeF xs bad k = ([], xs, true) := if_pos h
theorem takeF_ok {xs : List UInt8} {k : Nat} (h : k ≤ xs.length) : takeF xs false (k : Int) = (xs.take k, xs.drop k, false) := by
  unfold takeF
  rw [if_neg (by simp; omega)]
  rfl

set_option maxHeartbeats 1000000 in
theorem take_any (w : World) (g : Nat) (gb : Option Nat) (xs : List UInt8) (bad : Bool) (k : Int) (hC : CutAt w g 168 gb xs bad) :
    Calls Try.prog 101 #[.pointer (some ⟨g, 0, none⟩), .int .i64 k] w fun e w' => ∃ A' N' c', e = .returned (.slice A' N' c') ∧ RB w' A' N' (takeF xs bad k).1 ∧ N' ≤ c' ∧ c' ≤ 9223372036854775807 ∧ (A' = none ∨ A'.map (·.block) = gb) ∧
      CutAt w' g 168 gb (takeF xs bad k).2.1 (takeF xs bad k).2.2 ∧ w.grownBy w' (some g) := by
  obtain ⟨A, n, c, hB, hR, hnc, hc, hgb, hne⟩ := hC
  have h0 := hB.cell 0
  have h1 := hB.cell 1
  have f0 := hB.frozen 0
  have f1 := hB.frozen 1
  simp at h0 h1
  have hl := hR.len
  by_cases hbad : bad = true ∨ k < 0 ∨ (xs.length : Int) < k
  · rw [takeF_bad hbad]
    have fin : ∀ b, b = true → ∃ A' N' c', Ending.returned (.slice none 0 0) = .returned (.slice A' N' c') ∧ RB (w.setCell ⟨g, 1, none⟩ (.bool b)) A' N' [] ∧ N' ≤ c' ∧ c' ≤ 9223372036854775807 ∧ (A' = none ∨ A'.map (·.block) = gb) ∧
        CutAt (w.setCell ⟨g, 1, none⟩ (.bool b)) g 168 gb xs true ∧ w.grownBy (w.setCell ⟨g, 1, none⟩ (.bool b)) (some g) := by
      rintro b rfl
      exact ⟨none, 0, 0, rfl, RB.nil_ _ _, Nat.le_refl _, by omega, .inl rfl, ⟨A, n, c, hB.set_ 1 _, hR.grown (grownBy_set w g 1 _) (.inl (by rw [hgb]; exact hne)), hnc, hc, hgb, hne⟩, grownBy_set w g 1 _⟩
    have FIN := Lib.hid fin
    clear fin hB hR hne hgb
    cases bad with
    | true =>
      go_enter Try.func101, Try.ntmps101
      go_wp2_with fail
      go_ret
      exact FIN.out _ rfl
    | false =>
      simp at hbad
      by_cases hk : k < 0
      · have hk' : decide (k < 0) = true := by simpa using hk
        go_enter Try.func101, Try.ntmps101
        go_wp2_with fail
        go_ret
        exact FIN.out _ rfl
      · have hk' : decide (k < 0) = false := by simpa using hk
        have hk2 : decide ((n : Int) < k) = true := by simp; omega
        go_enter Try.func101, Try.ntmps101
        go_wp2_with fail
        go_ret
        exact FIN.out _ rfl
  · obtain rfl : bad = false := by cases bad <;> simp_all
    obtain ⟨m, rfl⟩ := Int.eq_ofNat_of_zero_le (show 0 ≤ k by omega)
    have hm : m ≤ xs.length := by omega
    rw [takeF_ok hm]
    have hk' : decide ((m : Int) < 0) = false := by simp
    have hk2 : decide ((n : Int) < (m : Int)) = false := by simp; omega
    have hmn : m ≤ n := by omega
    have fin : ∀ A2 n2 c2, A2 = (if c = m then A else A.map (·.add m)) → n2 = n - m → c2 = c - m → ∃ A' N' c', Ending.returned (.slice A m c) = .returned (.slice A' N' c') ∧ RB ((w.setCell ⟨g, 1, none⟩ (.bool false)).setCell ⟨g, 0, none⟩ (.slice A2 n2 c2)) A' N' (xs.take m) ∧ N' ≤ c' ∧ c' ≤ 9223372036854775807 ∧ (A' = none ∨ A'.map (·.block) = gb) ∧
        CutAt ((w.setCell ⟨g, 1, none⟩ (.bool false)).setCell ⟨g, 0, none⟩ (.slice A2 n2 c2)) g 168 gb (xs.drop m) false ∧ w.grownBy ((w.setCell ⟨g, 1, none⟩ (.bool false)).setCell ⟨g, 0, none⟩ (.slice A2 n2 c2)) (some g) := by
      rintro A2 n2 c2 rfl rfl rfl
      have hg := (grownBy_set w g 1 (.bool false)).trans (grownBy_set (w.setCell ⟨g, 1, none⟩ (.bool false)) g 0 (.slice (if c = m then A else A.map (·.add m)) (n - m) (c - m)))
      have hRA := hR.grown hg (.inl (by rw [hgb]; exact hne))
      have hcut := Reads.cut hRA (k := m) (cap := c) hmn hnc
      have htk := Reads.take_ hRA (k := m) hmn
      simp only [Nat.mul_one] at hcut htk
      refine ⟨A, m, c, rfl, ?_, by omega, hc, .inr hgb, ⟨_, n - m, c - m, (hB.set_ 1 _).set_ 0 _, ?_, by omega, by omega, ?_, hne⟩, hg⟩
      · simpa [RB, bvs, List.map_take] using htk
      · simpa [RB, bvs, List.map_drop] using hcut
      · split
        · exact hgb
        · rw [← hgb]; cases A <;> simp [block_of_add]
    have FIN := Lib.hid fin
    clear fin hB hR hne hgb hbad
    by_cases hcm : c = m
    · subst hcm
      go_enter Try.func101, Try.ntmps101
      go_wp2_with fail
      go_ret
      exact FIN.out _ _ _ (by simp) (by omega) (by omega)
    · go_enter Try.func101, Try.ntmps101
      go_wp2_with fail
      go_ret
      exact FIN.out _ _ _ (by simp [hcm]) rfl rfl
theorem takeF_len (xs : List UInt8) (bad : Bool) (k : Int) : ((takeF xs bad k).1.length : Int) ≤ max k 0 := by
  unfold takeF
  split
  · simp; omega
  · simp; omega
theorem ret_int {k : IntKind} {a b : Int} (h : a = b) : Ending.returned (.int k a) = .returned (.int k b) := by rw [h]
theorem or_snoc64 (a : Nat) (b : UInt8) (ha : a < 72057594037927936) : bits .or .u64 (IntKind.u64.wrap ((a : Int) * 256)) (IntKind.u64.wrap (b.toNat : Int)) = ((a * 256 + b.toNat : Nat) : Int) := by
  have hb := b.toNat_lt
  rw [IntKind.wrap_u64, IntKind.wrap_u64, Int.emod_eq_of_lt (by omega) (by omega), Int.emod_eq_of_lt (by omega) (by omega)]
  rw [show (a : Int) * 256 = ((a * 256 : Nat) : Int) from by omega, u64_or_nat _ _ (by omega) (by omega)]
  have := Nat.shiftLeft_add_eq_or_of_lt (i := 8) (b := b.toNat) (by omega) a
  rw [Nat.shiftLeft_eq] at this
  rw [← this]
theorem num_next {ys : List UInt8} {j : Nat} (hj : j < ys.length) (h8 : j < 8) :
    Value.int .u64 (bits .or .u64 (IntKind.u64.wrap ((num (ys.take j) : Int) * 256)) (IntKind.u64.wrap ((ys.getD j 0).toNat : Int))) = .int .u64 (num (ys.take (j + 1)) : Int) := by
  have h : num (ys.take j) < 72057594037927936 := Nat.lt_of_lt_of_le (num_lt _) (Nat.le_trans (Nat.pow_le_pow_right (by omega) (show (ys.take j).length ≤ 7 by simp; omega)) (by decide))
  rw [or_snoc64 _ _ h, List.take_succ_eq_append_getElem hj, num_snoc]
  simp [List.getD_eq_getElem?_getD, List.getElem?_eq_getElem hj]

set_option maxHeartbeats 1000000 in
theorem sum_any (w : World) (g : Nat) (gb : Option Nat) (xs : List UInt8) (bad : Bool) (k : Int) (hC : CutAt w g 168 gb xs bad) (hk : 0 ≤ k) (hk8 : k ≤ 8) :
    Calls Try.prog 102 #[.func (.func 101) #[.pointer (some ⟨g, 0, none⟩)] #[], .int .i64 k] w fun e w' => e = .returned (.int .u64 (num (takeF xs bad k).1)) ∧
      CutAt w' g 168 gb (takeF xs bad k).2.1 (takeF xs bad k).2.2 ∧ w.grownBy w' (some g) := by
  have hyl := takeF_len xs bad k
  obtain ⟨ys, st, hF⟩ : ∃ ys st, takeF xs bad k = (ys, st) := ⟨_, _, rfl⟩
  rw [hF] at hyl ⊢
  have HF := Lib.hid hF
  clear hF
  go_enter Try.func102, Try.ntmps102
  go_wp2_with (go_at_call 101; refine (take_any w g gb xs bad k hC).mono ?_; rw [HF.out]; rintro e w1 ⟨A1, N1, c1, rfl, hR1, hn1, hc1, hgb1, hC1, hg1⟩)
  have hl := hR1.len
  go_loop [4, 6, 11] (fun n x i => ∃ j : Nat, j ≤ N1 ∧ i = .int .i64 j ∧ n = .int .u64 (num (ys.take j))) (fun _ _ i => N1 - (intOf i).toNat)
  case atStart => exact ⟨0, Nat.zero_le _, rfl, rfl⟩
  case round =>
    obtain ⟨j, hj, rfl, rfl⟩ := hrel
    by_cases hlt : j < N1
    · obtain ⟨ad, rfl, hb, hc⟩ := hR1.at_ hlt
      have HN := Lib.hid (num_next (ys := ys) (j := j) (by omega) (by omega))
      go_wp2_with fail
      exact ⟨⟨j + 1, by omega, by go_num, by rw [← HN.out]; simp [List.getD_eq_getElem?_getD, List.getElem?_eq_getElem (show j < ys.length by omega)]⟩, by simp [intOf]; omega⟩
    · obtain rfl : j = N1 := by omega
      go_wp2_with fail
      go_ret
      exact ⟨ret_int (by rw [List.take_of_length_le (by omega)]), hC1, hg1⟩

theorem takeF_len' (xs : List UInt8) (bad : Bool) (k : Nat) : (takeF xs bad k).1.length ≤ k := by have := takeF_len xs bad k; omega
set_option maxHeartbeats 400000 in
theorem cword_any (w : World) (g : Nat) (gb : Option Nat) (xs : List UInt8) (bad : Bool) (hC : CutAt w g 168 gb xs bad) :
    Calls Try.prog 100 #[.pointer (some ⟨g, 0, none⟩)] w fun e w' => e = .returned (.int .u64 (num (takeF xs bad 8).1)) ∧
      CutAt w' g 168 gb (takeF xs bad 8).2.1 (takeF xs bad 8).2.2 ∧ w.grownBy w' (some g) := by
  go_enter Try.func100, Try.ntmps100
  go_wp2_with (go_at_call 102; refine (sum_any w g gb xs bad 8 hC (by omega) (by omega)).mono ?_; rintro e w1 ⟨rfl, hC1, hg1⟩)
  go_ret
  exact ⟨rfl, hC1, hg1⟩
set_option maxHeartbeats 400000 in
theorem chalf_any (w : World) (g : Nat) (gb : Option Nat) (xs : List UInt8) (bad : Bool) (hC : CutAt w g 168 gb xs bad) :
    Calls Try.prog 85 #[.pointer (some ⟨g, 0, none⟩)] w fun e w' => e = .returned (.int .u16 (num (takeF xs bad 2).1)) ∧
      CutAt w' g 168 gb (takeF xs bad 2).2.1 (takeF xs bad 2).2.2 ∧ w.grownBy w' (some g) := by
  go_enter Try.func85, Try.ntmps85
  go_wp2_with (go_at_call 102; refine (sum_any w g gb xs bad 2 hC (by omega) (by omega)).mono ?_; rintro e w1 ⟨rfl, hC1, hg1⟩)
  go_ret
  exact ⟨ret_int (IntWalk.u16_in _ (by have h := num_lt16 (takeF_len' xs bad 2); change num (takeF xs bad 2).1 < _ at h; omega)), hC1, hg1⟩
theorem OB.blocks {e : TypeId} {w : World} {base n c : Nat} {A : Option Addr} {xs : List UInt8} (h : OB e w base A n c xs) : ∀ k, A.map (·.block) = some k → base ≤ k := fun k hk => (h.ge k hk).1
set_option maxHeartbeats 400000 in
theorem cnew_any (w : World) (A : Option Addr) (n c : Nat) (xs : List UInt8) (hr : RB w A n xs) (hn : n ≤ 140737488355328) :
    Calls Try.prog 84 #[.slice A n c] w fun e w' => ∃ g gb, e = .returned (.pointer (some ⟨g, 0, none⟩)) ∧ CutAt w' g 168 gb xs false ∧ w.heap.size ≤ g ∧ g < w'.heap.size ∧ (∀ k, gb = some k → w.heap.size ≤ k ∧ k < w'.heap.size) ∧ Below w.heap.size w w' := by
  go_enter Try.func84, Try.ntmps84
  go_wp2_with (go_at_call 66; refine (clone_any w A n c xs hr hn).mono ?_; rintro e w1 ⟨A1, c1, rfl, hO, hb1⟩)
  go_ret
  exact ⟨_, A1.map (·.block), rfl, ⟨A1, n, c1, Blk.new _ _ _, hO.reads.alloc _, hO.cap.1, hO.cap.2, rfl, fun h => by have := (hO.ge _ h).2; omega⟩, hb1.size, by simp, fun k hk => ⟨(hO.ge k hk).1, by have := (hO.ge k hk).2; simp; omega⟩, hb1.alloc hb1.size _⟩
theorem CutAt.open_ {w : World} {g : Nat} {T : TypeId} {gb : Option Nat} {xs : List UInt8} {bad : Bool} (h : CutAt w g T gb xs bad) : ∃ A n c, Blk w g T #[.slice A n c, .bool bad] ∧ RB w A n xs ∧ n ≤ c ∧ c ≤ 9223372036854775807 ∧ A.map (·.block) = gb ∧ gb ≠ some g ∧
    w.cell? ⟨g, 0, none⟩ = some (.slice A n c) ∧ w.cell? ⟨g, 1, none⟩ = some (.bool bad) ∧ w.frozen? ⟨g, 0, none⟩ = false ∧ w.frozen? ⟨g, 1, none⟩ = false := by
  obtain ⟨A, n, c, hB, h2, h3, h4, h5, h6⟩ := h
  exact ⟨A, n, c, hB, h2, h3, h4, h5, h6, by simpa using hB.cell 0, by simpa using hB.cell 1, hB.frozen 0, hB.frozen 1⟩
theorem takeF_length (xs : List UInt8) (bad : Bool) (k : Int) : (takeF xs bad k).1.length ≤ xs.length ∧ (takeF xs bad k).2.1.length ≤ xs.length := by
  unfold takeF
  split
  · simp
  · simp; omega
set_option maxHeartbeats 400000 in
theorem craw_any (w : World) (g : Nat) (gb : Option Nat) (xs : List UInt8) (bad : Bool) (k : Int) (hC : CutAt w g 168 gb xs bad) (hlen : xs.length ≤ 140737488355328) :
    Calls Try.prog 86 #[.pointer (some ⟨g, 0, none⟩), .int .i64 k] w fun e w' => ∃ A' N' c', e = .returned (.slice A' N' c') ∧ OB 5 w' w.heap.size A' N' c' (takeF xs bad k).1 ∧
      CutAt w' g 168 gb (takeF xs bad k).2.1 (takeF xs bad k).2.2 ∧ w.grownBy w' (some g) := by
  have hl := (takeF_length xs bad k).1
  go_enter Try.func86, Try.ntmps86
  go_wp2_with (first | (go_at_call 101; refine (take_any w g gb xs bad k hC).mono ?_; rintro e w1 ⟨A1, N1, c1, rfl, hR1, hn1, hc1, hgb1, hC1, hg1⟩) | (go_at_call 66; refine (clone_any w1 A1 N1 c1 _ hR1 (by have := hR1.len; omega)).mono ?_; rintro e w2 ⟨A2, c2, rfl, hO2, hb2⟩))
  go_ret
  have hg2 := grownBy_of_below hb2 none
  exact ⟨A2, N1, c2, rfl, hO2.mono hg1.size, hC1.grown hg2 (by simp) (.inr rfl), hg1.trans (grownBy_of_below hb2 _)⟩
set_option maxHeartbeats 400000 in
theorem cleft_any (w : World) (g : Nat) (gb : Option Nat) (xs : List UInt8) (bad : Bool) (hC : CutAt w g 168 gb xs bad) :
    Calls Try.prog 87 #[.pointer (some ⟨g, 0, none⟩)] w fun e w' => e = .returned (.int .i64 xs.length) ∧ w = w' := by
  obtain ⟨A, n, c, hB, hR, hnc, hcc, hgb, hne, h0, h1, f0, f1⟩ := hC.open_
  have hl := hR.len
  go_enter Try.func87, Try.ntmps87
  go_wp2_with fail
  go_ret
  exact ⟨ret_int (by omega), rfl⟩
set_option maxHeartbeats 400000 in
theorem cok_any (w : World) (g : Nat) (gb : Option Nat) (xs : List UInt8) (bad : Bool) (hC : CutAt w g 168 gb xs bad) :
    Calls Try.prog 88 #[.pointer (some ⟨g, 0, none⟩)] w fun e w' => e = .returned (.bool !bad) ∧ w = w' := by
  obtain ⟨A, n, c, hB, hR, hnc, hcc, hgb, hne, h0, h1, f0, f1⟩ := hC.open_
  go_enter Try.func88, Try.ntmps88
  go_wp2_with fail
  go_ret
  exact ⟨rfl, rfl⟩

set_option maxHeartbeats 400000 in
theorem put16_any (w : World) (A : Option Addr) (n c : Nat) (xs : List UInt8) (x : Nat) (hr : RB w A n xs) (hn : n ≤ 140737487000000) (_hx : x < 2 ^ 16) :
    Calls Try.prog 93 #[.slice A n c, .int .u16 x, .int .i64 2] w fun e w' => ∃ A' N' c', e = .returned (.slice A' N' c') ∧ OB 5 w' w.heap.size A' N' c' (xs ++ be 2 x) ∧ Below w.heap.size w w' := by
  have hxl := hr.len
  go_enter Try.func93, Try.ntmps93
  go_wp2_with (first | (go_at_call 66; refine (clone_any _ A n c xs hr (by omega)).mono ?_; rintro e w1 ⟨A1, c1, rfl, hO1, hb1⟩) | (go_at_call 106; refine (grow_any w1 w.heap.size A1 n c1 xs 2 hO1 hb1.size (by omega) (by omega) (by omega)).mono ?_; rintro e w2 ⟨A2, c2, rfl, hO2, hb2⟩))
  go_loopw [7, 8] (fun v i wr => ∃ (k : Nat) (A3 : Option Addr) (N3 c3 : Nat), k ≤ 2 ∧ i = .int .i64 (2 - 1 - (k : Int)) ∧ v = .slice A3 N3 c3 ∧ OB 5 wr w.heap.size A3 N3 c3 (xs ++ (be 2 x).take k) ∧ Below w.heap.size w wr) (fun _ i _ => (intOf i + 1).toNat)
  case atStart => exact ⟨0, A2, n, c2, by omega, rfl, rfl, by simpa using hO2, hb1.trans (hb2.mono hb1.size)⟩
  case round =>
    obtain ⟨k, A3, N3, c3, hk, rfl, rfl, hO3, hb3⟩ := hrel
    clear hO1 hb1 hO2 hb2
    have hN3 := hO3.len
    go_wp2_with (at_builtin; refine app_bytes rfl _ _ rfl w.heap.size _ _ _ (xs ++ (be 2 x).take k) rfl (hO3.alloc _) _ _ _ [UInt8.ofNat (x / 2 ^ (8 * (1 - k)))] rfl (RB.one_ _ _ (bv_be _ _)) (by simp [be_length] at hN3; omega) (by simp; exact Nat.le_succ_of_le hb3.size) ?_; intro A4 N4 c4 w4 hc4 hc4' hO4 hG4)
    · go_roundw
      case rel => exact ⟨k + 1, A4, N4, c4, by omega, by go_num, rfl, by rw [be_snoc 2 x k (by omega), ← List.append_assoc]; exact hO4, hG4.own (below_alloc2 hb3 (Nat.le_refl _) _) (Nat.le_refl _) (hO3.alloc _)⟩
      case measure => simp [intOf]; omega
    · go_ret
      exact ⟨A3, N3, c3, rfl, by rwa [List.take_of_length_le (by rw [be_length]; omega)] at hO3, hb3⟩

set_option maxHeartbeats 400000 in
theorem half_any (w : World) (A : Option Addr) (n c : Nat) (xs : List UInt8) (x : Nat) (hr : RB w A n xs) (hn : n ≤ 140737487000000) (hx : x < 2 ^ 16) :
    Calls Try.prog 71 #[.slice A n c, .int .u16 x] w fun e w' => ∃ A' N' c', e = .returned (.slice A' N' c') ∧ OB 5 w' w.heap.size A' N' c' (xs ++ be 2 x) ∧ Below w.heap.size w w' := by
  go_enter Try.func71, Try.ntmps71
  go_wp2_with (go_at_call 93; refine (put16_any _ A n c xs x hr hn hx).mono ?_; rintro e w1 ⟨A1, N1, c1, rfl, hO1, hb1⟩)
  go_ret
  exact ⟨A1, N1, c1, rfl, hO1, hb1⟩

end Go.Proofs.Ytmjdfajdompkeaa
