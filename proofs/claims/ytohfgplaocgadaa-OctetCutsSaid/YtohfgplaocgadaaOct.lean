/- octet: Half, Text, and the cuts: what each call computes and what it leaves of memory. -/
import Derived.Test.YtohfgplaocgadaaBytes
namespace Go.Proofs.Ytohfgplaocgadaa
open Go.RowKit Go.Rat

/-- A cut at block g (of type T) has the bytes xs left; bad: it is spoilt; its bytes lie in block gb. -/
def CutAt (w : World) (g : Nat) (T : TypeId) (gb : Option Nat) (xs : List UInt8) (bad : Bool) : Prop :=
  ∃ A n c, Blk w g T #[.slice A n c, .bool bad] ∧ RB w A n xs ∧ n ≤ c ∧ c ≤ 9223372036854775807 ∧ A.map (·.block) = gb ∧ gb ≠ some g
theorem CutAt.grown {w w' : World} {g : Nat} {T : TypeId} {gb : Option Nat} {xs : List UInt8} {bad : Bool} {row : Option Nat} (h : CutAt w g T gb xs bad) (hg : w.grownBy w' row) (h1 : some g ≠ row) (h2 : gb ≠ row ∨ row = none) : CutAt w' g T gb xs bad := by
  obtain ⟨A, n, c, hB, hR, h3, h4, h5, h6⟩ := h
  exact ⟨A, n, c, hB.grown hg h1, hR.grown hg (by rw [h5]; exact h2), h3, h4, h5, h6⟩

/-- What is taken: the bytes, those that are left, whether it is spoilt. -/
def takeF (xs : List UInt8) (bad : Bool) (k : Int) : List UInt8 × List UInt8 × Bool :=
  if bad = true ∨ k < 0 ∨ (xs.length : Int) < k then ([], xs, true) else (xs.take k.toNat, xs.drop k.toNat, false)
theorem takeF_bad {xs : List UInt8} {bad : Bool} {k : Int} (h : bad = true ∨ k < 0 ∨ (xs.length : Int) < k) : takeF xs bad k = ([], xs, true) := if_pos h
theorem takeF_ok {xs : List UInt8} {k : Nat} (h : k ≤ xs.length) : takeF xs false (k : Int) = (xs.take k, xs.drop k, false) := by
  unfold takeF
  rw [if_neg (by simp; omega)]
  rfl

set_option maxHeartbeats 1000000 in
theorem take_any (w : World) (g : Nat) (gb : Option Nat) (xs : List UInt8) (bad : Bool) (k : Int) (hC : CutAt w g 61 gb xs bad) :
    Calls Try.prog 35 #[.pointer (some ⟨g, 0, none⟩), .int .i64 k] w fun e w' => ∃ A' N' c', e = .returned (.slice A' N' c') ∧ RB w' A' N' (takeF xs bad k).1 ∧ N' ≤ c' ∧ c' ≤ 9223372036854775807 ∧ (A' = none ∨ A'.map (·.block) = gb) ∧
      CutAt w' g 61 gb (takeF xs bad k).2.1 (takeF xs bad k).2.2 ∧ w.grownBy w' (some g) := by
  obtain ⟨A, n, c, hB, hR, hnc, hc, hgb, hne⟩ := hC
  have h0 := hB.cell 0
  have h1 := hB.cell 1
  have f0 := hB.frozen 0
  have f1 := hB.frozen 1
  simp at h0 h1
  have hl := hR.len
  by_cases hbad : bad = true ∨ k < 0 ∨ (xs.length : Int) < k
  · rw [takeF_bad hbad]
    have fin : ∀ b, b = true → ∃ A' N' c', Ending.returned (.slice none 0 0) = .returned (.slice A' N' c') ∧ RB (w.setCell ⟨g, 1, none⟩ (.bool b)) A' N' [] ∧ N' ≤ c' ∧ c' ≤ 9223372036854775807 ∧ (A' = none ∨ A'.map (·.block) = gb) ∧
        CutAt (w.setCell ⟨g, 1, none⟩ (.bool b)) g 61 gb xs true ∧ w.grownBy (w.setCell ⟨g, 1, none⟩ (.bool b)) (some g) := by
      rintro b rfl
      exact ⟨none, 0, 0, rfl, RB.nil_ _ _, Nat.le_refl _, by omega, .inl rfl, ⟨A, n, c, hB.set_ 1 _, hR.grown (grownBy_set w g 1 _) (.inl (by rw [hgb]; exact hne)), hnc, hc, hgb, hne⟩, grownBy_set w g 1 _⟩
    have FIN := Lib.hid fin
    clear fin hB hR hne hgb
    cases bad with
    | true =>
      go_enter Try.func35, Try.ntmps35
      go_wp2_with fail
      go_ret
      exact FIN.out _ rfl
    | false =>
      simp at hbad
      by_cases hk : k < 0
      · have hk' : decide (k < 0) = true := by simpa using hk
        go_enter Try.func35, Try.ntmps35
        go_wp2_with fail
        go_ret
        exact FIN.out _ rfl
      · have hk' : decide (k < 0) = false := by simpa using hk
        have hk2 : decide ((n : Int) < k) = true := by simp; omega
        go_enter Try.func35, Try.ntmps35
        go_wp2_with fail
        go_ret
        exact FIN.out _ rfl
  · obtain rfl : bad = false := by cases bad <;> simp_all
    obtain ⟨m, rfl⟩ := Int.eq_ofNat_of_zero_le (show 0 ≤ k by omega)
    have hm : m ≤ xs.length := by omega
    rw [takeF_ok hm]
    have hk' : decide ((m : Int) < 0) = false := by simp
    have hk2 : decide ((n : Int) < (m : Int)) = false := by simp; omega
    have hmn : m ≤ n := by omega
    have fin : ∀ A2 n2 c2, A2 = (if c = m then A else A.map (·.add m)) → n2 = n - m → c2 = c - m → ∃ A' N' c', Ending.returned (.slice A m c) = .returned (.slice A' N' c') ∧ RB ((w.setCell ⟨g, 1, none⟩ (.bool false)).setCell ⟨g, 0, none⟩ (.slice A2 n2 c2)) A' N' (xs.take m) ∧ N' ≤ c' ∧ c' ≤ 9223372036854775807 ∧ (A' = none ∨ A'.map (·.block) = gb) ∧
        CutAt ((w.setCell ⟨g, 1, none⟩ (.bool false)).setCell ⟨g, 0, none⟩ (.slice A2 n2 c2)) g 61 gb (xs.drop m) false ∧ w.grownBy ((w.setCell ⟨g, 1, none⟩ (.bool false)).setCell ⟨g, 0, none⟩ (.slice A2 n2 c2)) (some g) := by
      rintro A2 n2 c2 rfl rfl rfl
      have hg := (grownBy_set w g 1 (.bool false)).trans (grownBy_set (w.setCell ⟨g, 1, none⟩ (.bool false)) g 0 (.slice (if c = m then A else A.map (·.add m)) (n - m) (c - m)))
      have hRA := hR.grown hg (.inl (by rw [hgb]; exact hne))
      have hcut := Reads.cut hRA (k := m) (cap := c) hmn hnc
      have htk := Reads.take_ hRA (k := m) hmn
      simp only [Nat.mul_one] at hcut htk
      refine ⟨A, m, c, rfl, ?_, by omega, hc, .inr hgb, ⟨_, n - m, c - m, (hB.set_ 1 _).set_ 0 _, ?_, by omega, by omega, ?_, hne⟩, hg⟩
      · simpa [RB, bvs, List.map_take] using htk
      · simpa [RB, bvs, List.map_drop] using hcut
      · split
        · exact hgb
        · rw [← hgb]; cases A <;> simp [block_of_add]
    have FIN := Lib.hid fin
    clear fin hB hR hne hgb hbad
    by_cases hcm : c = m
    · subst hcm
      go_enter Try.func35, Try.ntmps35
      go_wp2_with fail
      go_ret
      exact FIN.out _ _ _ (by simp) (by omega) (by omega)
    · go_enter Try.func35, Try.ntmps35
      go_wp2_with fail
      go_ret
      exact FIN.out _ _ _ (by simp [hcm]) rfl rfl
/-- The number of bytes, the highest one first. -/
def num (ys : List UInt8) : Nat := ys.foldl (fun n b => n * 256 + b.toNat) 0
theorem num_lt (ys : List UInt8) : num ys < 256 ^ ys.length := by
  unfold num
  suffices H : ∀ (ys : List UInt8) (a : Nat), ys.foldl (fun n b => n * 256 + b.toNat) a < (a + 1) * 256 ^ ys.length by simpa using H ys 0
  intro ys
  induction ys with
  | nil => intro a; simp
  | cons y ys ih =>
    intro a
    refine Nat.lt_of_lt_of_le (ih _) ?_
    have := y.toNat_lt
    rw [List.length_cons, Nat.pow_succ, Nat.mul_comm (256 ^ _) 256, ← Nat.mul_assoc]
    exact Nat.mul_le_mul_right _ (by show a * 256 + y.toNat + 1 ≤ _; omega)
theorem num_snoc (ys : List UInt8) (b : UInt8) : num (ys ++ [b]) = num ys * 256 + b.toNat := by simp [num]
theorem takeF_len (xs : List UInt8) (bad : Bool) (k : Int) : ((takeF xs bad k).1.length : Int) ≤ max k 0 := by
  unfold takeF
  split
  · simp; omega
  · simp; omega
theorem num_lt64 {ys : List UInt8} (h : ys.length ≤ 8) : num ys < 18446744073709551616 :=
  Nat.lt_of_lt_of_le (num_lt ys) (Nat.le_trans (Nat.pow_le_pow_right (by omega) h) (by decide))

theorem ret_int {k : IntKind} {a b : Int} (h : a = b) : Ending.returned (.int k a) = .returned (.int k b) := by rw [h]
theorem or_snoc64 (a : Nat) (b : UInt8) (ha : a < 72057594037927936) : bits .or .u64 (IntKind.u64.wrap ((a : Int) * 256)) (IntKind.u64.wrap (b.toNat : Int)) = ((a * 256 + b.toNat : Nat) : Int) := by
  have hb := b.toNat_lt
  rw [IntKind.wrap_u64, IntKind.wrap_u64, Int.emod_eq_of_lt (by omega) (by omega), Int.emod_eq_of_lt (by omega) (by omega)]
  rw [show (a : Int) * 256 = ((a * 256 : Nat) : Int) from by omega, u64_or_nat _ _ (by omega) (by omega)]
  have := Nat.shiftLeft_add_eq_or_of_lt (i := 8) (b := b.toNat) (by omega) a
  rw [Nat.shiftLeft_eq] at this
  rw [← this]
theorem num_next {ys : List UInt8} {j : Nat} (hj : j < ys.length) (h8 : j < 8) :
    Value.int .u64 (bits .or .u64 (IntKind.u64.wrap ((num (ys.take j) : Int) * 256)) (IntKind.u64.wrap ((ys.getD j 0).toNat : Int))) = .int .u64 (num (ys.take (j + 1)) : Int) := by
  have h : num (ys.take j) < 72057594037927936 := Nat.lt_of_lt_of_le (num_lt _) (Nat.le_trans (Nat.pow_le_pow_right (by omega) (show (ys.take j).length ≤ 7 by simp; omega)) (by decide))
  rw [or_snoc64 _ _ h, List.take_succ_eq_append_getElem hj, num_snoc]
  simp [List.getD_eq_getElem?_getD, List.getElem?_eq_getElem hj]

set_option maxHeartbeats 1000000 in
theorem sum_any (w : World) (g : Nat) (gb : Option Nat) (xs : List UInt8) (bad : Bool) (k : Int) (hC : CutAt w g 61 gb xs bad) (hk : 0 ≤ k) (hk8 : k ≤ 8) :
    Calls Try.prog 36 #[.func (.func 35) #[.pointer (some ⟨g, 0, none⟩)] #[], .int .i64 k] w fun e w' => e = .returned (.int .u64 (num (takeF xs bad k).1)) ∧
      CutAt w' g 61 gb (takeF xs bad k).2.1 (takeF xs bad k).2.2 ∧ w.grownBy w' (some g) := by
  have hyl := takeF_len xs bad k
  obtain ⟨ys, st, hF⟩ : ∃ ys st, takeF xs bad k = (ys, st) := ⟨_, _, rfl⟩
  rw [hF] at hyl ⊢
  have HF := Lib.hid hF
  clear hF
  go_enter Try.func36, Try.ntmps36
  go_wp2_with (go_at_call 35; refine (take_any w g gb xs bad k hC).mono ?_; rw [HF.out]; rintro e w1 ⟨A1, N1, c1, rfl, hR1, hn1, hc1, hgb1, hC1, hg1⟩)
  have hl := hR1.len
  go_loop [4, 6, 11] (fun n x i => ∃ j : Nat, j ≤ N1 ∧ i = .int .i64 j ∧ n = .int .u64 (num (ys.take j))) (fun _ _ i => N1 - (intOf i).toNat)
  case atStart => exact ⟨0, Nat.zero_le _, rfl, rfl⟩
  case round =>
    obtain ⟨j, hj, rfl, rfl⟩ := hrel
    by_cases hlt : j < N1
    · obtain ⟨ad, rfl, hb, hc⟩ := hR1.at_ hlt
      have HN := Lib.hid (num_next (ys := ys) (j := j) (by omega) (by omega))
      go_wp2_with fail
      exact ⟨⟨j + 1, by omega, by go_num, by rw [← HN.out]; simp [List.getD_eq_getElem?_getD, List.getElem?_eq_getElem (show j < ys.length by omega)]⟩, by simp [intOf]; omega⟩
    · obtain rfl : j = N1 := by omega
      go_wp2_with fail
      go_ret
      exact ⟨ret_int (by rw [List.take_of_length_le (by omega)]), hC1, hg1⟩

theorem num_lt16 {ys : List UInt8} (h : ys.length ≤ 2) : num ys < 65536 :=
  Nat.lt_of_lt_of_le (num_lt ys) (Nat.le_trans (Nat.pow_le_pow_right (by omega) h) (by decide))
theorem num_lt8 {ys : List UInt8} (h : ys.length ≤ 1) : num ys < 256 :=
  Nat.lt_of_lt_of_le (num_lt ys) (Nat.le_trans (Nat.pow_le_pow_right (by omega) h) (by decide))
theorem takeF_len' (xs : List UInt8) (bad : Bool) (k : Nat) : (takeF xs bad k).1.length ≤ k := by have := takeF_len xs bad k; omega
set_option maxHeartbeats 400000 in
theorem cword_any (w : World) (g : Nat) (gb : Option Nat) (xs : List UInt8) (bad : Bool) (hC : CutAt w g 61 gb xs bad) :
    Calls Try.prog 20 #[.pointer (some ⟨g, 0, none⟩)] w fun e w' => e = .returned (.int .u64 (num (takeF xs bad 8).1)) ∧
      CutAt w' g 61 gb (takeF xs bad 8).2.1 (takeF xs bad 8).2.2 ∧ w.grownBy w' (some g) := by
  go_enter Try.func20, Try.ntmps20
  go_wp2_with (go_at_call 36; refine (sum_any w g gb xs bad 8 hC (by omega) (by omega)).mono ?_; rintro e w1 ⟨rfl, hC1, hg1⟩)
  go_ret
  exact ⟨rfl, hC1, hg1⟩
set_option maxHeartbeats 400000 in
theorem chalf_any (w : World) (g : Nat) (gb : Option Nat) (xs : List UInt8) (bad : Bool) (hC : CutAt w g 61 gb xs bad) :
    Calls Try.prog 22 #[.pointer (some ⟨g, 0, none⟩)] w fun e w' => e = .returned (.int .u16 (num (takeF xs bad 2).1)) ∧
      CutAt w' g 61 gb (takeF xs bad 2).2.1 (takeF xs bad 2).2.2 ∧ w.grownBy w' (some g) := by
  go_enter Try.func22, Try.ntmps22
  go_wp2_with (go_at_call 36; refine (sum_any w g gb xs bad 2 hC (by omega) (by omega)).mono ?_; rintro e w1 ⟨rfl, hC1, hg1⟩)
  go_ret
  exact ⟨ret_int (IntWalk.u16_in _ (by have h := num_lt16 (takeF_len' xs bad 2); change num (takeF xs bad 2).1 < _ at h; omega)), hC1, hg1⟩
set_option maxHeartbeats 400000 in
theorem cbyte_any (w : World) (g : Nat) (gb : Option Nat) (xs : List UInt8) (bad : Bool) (hC : CutAt w g 61 gb xs bad) :
    Calls Try.prog 24 #[.pointer (some ⟨g, 0, none⟩)] w fun e w' => e = .returned (.int .u8 (num (takeF xs bad 1).1)) ∧
      CutAt w' g 61 gb (takeF xs bad 1).2.1 (takeF xs bad 1).2.2 ∧ w.grownBy w' (some g) := by
  go_enter Try.func24, Try.ntmps24
  go_wp2_with (go_at_call 36; refine (sum_any w g gb xs bad 1 hC (by omega) (by omega)).mono ?_; rintro e w1 ⟨rfl, hC1, hg1⟩)
  go_ret
  exact ⟨ret_int (Int.emod_eq_of_lt (by omega) (by have h := num_lt8 (takeF_len' xs bad 1); change num (takeF xs bad 1).1 < _ at h; omega)), hC1, hg1⟩
theorem OB.blocks {e : TypeId} {w : World} {base n c : Nat} {A : Option Addr} {xs : List UInt8} (h : OB e w base A n c xs) : ∀ k, A.map (·.block) = some k → base ≤ k := fun k hk => (h.ge k hk).1
set_option maxHeartbeats 400000 in
theorem cnew_any (w : World) (A : Option Addr) (n c : Nat) (xs : List UInt8) (hr : RB w A n xs) (hn : n ≤ 140737488355328) :
    Calls Try.prog 17 #[.slice A n c] w fun e w' => ∃ g gb, e = .returned (.pointer (some ⟨g, 0, none⟩)) ∧ CutAt w' g 61 gb xs false ∧ w.heap.size ≤ g ∧ g < w'.heap.size ∧ (∀ k, gb = some k → w.heap.size ≤ k ∧ k < w'.heap.size) ∧ Below w.heap.size w w' := by
  go_enter Try.func17, Try.ntmps17
  go_wp2_with (go_at_call 34; refine (clone_any w A n c xs hr hn).mono ?_; rintro e w1 ⟨A1, c1, rfl, hO, hb1⟩)
  go_ret
  exact ⟨_, A1.map (·.block), rfl, ⟨A1, n, c1, Blk.new _ _ _, hO.reads.alloc _, hO.cap.1, hO.cap.2, rfl, fun h => by have := (hO.ge _ h).2; omega⟩, hb1.size, by simp, fun k hk => ⟨(hO.ge k hk).1, by have := (hO.ge k hk).2; simp; omega⟩, hb1.alloc hb1.size _⟩
/-- What a text is. -/
def textF (xs : List UInt8) (bad : Bool) (most : Int) : List UInt8 × List UInt8 × Bool :=
  let F := takeF xs bad 2
  if F.2.2 = true ∨ most < (num F.1 : Int) ∨ F.2.1.length < num F.1 then ([], xs, true) else (F.2.1.take (num F.1), F.2.1.drop (num F.1), false)
theorem CutAt.open_ {w : World} {g : Nat} {T : TypeId} {gb : Option Nat} {xs : List UInt8} {bad : Bool} (h : CutAt w g T gb xs bad) : ∃ A n c, Blk w g T #[.slice A n c, .bool bad] ∧ RB w A n xs ∧ n ≤ c ∧ c ≤ 9223372036854775807 ∧ A.map (·.block) = gb ∧ gb ≠ some g ∧
    w.cell? ⟨g, 0, none⟩ = some (.slice A n c) ∧ w.cell? ⟨g, 1, none⟩ = some (.bool bad) ∧ w.frozen? ⟨g, 0, none⟩ = false ∧ w.frozen? ⟨g, 1, none⟩ = false := by
  obtain ⟨A, n, c, hB, h2, h3, h4, h5, h6⟩ := h
  exact ⟨A, n, c, hB, h2, h3, h4, h5, h6, by simpa using hB.cell 0, by simpa using hB.cell 1, hB.frozen 0, hB.frozen 1⟩
/-- A cut that is put back, spoilt. -/
theorem cut_back {w w2 : World} {g : Nat} {T : TypeId} {gb : Option Nat} {xs : List UInt8} {A : Option Addr} {n c : Nat} {v : Value} (hB : Blk w2 g T #[v, .bool true]) (hR : RB w A n xs) (hnc : n ≤ c) (hcc : c ≤ 9223372036854775807) (hgb : A.map (·.block) = gb) (hne : gb ≠ some g) (hg : w.grownBy w2 (some g)) :
    CutAt (w2.setCell ⟨g, 0, none⟩ (.slice A n c)) g T gb xs true ∧ w.grownBy (w2.setCell ⟨g, 0, none⟩ (.slice A n c)) (some g) := by
  have hg2 := hg.trans (grownBy_set w2 g 0 (.slice A n c))
  exact ⟨⟨A, n, c, hB.set_ 0 _, hR.grown hg2 (.inl (by rw [hgb]; exact hne)), hnc, hcc, hgb, hne⟩, hg2⟩
set_option maxHeartbeats 1000000 in
theorem ctext_any (w : World) (g : Nat) (gb : Option Nat) (xs : List UInt8) (bad : Bool) (most : Int) (hC : CutAt w g 61 gb xs bad) :
    Calls Try.prog 26 #[.pointer (some ⟨g, 0, none⟩), .int .i64 most] w fun e w' => e = .returned (.string (bstr (textF xs bad most).1)) ∧
      CutAt w' g 61 gb (textF xs bad most).2.1 (textF xs bad most).2.2 ∧ w.grownBy w' (some g) := by
  obtain ⟨A, n, c, hB, hR, hnc, hcc, hgb, hne, h0, h1, f0, f1⟩ := hC.open_
  have hn16 : num (takeF xs bad 2).1 < 65536 := num_lt16 (takeF_len' xs bad 2)
  obtain ⟨t1, t2, t3, hT⟩ : ∃ t1 t2 t3, textF xs bad most = (t1, t2, t3) := ⟨_, _, _, rfl⟩
  rw [hT]
  unfold textF at hT
  obtain ⟨ys, zs, b1, hF⟩ : ∃ ys zs b1, takeF xs bad 2 = (ys, zs, b1) := ⟨_, _, _, rfl⟩
  rw [hF] at hn16 hT
  dsimp only at hn16 hT ⊢
  have HF := Lib.hid hF
  have HT := Lib.hid hT
  clear hF hT
  go_enter Try.func26, Try.ntmps26
  go_wp2_with (go_at_call 22; refine (chalf_any w g gb xs bad hC).mono ?_; rw [HF.out]; rintro e w1 ⟨rfl, hC1, hg1⟩; obtain ⟨A1, n1, c1, hB1, hR1, hnc1, hcc1, hgb1, hne1, h01, h11, f01, f11⟩ := hC1.open_)
  · have hT := HT.out
    rw [if_pos (.inl (by assumption))] at hT
    cases hT
    refine (take_any w1 g gb _ b1 _ hC1).mono ?_
    rw [takeF_bad (.inl (by assumption))]
    rintro e w2 ⟨A2, N2, c2, rfl, hR2, hn2, hc2, hgb2, hC2, hg2⟩
    obtain ⟨A3, n3, c3, hB3, hR3, hnc3, hcc3, hgb3, hne3, h03, h13, f03, f13⟩ := hC2.open_
    have FIN := Lib.hid (cut_back hB3 hR hnc hcc hgb hne (hg1.trans hg2))
    clear hC hB hR hgb hne hB1 hR1 hgb1 hne1 hC1 hg1 hR2 hC2 hg2 hB3 hR3 hgb3 hne3 h01 h11 f01 f11 h0 h1 f0 f1 HF HT
    go_wp2_with fail
    go_ret
    exact ⟨rfl, FIN.out⟩
  · have hT := HT.out
    rw [if_pos (.inr (.inl (by assumption)))] at hT
    cases hT
    have hC1' : CutAt (w1.setCell ⟨g, 1, none⟩ (.bool true)) g 61 gb zs true := ⟨A1, n1, c1, hB1.set_ 1 _, hR1.grown (grownBy_set w1 g 1 _) (.inl (by rw [hgb1]; exact hne)), hnc1, hcc1, hgb1, hne1⟩
    refine (take_any _ g gb _ true _ hC1').mono ?_
    rw [takeF_bad (.inl rfl)]
    rintro e w2 ⟨A2, N2, c2, rfl, hR2, hn2, hc2, hgb2, hC2, hg2⟩
    obtain ⟨A3, n3, c3, hB3, hR3, hnc3, hcc3, hgb3, hne3, h03, h13, f03, f13⟩ := hC2.open_
    have FIN := Lib.hid (cut_back hB3 hR hnc hcc hgb hne ((hg1.trans (grownBy_set w1 g 1 _)).trans hg2))
    clear hC hB hR hgb hne hB1 hR1 hgb1 hne1 hC1 hC1' hg1 hR2 hC2 hg2 hB3 hR3 hgb3 hne3 h01 h11 f01 f11 h0 h1 f0 f1 HF HT
    go_wp2_with fail
    go_ret
    exact ⟨rfl, FIN.out⟩
  · have hT := HT.out
    obtain rfl : b1 = false := by cases b1 <;> simp_all
    by_cases hlen : zs.length < num ys
    · rw [if_pos (.inr (.inr hlen))] at hT
      cases hT
      refine (take_any _ g gb _ false _ hC1).mono ?_
      rw [takeF_bad (.inr (.inr (by omega)))]
      rintro e w2 ⟨A2, N2, c2, rfl, hR2, hn2, hc2, hgb2, hC2, hg2⟩
      obtain ⟨A3, n3, c3, hB3, hR3, hnc3, hcc3, hgb3, hne3, h03, h13, f03, f13⟩ := hC2.open_
      have FIN := Lib.hid (cut_back hB3 hR hnc hcc hgb hne (hg1.trans hg2))
      clear hC hB hR hgb hne hB1 hR1 hgb1 hne1 hC1 hg1 hR2 hC2 hg2 hB3 hR3 hgb3 hne3 h01 h11 f01 f11 h0 h1 f0 f1 HF HT
      go_wp2_with fail
      go_ret
      exact ⟨rfl, FIN.out⟩
    · rw [if_neg (by simp; omega)] at hT
      cases hT
      refine (take_any _ g gb _ false _ hC1).mono ?_
      rw [takeF_ok (by omega)]
      rintro e w2 ⟨A2, N2, c2, rfl, hR2, hn2, hc2, hgb2, hC2, hg2⟩
      obtain ⟨A3, n3, c3, hB3, hR3, hnc3, hcc3, hgb3, hne3, h03, h13, f03, f13⟩ := hC2.open_
      have hcv := conv_str hR2 c2
      have FIN := Lib.hid (And.intro hC2 (hg1.trans hg2))
      clear hC hB hR hgb hne hB1 hR1 hgb1 hne1 hC1 hg1 hR2 hC2 hg2 hB3 hR3 hgb3 hne3 h01 h11 f01 f11 h0 h1 f0 f1 HF HT
      go_wp2_with fail
      go_ret
      exact ⟨rfl, FIN.out⟩

theorem takeF_length (xs : List UInt8) (bad : Bool) (k : Int) : (takeF xs bad k).1.length ≤ xs.length ∧ (takeF xs bad k).2.1.length ≤ xs.length := by
  unfold takeF
  split
  · simp
  · simp; omega
set_option maxHeartbeats 400000 in
theorem craw_any (w : World) (g : Nat) (gb : Option Nat) (xs : List UInt8) (bad : Bool) (k : Int) (hC : CutAt w g 61 gb xs bad) (hlen : xs.length ≤ 140737488355328) :
    Calls Try.prog 28 #[.pointer (some ⟨g, 0, none⟩), .int .i64 k] w fun e w' => ∃ A' N' c', e = .returned (.slice A' N' c') ∧ OB 5 w' w.heap.size A' N' c' (takeF xs bad k).1 ∧
      CutAt w' g 61 gb (takeF xs bad k).2.1 (takeF xs bad k).2.2 ∧ w.grownBy w' (some g) := by
  have hl := (takeF_length xs bad k).1
  go_enter Try.func28, Try.ntmps28
  go_wp2_with (first | (go_at_call 35; refine (take_any w g gb xs bad k hC).mono ?_; rintro e w1 ⟨A1, N1, c1, rfl, hR1, hn1, hc1, hgb1, hC1, hg1⟩) | (go_at_call 34; refine (clone_any w1 A1 N1 c1 _ hR1 (by have := hR1.len; omega)).mono ?_; rintro e w2 ⟨A2, c2, rfl, hO2, hb2⟩))
  go_ret
  have hg2 := grownBy_of_below hb2 none
  exact ⟨A2, N1, c2, rfl, hO2.mono hg1.size, hC1.grown hg2 (by simp) (.inr rfl), hg1.trans (grownBy_of_below hb2 _)⟩
set_option maxHeartbeats 400000 in
theorem cleft_any (w : World) (g : Nat) (gb : Option Nat) (xs : List UInt8) (bad : Bool) (hC : CutAt w g 61 gb xs bad) :
    Calls Try.prog 19 #[.pointer (some ⟨g, 0, none⟩)] w fun e w' => e = .returned (.int .i64 xs.length) ∧ w = w' := by
  obtain ⟨A, n, c, hB, hR, hnc, hcc, hgb, hne, h0, h1, f0, f1⟩ := hC.open_
  have hl := hR.len
  go_enter Try.func19, Try.ntmps19
  go_wp2_with fail
  go_ret
  exact ⟨ret_int (by omega), rfl⟩
set_option maxHeartbeats 400000 in
theorem cok_any (w : World) (g : Nat) (gb : Option Nat) (xs : List UInt8) (bad : Bool) (hC : CutAt w g 61 gb xs bad) :
    Calls Try.prog 30 #[.pointer (some ⟨g, 0, none⟩)] w fun e w' => e = .returned (.bool !bad) ∧ w = w' := by
  obtain ⟨A, n, c, hB, hR, hnc, hcc, hgb, hne, h0, h1, f0, f1⟩ := hC.open_
  go_enter Try.func30, Try.ntmps30
  go_wp2_with fail
  go_ret
  exact ⟨rfl, rfl⟩

/-- A cut goes on. -/
theorem cut_on {w : World} {g : Nat} {T : TypeId} {gb : Option Nat} {xs : List UInt8} {A : Option Addr} {n c : Nat} (hB : Blk w g T #[.slice A n c, .bool false]) (hR : RB w A n xs) (hnc : n ≤ c) (hcc : c ≤ 9223372036854775807) (hgb : A.map (·.block) = gb) (hne : gb ≠ some g) (k : Nat) (hk : k ≤ xs.length)
    (A2 : Option Addr) (n2 c2 : Nat) (hA : A2 = if c = k then A else A.map (·.add k)) (hn : n2 = n - k) (hc : c2 = c - k) :
    CutAt (w.setCell ⟨g, 0, none⟩ (.slice A2 n2 c2)) g T gb (xs.drop k) false ∧ w.grownBy (w.setCell ⟨g, 0, none⟩ (.slice A2 n2 c2)) (some g) := by
  have hl := hR.len
  subst hA hn hc
  have hg := grownBy_set w g 0 (.slice (if c = k then A else A.map (·.add k)) (n - k) (c - k))
  have hcut := Reads.cut (hR.grown hg (.inl (by rw [hgb]; exact hne))) (k := k) (cap := c) (by omega) hnc
  simp only [Nat.mul_one] at hcut
  refine ⟨⟨_, n - k, c - k, hB.set_ 0 _, ?_, by omega, by omega, ?_, hne⟩, hg⟩
  · simpa [RB, bvs, List.map_drop] using hcut
  · split
    · exact hgb
    · rw [← hgb]; cases A <;> simp [block_of_add]

set_option maxHeartbeats 400000 in
/-- ratchetref01: the same of the document's cut. -/
theorem rnumber_any (w : World) (g : Nat) (gb : Option Nat) (xs : List UInt8) (bad : Bool) (k : Nat) (hC : CutAt w g 47 gb xs bad) (hk8 : k ≤ 8) :
    Calls Try.prog 37 #[.pointer (some ⟨g, 0, none⟩), .int .i64 k] w fun e w' => e = .returned (.int .u64 (num (takeF xs bad k).1)) ∧
      CutAt w' g 47 gb (takeF xs bad k).2.1 (takeF xs bad k).2.2 ∧ w.grownBy w' (some g) := by
  obtain ⟨A, n, c, hB, hR, hnc, hcc, hgb, hne, h0, h1, f0, f1⟩ := hC.open_
  have hl := hR.len
  by_cases hbad : bad = true ∨ (k : Int) < 0 ∨ (xs.length : Int) < k
  · rw [takeF_bad hbad]
    have FIN : Hid (∀ v, v = Value.bool true → CutAt (w.setCell ⟨g, 1, none⟩ v) g 47 gb xs true ∧ w.grownBy (w.setCell ⟨g, 1, none⟩ v) (some g)) := by
      rintro v rfl
      exact ⟨⟨A, n, c, hB.set_ 1 _, hR.grown (grownBy_set w g 1 _) (.inl (by rw [hgb]; exact hne)), hnc, hcc, hgb, hne⟩, grownBy_set w g 1 _⟩
    clear hB hR hne hgb hC
    cases bad with
    | true =>
      go_enter Try.func37, Try.ntmps37
      go_wp2_with fail
      go_ret
      exact ⟨rfl, FIN.out _ rfl⟩
    | false =>
      have hk2 : n < k := by simp at hbad; omega
      clear hbad
      go_enter Try.func37, Try.ntmps37
      go_wp2_with fail
      go_ret
      exact ⟨rfl, FIN.out _ rfl⟩
  · obtain rfl : bad = false := by cases bad <;> simp_all
    have hk : k ≤ xs.length := by omega
    rw [takeF_ok hk]
    have hmn : ¬ n < k := by omega
    clear hbad hC
    go_enter Try.func37, Try.ntmps37
    go_wp2_with fail
    go_loop [5, 6] (fun v i => ∃ j : Nat, j ≤ k ∧ i = .int .i64 j ∧ v = .int .u64 (num (xs.take j))) (fun _ i => k - (intOf i).toNat)
    case atStart => exact ⟨0, Nat.zero_le _, rfl, rfl⟩
    case round =>
      obtain ⟨j, hj, rfl, rfl⟩ := hrel
      by_cases hlt : j < k
      · obtain ⟨ad, rfl, hb, hc⟩ := hR.at_ (k := j) (by omega)
        have HN := Lib.hid (num_next (ys := xs) (j := j) (by omega) (by omega))
        go_wp2_with fail
        exact ⟨⟨j + 1, by omega, by go_num, by rw [← HN.out]; simp [List.getD_eq_getElem?_getD]⟩, by simp [intOf]; omega⟩
      · obtain rfl : j = k := by omega
        have FIN := Lib.hid (@cut_on w g _ gb xs A n c hB hR hnc hcc hgb hne j hk)
        clear hB hR hgb hne
        go_wp2_with fail
        · go_ret
          exact ⟨rfl, FIN.out _ _ _ (by simp [*]) rfl (by omega)⟩
        · go_ret
          exact ⟨rfl, FIN.out _ _ _ (by rw [if_neg (by assumption)]) rfl rfl⟩
set_option maxHeartbeats 400000 in
theorem rcword_any (w : World) (g : Nat) (gb : Option Nat) (xs : List UInt8) (bad : Bool) (hC : CutAt w g 47 gb xs bad) :
    Calls Try.prog 21 #[.pointer (some ⟨g, 0, none⟩)] w fun e w' => e = .returned (.int .u64 (num (takeF xs bad 8).1)) ∧
      CutAt w' g 47 gb (takeF xs bad 8).2.1 (takeF xs bad 8).2.2 ∧ w.grownBy w' (some g) := by
  go_enter Try.func21, Try.ntmps21
  go_wp2_with (go_at_call 37; refine (rnumber_any w g gb xs bad 8 hC (by omega)).mono ?_; rintro e w1 ⟨rfl, hC1, hg1⟩)
  go_ret
  exact ⟨rfl, hC1, hg1⟩
set_option maxHeartbeats 400000 in
theorem rchalf_any (w : World) (g : Nat) (gb : Option Nat) (xs : List UInt8) (bad : Bool) (hC : CutAt w g 47 gb xs bad) :
    Calls Try.prog 23 #[.pointer (some ⟨g, 0, none⟩)] w fun e w' => e = .returned (.int .u16 (num (takeF xs bad 2).1)) ∧
      CutAt w' g 47 gb (takeF xs bad 2).2.1 (takeF xs bad 2).2.2 ∧ w.grownBy w' (some g) := by
  go_enter Try.func23, Try.ntmps23
  go_wp2_with (go_at_call 37; refine (rnumber_any w g gb xs bad 2 hC (by omega)).mono ?_; rintro e w1 ⟨rfl, hC1, hg1⟩)
  go_ret
  exact ⟨ret_int (IntWalk.u16_in _ (by have h := num_lt16 (takeF_len' xs bad 2); change num (takeF xs bad 2).1 < _ at h; change (0 : Int) ≤ (num (takeF xs bad 2).1 : Int) ∧ (num (takeF xs bad 2).1 : Int) ≤ _; omega)), hC1, hg1⟩
set_option maxHeartbeats 400000 in
theorem rcbyte_any (w : World) (g : Nat) (gb : Option Nat) (xs : List UInt8) (bad : Bool) (hC : CutAt w g 47 gb xs bad) :
    Calls Try.prog 25 #[.pointer (some ⟨g, 0, none⟩)] w fun e w' => e = .returned (.int .u8 (num (takeF xs bad 1).1)) ∧
      CutAt w' g 47 gb (takeF xs bad 1).2.1 (takeF xs bad 1).2.2 ∧ w.grownBy w' (some g) := by
  go_enter Try.func25, Try.ntmps25
  go_wp2_with (go_at_call 37; refine (rnumber_any w g gb xs bad 1 hC (by omega)).mono ?_; rintro e w1 ⟨rfl, hC1, hg1⟩)
  go_ret
  exact ⟨ret_int (Int.emod_eq_of_lt (by omega) (by have h := num_lt8 (takeF_len' xs bad 1); change num (takeF xs bad 1).1 < _ at h; change (num (takeF xs bad 1).1 : Int) < _; omega)), hC1, hg1⟩
set_option maxHeartbeats 400000 in
theorem rcraw_any (w : World) (g : Nat) (gb : Option Nat) (xs : List UInt8) (bad : Bool) (k : Int) (hC : CutAt w g 47 gb xs bad) (hlen : xs.length ≤ 140737488355328) :
    Calls Try.prog 29 #[.pointer (some ⟨g, 0, none⟩), .int .i64 k] w fun e w' => ∃ A' N' c', e = .returned (.slice A' N' c') ∧ OB 5 w' w.heap.size A' N' c' (takeF xs bad k).1 ∧
      CutAt w' g 47 gb (takeF xs bad k).2.1 (takeF xs bad k).2.2 ∧ w.grownBy w' (some g) := by
  obtain ⟨A, n, c, hB, hR, hnc, hcc, hgb, hne, h0, h1, f0, f1⟩ := hC.open_
  have hl := hR.len
  by_cases hbad : bad = true ∨ (k : Int) < 0 ∨ (xs.length : Int) < k
  · rw [takeF_bad hbad]
    have FIN : Hid (∀ v, v = Value.bool true → CutAt (w.setCell ⟨g, 1, none⟩ v) g 47 gb xs true ∧ w.grownBy (w.setCell ⟨g, 1, none⟩ v) (some g)) := by
      rintro v rfl
      exact ⟨⟨A, n, c, hB.set_ 1 _, hR.grown (grownBy_set w g 1 _) (.inl (by rw [hgb]; exact hne)), hnc, hcc, hgb, hne⟩, grownBy_set w g 1 _⟩
    clear hB hR hne hgb hC
    cases bad with
    | true =>
      go_enter Try.func29, Try.ntmps29
      go_wp2_with fail
      go_ret
      exact ⟨none, 0, 0, rfl, OB.nil_ _ _ _, FIN.out _ rfl⟩
    | false =>
      by_cases hk0 : k < 0
      · clear hbad
        go_enter Try.func29, Try.ntmps29
        go_wp2_with fail
        go_ret
        exact ⟨none, 0, 0, rfl, OB.nil_ _ _ _, FIN.out _ (by simp)⟩
      · have hk2 : (n : Int) < k := by simp at hbad; omega
        clear hbad
        go_enter Try.func29, Try.ntmps29
        go_wp2_with fail
        go_ret
        exact ⟨none, 0, 0, rfl, OB.nil_ _ _ _, FIN.out _ (by simp)⟩
  · obtain rfl : bad = false := by cases bad <;> simp_all
    obtain ⟨m, rfl⟩ := Int.eq_ofNat_of_zero_le (show 0 ≤ k by omega)
    have hk : m ≤ xs.length := by omega
    rw [takeF_ok hk]
    have hmn : ¬ n < m := by omega
    have hmn' : m ≤ n := by omega
    have hmc : m ≤ c := by omega
    have htk : RB w A m (xs.take m) := by simpa [RB, bvs, List.map_take] using Reads.take_ hR (k := m) hmn'
    have hhk : decide ((m : Int) < 0) = false := by simp
    have hlt := hB.lt
    have h0a := fun o => (hB.alloc o).cell 0
    simp at h0a
    clear hbad hC
    go_enter Try.func29, Try.ntmps29
    go_wp2_with (at_builtin; refine app_bytes rfl _ _ rfl w.heap.size _ _ _ [] rfl (OB.empty _ _) _ _ _ (xs.take m) rfl (htk.alloc _) (by omega) (by simp) ?_; intro A2 N2 c2 w2 hc2 hc3 hO hG; have hb2 : Below w.heap.size w w2 := (hG.below (below_alloc _ _) (by simp) (by simp)); have hg2 := grownBy_of_below hb2 none; have hB2 := hB.grown hg2 (by simp); have hR2 := hR.grown hg2 (.inr rfl); have h02 := hB2.cell 0; have f02 := hB2.frozen 0; simp at h02; have FIN := Lib.hid (@cut_on w2 g _ gb xs A n c hB2 hR2 hnc hcc hgb hne m hk); have HO := Lib.hid hO; have HG := Lib.hid (grownBy_of_below hb2 (some g)); clear hB hR hgb hne hO hG hb2 hg2 hB2 hR2 h0 h1 f0 f1 h0a htk)
    · go_ret
      obtain ⟨q1, q2⟩ := FIN.out A (n - m) 0 (by simp [*]) rfl (by omega)
      exact ⟨A2, N2, c2, rfl, by simpa using OB.grown HO.out q2 (.inl (by intro h; have := (HO.out.ge g h).1; have := hlt; omega)), q1, HG.out.trans q2⟩
    · go_ret
      obtain ⟨q1, q2⟩ := FIN.out (A.map (·.add m)) (n - m) (c - m) (by rw [if_neg (by assumption)]) rfl rfl
      exact ⟨A2, N2, c2, rfl, by simpa using OB.grown HO.out q2 (.inl (by intro h; have := (HO.out.ge g h).1; have := hlt; omega)), q1, HG.out.trans q2⟩
theorem cut_back2 {w w2 : World} {g : Nat} {T : TypeId} {gb : Option Nat} {xs : List UInt8} {A : Option Addr} {n c : Nat} {v b : Value} (hB : Blk w2 g T #[v, b]) (hR : RB w A n xs) (hnc : n ≤ c) (hcc : c ≤ 9223372036854775807) (hgb : A.map (·.block) = gb) (hne : gb ≠ some g) (hg : w.grownBy w2 (some g)) :
    CutAt ((w2.setCell ⟨g, 0, none⟩ (.slice A n c)).setCell ⟨g, 1, none⟩ (.bool true)) g T gb xs true ∧ w.grownBy ((w2.setCell ⟨g, 0, none⟩ (.slice A n c)).setCell ⟨g, 1, none⟩ (.bool true)) (some g) := by
  have hg2 := (hg.trans (grownBy_set w2 g 0 (.slice A n c))).trans (grownBy_set _ g 1 (.bool true))
  exact ⟨⟨A, n, c, (hB.set_ 0 _).set_ 1 _, hR.grown hg2 (.inl (by rw [hgb]; exact hne)), hnc, hcc, hgb, hne⟩, hg2⟩
set_option maxHeartbeats 400000 in
/-- ratchetref01: a text. -/
theorem rctext_any (w : World) (g : Nat) (gb : Option Nat) (xs : List UInt8) (bad : Bool) (most : Int) (hC : CutAt w g 47 gb xs bad) (hlen : xs.length ≤ 140737488355328) :
    Calls Try.prog 27 #[.pointer (some ⟨g, 0, none⟩), .int .i64 most] w fun e w' => e = .returned (.string (bstr (textF xs bad most).1)) ∧
      CutAt w' g 47 gb (textF xs bad most).2.1 (textF xs bad most).2.2 ∧ w.grownBy w' (some g) := by
  obtain ⟨A, n, c, hB, hR, hnc, hcc, hgb, hne, h0, h1, f0, f1⟩ := hC.open_
  have hn16 : num (takeF xs bad 2).1 < 65536 := num_lt16 (takeF_len' xs bad 2)
  have hll := (takeF_length xs bad 2).2
  obtain ⟨t1, t2, t3, hT⟩ : ∃ t1 t2 t3, textF xs bad most = (t1, t2, t3) := ⟨_, _, _, rfl⟩
  rw [hT]
  unfold textF at hT
  obtain ⟨ys, zs, b1, hF⟩ : ∃ ys zs b1, takeF xs bad 2 = (ys, zs, b1) := ⟨_, _, _, rfl⟩
  rw [hF] at hn16 hT hll
  dsimp only at hn16 hT hll ⊢
  have HF := Lib.hid hF
  have HT := Lib.hid hT
  clear hF hT
  by_cases hb1 : b1 = true
  · have hT := HT.out
    rw [if_pos (.inl hb1)] at hT
    cases hT
    subst hb1
    go_enter Try.func27, Try.ntmps27
    go_wp2_with (go_at_call 23; refine (rchalf_any w g gb xs bad hC).mono ?_; rw [HF.out]; rintro e w1 ⟨rfl, hC1, hg1⟩; obtain ⟨A1, n1, c1, hB1, hR1, hnc1, hcc1, hgb1, hne1, h01, h11, f01, f11⟩ := hC1.open_; have FIN := Lib.hid (cut_back2 hB1 hR hnc hcc hgb hne hg1); have HC := Lib.hid (And.intro hC1 hg1); clear hC hB hR hgb hne h0 h1 f0 f1 hB1 hR1 hgb1 hne1 hC1 hg1)
    go_ret
    exact ⟨rfl, FIN.out⟩
  · obtain rfl : b1 = false := by simpa using hb1
    by_cases hm : most < (num ys : Int)
    · have hT := HT.out
      rw [if_pos (.inr (.inl hm))] at hT
      cases hT
      have hm' : decide (most < (num ys : Int)) = true := by simpa using hm
      go_enter Try.func27, Try.ntmps27
      go_wp2_with (go_at_call 23; refine (rchalf_any w g gb xs bad hC).mono ?_; rw [HF.out]; rintro e w1 ⟨rfl, hC1, hg1⟩; obtain ⟨A1, n1, c1, hB1, hR1, hnc1, hcc1, hgb1, hne1, h01, h11, f01, f11⟩ := hC1.open_; have FIN := Lib.hid (cut_back2 hB1 hR hnc hcc hgb hne hg1); have HC := Lib.hid (And.intro hC1 hg1); clear hC hB hR hgb hne h0 h1 f0 f1 hB1 hR1 hgb1 hne1 hC1 hg1)
      go_ret
      exact ⟨rfl, FIN.out⟩
    · have hm' : decide (most < (num ys : Int)) = false := by simpa using hm
      by_cases hz : zs.length < num ys
      · have hT := HT.out
        rw [if_pos (.inr (.inr hz))] at hT
        cases hT
        go_enter Try.func27, Try.ntmps27
        go_wp2_with (go_at_call 23; refine (rchalf_any w g gb xs bad hC).mono ?_; rw [HF.out]; rintro e w1 ⟨rfl, hC1, hg1⟩; obtain ⟨A1, n1, c1, hB1, hR1, hnc1, hcc1, hgb1, hne1, h01, h11, f01, f11⟩ := hC1.open_; have FIN := Lib.hid (cut_back2 hB1 hR hnc hcc hgb hne hg1); have HC := Lib.hid (And.intro hC1 hg1); have hl1 : zs.length = n1 := hR1.len; have hq := (show decide (n1 < num ys) = true by simp; omega); clear hl1 hC hB hR hgb hne h0 h1 f0 f1 hB1 hR1 hgb1 hne1 hC1 hg1)
        go_ret
        exact ⟨rfl, FIN.out⟩
      · have hT := HT.out
        rw [if_neg (by simp; omega)] at hT
        cases hT
        have hF2 := Lib.hid (takeF_ok (xs := zs) (k := num ys) (by omega))
        go_enter Try.func27, Try.ntmps27
        go_wp2_with (first | (go_at_call 29; refine (rcraw_any w1 g gb zs false _ HC.out.1 (by omega)).mono ?_; rw [hF2.out]; rintro e w2 ⟨A2, N2, c2, rfl, hO2, hC2, hg2⟩; have hcv := conv_str hO2.reads c2; have FIN2 := Lib.hid (And.intro hC2 (HC.out.2.trans hg2)); clear hO2 hC2 hg2) | (go_at_call 23; refine (rchalf_any w g gb xs bad hC).mono ?_; rw [HF.out]; rintro e w1 ⟨rfl, hC1, hg1⟩; obtain ⟨A1, n1, c1, hB1, hR1, hnc1, hcc1, hgb1, hne1, h01, h11, f01, f11⟩ := hC1.open_; have FIN := Lib.hid (cut_back2 hB1 hR hnc hcc hgb hne hg1); have HC := Lib.hid (And.intro hC1 hg1); have hl1 : zs.length = n1 := hR1.len; have hq := (show decide (n1 < num ys) = false by simp; omega); have hlz := (show n1 ≤ 140737488355328 by omega); clear hl1 hC hB hR hgb hne h0 h1 f0 f1 hB1 hR1 hgb1 hne1 hC1 hg1))
        go_ret
        exact ⟨rfl, FIN2.out⟩
set_option maxHeartbeats 400000 in
theorem put16_any (w : World) (A : Option Addr) (n c : Nat) (xs : List UInt8) (x : Nat) (hr : RB w A n xs) (hn : n ≤ 140737487000000) (_hx : x < 2 ^ 16) :
    Calls Try.prog 33 #[.slice A n c, .int .u16 x, .int .i64 2] w fun e w' => ∃ A' N' c', e = .returned (.slice A' N' c') ∧ OB 5 w' w.heap.size A' N' c' (xs ++ be 2 x) ∧ Below w.heap.size w w' := by
  have hxl := hr.len
  go_enter Try.func33, Try.ntmps33
  go_wp2_with (first | (go_at_call 34; refine (clone_any _ A n c xs hr (by omega)).mono ?_; rintro e w1 ⟨A1, c1, rfl, hO1, hb1⟩) | (go_at_call 38; refine (grow_any w1 w.heap.size A1 n c1 xs 2 hO1 hb1.size (by omega) (by omega) (by omega)).mono ?_; rintro e w2 ⟨A2, c2, rfl, hO2, hb2⟩))
  go_loopw [7, 8] (fun v i wr => ∃ (k : Nat) (A3 : Option Addr) (N3 c3 : Nat), k ≤ 2 ∧ i = .int .i64 (2 - 1 - (k : Int)) ∧ v = .slice A3 N3 c3 ∧ OB 5 wr w.heap.size A3 N3 c3 (xs ++ (be 2 x).take k) ∧ Below w.heap.size w wr) (fun _ i _ => (intOf i + 1).toNat)
  case atStart => exact ⟨0, A2, n, c2, by omega, rfl, rfl, by simpa using hO2, hb1.trans (hb2.mono hb1.size)⟩
  case round =>
    obtain ⟨k, A3, N3, c3, hk, rfl, rfl, hO3, hb3⟩ := hrel
    clear hO1 hb1 hO2 hb2
    have hN3 := hO3.len
    go_wp2_with (at_builtin; refine app_bytes rfl _ _ rfl w.heap.size _ _ _ (xs ++ (be 2 x).take k) rfl (hO3.alloc _) _ _ _ [UInt8.ofNat (x / 2 ^ (8 * (1 - k)))] rfl (RB.one_ _ _ (bv_be _ _)) (by simp [be_length] at hN3; omega) (by simp; exact Nat.le_succ_of_le hb3.size) ?_; intro A4 N4 c4 w4 hc4 hc4' hO4 hG4)
    · go_roundw
      case rel => exact ⟨k + 1, A4, N4, c4, by omega, by go_num, rfl, by rw [be_snoc 2 x k (by omega), ← List.append_assoc]; exact hO4, hG4.own (below_alloc2 hb3 (Nat.le_refl _) _) (Nat.le_refl _) (hO3.alloc _)⟩
      case measure => simp [intOf]; omega
    · go_ret
      exact ⟨A3, N3, c3, rfl, by rwa [List.take_of_length_le (by rw [be_length]; omega)] at hO3, hb3⟩

set_option maxHeartbeats 400000 in
theorem half_any (w : World) (A : Option Addr) (n c : Nat) (xs : List UInt8) (x : Nat) (hr : RB w A n xs) (hn : n ≤ 140737487000000) (hx : x < 2 ^ 16) :
    Calls Try.prog 14 #[.slice A n c, .int .u16 x] w fun e w' => ∃ A' N' c', e = .returned (.slice A' N' c') ∧ OB 5 w' w.heap.size A' N' c' (xs ++ be 2 x) ∧ Below w.heap.size w w' := by
  go_enter Try.func14, Try.ntmps14
  go_wp2_with (go_at_call 33; refine (put16_any _ A n c xs x hr hn hx).mono ?_; rintro e w1 ⟨A1, N1, c1, rfl, hO1, hb1⟩)
  go_ret
  exact ⟨A1, N1, c1, rfl, hO1, hb1⟩

set_option maxHeartbeats 400000 in
theorem rhalf_any (w : World) (A : Option Addr) (n c : Nat) (xs : List UInt8) (x : Nat) (hr : RB w A n xs) (hn : n ≤ 140737487000000) (hx : x < 2 ^ 16) :
    Calls Try.prog 15 #[.slice A n c, .int .u16 x] w fun e w' => ∃ A' N' c', e = .returned (.slice A' N' c') ∧ OB 5 w' w.heap.size A' N' c' (xs ++ be 2 x) ∧ Below w.heap.size w w' := by
  go_enter Try.func15, Try.ntmps15
  go_wp2_with (go_at_call 32; refine (rput_any _ A n c xs x 2 hr hn (by omega) (by omega)).mono ?_; rintro e w1 ⟨A1, N1, c1, rfl, hO1, hb1⟩)
  go_ret
  exact ⟨A1, N1, c1, rfl, hO1, hb1⟩

/-- A text as bytes: how many, and they. -/
def textB (s : ByteArray) : List UInt8 := be 2 s.size ++ s.data.toList
set_option maxHeartbeats 400000 in
theorem text_any (w : World) (A : Option Addr) (n c : Nat) (xs : List UInt8) (s : ByteArray) (hr : RB w A n xs) (hn : n ≤ 140737480000000) (hs : s.size ≤ 65535) :
    Calls Try.prog 10 #[.slice A n c, .string s] w fun e w' => ∃ A' N' c', e = .returned (.tuple #[.slice A' N' c', .int .i64 0]) ∧ OB 5 w' w.heap.size A' N' c' (xs ++ textB s) ∧ Below w.heap.size w w' := by
  have hl := hr.len
  have hd : decide ((65536 : Int) ≤ (s.size : Int)) = false := by simp; omega
  have HS := Lib.hid hs
  have HW := Lib.hid (IntWalk.u16_in (s.size : Int) ⟨by omega, by omega⟩)
  clear hs
  go_enter Try.func10, Try.ntmps10
  go_wp2_with (first | (go_at_call 14; rw [HW.out]; refine (half_any w A n c xs s.size hr (by omega) (by have := HS.out; omega)).mono ?_; rintro e w1 ⟨A1, N1, c1, rfl, hO1, hb1⟩) | (at_builtin; refine app_str rfl _ _ rfl w.heap.size _ _ _ _ rfl hO1 _ rfl (by have h1 := hO1.len; simp [be_length] at h1; have h2 := HS.out; omega) hb1.size ?_; intro A2 N2 c2 w2 hc2 hc3 hO2 hg2))
  go_ret2
  exact ⟨A2, N2, c2, rfl, by simpa [textB] using hO2, hb1.grown hg2 hb1.size (fun g hg => (hO1.ge g hg).1)⟩
set_option maxHeartbeats 400000 in
theorem rtext_any (w : World) (A : Option Addr) (n c : Nat) (xs : List UInt8) (s : ByteArray) (hr : RB w A n xs) (hn : n ≤ 140737480000000) (hs : s.size ≤ 65535) :
    Calls Try.prog 11 #[.slice A n c, .string s] w fun e w' => ∃ A' N' c', e = .returned (.tuple #[.slice A' N' c', .int .i64 0]) ∧ OB 5 w' w.heap.size A' N' c' (xs ++ textB s) ∧ Below w.heap.size w w' := by
  have hl := hr.len
  have hd : decide ((65535 : Int) < (s.size : Int)) = false := by simp; omega
  have HS := Lib.hid hs
  have HW := Lib.hid (IntWalk.u16_in (s.size : Int) ⟨by omega, by omega⟩)
  clear hs
  go_enter Try.func11, Try.ntmps11
  go_wp2_with (first | (go_at_call 15; rw [HW.out]; refine (rhalf_any w A n c xs s.size hr (by omega) (by have := HS.out; omega)).mono ?_; rintro e w1 ⟨A1, N1, c1, rfl, hO1, hb1⟩) | (at_builtin; refine app_str rfl _ _ rfl w.heap.size _ _ _ _ rfl hO1 _ rfl (by have h1 := hO1.len; simp [be_length] at h1; have h2 := HS.out; omega) hb1.size ?_; intro A2 N2 c2 w2 hc2 hc3 hO2 hg2))
  go_ret2
  exact ⟨A2, N2, c2, rfl, by simpa [textB] using hO2, hb1.grown hg2 hb1.size (fun g hg => (hO1.ge g hg).1)⟩
set_option maxHeartbeats 400000 in
set_option maxRecDepth 100000 in
theorem text_long (w : World) (A : Option Addr) (n c : Nat) (s : ByteArray) (hs : 65535 < s.size) :
    Calls Try.prog 10 #[.slice A n c, .string s] w fun e w' => e = .returned (.tuple #[.slice none 0 0, .int .i64 6]) ∧ w = w' := by
  have hd : decide ((65536 : Int) ≤ (s.size : Int)) = true := by simp; omega
  clear hs
  go_enter Try.func10, Try.ntmps10
  go_wp2_with fail
  go_ret2
  exact ⟨rfl, rfl⟩
set_option maxHeartbeats 400000 in
set_option maxRecDepth 100000 in
theorem rtext_long (w : World) (A : Option Addr) (n c : Nat) (s : ByteArray) (hs : 65535 < s.size) :
    Calls Try.prog 11 #[.slice A n c, .string s] w fun e w' => e = .returned (.tuple #[.slice none 0 0, .int .i64 6]) ∧ w = w' := by
  have hd : decide ((65535 : Int) < (s.size : Int)) = true := by simp; omega
  clear hs
  go_enter Try.func11, Try.ntmps11
  go_wp2_with fail
  go_ret2
  exact ⟨rfl, rfl⟩

end Go.Proofs.Ytohfgplaocgadaa
