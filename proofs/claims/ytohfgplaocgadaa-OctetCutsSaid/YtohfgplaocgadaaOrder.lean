/- octet: words and halves stand in the order of their numbers. -/
import Derived.Test.YtohfgplaocgadaaOctLaw
import Derived.Deep.QuietTactic
import Derived.BigQuiet
namespace Go.Proofs.Ytohfgplaocgadaa
open Go.RowKit Go.Rat
theorem ret_bool {a b : Bool} (h : a = b) : Ending.returned (.bool a) = .returned (.bool b) := by rw [h]
/-- Does one text stand ahead of another, byte by byte? -/
def lessF : List UInt8 → List UInt8 → Bool
  | [], ys => decide (0 < ys.length)
  | _ :: _, [] => false
  | x :: xs, y :: ys => if x = y then lessF xs ys else decide (x.toNat < y.toNat)
theorem less_step {xs ys : List UInt8} {k : Nat} (h1 : k < xs.length) (h2 : k < ys.length) :
    lessF (xs.drop k) (ys.drop k) = if xs.getD k 0 = ys.getD k 0 then lessF (xs.drop (k + 1)) (ys.drop (k + 1)) else decide ((xs.getD k 0).toNat < (ys.getD k 0).toNat) := by
  rw [List.drop_eq_getElem_cons h1, List.drop_eq_getElem_cons h2, lessF, List.getD_eq_getElem?_getD, List.getD_eq_getElem?_getD, List.getElem?_eq_getElem h1, List.getElem?_eq_getElem h2]
  rfl
theorem less_end {xs ys : List UInt8} {k : Nat} (h1 : xs.length = k) : lessF (xs.drop k) (ys.drop k) = decide (k < ys.length) := by
  rw [List.drop_of_length_le (by omega), lessF, Bool.eq_iff_iff]
  simp
  omega
theorem less_end2 {xs ys : List UInt8} {k : Nat} (h1 : k < xs.length) (h2 : ys.length = k) : lessF (xs.drop k) (ys.drop k) = false := by
  rw [List.drop_of_length_le (l := ys) (by omega), List.drop_eq_getElem_cons h1, lessF]
set_option maxHeartbeats 400000 in
theorem less_any (w : World) (A B : Option Addr) (n m c d : Nat) (xs ys : List UInt8) (hx : RB w A n xs) (hy : RB w B m ys) (hn : n ≤ 140737488355328) (hm : m ≤ 140737488355328) :
    Calls Try.prog 16 #[.slice A n c, .slice B m d] w fun e w' => e = .returned (.bool (lessF xs ys)) ∧ ∃ k, w' = w.drewN k := by
  have hxl := hx.len
  have hyl := hy.len
  obtain ⟨t, hT⟩ : ∃ t, lessF xs ys = t := ⟨_, rfl⟩
  rw [hT]
  have HT := Lib.hid hT
  clear hT
  go_enter Try.func16, Try.ntmps16
  go_wp2_with fail
  go_loopw [5] (fun i wr => ∃ k q : Nat, k ≤ n ∧ k ≤ m ∧ i = .int .i64 k ∧ wr = w.drewN q ∧ lessF (xs.drop k) (ys.drop k) = t) (fun i _ => n - (intOf i).toNat)
  case atStart => exact ⟨0, 0, by omega, by omega, rfl, rfl, HT.out⟩
  case round =>
    obtain ⟨k, q, hkn, hkm, rfl, rfl, hT⟩ := hrel
    have HT' := Lib.hid hT
    clear HT hT
    by_cases h1 : k < n
    · by_cases h2 : k < m
      · obtain ⟨ad, rfl, hb, hc⟩ := hx.at_ h1
        obtain ⟨bd, rfl, hb2, hc2⟩ := hy.at_ h2
        obtain ⟨x, hxk⟩ : ∃ x, xs.getD k 0 = x := ⟨_, rfl⟩
        obtain ⟨y, hyk⟩ : ∃ y, ys.getD k 0 = y := ⟨_, rfl⟩
        rw [hxk] at hc
        rw [hyk] at hc2
        have hs := less_step (xs := xs) (ys := ys) (k := k) (by omega) (by omega)
        rw [hxk, hyk, HT'.out] at hs
        have HS := Lib.hid hs
        clear hs hxk hyk
        have g1 : (0 : Int) ≤ (k : Int) := by omega
        have g2 : (k : Int) < (n : Int) := by omega
        have g3 : (k : Int) < (m : Int) := by omega
        by_cases hxy : x = y
        · have hq : ((x.toNat : Int) != (y.toNat : Int)) = false := by rw [hxy]; simp
          have hs := HS.out
          rw [if_pos hxy] at hs
          have HS2 := Lib.hid hs
          clear hs hxy
          go_wp2_with fail
          go_quiet (fail)
          go_wp2_with fail
          exact ⟨⟨k + 1, q + nq, by omega, by omega, by go_num, rfl, HS2.out.symm⟩, by simp [intOf]; omega⟩
        · have hq : ((x.toNat : Int) != (y.toNat : Int)) = true := by
            rw [bne_iff_ne]
            intro h
            exact hxy (UInt8.toNat_inj.1 (by omega))
          have hs := HS.out
          rw [if_neg hxy] at hs
          have HS2 := Lib.hid hs
          clear hs hxy
          go_wp2_with fail
          go_quiet (fail)
          go_wp2_with fail
          go_quiet (fail)
          go_wp2_with fail
          go_ret
          exact ⟨ret_bool HS2.out.symm, _, by rw [World.drewN_drewN, World.drewN_drewN]⟩
      · obtain rfl : k = m := by omega
        have hs := less_end2 (xs := xs) (ys := ys) (k := k) (by omega) (by omega)
        rw [HT'.out] at hs
        have HS := Lib.hid hs
        clear hs
        go_wp2_with fail
        go_ret
        exact ⟨ret_bool (by rw [HS.out]; simp; omega), _, rfl⟩
    · obtain rfl : k = n := by omega
      have hs := less_end (xs := xs) (ys := ys) (k := k) (by omega)
      rw [HT'.out] at hs
      have HS := Lib.hid hs
      clear hs
      go_wp2_with fail
      go_ret
      exact ⟨ret_bool (by rw [HS.out, hyl]), _, rfl⟩

theorem be_succ (n a : Nat) : be (n + 1) a = UInt8.ofNat (a / 2 ^ (8 * n)) :: be n a := by
  unfold be
  rw [List.range_succ_eq_map, List.map_cons, List.map_map]
  congr 1
  refine List.map_congr_left fun j hj => ?_
  simp only [Function.comp, List.mem_range] at hj ⊢
  rw [show n + 1 - 1 - (j + 1) = n - 1 - j by omega]
theorem num_cons (x : UInt8) (xs : List UInt8) : num (x :: xs) = x.toNat * 256 ^ xs.length + num xs := by
  unfold num
  rw [List.foldl_cons]
  suffices H : ∀ (ys : List UInt8) (a : Nat), ys.foldl (fun n b => n * 256 + b.toNat) a = a * 256 ^ ys.length + ys.foldl (fun n b => n * 256 + b.toNat) 0 by rw [H]; simp
  intro ys
  induction ys with
  | nil => intro a; simp
  | cons y ys ih =>
    intro a
    rw [List.foldl_cons, List.foldl_cons, ih, ih (0 * 256 + y.toNat), List.length_cons, Nat.pow_succ, Nat.zero_mul, Nat.zero_add, Nat.add_mul, Nat.mul_assoc, Nat.mul_comm 256, Nat.add_assoc]
theorem pow256 (n : Nat) : 2 ^ (8 * n) = 256 ^ n := by rw [Nat.pow_mul]
/-- A number's bytes are that number. -/
theorem num_be (n a : Nat) : num (be n a) = a % 256 ^ n := by
  induction n with
  | zero => simp [be, num, Nat.mod_one]
  | succ n ih =>
    have h := Nat.mod_mul (a := 256 ^ n) (b := 256) (x := a)
    rw [← Nat.pow_succ] at h
    rw [be_succ, num_cons, be_length, ih, UInt8.toNat_ofNat', pow256, h, show (2 : Nat) ^ 8 = 256 from rfl, Nat.mul_comm (256 ^ n)]
    omega
theorem lessF_be (n a b : Nat) : lessF (be n a) (be n b) = decide (a % 256 ^ n < b % 256 ^ n) := by
  induction n with
  | zero => simp [be, lessF, Nat.mod_one]
  | succ n ih =>
    have h1 := num_be (n + 1) a
    have h2 := num_be (n + 1) b
    rw [be_succ, num_cons, be_length, num_be] at h1 h2
    have p := Nat.pow_pos (n := n) (show 0 < 256 by omega)
    have l1 := Nat.mod_lt a p
    have l2 := Nat.mod_lt b p
    rw [be_succ, be_succ, lessF, ih, ← h1, ← h2]
    split
    · rename_i h
      rw [h, Bool.eq_iff_iff]
      simp
    · rename_i h
      have hne : (UInt8.ofNat (a / 2 ^ (8 * n))).toNat ≠ (UInt8.ofNat (b / 2 ^ (8 * n))).toNat := fun e => h (UInt8.toNat_inj.1 e)
      generalize (UInt8.ofNat (a / 2 ^ (8 * n))).toNat = x at *
      generalize (UInt8.ofNat (b / 2 ^ (8 * n))).toNat = y at *
      rw [Bool.eq_iff_iff]
      simp only [decide_eq_true_eq]
      rcases Nat.lt_or_ge x y with hlt | hge
      · refine iff_of_true hlt ?_
        have := Nat.mul_le_mul_right (256 ^ n) (show x + 1 ≤ y by omega)
        rw [Nat.add_mul] at this
        omega
      · refine iff_of_false (by omega) ?_
        have := Nat.mul_le_mul_right (256 ^ n) (show y + 1 ≤ x by omega)
        rw [Nat.add_mul] at this
        omega
theorem be_eq (n a b : Nat) (ha : a < 256 ^ n) (hb : b < 256 ^ n) : ((bstr (be n a)).toList == (bstr (be n b)).toList) = ((a : Int) == (b : Int)) := by
  rw [str_beq, nat_beq]
  congr 1
  refine propext ⟨fun h => ?_, fun h => by rw [h]⟩
  have := congrArg num (bstr_inj h)
  rwa [num_be, num_be, Nat.mod_eq_of_lt ha, Nat.mod_eq_of_lt hb] at this
set_option maxHeartbeats 400000 in
theorem octetOrder_walk (w : World) (a b : UInt64) (c d : UInt16) :
    Calls Try.prog 4 #[.int .u64 (a.toNat : Int), .int .u64 (b.toNat : Int), .int .u16 (c.toNat : Int), .int .u16 (d.toNat : Int)] w fun e w' => e = .returned (.bool true) ∧ Below w.heap.size w w' := by
  have ha := a.toNat_lt
  have hb := b.toNat_lt
  have hc := c.toNat_lt
  have hd := d.toNat_lt
  generalize a.toNat = a at *
  generalize b.toNat = b at *
  generalize c.toNat = c at *
  generalize d.toNat = d at *
  have e1 := be_eq 8 a b (by omega) (by omega)
  have e2 := be_eq 2 c d (by omega) (by omega)
  obtain ⟨sa, hsa⟩ : ∃ s, bstr (be 8 a) = s := ⟨_, rfl⟩
  obtain ⟨sb, hsb⟩ : ∃ s, bstr (be 8 b) = s := ⟨_, rfl⟩
  obtain ⟨sc, hsc⟩ : ∃ s, bstr (be 2 c) = s := ⟨_, rfl⟩
  obtain ⟨sd, hsd⟩ : ∃ s, bstr (be 2 d) = s := ⟨_, rfl⟩
  rw [hsa, hsb] at e1
  rw [hsc, hsd] at e2
  have Hsa := Lib.hid hsa
  have Hsb := Lib.hid hsb
  have Hsc := Lib.hid hsc
  have Hsd := Lib.hid hsd
  have L1 := Lib.hid (lessF_be 8 a b)
  have L2 := Lib.hid (lessF_be 8 b a)
  have L3 := Lib.hid (lessF_be 2 c d)
  clear hsa hsb hsc hsd
  go_enter Try.func4, Try.ntmps4
  go_wp2_with fail
  refine (word_any w none 0 0 [] a (RB.nil_ _ _) (by omega) ha).mono ?_
  rintro e w1 ⟨A1, N1, c1, rfl, hO1, hb1⟩
  go_wp2_with fail
  refine (word_any w1 none 0 0 [] b (RB.nil_ _ _) (by omega) hb).mono ?_
  rintro e w2 ⟨A2, N2, c2, rfl, hO2, hb2⟩
  go_wp2_with fail
  refine (half_any w2 none 0 0 [] c (RB.nil_ _ _) (by omega) hc).mono ?_
  rintro e w3 ⟨A3, N3, c3, rfl, hO3, hb3⟩
  go_wp2_with fail
  refine (half_any w3 none 0 0 [] d (RB.nil_ _ _) (by omega) hd).mono ?_
  rintro e w4 ⟨A4, N4, c4, rfl, hO4, hb4⟩
  rw [List.nil_append] at hO1 hO2 hO3 hO4
  have hr4 := hO4.reads
  have hr3 := hO3.reads.below hb4
  have hr2 := (hO2.reads.below hb3).below hb4
  have hr1 := ((hO1.reads.below hb2).below hb3).below hb4
  have hB : Below w.heap.size w w4 := ((hb1.trans (hb2.mono hb1.size)).trans (hb3.mono (Nat.le_trans hb1.size hb2.size))).trans (hb4.mono (Nat.le_trans hb1.size (Nat.le_trans hb2.size hb3.size)))
  have l1 := hr1.len
  have l2 := hr2.len
  have l3 := hr3.len
  have l4 := hr4.len
  rw [be_length] at l1 l2 l3 l4
  have v1 := fun k => conv_str (w := w4.drewN k) (by exact hr1) c1
  have v2 := fun k => conv_str (w := w4.drewN k) (by exact hr2) c2
  have v3 := fun k => conv_str (w := w4.drewN k) (by exact hr3) c3
  have v4 := fun k => conv_str (w := w4.drewN k) (by exact hr4) c4
  rw [Hsa.out] at v1
  rw [Hsb.out] at v2
  rw [Hsc.out] at v3
  rw [Hsd.out] at v4
  clear hO1 hO2 hO3 hO4 hb1 hb2 hb3 hb4 Hsa Hsb Hsc Hsd
  subst l1 l2 l3 l4
  go_wp2_with fail
  refine (less_any w4 A1 A2 8 8 c1 c2 _ _ hr1 hr2 (by omega) (by omega)).mono ?_
  rintro e w5 ⟨rfl, q1, rfl⟩
  rw [L1.out, Nat.mod_eq_of_lt (show a < 256 ^ 8 by omega), Nat.mod_eq_of_lt (show b < 256 ^ 8 by omega)]
  go_wp2_with fail
  refine (less_any (w4.drewN q1) A2 A1 8 8 c2 c1 _ _ (by exact hr2) (by exact hr1) (by omega) (by omega)).mono ?_
  rintro e w5 ⟨rfl, q2, rfl⟩
  rw [L2.out, Nat.mod_eq_of_lt (show a < 256 ^ 8 by omega), Nat.mod_eq_of_lt (show b < 256 ^ 8 by omega), World.drewN_drewN]
  go_wp2_with fail
  refine (less_any (w4.drewN (q1 + q2)) A3 A4 2 2 c3 c4 _ _ (by exact hr3) (by exact hr4) (by omega) (by omega)).mono ?_
  rintro e w5 ⟨rfl, q3, rfl⟩
  rw [L3.out, Nat.mod_eq_of_lt (show c < 256 ^ 2 by omega), Nat.mod_eq_of_lt (show d < 256 ^ 2 by omega), World.drewN_drewN]
  go_wp2_with fail
  refine (works_any _).mono ?_
  rintro e w6 ⟨rfl, hb6⟩
  go_wp2_with fail
  go_ret
  exact ⟨rfl, (below_drewN hB _).trans (hb6.mono (by simpa using hB.size))⟩
end Go.Proofs.Ytohfgplaocgadaa
