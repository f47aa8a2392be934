/- cell: count, what is not nought, may. -/
import Derived.Test.YtmjdfajdompkeaaSy
namespace Go.Proofs.Ytmjdfajdompkeaa
open Go.RowKit Go.Rat
set_option maxHeartbeats 1000000 in
theorem ccount_any (w : World) (s : List UInt8) (hs : s.length = 128) :
    Calls Try.prog 83 #[.agg (bvs s).toArray] w fun e w' => e = .returned (.int .u64 (cntB s : Int)) ∧ Below w.heap.size w w' := by
  have hB := Blk.new w 28 (bvs s).toArray
  have hb1 := below_alloc w (.cells (bvs s).toArray 28)
  have htk : takeF (s.take 8) false 8 = (s.take 8, [], false) := by
    have h8 : (s.take 8).length ≤ 8 := by rw [List.length_take]; omega
    refine (takeF_ok (xs := s.take 8) (k := 8) (by rw [List.length_take]; omega)).trans ?_
    rw [List.take_of_length_le (l := s.take 8) h8, List.drop_of_length_le (l := s.take 8) h8]
  have hR := Blk.reads hB (s.take 8) (by simp only [bvs, List.map_take, List.length_take]; rw [hs]; rfl)
  have hl8 : (s.take 8).length = 8 := by rw [List.length_take]; omega
  rw [hl8] at hR
  have hbs : (bvs s).toArray.size = 128 := by rw [bvs_size, hs]
  have HTK := Lib.hid htk
  clear htk
  obtain ⟨Z, hZ⟩ : ∃ Z, (bvs s).toArray = Z := ⟨_, rfl⟩
  rw [hZ] at hB hb1 hR hbs ⊢
  go_enter Try.func83, Try.ntmps83
  go_upto_region 1 with (fail)
  obtain ⟨w1, hw1⟩ : ∃ x, w.alloc (.cells Z 28) = x := ⟨_, rfl⟩
  rw [hw1] at hB hb1 hR ⊢
  clear hw1 hZ
  go_wp2_with fail
  refine (cnew_any w1 _ 8 128 (s.take 8) hR (by omega)).mono ?_
  rintro e w2 ⟨g, gb, rfl, hC, hg1, hg2, hg3, hb2⟩
  simp only []
  go_wp2_with fail
  refine (cword_any w2 g gb _ false hC).mono ?_
  rw [HTK.out]
  rintro e w3 ⟨rfl, hC3, hg4⟩
  simp only []
  have hb3 : Below w1.heap.size w1 w3 := hb2.grown hg4 hb2.size (fun q hq => by cases hq; exact hg1)
  clear hC hC3 hg4 hb2 hg3 hB hR
  go_wp2_with fail
  go_ret
  exact ⟨rfl, hb1.trans (hb3.mono hb1.size)⟩
def anyB (xs : List UInt8) : Bool := xs.any (· != 0)
theorem anyB_take (xs : List UInt8) {k : Nat} (hk : k < xs.length) (h : anyB (xs.take k) = false) : anyB (xs.take (k + 1)) = (xs.getD k 0 != 0) := by
  rw [List.take_add_one, List.getElem?_eq_getElem hk, anyB, List.any_append]
  unfold anyB at h
  rw [h, List.getD_eq_getElem?_getD, List.getElem?_eq_getElem hk]
  simp
theorem anyB_pre (xs : List UInt8) {k : Nat} (h : anyB (xs.take k) = true) : anyB xs = true := by
  unfold anyB at *
  rw [List.any_eq_true] at *
  obtain ⟨x, hx, h1⟩ := h
  exact ⟨x, List.mem_of_mem_take hx, h1⟩
theorem nz_any (w : World) (c : UInt8) : Calls Try.prog 90 #[.int .u8 (c.toNat : Int)] w fun e w' => e = .returned (.bool (c != 0)) ∧ w = w' := by
  have h : ((c.toNat : Int) != 0) = (c != 0) := by
    by_cases e : c = 0
    · subst e; rfl
    · have : c.toNat ≠ 0 := fun h => e (UInt8.toNat_inj.1 h)
      have h1 : ((c.toNat : Int) != 0) = true := by simp; omega
      rw [h1]; simp [e]
  have H := Lib.hid h
  clear h
  go_enter Try.func90, Try.ntmps90
  go_wp2_with fail
  go_ret
  exact ⟨congrArg (fun b => Ending.returned (.bool b)) H.out, rfl⟩
set_option maxHeartbeats 1000000 in
theorem indexFunc_any (w : World) (A : Option Addr) (n c : Nat) (xs : List UInt8) (hr : RB w A n xs) (hn : n ≤ 100000) :
    Calls Try.prog 103 #[.slice A n c, .func (.func 90) #[] #[]] w fun e w' => (∃ i : Int, e = .returned (.int .i64 i) ∧ (anyB xs = true ∧ 0 ≤ i ∨ anyB xs = false ∧ i = -1)) ∧ w = w' := by
  have hl := hr.len
  go_enter Try.func103, Try.ntmps103
  go_wp2_with fail
  go_loop [8] (fun i => ∃ k : Nat, k ≤ n ∧ i = .int .i64 (k : Int) ∧ anyB (xs.take k) = false) (fun i => n - (intOf i).toNat)
  case atStart => exact ⟨0, Nat.zero_le _, rfl, by simp [anyB]⟩
  case round =>
    obtain ⟨k, hk, rfl, hz⟩ := hrel
    have HZ := Lib.hid hz
    clear hz
    by_cases hkn : k < n
    · obtain ⟨ad, rfl, hadl, hc⟩ := hr.at_ hkn
      have hstep := anyB_take xs (k := k) (by omega) HZ.out
      have hb := (xs.getD k 0).toNat_lt
      obtain ⟨x, hx⟩ : ∃ x, xs.getD k 0 = x := ⟨_, rfl⟩
      rw [hx] at hc hstep
      clear hx
      have HST := Lib.hid hstep
      have g1 : (k : Int) < (n : Int) := by omega
      have g0 : (0 : Int) ≤ (k : Int) := by omega
      clear hstep hl
      obtain ⟨v, hv⟩ : ∃ v, (x != 0) = v := ⟨_, rfl⟩
      rw [hv] at HST
      have HV := Lib.hid hv
      clear hv
      cases v
      · go_wp2_with (refine (nz_any _ x).mono ?_; rw [HV.out]; rintro e w2 ⟨rfl, rfl⟩; simp only [])
        go_round
        case rel => exact ⟨k + 1, by omega, by go_num, HST.out⟩
        case measure => simp [intOf]; omega
      · go_wp2_with (refine (nz_any _ x).mono ?_; rw [HV.out]; rintro e w2 ⟨rfl, rfl⟩; simp only [])
        go_ret
        exact ⟨⟨_, rfl, .inl ⟨anyB_pre xs HST.out, g0⟩⟩, rfl⟩
    · obtain rfl : k = n := by omega
      have g1 : ¬ (k : Int) < (k : Int) := by omega
      have HL := Lib.hid hl
      clear hl
      go_wp2_with fail
      go_ret
      exact ⟨⟨_, rfl, .inr ⟨by have := HZ.out; rwa [List.take_of_length_le (by rw [HL.out]; exact Nat.le_refl _)] at this, rfl⟩⟩, rfl⟩
theorem contains_any (w : World) (A : Option Addr) (n c : Nat) (xs : List UInt8) (hr : RB w A n xs) (hn : n ≤ 100000) :
    Calls Try.prog 89 #[.slice A n c, .func (.func 90) #[] #[]] w fun e w' => e = .returned (.bool (anyB xs)) ∧ w = w' := by
  obtain ⟨v, hv⟩ : ∃ v, anyB xs = v := ⟨_, rfl⟩
  have HV := Lib.hid hv
  clear hv
  go_enter Try.func89, Try.ntmps89
  go_wp2_with fail
  refine (indexFunc_any w A n c xs hr hn).mono ?_
  rintro e w2 ⟨⟨i, rfl, h⟩, rfl⟩
  rw [HV.out] at h
  simp only []
  rcases h with ⟨rfl, h⟩ | ⟨rfl, rfl⟩
  · go_wp2_with fail
    go_ret
    exact ⟨congrArg (fun b => Ending.returned (.bool b)) HV.out.symm, rfl⟩
  · go_wp2_with fail
    go_ret
    exact ⟨congrArg (fun b => Ending.returned (.bool b)) HV.out.symm, rfl⟩
theorem may_any (w : World) (g : Nat) (p : Int) : Calls Try.prog 62 #[.agg #[.pointer (some ⟨g, 0, none⟩), .int .i64 p]] w fun e w' => e = .returned (.int .i64 (mayE p)) ∧ Below w.heap.size w w' := by
  by_cases h : 0 ≤ p ∧ p ≤ 32748
  · have hm : mayE p = 0 := if_pos h
    obtain ⟨h1, h2⟩ := h
    have h1' : ¬ p < 0 := by omega
    have h2' : ¬ 32748 < p := by omega
    have H := Lib.hid hm
    clear hm
    go_enter Try.func62, Try.ntmps62
    go_wp2_with fail
    go_ret
    exact ⟨congrArg (fun i => Ending.returned (.int .i64 i)) H.out.symm, below_alloc _ _⟩
  · have hm : mayE p = 1 := if_neg h
    have H := Lib.hid hm
    clear hm
    by_cases h1 : p < 0
    · clear h
      go_enter Try.func62, Try.ntmps62
      go_wp2_with fail
      go_ret
      exact ⟨congrArg (fun i => Ending.returned (.int .i64 i)) H.out.symm, below_alloc _ _⟩
    · have h2 : 32748 < p := by omega
      have h3 : 0 ≤ p := by omega
      clear h
      go_enter Try.func62, Try.ntmps62
      go_wp2_with fail
      go_ret
      exact ⟨congrArg (fun i => Ending.returned (.int .i64 i)) H.out.symm, below_alloc _ _⟩
theorem may_nil (w : World) (p : Int) : Calls Try.prog 62 #[.agg #[.pointer none, .int .i64 p]] w fun e w' => e = .returned (.int .i64 2) ∧ Below w.heap.size w w' := by
  go_enter Try.func62, Try.ntmps62
  go_wp2_with fail
  go_ret
  exact ⟨rfl, below_alloc _ _⟩
end Go.Proofs.Ytmjdfajdompkeaa
