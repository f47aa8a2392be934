/- The law TagNoughts, walked. -/
import Derived.Test.YtohfgplaocgadaaDoorTothers
namespace Go.Proofs.YtohfgplaocgadaaDoor
open Go.RowKit Go.Rat
theorem keyF_short (n : Nat) (tb : List Int) (xs : List UInt8) (h : xs.length ≤ 64) : keyF n tb xs = xs := by rw [keyF, if_neg (by omega)]
theorem padK_more (ks : List UInt8) (j : Nat) (h : ks.length + j ≤ 64) : padK (ks ++ List.replicate j 0) = padK ks := by
  rw [padK, padK, List.append_assoc, List.length_append, List.length_replicate, List.replicate_append_replicate]
  congr 2
  omega
theorem ofF_noughts (n : Nat) (tb : List Int) (key b : List UInt8) (j : Nat) (h : (keyF n tb key).length + j ≤ 64) : ofF n tb (keyF n tb key ++ List.replicate j 0) b = ofF n tb key b := by
  have ht : ∀ y, turnF n tb (keyF n tb key ++ List.replicate j 0) y = turnF n tb key y := fun y => by
    rw [turnF, turnF, keyF_short n tb (keyF n tb key ++ List.replicate j 0) (by rw [List.length_append, List.length_replicate]; omega), padK_more _ _ h]
  rw [ofF, ofF, ht, ht]
set_option maxRecDepth 8000 in
set_option maxHeartbeats 4000000 in
theorem tagNoughts_any (n : Nat) (hn64 : n = 64) (w : World) (tb : List Int) (htb : tblL = tb) (hT : Tab w tb) (A : Option Addr) (m c : Nat) (key : List UInt8) (hr : RB w A m key) (hmc : m ≤ c) (hm : m ≤ 140737488351232)
    (A' : Option Addr) (m' c' : Nat) (b : List UInt8) (hr' : RB w A' m' b) (hmc' : m' ≤ c') (hm' : m' ≤ 140737488351232) (many : UInt8) :
    Calls Tryd.prog 6 #[.slice A m c, .slice A' m' c', .int .u8 (many.toNat : Int)] w fun e w' => e = .returned (.bool true) ∧ Below w.heap.size w w' := by
  have HN := Lib.hid hn64
  have HTB := Lib.hid htb
  clear hn64 htb
  have hl := hr.len
  have hl' := hr'.len
  have h0 := Below.refl w.heap.size w
  obtain ⟨M, hM⟩ : ∃ M, many.toNat = M := ⟨_, rfl⟩
  have hM1 : M < 256 := by have := many.toNat_lt; omega
  rw [hM]
  clear hM
  go_enter Tryd.func6, Tryd.ntmps6
  by_cases hbig : 200 < m
  · have hbi : (200 : Int) < (m : Int) := by omega
    go_wp2_with (go_at_call 17; refine (works3_any n HN.out w tb HTB.out hT).mono ?_; rintro e w2 ⟨rfl, hb2⟩)
    go_ret
    exact ⟨rfl, hb2⟩
  have hbi : ¬ (200 : Int) < (m : Int) := by omega
  by_cases hbig' : 1024 < m'
  · have hbi' : (1024 : Int) < (m' : Int) := by omega
    go_wp2_with (go_at_call 17; refine (works3_any n HN.out w tb HTB.out hT).mono ?_; rintro e w2 ⟨rfl, hb2⟩)
    go_ret
    exact ⟨rfl, hb2⟩
  have hbi' : ¬ (1024 : Int) < (m' : Int) := by omega
  have hof : ∀ j, (keyF n tb key).length + j ≤ 64 → ofF n tb (keyF n tb key ++ List.replicate j 0) b = ofF n tb key b := ofF_noughts n tb key b
  have hFl := ofF_length n tb key b
  have hkl := keyF_le n tb key
  obtain ⟨ks, hks⟩ : ∃ ks, keyF n tb key = ks := ⟨_, rfl⟩
  obtain ⟨F, hF⟩ : ∃ F, ofF n tb key b = F := ⟨_, rfl⟩
  rw [hks] at hof hkl
  rw [hF] at hof hFl
  have keq := keq32 F hFl
  have HF := Lib.hid hF
  have HOF := Lib.hid hof
  clear hF hof hFl
  have hO0 := OB.empty w 5
  have hb0 := below_alloc w (.cells #[] 5)
  have hr0 := hr.alloc (.cells #[] 5)
  by_cases hbk : 64 < m
  focus
    have hkd : digest n tb key = ks := by rw [← hks, keyF, if_pos (by omega)]
    have hkl32 : ks.length = 32 := by rw [← hkd, digest_length]
    have hd32 : (bvs ks).toArray.size = 32 := by rw [bvs_size, hkl32]
    have HKD := Lib.hid hkd
    clear hks hkd
    have hbi2 : (64 : Int) < (m : Int) := by omega
    go_wp2_with (at_builtin; refine app_bytes rfl _ _ rfl w.heap.size _ _ _ [] rfl hO0 _ _ _ key rfl hr0 (by omega) (by simp) ?_; intro A2 N2 c2 w2 hc2 hc3 hO2 hG2; rw [List.nil_append] at hO2; obtain rfl : m = N2 := (hO2.len.symm.trans hl).symm; have hb2 := hG2.own hb0 (Nat.le_refl _) hO0; have hr2 := hO2.reads; have hT2 := Tab.below hT hb2)
    repeat (first
      | (go_at_call 14; refine (sum_any n HN.out w2 A2 _ c2 key tb hT2 hr2 hc2 (by omega)).mono ?_; rw [HKD.out]; rintro e w3 ⟨rfl, hb3⟩; simp only []; have hbb3 := hb2.trans (hb3.mono hb2.size))
      | ((with_reducible refine wpl_store_fresh (bvs ks).toArray i32x8 ?_ hd32 (bvs_all _) ?_ ?_ ?_); (focus kernel_rfl); (focus rfl); (focus rfl); intro w4 hD4 hl4 hb4; have hbb4 := hbb3.trans (hb4.mono hbb3.size); have hrK := rb_row hD4 32 hkl32; have hO4 := (OB.empty w4 5).mono hbb4.size; have hbb4s := hbb4.size; have hb4' := below_alloc2 hbb4 (Nat.le_refl _) (.cells #[] 5); have hrK4 := hrK.alloc (.cells #[] 5))
      | (at_builtin; refine app_bytes rfl _ _ rfl w.heap.size _ _ _ [] rfl hO4 _ _ _ ks rfl hrK4 (by omega) (by simp; omega) ?_; intro A5 N5 c5 w5 hc5 hc6 hO5 hG5; rw [List.nil_append] at hO5; have hb5 := hG5.own hb4' (Nat.le_refl _) hO4)
      | go_values | go_skip | go_guarded | go_step | go_upon | go_back)
    clear hr2 hO2 hG2 hbb3 hbb4 hb4' hb4 hD4 hrK hrK4 hO4 hG5 hc2 hc3 hb3 hb2 hO0 hb0 hr0 hbi2 hkl32 hd32 hl4 hbb4s hT2
  rotate_left
  focus
    have hkd : keyF n tb key = key := keyF_short n tb key (by omega)
    have hkk : ks = key := by rw [← hks, hkd]
    clear hks hkd
    have hbi2 : ¬ (64 : Int) < (m : Int) := by omega
    go_wp2_with (at_builtin; refine app_bytes rfl _ _ rfl w.heap.size _ _ _ [] rfl hO0 _ _ _ key rfl hr0 (by omega) (by simp) ?_; intro A5 N5 c5 w5 hc5 hc6 hO5 hG5; rw [List.nil_append, ← hkk] at hO5; have hb5 := hG5.own hb0 (Nat.le_refl _) hO0; have hN5 : N5 = m := (by have := hO5.len; rw [hkk] at this; omega); have hbi3 : ¬ (64 : Int) < (N5 : Int) := (by omega); have HN5 := Lib.hid hN5; clear hN5)
    clear hG5 hO0 hb0 hr0 hbi2 hbi3
    clear hkk
  rotate_left
  all_goals
    clear hl hl'
    obtain rfl : N5 = ks.length := (OB.len hO5).symm
    go_loopw [7, 9] (fun v i wr => ∃ A3 k c3, v = .slice A3 k c3 ∧ i = .int .i64 ((k : Int) - (ks.length : Int)) ∧ ks.length ≤ k ∧ k ≤ 64 ∧ OB 5 wr w.heap.size A3 k c3 (ks ++ List.replicate (k - ks.length) 0) ∧ Below w.heap.size w wr) (fun v _ _ => 64 - lenV v)
    case atStart => exact ⟨A5, ks.length, c5, rfl, by rw [Int.sub_self], Nat.le_refl _, hkl, by rw [Nat.sub_self]; simpa using hO5, hb5⟩
    case round =>
      obtain ⟨A3, k, c3, rfl, rfl, hk1, hk2, hO3, hb3⟩ := hrel
      clear hO5 hb5 hc5 hc6
      have hbs := hb3.size
      by_cases hgo : k < 64 ∧ (k : Int) - (ks.length : Int) < (M : Int)
      · obtain ⟨hk64, g2⟩ := hgo
        have g1 : (k : Int) < 64 := by omega
        go_wp2_with (at_builtin; refine app_bytes rfl _ _ rfl w.heap.size _ _ _ _ rfl (hO3.alloc _) _ _ _ [0] rfl (RB.one_ _ _ rfl) (by omega) (by simp; omega) ?_; intro A4 N4 c4 w4 hc4 hc5 hO4 hG4)
        rw [pad_step ks k hk1] at hO4
        have hN4 := hO4.len
        rw [List.length_append, List.length_replicate] at hN4
        obtain rfl : N4 = k + 1 := by omega
        exact ⟨⟨A4, k + 1, c4, rfl, congrArg (Value.int .i64) (by omega), by omega, by omega, hO4, hG4.own (below_alloc2 hb3 (Nat.le_refl _) _) (Nat.le_refl _) (hO3.alloc _)⟩, by simp only [lenV]; omega⟩
      · have hof := HOF.out (k - ks.length) (by omega)
        have hrK := OB.reads hO3
        have hck := (OB.cap hO3).1
        obtain ⟨K, hK⟩ : ∃ K, ks ++ List.replicate (k - ks.length) 0 = K := ⟨_, rfl⟩
        rw [hK] at hof hrK
        have HK := Lib.hid hof
        clear hof hK hO3
        by_cases g2 : (k : Int) - (ks.length : Int) < (M : Int)
        all_goals
          have g1 : (k : Int) < 64 ∧ ¬ (k : Int) - (ks.length : Int) < (M : Int) ∨ ¬ (k : Int) < 64 := by omega
          go_wp2_with (first
            | (go_at_call 18; ((with_reducible refine (of_any n HN.out _ A3 k c3 K (RB.below hrK (Below.refl _ _)) hck (by omega) A' m' c' b (RB.below hr' (by assumption)) hmc' (by omega) tb (Tab.below hT (by assumption))).mono ?_); rw [HK.out]; rintro e wn ⟨rfl, hb⟩; simp only []; have hbb := below_next (a := w) (by assumption) hb))
            | (go_at_call 18; ((with_reducible refine (of_any n HN.out _ A m c key (RB.below hr (by assumption)) hmc (by omega) A' m' c' b (RB.below hr' (by assumption)) hmc' (by omega) tb (Tab.below hT (by assumption))).mono ?_); rw [HF.out]; rintro e wn ⟨rfl, hb⟩; simp only []; have hbb := below_next (a := w) (by assumption) hb))
            | (go_at_call 17; refine (works3_any n HN.out _ tb HTB.out (Tab.below hT (by assumption))).mono ?_; rintro e wn ⟨rfl, hb⟩; simp only []; have hbb := below_next (a := w) (by assumption) hb))
          go_ret
          exact ⟨rfl, by assumption⟩
theorem tagNoughts_walk (W : World) (hT : Tab W tblL) (A : Option Addr) (m c : Nat) (xs : List UInt8) (_ : xs.length = m) (hr : RB W A m xs) (hmc : m ≤ c) (hm : m ≤ 140737488351232) (_ : ∀ ad, A = some ad → ad.block < W.heap.size)
    (A' : Option Addr) (m' c' : Nat) (xs' : List UInt8) (_ : xs'.length = m') (hr' : RB W A' m' xs') (hmc' : m' ≤ c') (hm' : m' ≤ 140737488351232) (_ : ∀ ad, A' = some ad → ad.block < W.heap.size) (x : UInt8) :
    Calls Tryd.prog 6 #[.slice A m c, .slice A' m' c', .int .u8 (x.toNat : Int)] W fun e w' => e = .returned (.bool true) ∧ Below W.heap.size W w' := tagNoughts_any 64 rfl W tblL rfl hT A m c xs hr hmc hm A' m' c' xs' hr' hmc' hm' x
end Go.Proofs.YtohfgplaocgadaaDoor
