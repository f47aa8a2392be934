/- sha: a state out of a digest (plain). -/
import Derived.Test.YtohfgplaocgadaaDoorFeedb
import Derived.Test.YtohfgplaocgadaaDoorSb
namespace Go.Proofs.YtohfgplaocgadaaDoor
open Go.RowKit Go.Rat
def u32ok (l : List Int) : Prop := ∀ q, 0 ≤ l.getD q 0 ∧ l.getD q 0 < 4294967296
theorem u32ok_blockF (n : Nat) (tb sl : List Int) (xs : List UInt8) (h : sl.length = 8) : u32ok (blockF n tb sl xs) := by
  obtain ⟨s0, s1, s2, s3, s4, s5, s6, s7, rfl⟩ := list8 h
  have h8 : (outF (rnds tb (ws2 xs n) (s8 [s0, s1, s2, s3, s4, s5, s6, s7]) n)).length = 8 := rfl
  unfold blockF
  generalize outF (rnds tb (ws2 xs n) (s8 [s0, s1, s2, s3, s4, s5, s6, s7]) n) = f at *
  obtain ⟨f0, f1, f2, f3, f4, f5, f6, f7, rfl⟩ := list8 h8
  intro q
  simp only [adds, List.getD_cons_zero, List.getD_cons_succ, List.set_cons_zero, List.set_cons_succ]
  rcases q with _ | _ | _ | _ | _ | _ | _ | _ | q
  all_goals simp only [List.getD_cons_zero, List.getD_cons_succ, List.getD_nil]
  all_goals omega
theorem u32ok_start : u32ok start := by
  intro q
  rcases q with _ | _ | _ | _ | _ | _ | _ | _ | q
  all_goals simp [start]
theorem u32ok_feed (n : Nat) (tb : List Int) : ∀ (xs : List UInt8) (h : HS), h.ok → u32ok h.s → u32ok (feed n tb h xs).s
  | [], _, _, hu => hu
  | x :: xs, h, ho, hu => by
    rw [feed_cons]
    refine u32ok_feed n tb xs _ (feed1_ok n tb h x ho).1 ?_
    unfold feed1
    split
    · exact u32ok_blockF _ _ _ _ ho.s
    · exact hu
/-- The first r bytes of a word, as a number. -/
def pw (x : Int) : Nat → Int
  | 0 => 0
  | 1 => x / 16777216
  | 2 => x / 65536
  | 3 => x / 256
  | _ => x
def sP (S : List Int) (i : Nat) : List Int := (List.range 8).map fun q => pw (S.getD q 0) (min 4 (i - 4 * q))
theorem sP_length (S : List Int) (i : Nat) : (sP S i).length = 8 := by simp [sP]
theorem sP_get (S : List Int) (i q : Nat) (hq : q < 8) : (sP S i).getD q 0 = pw (S.getD q 0) (min 4 (i - 4 * q)) := by
  rw [List.getD_eq_getElem?_getD, sP, List.getElem?_map, List.getElem?_range hq]
  rfl
theorem sP_zero (S : List Int) : sP S 0 = List.replicate 8 0 := by
  have : ∀ q : Nat, min 4 (0 - 4 * q) = 0 := fun q => by omega
  simp only [sP, this, pw]
  rfl
theorem sP_full (S : List Int) (h : S.length = 8) : sP S 32 = S := by
  refine List.ext_getElem (by rw [sP_length, h]) fun q h1 h2 => ?_
  have hq : q < 8 := by omega
  have := sP_get S 32 q hq
  rw [List.getD_eq_getElem?_getD, List.getElem?_eq_getElem h1, Option.getD_some, show min 4 (32 - 4 * q) = 4 by omega] at this
  rw [this, List.getD_eq_getElem?_getD, List.getElem?_eq_getElem h2]
  rfl
theorem sP_step (S : List Int) (i : Nat) (hi : i < 32) (v : Int) (hv : v = pw (S.getD (i / 4) 0) (i % 4 + 1)) : (sP S i).set (i / 4) v = sP S (i + 1) := by
  subst hv
  refine List.ext_getElem? fun q => ?_
  rw [List.getElem?_set, sP_length]
  by_cases hq : i / 4 = q
  · subst hq
    rw [if_pos rfl, if_pos (by omega), sP, List.getElem?_map, List.getElem?_range (by omega), Option.map_some, show min 4 (i + 1 - 4 * (i / 4)) = i % 4 + 1 by omega]
  · rw [if_neg hq, sP, sP, List.getElem?_map, List.getElem?_map]
    by_cases h8 : q < 8
    · rw [List.getElem?_range h8, Option.map_some, Option.map_some, show min 4 (i + 1 - 4 * q) = min 4 (i - 4 * q) by omega]
    · rw [List.getElem?_eq_none (by simpa using h8)]
      rfl
theorem blk_stepG (n : Nat) (tb : List Int) (h : HS) (ho : h.ok) (hk : h.k = 0) (P : List UInt8) (nb j : Nat) (hP : P.length = 64 * nb) (hj : j < nb) :
    (feed n tb h (P.take (64 * (j + 1)))).s = blockF n tb (feed n tb h (P.take (64 * j))).s ((P.drop (64 * j)).take 64) ∧ (feed n tb h (P.take (64 * j))).s.length = 8 ∧ ((P.drop (64 * j)).take 64).length = 64 := by
  have hc : ((P.drop (64 * j)).take 64).length = 64 := by rw [List.length_take, List.length_drop]; omega
  obtain ⟨ho', hk'⟩ := feed_ok n tb (P.take (64 * j)) h ho
  have hk0 : (feed n tb h (P.take (64 * j))).k = 0 := by
    rw [hk', List.length_take, Nat.min_eq_left (by omega), hk]
    omega
  have ht : P.take (64 * (j + 1)) = P.take (64 * j) ++ (P.drop (64 * j)).take 64 := by
    rw [show 64 * (j + 1) = 64 * j + 64 by omega, List.take_add]
  exact ⟨by rw [ht, feed_append, feed_block n tb _ ho' hk0 _ hc], ho'.s, hc⟩
theorem ub_nat {v : Int} (h0 : 0 ≤ v) (h1 : v < 256) : ((ub v).toNat : Int) = v := by
  have := bv_ub h0 h1
  unfold bv at this
  injection this
theorem pw_step (x : Int) (h0 : 0 ≤ x) (h1 : x < 4294967296) (r : Nat) (hr : r < 4) (y : UInt8) (hy : some y = (w4 x)[r]?) : bits .or .u32 (pw x r * 256 % 4294967296) (y.toNat : Int) = pw x (r + 1) := by
  have hylt := y.toNat_lt
  have key : ∀ (a v : Int), 0 ≤ a → a < 16777216 → y = ub (v % 256) → bits .or .u32 (a * 256 % 4294967296) (y.toNat : Int) = a * 256 + v % 256 := by
    intro a v ha ha2 hyv
    have hb : ((y.toNat : Nat) : Int) = v % 256 := by rw [hyv]; exact ub_nat (Int.emod_nonneg _ (by decide)) (Int.emod_lt_of_pos _ (by decide))
    have := or_snoc32 a.toNat y.toNat (by omega) (by omega)
    rw [Int.toNat_of_nonneg ha] at this
    rw [this]
    omega
  rcases r with _ | _ | _ | _ | r
  · have := Option.some.inj hy
    rw [key (pw x 0) (x / 16777216) (by simp [pw]) (by simp [pw]) this]
    simp only [pw]
    omega
  · have := Option.some.inj hy
    rw [key (pw x 1) (x / 65536) (by simp only [pw]; omega) (by simp only [pw]; omega) this]
    simp only [pw]
    omega
  · have := Option.some.inj hy
    rw [key (pw x 2) (x / 256) (by simp only [pw]; omega) (by simp only [pw]; omega) this]
    simp only [pw]
    omega
  · have := Option.some.inj hy
    rw [key (pw x 3) x (by simp only [pw]; omega) (by simp only [pw]; omega) this]
    simp only [pw]
    omega
  · omega
end Go.Proofs.YtohfgplaocgadaaDoor
