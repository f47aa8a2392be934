/- sha: what is cut into blocks (plain). -/
import Derived.Test.YtohfgplaocgadaaDoorFeed
namespace Go.Proofs.YtohfgplaocgadaaDoor
open Go.RowKit Go.Rat
/-- One block more of what is cut into blocks. -/
theorem blk_step (n : Nat) (tb : List Int) (P : List UInt8) (nb j : Nat) (hP : P.length = 64 * nb) (hj : j < nb) :
    (feed n tb h0 (P.take (64 * (j + 1)))).s = blockF n tb (feed n tb h0 (P.take (64 * j))).s ((P.drop (64 * j)).take 64) ∧ (feed n tb h0 (P.take (64 * j))).s.length = 8 ∧ ((P.drop (64 * j)).take 64).length = 64 := by
  have hc : ((P.drop (64 * j)).take 64).length = 64 := by rw [List.length_take, List.length_drop]; omega
  obtain ⟨ho, hk⟩ := feed_ok n tb (P.take (64 * j)) h0 h0_ok
  have hk0 : (feed n tb h0 (P.take (64 * j))).k = 0 := by
    rw [hk, List.length_take, Nat.min_eq_left (by omega)]
    simp [h0]
  have ht : P.take (64 * (j + 1)) = P.take (64 * j) ++ (P.drop (64 * j)).take 64 := by
    rw [show 64 * (j + 1) = 64 * j + 64 by omega, List.take_add]
  exact ⟨by rw [ht, feed_append, feed_block n tb _ ho hk0 _ hc], ho.s, hc⟩
theorem chunk_get (P : List UInt8) (a k : Nat) (hk : k < 64) (h : a + k < P.length) : ((P.drop a).take 64)[k]? = some (P.getD (a + k) 0) := by
  rw [List.getElem?_take_of_lt hk, List.getElem?_drop, List.getElem?_eq_getElem h, List.getD_eq_getElem?_getD, List.getElem?_eq_getElem h]
  rfl
/-- A row that is filled from the head. -/
theorem fill_step (L : List UInt8) (N k : Nat) (y : UInt8) (hN : k < N) (hy : L[k]? = some y) : (bvs (L.take k ++ List.replicate (N - k) 0)).toArray.setIfInBounds k (.int .u8 (y.toNat : Int)) = (bvs (L.take (k + 1) ++ List.replicate (N - (k + 1)) 0)).toArray := by
  have hl : k < L.length := (List.getElem?_eq_some_iff.1 hy).1
  have h1 : (bvs (L.take k)).length = k := by rw [bvs_length, List.length_take]; omega
  rw [List.setIfInBounds_toArray, bvs_append, List.set_append_right _ _ (by omega), h1, Nat.sub_self, show N - k = (N - (k + 1)) + 1 by omega, List.replicate_succ, List.take_add_one, hy]
  simp [bvs, bv]
theorem outB_at : ∀ (F : List Int) (q r : Nat), q < F.length → r < 4 → (outB F)[4 * q + r]? = (w4 (F.getD q 0))[r]?
  | [], q, r, h, _ => by simp at h
  | x :: F, 0, r, _, hr => by
    rw [outB_cons, List.getElem?_append_left (by show 4 * 0 + r < 4; omega), Nat.mul_zero, Nat.zero_add]
    rfl
  | x :: F, q + 1, r, h, hr => by
    have hw : (w4 x).length = 4 := rfl
    rw [outB_cons, List.getElem?_append_right (by rw [hw]; omega), hw, show 4 * (q + 1) + r - 4 = 4 * q + r by omega, outB_at F q r (by simpa using h) hr]
    rfl
theorem fill_ub (L : List UInt8) (N k : Nat) (v : Int) (h0 : 0 ≤ v) (h1 : v < 256) (hN : k < N) (hy : L[k]? = some (ub v)) : (bvs (L.take k ++ List.replicate (N - k) 0)).toArray.setIfInBounds k (.int .u8 v) = (bvs (L.take (k + 1) ++ List.replicate (N - (k + 1)) 0)).toArray := by
  rw [← bv_ub h0 h1]
  exact fill_step L N k (ub v) hN hy
end Go.Proofs.YtohfgplaocgadaaDoor
