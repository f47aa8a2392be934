/- sha: what is written byte by byte, and the digest (plain). -/
import Derived.Test.YtohfgplaocgadaaDoorSc
import Derived.Laws.CopyOwn
namespace Go.Proofs.YtohfgplaocgadaaDoor
open Go.RowKit Go.Rat
theorem blockF_length (n : Nat) (tb sl : List Int) (xs : List UInt8) : (blockF n tb sl xs).length = sl.length := adds_length _ _ _
/-- A hash: its state, the part, how much of it. -/
structure HS where
  s : List Int
  p : List UInt8
  k : Nat
structure HS.wide (h : HS) : Prop where
  s : h.s.length = 8
  p : h.p.length = 64
structure HS.ok (h : HS) : Prop extends HS.wide h where
  k : h.k < 64
def feed1 (n : Nat) (tb : List Int) (h : HS) (x : UInt8) : HS :=
  if h.k + 1 = 64 then ⟨blockF n tb h.s (h.p.set h.k x), h.p.set h.k x, 0⟩ else ⟨h.s, h.p.set h.k x, h.k + 1⟩
def feed (n : Nat) (tb : List Int) (h : HS) (xs : List UInt8) : HS := xs.foldl (feed1 n tb) h
theorem feed_append (n : Nat) (tb : List Int) (h : HS) (xs ys : List UInt8) : feed n tb h (xs ++ ys) = feed n tb (feed n tb h xs) ys := List.foldl_append
theorem feed_cons (n : Nat) (tb : List Int) (h : HS) (x : UInt8) (xs : List UInt8) : feed n tb h (x :: xs) = feed n tb (feed1 n tb h x) xs := rfl
theorem feed_nil (n : Nat) (tb : List Int) (h : HS) : feed n tb h [] = h := rfl
theorem feed1_ok (n : Nat) (tb : List Int) (h : HS) (x : UInt8) (ho : h.ok) : (feed1 n tb h x).ok ∧ (feed1 n tb h x).k = (h.k + 1) % 64 := by
  obtain ⟨⟨a, b⟩, c⟩ := ho
  unfold feed1
  split
  · rename_i e
    exact ⟨⟨⟨by simpa [blockF_length] using a, by simpa using b⟩, by simp⟩, by simp [e]⟩
  · exact ⟨⟨⟨a, by simpa using b⟩, by simp; omega⟩, by simp; omega⟩
theorem feed_ok (n : Nat) (tb : List Int) : ∀ (xs : List UInt8) (h : HS), h.ok → (feed n tb h xs).ok ∧ (feed n tb h xs).k = (h.k + xs.length) % 64
  | [], h, ho => ⟨ho, by have := ho.k; simp [feed_nil]; omega⟩
  | x :: xs, h, ho => by
    obtain ⟨h1, h2⟩ := feed1_ok n tb h x ho
    obtain ⟨h3, h4⟩ := feed_ok n tb xs _ h1
    rw [feed_cons]
    refine ⟨h3, ?_⟩
    rw [h4, h2, List.length_cons]
    omega
theorem splice_nil (p : List UInt8) (k : Nat) : splice p k [] = p := by simp [splice]
theorem splice_cons (p : List UInt8) (k : Nat) (x : UInt8) (c : List UInt8) (hk : k < p.length) : splice p k (x :: c) = splice (p.set k x) (k + 1) c := by
  have h1 : (p.set k x).take (k + 1) = p.take k ++ [x] := by
    rw [List.set_eq_take_append_cons_drop, if_pos hk, List.take_append, List.length_take, Nat.min_eq_left (by omega), List.take_take, Nat.min_eq_right (by omega), show k + 1 - k = 1 by omega]
    rfl
  have h2 : (p.set k x).drop (k + 1 + c.length) = p.drop (k + (c.length + 1)) := by
    rw [List.drop_set_of_lt (by omega), show k + 1 + c.length = k + (c.length + 1) by omega]
  simp only [splice, h1, h2, List.length_cons, List.append_assoc, List.cons_append, List.nil_append]
/-- Bytes that fit into the part come into it all at once. -/
theorem feed_chunk (n : Nat) (tb : List Int) : ∀ (c : List UInt8) (h : HS), h.ok → h.k + c.length ≤ 64 →
    feed n tb h c = if h.k + c.length = 64 then ⟨blockF n tb h.s (splice h.p h.k c), splice h.p h.k c, 0⟩ else ⟨h.s, splice h.p h.k c, h.k + c.length⟩
  | [], h, ho, hc => by
    have := ho.k
    rw [feed_nil, splice_nil, if_neg (by simp; omega)]
    rfl
  | x :: c, h, ho, hc => by
    have hk := ho.k
    rw [List.length_cons] at hc
    rw [feed_cons, splice_cons _ _ _ _ (by rw [ho.p]; exact hk), List.length_cons]
    by_cases he : h.k + 1 = 64
    · obtain rfl : c = [] := List.eq_nil_of_length_eq_zero (by omega)
      rw [feed_nil, splice_nil, feed1, if_pos he, if_pos (by simpa using he)]
    · have h1 : feed1 n tb h x = ⟨h.s, h.p.set h.k x, h.k + 1⟩ := by rw [feed1, if_neg he]
      rw [feed_chunk n tb c _ (feed1_ok n tb h x ho).1 (by rw [h1]; simp; omega), h1]
      simp only [Nat.add_assoc, Nat.add_comm 1]
/-- Whole blocks. -/
theorem feed_block (n : Nat) (tb : List Int) (h : HS) (ho : h.ok) (h0 : h.k = 0) (c : List UInt8) (hc : c.length = 64) :
    feed n tb h c = ⟨blockF n tb h.s c, c, 0⟩ := by
  have hs : splice h.p h.k c = c := by
    rw [splice, h0, hc, Nat.zero_add, List.take_zero, List.drop_eq_nil_of_le (by rw [ho.p]; exact Nat.le_refl _), List.append_nil, List.nil_append]
  rw [feed_chunk n tb c h ho (by omega), if_pos (by omega), hs]
def be8 (m : Int) : List UInt8 := [ub (m / 72057594037927936 % 256), ub (m / 281474976710656 % 256), ub (m / 1099511627776 % 256), ub (m / 4294967296 % 256), ub (m / 16777216 % 256), ub (m / 65536 % 256), ub (m / 256 % 256), ub (m % 256)]
def zs (len : Nat) : Nat := (119 - len % 64) % 64
def padding (len : Nat) : List UInt8 := 128 :: (List.replicate (zs len) 0 ++ be8 ((len : Int) * 8))
theorem padding_length (len : Nat) : (len + (padding len).length) % 64 = 0 := by
  simp [padding, be8, zs]
  omega
def start : List Int := [0x6a09e667, 0xbb67ae85, 0x3c6ef372, 0xa54ff53a, 0x510e527f, 0x9b05688c, 0x1f83d9ab, 0x5be0cd19]
def h0 : HS := ⟨start, List.replicate 64 0, 0⟩
theorem h0_ok : h0.ok := ⟨⟨rfl, List.length_replicate⟩, by decide⟩
/-- The four bytes of a word. -/
def w4 (x : Int) : List UInt8 := [ub (x / 16777216 % 256), ub (x / 65536 % 256), ub (x / 256 % 256), ub (x % 256)]
def outB (s : List Int) : List UInt8 := s.flatMap w4
theorem outB_cons (x : Int) (s : List Int) : outB (x :: s) = w4 x ++ outB s := rfl
theorem outB_length (s : List Int) : (outB s).length = 4 * s.length := by
  induction s with
  | nil => rfl
  | cons x s ih => rw [outB_cons, List.length_append, ih, List.length_cons]; simp [w4]; omega
theorem outB_append (s t : List Int) : outB (s ++ t) = outB s ++ outB t := List.flatMap_append
def digest (n : Nat) (tb : List Int) (xs : List UInt8) : List UInt8 := outB (feed n tb h0 (xs ++ padding xs.length)).s
end Go.Proofs.YtohfgplaocgadaaDoor
