/- Numbers by their bytes. -/
import Derived.Test.YtmjdfajdompkeaaOw
namespace Go.Proofs.Ytmjdfajdompkeaa
open Go.RowKit Go.Rat
/-- The number of bytes, the highest one first. -/
def num (ys : List UInt8) : Nat := ys.foldl (fun n b => n * 256 + b.toNat) 0
theorem num_lt (ys : List UInt8) : num ys < 256 ^ ys.length := by
  unfold num
  suffices H : ∀ (ys : List UInt8) (a : Nat), ys.foldl (fun n b => n * 256 + b.toNat) a < (a + 1) * 256 ^ ys.length by simpa using H ys 0
  intro ys
  induction ys with
  | nil => intro a; simp
  | cons y ys ih =>
    intro a
    refine Nat.lt_of_lt_of_le (ih _) ?_
    have := y.toNat_lt
    rw [List.length_cons, Nat.pow_succ, Nat.mul_comm (256 ^ _) 256, ← Nat.mul_assoc]
    exact Nat.mul_le_mul_right _ (by show a * 256 + y.toNat + 1 ≤ _; omega)
theorem num_snoc (ys : List UInt8) (b : UInt8) : num (ys ++ [b]) = num ys * 256 + b.toNat := by simp [num]
theorem num_lt64 {ys : List UInt8} (h : ys.length ≤ 8) : num ys < 18446744073709551616 :=
  Nat.lt_of_lt_of_le (num_lt ys) (Nat.le_trans (Nat.pow_le_pow_right (by omega) h) (by decide))

theorem num_lt16 {ys : List UInt8} (h : ys.length ≤ 2) : num ys < 65536 :=
  Nat.lt_of_lt_of_le (num_lt ys) (Nat.le_trans (Nat.pow_le_pow_right (by omega) h) (by decide))
theorem num_lt8 {ys : List UInt8} (h : ys.length ≤ 1) : num ys < 256 :=
  Nat.lt_of_lt_of_le (num_lt ys) (Nat.le_trans (Nat.pow_le_pow_right (by omega) h) (by decide))
theorem be_succ (n a : Nat) : be (n + 1) a = UInt8.ofNat (a / 2 ^ (8 * n)) :: be n a := by
  unfold be
  rw [List.range_succ_eq_map, List.map_cons, List.map_map]
  congr 1
  refine List.map_congr_left fun j hj => ?_
  simp only [Function.comp, List.mem_range] at hj ⊢
  rw [show n + 1 - 1 - (j + 1) = n - 1 - j by omega]
theorem num_cons (x : UInt8) (xs : List UInt8) : num (x :: xs) = x.toNat * 256 ^ xs.length + num xs := by
  unfold num
  rw [List.foldl_cons]
  suffices H : ∀ (ys : List UInt8) (a : Nat), ys.foldl (fun n b => n * 256 + b.toNat) a = a * 256 ^ ys.length + ys.foldl (fun n b => n * 256 + b.toNat) 0 by rw [H]; simp
  intro ys
  induction ys with
  | nil => intro a; simp
  | cons y ys ih =>
    intro a
    rw [List.foldl_cons, List.foldl_cons, ih, ih (0 * 256 + y.toNat), List.length_cons, Nat.pow_succ, Nat.zero_mul, Nat.zero_add, Nat.add_mul, Nat.mul_assoc, Nat.mul_comm 256, Nat.add_assoc]
theorem pow256 (n : Nat) : 2 ^ (8 * n) = 256 ^ n := by rw [Nat.pow_mul]
/-- A number's bytes are that number. -/
theorem num_be (n a : Nat) : num (be n a) = a % 256 ^ n := by
  induction n with
  | zero => simp [be, num, Nat.mod_one]
  | succ n ih =>
    have h := Nat.mod_mul (a := 256 ^ n) (b := 256) (x := a)
    rw [← Nat.pow_succ] at h
    rw [be_succ, num_cons, be_length, ih, UInt8.toNat_ofNat', pow256, h, show (2 : Nat) ^ 8 = 256 from rfl, Nat.mul_comm (256 ^ n)]
    omega
end Go.Proofs.Ytmjdfajdompkeaa
