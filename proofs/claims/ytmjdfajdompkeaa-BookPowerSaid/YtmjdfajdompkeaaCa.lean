/- cell: in plain words. -/
import Derived.Test.YtmjdfajdompkeaaDl
import Derived.Test.YtmjdfajdompkeaaNum
namespace Go.Proofs.Ytmjdfajdompkeaa
open Go.RowKit Go.Rat
/-- All bytes of a slot; those of its sector i. -/
def allB (b : List UInt8) : List UInt8 := be 2 b.length ++ b ++ List.replicate (1198 - b.length) 0
theorem allB_length {b : List UInt8} (h : b.length ≤ 1198) : (allB b).length = 1200 := by
  rw [allB, List.length_append, List.length_append, be_length, List.length_replicate]; omega
def partB (b : List UInt8) (i : Nat) : List UInt8 := ((allB b).drop (i * 120)).take 120
theorem partB_length {b : List UInt8} (h : b.length ≤ 1198) {i : Nat} (hi : i < 10) : (partB b i).length = 120 := by
  rw [partB, List.length_take, List.length_drop, allB_length h]; omega
def secB (c : Nat) (b : List UInt8) (i : Nat) : List UInt8 := be 8 c ++ partB b i
theorem secB_length (c : Nat) {b : List UInt8} (h : b.length ≤ 1198) {i : Nat} (hi : i < 10) : (secB c b i).length = 128 := by
  rw [secB, List.length_append, be_length, partB_length h hi]
def cntB (s : List UInt8) : Nat := num (s.take 8)
theorem cntB_lt (s : List UInt8) : cntB s < 2 ^ 64 := num_lt64 (by rw [List.length_take]; omega)
theorem cntB_secB {c : Nat} (hc : c < 2 ^ 64) (b : List UInt8) (i : Nat) : cntB (secB c b i) = c := by
  rw [cntB, secB, List.take_left' (be_length 8 c), num_be, Nat.mod_eq_of_lt (by omega)]
theorem secB_drop (c : Nat) (b : List UInt8) (i : Nat) : (secB c b i).drop 8 = partB b i := by
  rw [secB, List.drop_left' (be_length 8 c)]
/-- What is read of the first k sectors; none: they are not whole. -/
def rdS (F : Nat → Option (List UInt8)) : Nat → Option (Nat × List UInt8)
  | 0 => some (0, [])
  | k + 1 => match rdS F k, F k with
    | some (n, all), some s => if k = 0 ∨ cntB s = n then some (cntB s, all ++ s.drop 8) else none
    | _, _ => none
def endF (n : Nat) (all : List UInt8) : Nat × List UInt8 :=
  if num (all.take 2) ≤ 1100 ∧ ((all.drop 2).drop (num (all.take 2))).all (· == 0) = true then (n, (all.drop 2).take (num (all.take 2))) else (0, [])
def rdF (F : Nat → Option (List UInt8)) : Nat × List UInt8 :=
  match rdS F 10 with
  | none => (0, [])
  | some (n, all) => endF n all
theorem rdS_ext {F G : Nat → Option (List UInt8)} : ∀ k, (∀ i, i < k → F i = G i) → rdS F k = rdS G k
  | 0, _ => rfl
  | k + 1, h => by rw [rdS, rdS, rdS_ext k (fun i hi => h i (by omega)), h k (by omega)]
theorem rdF_ext {F G : Nat → Option (List UInt8)} (h : ∀ i, i < 10 → F i = G i) : rdF F = rdF G := by rw [rdF, rdF, rdS_ext 10 h]
theorem rdS_of (F : Nat → Option (List UInt8)) : ∀ k n all, rdS F k = some (n, all) → ∀ i, i < k → ∃ s, F i = some s ∧ cntB s = n
  | 0, _, _, _, i, hi => by omega
  | k + 1, n, all, h, i, hi => by
    rw [rdS] at h
    split at h
    · next m al s h1 h2 =>
      split at h
      · next hc =>
        simp only [Option.some.injEq, Prod.mk.injEq] at h
        by_cases e : i = k
        · subst e
          exact ⟨s, h2, h.1⟩
        · obtain ⟨s', h3, h4⟩ := rdS_of F k m al h1 i (by omega)
          refine ⟨s', h3, ?_⟩
          rcases hc with hc | hc
          · omega
          · rw [h4, ← hc]; exact h.1
      · cases h
    · cases h
theorem rdF_of {F : Nat → Option (List UInt8)} (h : (rdF F).1 ≠ 0) : ∀ i, i < 10 → ∃ s, F i = some s ∧ cntB s = (rdF F).1 := by
  rw [rdF] at h ⊢
  split
  · next h1 => rw [h1] at h; exact absurd rfl h
  · next n all h1 =>
    rw [h1] at h
    simp only [endF] at h ⊢
    split
    · exact rdS_of F 10 n all h1
    · next hc => rw [if_neg hc] at h; exact absurd rfl h
theorem rdF_lost {F : Nat → Option (List UInt8)} {i : Nat} (hi : i < 10) (h : F i = none) : rdF F = (0, []) := by
  have : rdS F 10 = none := by
    match hr : rdS F 10 with
    | none => rfl
    | some (n, all) =>
      obtain ⟨s, hs, _⟩ := rdS_of F 10 n all hr i hi
      rw [h] at hs; cases hs
  rw [rdF, this]
theorem part_next (b : List UInt8) (k : Nat) : (allB b).take (k * 120) ++ partB b k = (allB b).take ((k + 1) * 120) := by
  rw [partB, Nat.succ_mul, List.take_add]
theorem rdS_full {F : Nat → Option (List UInt8)} {c : Nat} {b : List UInt8} (hc : c < 2 ^ 64) : ∀ k, (∀ i, i < k → F i = some (secB c b i)) → rdS F k = some (if k = 0 then 0 else c, (allB b).take (k * 120))
  | 0, _ => by simp [rdS]
  | k + 1, h => by
    have ih := rdS_full hc k (fun i hi => h i (by omega))
    rw [rdS, ih, h k (by omega)]
    simp only []
    rw [if_pos, cntB_secB hc, secB_drop, part_next, if_neg (by omega)]
    by_cases hk : k = 0
    · exact .inl hk
    · rw [if_neg hk, cntB_secB hc]; exact .inr rfl
theorem endF_allB {n : Nat} {b : List UInt8} (hb : b.length ≤ 1100) : endF n (allB b) = (n, b) := by
  have h2 : (allB b).take 2 = be 2 b.length := by rw [allB, List.append_assoc, List.take_left' (be_length 2 _)]
  have h3 : (allB b).drop 2 = b ++ List.replicate (1198 - b.length) 0 := by rw [allB, List.append_assoc, List.drop_left' (be_length 2 _)]
  have h4 : num ((allB b).take 2) = b.length := by rw [h2, num_be, Nat.mod_eq_of_lt (by omega)]
  rw [endF, h4, h3, List.drop_left, List.take_left, if_pos ⟨hb, by simp⟩]
theorem rdF_full {F : Nat → Option (List UInt8)} {c : Nat} {b : List UInt8} (hc : c < 2 ^ 64) (hb : b.length ≤ 1100) (h : ∀ i, i < 10 → F i = some (secB c b i)) : rdF F = (c, b) := by
  rw [rdF, rdS_full hc 10 h, if_neg (by omega)]
  have := allB_length (b := b) (by omega)
  simp only []
  rw [List.take_of_length_le (by omega)]
  exact endF_allB hb
/-- The greatest count of the first k sectors. -/
def topF (F : Nat → Option (List UInt8)) : Nat → Nat
  | 0 => 0
  | k + 1 => match F k with
    | some s => max (topF F k) (cntB s)
    | none => topF F k
theorem topF_lt (F : Nat → Option (List UInt8)) : ∀ k, topF F k < 2 ^ 64
  | 0 => by simp [topF]
  | k + 1 => by
    have := topF_lt F k
    rw [topF]
    split
    · next s _ => have := cntB_lt s; omega
    · exact this
theorem topF_ge (F : Nat → Option (List UInt8)) : ∀ k i s, i < k → F i = some s → cntB s ≤ topF F k
  | 0, i, _, h, _ => by omega
  | k + 1, i, s, h, hs => by
    rw [topF]
    by_cases e : i = k
    · subst e
      rw [hs]
      simp only []
      omega
    · have := topF_ge F k i s (by omega) hs
      split <;> omega
theorem topF_le (F : Nat → Option (List UInt8)) (M : Nat) : ∀ k, (∀ i s, i < k → F i = some s → cntB s ≤ M) → topF F k ≤ M
  | 0, _ => Nat.zero_le _
  | k + 1, h => by
    have ih := topF_le F M k (fun i s hi => h i s (by omega))
    rw [topF]
    split
    · next s hs => have := h k s (by omega) hs; omega
    · exact ih
/-- What a disk tells of its sectors from p on. -/
def viewD (d : DS) (p : Int) (i : Nat) : Option (List UInt8) := if readE d (p + (i : Int)) = 0 then some (readB d (p + (i : Int))) else none
/-- The write of the first k sectors of a slot. -/
def wrS (d : DS) (p : Int) (c : Nat) (b : List UInt8) : Nat → DS × Int
  | 0 => (d, 0)
  | k + 1 => if (wrS d p c b k).2 = 0 then (writeD (wrS d p c b k).1 (p + (k : Int)) (secB c b k), writeE (wrS d p c b k).1 (p + (k : Int))) else wrS d p c b k
theorem wrS_stop {d : DS} {p : Int} {c : Nat} {b : List UInt8} {k : Nat} (h : (wrS d p c b k).2 ≠ 0) : ∀ n, wrS d p c b (k + n) = wrS d p c b k
  | 0 => rfl
  | n + 1 => by
    have ih := wrS_stop h n
    rw [← Nat.add_assoc, wrS, ih, if_neg h]
def mayE (p : Int) : Int := if 0 ≤ p ∧ p ≤ 32748 then 0 else 1
/-- Format. -/
def fmF (d : DS) (p : Int) : DS × Int :=
  if (wrS d p 2 [] 10).2 = 0 then
    (if (wrS (wrS d p 2 [] 10).1 (p + 10) 1 [] 10).2 = 0 then (syncAll (wrS (wrS d p 2 [] 10).1 (p + 10) 1 [] 10).1, syncE (wrS (wrS d p 2 [] 10).1 (p + 10) 1 [] 10).1) else wrS (wrS d p 2 [] 10).1 (p + 10) 1 [] 10)
  else wrS d p 2 [] 10
def nextF (d : DS) (p : Int) : Nat := (topF (viewD d p) 20 + 1) % 2 ^ 64
/-- Put, of bytes that are not too many, by a cell that is not dead. -/
def ptF (d : DS) (p : Int) (which : Nat) (b : List UInt8) : DS × Int :=
  if (wrS d (p + ((1 - which : Nat) : Int) * 10) (nextF d p) b 10).2 = 0 then (syncAll (wrS d (p + ((1 - which : Nat) : Int) * 10) (nextF d p) b 10).1, syncE (wrS d (p + ((1 - which : Nat) : Int) * 10) (nextF d p) b 10).1)
  else wrS d (p + ((1 - which : Nat) : Int) * 10) (nextF d p) b 10
end Go.Proofs.Ytmjdfajdompkeaa
