/- cell: in plain words. -/
import Derived.Test.YtmjdfajdompkeaaGreatDoorZd
import Derived.Test.YtmjdfajdompkeaaGreatDoorZa
import Derived.Lib.SlBytesConst
namespace Go.Proofs.YtmjdfajdompkeaaGreatDoor
open Go.RowKit Go.Rat
/-- All bytes of a slot; those of its sector i. -/
def allB (b : List UInt8) : List UInt8 := be 2 b.length ++ b ++ List.replicate (1198 - b.length) 0
theorem allB_length {b : List UInt8} (h : b.length ≤ 1198) : (allB b).length = 1200 := by
  rw [allB, List.length_append, List.length_append, be_length, List.length_replicate]; omega
def partB (b : List UInt8) (i : Nat) : List UInt8 := ((allB b).drop (i * 120)).take 120
theorem partB_length {b : List UInt8} (h : b.length ≤ 1198) {i : Nat} (hi : i < 10) : (partB b i).length = 120 := by
  rw [partB, List.length_take, List.length_drop, allB_length h]; omega
def secB (c : Nat) (b : List UInt8) (i : Nat) : List UInt8 := be 8 c ++ partB b i
theorem secB_length (c : Nat) {b : List UInt8} (h : b.length ≤ 1198) {i : Nat} (hi : i < 10) : (secB c b i).length = 128 := by
  rw [secB, List.length_append, be_length, partB_length h hi]
def cntB (s : List UInt8) : Nat := num (s.take 8)
theorem cntB_lt (s : List UInt8) : cntB s < 2 ^ 64 := num_lt64 (by rw [List.length_take]; omega)
theorem cntB_secB {c : Nat} (hc : c < 2 ^ 64) (b : List UInt8) (i : Nat) : cntB (secB c b i) = c := by
  rw [cntB, secB, List.take_left' (be_length 8 c), num_be, Nat.mod_eq_of_lt (by omega)]
theorem secB_drop (c : Nat) (b : List UInt8) (i : Nat) : (secB c b i).drop 8 = partB b i := by
  rw [secB, List.drop_left' (be_length 8 c)]
/-- What is read of the first k sectors; none: they are not whole. -/
def rdS (F : Nat → Option (List UInt8)) : Nat → Option (Nat × List UInt8)
  | 0 => some (0, [])
  | k + 1 => match rdS F k, F k with
    | some (n, all), some s => if k = 0 ∨ cntB s = n then some (cntB s, all ++ s.drop 8) else none
    | _, _ => none
def endF (n : Nat) (all : List UInt8) : Nat × List UInt8 :=
  if num (all.take 2) ≤ 1100 ∧ ((all.drop 2).drop (num (all.take 2))).all (· == 0) = true then (n, (all.drop 2).take (num (all.take 2))) else (0, [])
def rdF (F : Nat → Option (List UInt8)) : Nat × List UInt8 :=
  match rdS F 10 with
  | none => (0, [])
  | some (n, all) => endF n all
theorem rdS_ext {F G : Nat → Option (List UInt8)} : ∀ k, (∀ i, i < k → F i = G i) → rdS F k = rdS G k
  | 0, _ => rfl
  | k + 1, h => by rw [rdS, rdS, rdS_ext k (fun i hi => h i (by omega)), h k (by omega)]
theorem rdF_ext {F G : Nat → Option (List UInt8)} (h : ∀ i, i < 10 → F i = G i) : rdF F = rdF G := by rw [rdF, rdF, rdS_ext 10 h]
theorem rdS_of (F : Nat → Option (List UInt8)) : ∀ k n all, rdS F k = some (n, all) → ∀ i, i < k → ∃ s, F i = some s ∧ cntB s = n
  | 0, _, _, _, i, hi => by omega
  | k + 1, n, all, h, i, hi => by
    rw [rdS] at h
    split at h
    · next m al s h1 h2 =>
      split at h
      · next hc =>
        simp only [Option.some.injEq, Prod.mk.injEq] at h
        by_cases e : i = k
        · subst e
          exact ⟨s, h2, h.1⟩
        · obtain ⟨s', h3, h4⟩ := rdS_of F k m al h1 i (by omega)
          refine ⟨s', h3, ?_⟩
          rcases hc with hc | hc
          · omega
          · rw [h4, ← hc]; exact h.1
      · cases h
    · cases h
theorem rdF_of {F : Nat → Option (List UInt8)} (h : (rdF F).1 ≠ 0) : ∀ i, i < 10 → ∃ s, F i = some s ∧ cntB s = (rdF F).1 := by
  rw [rdF] at h ⊢
  split
  · next h1 => rw [h1] at h; exact absurd rfl h
  · next n all h1 =>
    rw [h1] at h
    simp only [endF] at h ⊢
    split
    · exact rdS_of F 10 n all h1
    · next hc => rw [if_neg hc] at h; exact absurd rfl h
theorem rdF_lost {F : Nat → Option (List UInt8)} {i : Nat} (hi : i < 10) (h : F i = none) : rdF F = (0, []) := by
  have : rdS F 10 = none := by
    match hr : rdS F 10 with
    | none => rfl
    | some (n, all) =>
      obtain ⟨s, hs, _⟩ := rdS_of F 10 n all hr i hi
      rw [h] at hs; cases hs
  rw [rdF, this]
theorem part_next (b : List UInt8) (k : Nat) : (allB b).take (k * 120) ++ partB b k = (allB b).take ((k + 1) * 120) := by
  rw [partB, Nat.succ_mul, List.take_add]
theorem rdS_full {F : Nat → Option (List UInt8)} {c : Nat} {b : List UInt8} (hc : c < 2 ^ 64) : ∀ k, (∀ i, i < k → F i = some (secB c b i)) → rdS F k = some (if k = 0 then 0 else c, (allB b).take (k * 120))
  | 0, _ => by simp [rdS]
  | k + 1, h => by
    have ih := rdS_full hc k (fun i hi => h i (by omega))
    rw [rdS, ih, h k (by omega)]
    simp only []
    rw [if_pos, cntB_secB hc, secB_drop, part_next, if_neg (by omega)]
    by_cases hk : k = 0
    · exact .inl hk
    · rw [if_neg hk, cntB_secB hc]; exact .inr rfl
theorem endF_allB {n : Nat} {b : List UInt8} (hb : b.length ≤ 1100) : endF n (allB b) = (n, b) := by
  have h2 : (allB b).take 2 = be 2 b.length := by rw [allB, List.append_assoc, List.take_left' (be_length 2 _)]
  have h3 : (allB b).drop 2 = b ++ List.replicate (1198 - b.length) 0 := by rw [allB, List.append_assoc, List.drop_left' (be_length 2 _)]
  have h4 : num ((allB b).take 2) = b.length := by rw [h2, num_be, Nat.mod_eq_of_lt (by omega)]
  rw [endF, h4, h3, List.drop_left, List.take_left, if_pos ⟨hb, by simp⟩]
theorem rdF_full {F : Nat → Option (List UInt8)} {c : Nat} {b : List UInt8} (hc : c < 2 ^ 64) (hb : b.length ≤ 1100) (h : ∀ i, i < 10 → F i = some (secB c b i)) : rdF F = (c, b) := by
  rw [rdF, rdS_full hc 10 h, if_neg (by omega)]
  have := allB_length (b := b) (by omega)
  simp only []
  rw [List.take_of_length_le (by omega)]
  exact endF_allB hb
/-- The greatest count of the first k sectors. -/
def topF (F : Nat → Option (List UInt8)) : Nat → Nat
  | 0 => 0
  | k + 1 => match F k with
    | some s => max (topF F k) (cntB s)
    | none => topF F k
theorem topF_lt (F : Nat → Option (List UInt8)) : ∀ k, topF F k < 2 ^ 64
  | 0 => by simp [topF]
  | k + 1 => by
    have := topF_lt F k
    rw [topF]
    split
    · next s _ => have := cntB_lt s; omega
    · exact this
theorem topF_ge (F : Nat → Option (List UInt8)) : ∀ k i s, i < k → F i = some s → cntB s ≤ topF F k
  | 0, i, _, h, _ => by omega
  | k + 1, i, s, h, hs => by
    rw [topF]
    by_cases e : i = k
    · subst e
      rw [hs]
      simp only []
      omega
    · have := topF_ge F k i s (by omega) hs
      split <;> omega
theorem topF_le (F : Nat → Option (List UInt8)) (M : Nat) : ∀ k, (∀ i s, i < k → F i = some s → cntB s ≤ M) → topF F k ≤ M
  | 0, _ => Nat.zero_le _
  | k + 1, h => by
    have ih := topF_le F M k (fun i s hi => h i s (by omega))
    rw [topF]
    split
    · next s hs => have := h k s (by omega) hs; omega
    · exact ih
/-- What a disk tells of its sectors from p on. -/
def viewD (d : DS) (p : Int) (i : Nat) : Option (List UInt8) := if readE d (p + (i : Int)) = 0 then some (readB d (p + (i : Int))) else none
/-- The write of the first k sectors of a slot. -/
def wrS (d : DS) (p : Int) (c : Nat) (b : List UInt8) : Nat → DS × Int
  | 0 => (d, 0)
  | k + 1 => if (wrS d p c b k).2 = 0 then (writeD (wrS d p c b k).1 (p + (k : Int)) (secB c b k), writeE (wrS d p c b k).1 (p + (k : Int))) else wrS d p c b k
theorem wrS_stop {d : DS} {p : Int} {c : Nat} {b : List UInt8} {k : Nat} (h : (wrS d p c b k).2 ≠ 0) : ∀ n, wrS d p c b (k + n) = wrS d p c b k
  | 0 => rfl
  | n + 1 => by
    have ih := wrS_stop h n
    rw [← Nat.add_assoc, wrS, ih, if_neg h]
def mayE (p : Int) : Int := if 0 ≤ p ∧ p ≤ 32748 then 0 else 1
/-- Format. -/
def fmF (d : DS) (p : Int) : DS × Int :=
  if (wrS d p 2 [] 10).2 = 0 then
    (if (wrS (wrS d p 2 [] 10).1 (p + 10) 1 [] 10).2 = 0 then (syncAll (wrS (wrS d p 2 [] 10).1 (p + 10) 1 [] 10).1, syncE (wrS (wrS d p 2 [] 10).1 (p + 10) 1 [] 10).1) else wrS (wrS d p 2 [] 10).1 (p + 10) 1 [] 10)
  else wrS d p 2 [] 10
def nextF (d : DS) (p : Int) : Nat := (topF (viewD d p) 20 + 1) % 2 ^ 64
/-- Put, of bytes that are not too many, by a cell that is not dead. -/
def ptF (d : DS) (p : Int) (which : Nat) (b : List UInt8) : DS × Int :=
  if (wrS d (p + ((1 - which : Nat) : Int) * 10) (nextF d p) b 10).2 = 0 then (syncAll (wrS d (p + ((1 - which : Nat) : Int) * 10) (nextF d p) b 10).1, syncE (wrS d (p + ((1 - which : Nat) : Int) * 10) (nextF d p) b 10).1)
  else wrS d (p + ((1 - which : Nat) : Int) * 10) (nextF d p) b 10
end Go.Proofs.YtmjdfajdompkeaaGreatDoor
namespace Go.Proofs.YtmjdfajdompkeaaGreatDoor
open Go.RowKit Go.Rat
abbrev Put2 := UInt8 × UInt8
def putCells (x : Put2) : List Value := [.int .u8 (x.1.toNat : Int), .int .u8 (x.2.toNat : Int)]
theorem puts_at {w : World} {A : Option Addr} {n : Nat} {l : List Put2} (h : Reads w w.heap.size 2 A n (l.flatMap putCells)) {k : Nat} (hk : k < n) :
    ∃ ad, A = some ad ∧ (ad.add (k * 2)).block < w.heap.size ∧ w.cell? (ad.add (k * 2)) = some (.int .u8 ((l.getD k (0, 0)).1.toNat : Int)) ∧ w.cell? ⟨(ad.add (k * 2)).block, (ad.add (k * 2)).off + 1, none⟩ = some (.int .u8 ((l.getD k (0, 0)).2.toNat : Int)) := by
  obtain ⟨ad, rfl, hb, hc⟩ := h.2 (by omega)
  have hlen := flat_len putCells 2 (fun _ => rfl) l
  have hkl : k < l.length := by have := h.1; omega
  have hg : l[k]? = some (l.getD k (0, 0)) := by rw [List.getD_eq_getElem?_getD, List.getElem?_eq_getElem hkl]; rfl
  have F := flat_get putCells 2 (fun _ => rfl) l k
  refine ⟨ad, rfl, by rw [block_of_add]; exact hb, ?_, ?_⟩
  · exact hc _ _ (by have := F 0 _ hg (by omega); simpa [putCells] using this)
  · rw [add_field _ _ _ (by omega)]
    exact hc _ _ (by have := F 1 _ hg (by omega); simpa [putCells] using this)
def atP (x : Put2) : Nat := x.1.toNat % 16
theorem atP_lt (x : Put2) : atP x < 16 := Nat.mod_lt _ (by omega)
def looseP (l : List Put2) : List (Int × List UInt8) := l.map fun x => ((atP x : Int), rep x.2)
def rowsC (f : Nat → List UInt8) (n : Nat) : List Value := (List.range n).flatMap fun a => bvs (f a)
theorem rowsC_succ (f : Nat → List UInt8) (n : Nat) : rowsC f (n + 1) = rowsC f n ++ bvs (f n) := by
  rw [rowsC, rowsC, List.range_succ, List.flatMap_append]; simp
section
variable {f : Nat → List UInt8} (hf : ∀ a, (f a).length = 128)
include hf
theorem rowsC_length : ∀ n, (rowsC f n).length = n * 128
  | 0 => rfl
  | n + 1 => by rw [rowsC_succ, List.length_append, rowsC_length n, bvs_length, hf]; omega
theorem rowsC_get : ∀ n a, a < n → ((rowsC f n).drop (a * 128)).take 128 = bvs (f a)
  | 0, a, h => by omega
  | n + 1, a, h => by
    have hl := rowsC_length hf n
    have hb : (bvs (f a)).length = 128 := by rw [bvs_length, hf]
    rw [rowsC_succ]
    by_cases h1 : a < n
    · rw [List.drop_append_of_le_length (by omega), List.take_append_of_le_length (by rw [List.length_drop]; omega)]
      exact rowsC_get n a h1
    · obtain rfl : a = n := by omega
      rw [← hl, List.drop_left, List.take_of_length_le (by omega)]
theorem rowsC_put (b : List UInt8) (hb : b.length = 128) : ∀ n a, a < n → Go.splice (rowsC f n) (a * 128) (bvs b) = rowsC (fun x => if x = a then b else f x) n
  | 0, a, h => by omega
  | n + 1, a, h => by
    have hl := rowsC_length hf n
    have hbb : (bvs b).length = 128 := by rw [bvs_length, hb]
    rw [rowsC_succ, rowsC_succ]
    by_cases h1 : a < n
    · rw [← rowsC_put b hb n a h1, if_neg (by omega), Go.splice, Go.splice, List.take_append_of_le_length (by omega), List.drop_append_of_le_length (by omega)]
      simp
    · obtain rfl : a = n := by omega
      have he : rowsC (fun x => if x = a then b else f x) a = rowsC f a := by
        rw [rowsC, rowsC, List.flatMap_def, List.flatMap_def]
        exact congrArg _ (List.map_congr_left fun x hx => by rw [if_neg (by have := List.mem_range.1 hx; omega)])
      rw [if_pos rfl, he, Go.splice, ← hl, List.take_left, hbb, List.drop_of_length_le (by rw [List.length_append, bvs_length, hf]; omega), List.append_nil]
end
/-- What the law keeps of the sure puts. -/
def wasF (l : List Put2) : Nat → Nat → List UInt8
  | 0 => fun _ => zs
  | k + 1 => fun a => if a = atP (l.getD k (0, 0)) then rep (l.getD k (0, 0)).2 else wasF l k a
theorem wasF_len (l : List Put2) : ∀ k a, (wasF l k a).length = 128
  | 0, _ => zs_length
  | k + 1, a => by
    unfold wasF
    split
    · exact rep_length _
    · exact wasF_len l k a
/-- After k puts on a disk whose sure sectors are W. -/
structure PutInv (W : Nat → List UInt8) (l : List Put2) (k : Nat) (d : DS) : Prop where
  off : d.off = false
  fuse : d.fuse = -1
  sure : ∀ a : Nat, a < 16 → d.sure a = ⟨W a, false⟩
  loose : d.loose = looseP (l.take k)
  now : ∀ a : Nat, a < 16 → (∀ x ∈ l.take k, atP x ≠ a) → d.now a = ⟨W a, false⟩
theorem take_getD (l : List Put2) {k : Nat} (hk : k < l.length) : l.take (k + 1) = l.take k ++ [l.getD k (0, 0)] := by
  rw [List.take_add_one, List.getElem?_eq_getElem hk, List.getD_eq_getElem?_getD, List.getElem?_eq_getElem hk]; rfl
theorem put_step {W : Nat → List UInt8} {l : List Put2} {k : Nat} {d : DS} (h : PutInv W l k d) (hk : k < l.length) :
    PutInv W l (k + 1) (writeD d (atP (l.getD k (0, 0)) : Nat) (rep (l.getD k (0, 0)).2)) ∧ writeE d (atP (l.getD k (0, 0)) : Nat) = 0 ∧
    ∀ a : Nat, (writeD d (atP (l.getD k (0, 0)) : Nat) (rep (l.getD k (0, 0)).2)).now a = if a = atP (l.getD k (0, 0)) then ⟨rep (l.getD k (0, 0)).2, false⟩ else d.now a := by
  have hx := atP_lt (l.getD k (0, 0))
  obtain ⟨h1, h2⟩ := writeD_on h.off h.fuse (a := ((atP (l.getD k (0, 0)) : Nat) : Int)) (by omega) (rep (l.getD k (0, 0)).2)
  rw [h1]
  have hn : ∀ a : Nat, (putD d (atP (l.getD k (0, 0)) : Nat) (rep (l.getD k (0, 0)).2)).now a = if a = atP (l.getD k (0, 0)) then ⟨rep (l.getD k (0, 0)).2, false⟩ else d.now a := by
    intro a
    show (if (a : Int) = _ then _ else _) = _
    by_cases e : a = atP (l.getD k (0, 0))
    · rw [if_pos e, if_pos (by rw [e])]
    · rw [if_neg e, if_neg (by omega)]
  refine ⟨⟨h.off, h.fuse, h.sure, ?_, ?_⟩, h2, hn⟩
  · show d.loose ++ [_] = _
    rw [h.loose, take_getD l hk, looseP, looseP, List.map_append]; rfl
  · intro a ha hx
    rw [take_getD l hk] at hx
    rw [hn, if_neg (fun e => hx _ (by simp) e.symm)]
    exact h.now a ha fun x hm => hx x (by simp [hm])
theorem put_start : PutInv (fun _ => zs) [] 0 ds0 := ⟨rfl, rfl, fun _ _ => rfl, rfl, fun _ _ _ => rfl⟩
theorem PutInv.first {W : Nat → List UInt8} {l : List Put2} {d : DS} (h : PutInv W [] 0 d) : PutInv W l 0 d := ⟨h.off, h.fuse, h.sure, h.loose, fun a ha _ => h.now a ha (fun x hx => by simp at hx)⟩
theorem looseP_any (l : List Put2) (a : Nat) : ((looseP l).any fun x => decide (x.1 = (a : Int))) = true ↔ ∃ x ∈ l, atP x = a := by
  simp only [looseP, List.any_map, List.any_eq_true, Function.comp, decide_eq_true_eq]
  constructor
  · rintro ⟨x, h1, h2⟩; exact ⟨x, h1, by omega⟩
  · rintro ⟨x, h1, h2⟩; exact ⟨x, h1, by omega⟩
/-- The Sync behind the sure puts. -/
theorem put_sync {l : List Put2} {d : DS} (h : PutInv (fun _ => zs) l l.length d) (hn : ∀ a : Nat, a < 16 → d.now a = ⟨wasF l l.length a, false⟩) :
    syncE d = 0 ∧ PutInv (wasF l l.length) [] 0 (syncAll d) := by
  obtain ⟨h1, h2⟩ := syncAll_on h.off h.fuse
  rw [h1]
  refine ⟨h2, h.off, h.fuse, ?_, rfl, fun a ha _ => hn a ha⟩
  intro a ha
  show syncF d.now d.loose d.sure a = _
  rw [syncF_at, ← hn a ha]
  split
  · rfl
  · next hc =>
    rw [h.loose, List.take_length, looseP_any] at hc
    rw [h.sure a ha, h.now a ha (fun x hx e => hc ⟨x, by simpa using hx, e⟩)]
theorem picksF_is (ps : List UInt8) (a : Int) : ∀ (l : List (Int × List UInt8)) i (f : Int → Sec), picksF l i ps f a = f a ∨ ∃ x ∈ l, x.1 = a ∧ (picksF l i ps f a = ⟨x.2, false⟩ ∨ (picksF l i ps f a).lost = true)
  | [], _, _ => .inl rfl
  | x :: r, i, f => by
    rw [picksF]
    rcases picksF_is ps a r (i + 1) (pickF f x (ps.getD i 0).toNat) with h | ⟨y, h1, h2⟩
    · rw [h]
      unfold pickF
      split
      · exact .inl rfl
      · by_cases e : a = x.1
        · right
          refine ⟨x, by simp, e.symm, ?_⟩
          split <;> simp [upd, e]
        · left
          split <;> simp [upd, e]
    · exact .inr ⟨y, by simp [h1], h2⟩
theorem put_end {W : Nat → List UInt8} {l : List Put2} {d : DS} (h : PutInv W l l.length d) (ps : List UInt8) :
    readE (offD d) 0 = 8 ∧ onE (offD d) = 0 ∧ (onAll (offD d) ps).loose = [] ∧
    ∀ a : Nat, a < 16 → (readE (onAll (offD d) ps) a = 0 ∧ readB (onAll (offD d) ps) a = W a) ∨ ∃ x ∈ l, atP x = a ∧ (readE (onAll (offD d) ps) a = 0 ∧ readB (onAll (offD d) ps) a = rep x.2 ∨ readE (onAll (offD d) ps) a = 9) := by
  have hon : onAll (offD d) ps = onD (offD d) ps := by unfold onAll; exact if_pos rfl
  refine ⟨rfl, by unfold onE; exact if_pos rfl, by rw [hon]; rfl, ?_⟩
  intro a ha
  rw [hon]
  have hr : readyE (onD (offD d) ps).off a = 0 := readyE_ok (by omega)
  have hnow : (onD (offD d) ps).now a = ⟨W a, false⟩ ∨ ∃ x ∈ l, atP x = a ∧ ((onD (offD d) ps).now a = ⟨rep x.2, false⟩ ∨ ((onD (offD d) ps).now a).lost = true) := by
    have he : (onD (offD d) ps).now a = syncF (picksF d.loose 0 ps d.sure) d.loose d.now a := rfl
    rw [he, syncF_at]
    split
    · rcases picksF_is ps a d.loose 0 d.sure with hp | ⟨x, h1, h2, h3⟩
      · rw [hp]
        exact .inl (h.sure a ha)
      · rw [h.loose, List.take_length, looseP, List.mem_map] at h1
        obtain ⟨y, hy, rfl⟩ := h1
        exact .inr ⟨y, hy, by simp at h2; omega, h3⟩
    · next hc =>
      rw [h.loose, List.take_length, looseP_any] at hc
      exact .inl (h.now a ha (fun x hx e => hc ⟨x, by simpa using hx, e⟩))
  rcases hnow with h1 | ⟨x, hx, hxa, h1 | h1⟩
  · left
    exact ⟨by rw [readE, if_pos hr, h1]; rfl, by rw [readB, h1, if_pos ⟨hr, rfl⟩]⟩
  · refine .inr ⟨x, hx, hxa, .inl ?_⟩
    exact ⟨by rw [readE, if_pos hr, h1]; rfl, by rw [readB, h1, if_pos ⟨hr, rfl⟩]⟩
  · refine .inr ⟨x, hx, hxa, .inr ?_⟩
    rw [readE, if_pos hr, h1]
    simp
/-- Whether a sector is fine by the first k soft puts. -/
def fineB (W : List UInt8) (l : List Put2) (a : Nat) (b : List UInt8) (e : Int) : Nat → Bool
  | 0 => decide (e = 0) && decide (b = W)
  | k + 1 => if atP (l.getD k (0, 0)) = a then (fineB W l a b e k || (decide (e = 0) && decide (b = rep (l.getD k (0, 0)).2))) || decide (e = 9) else fineB W l a b e k
theorem fineB_up (W : List UInt8) (l : List Put2) (a : Nat) (b : List UInt8) (e : Int) {k : Nat} (h : fineB W l a b e k = true) : ∀ n, fineB W l a b e (k + n) = true
  | 0 => h
  | n + 1 => by
    have := fineB_up W l a b e h n
    rw [← Nat.add_assoc, fineB, this]
    split <;> simp
theorem fineB_end (W : List UInt8) (l : List Put2) (a : Nat) (b : List UInt8) (e : Int) (h : (e = 0 ∧ b = W) ∨ ∃ x ∈ l, atP x = a ∧ (e = 0 ∧ b = rep x.2 ∨ e = 9)) : fineB W l a b e l.length = true := by
  rcases h with ⟨h1, h2⟩ | ⟨x, hx, ha, h⟩
  · have := fineB_up W l a b e (k := 0) (by simp [fineB, h1, h2]) l.length
    rwa [Nat.zero_add] at this
  · obtain ⟨i, hi, he⟩ := List.getElem_of_mem hx
    have hg : l.getD i (0, 0) = x := by rw [List.getD_eq_getElem?_getD, List.getElem?_eq_getElem hi, he]; rfl
    have h1 : fineB W l a b e (i + 1) = true := by
      rw [fineB, hg, if_pos ha]
      rcases h with ⟨h, h'⟩ | h <;> simp [h]
      simp [h']
    have := fineB_up W l a b e h1 (l.length - (i + 1))
    rwa [show i + 1 + (l.length - (i + 1)) = l.length by omega] at this
end Go.Proofs.YtmjdfajdompkeaaGreatDoor
namespace Go.Proofs.YtmjdfajdompkeaaGreatDoor
open Go.RowKit Go.Rat
def wlist (p : Int) (c : Nat) (b : List UInt8) (m : Nat) : List (Int × List UInt8) := (List.range m).map fun i => (p + ((i : Nat) : Int), secB c b i)
theorem wlist_succ (p : Int) (c : Nat) (b : List UInt8) (m : Nat) : wlist p c b (m + 1) = wlist p c b m ++ [(p + (m : Int), secB c b m)] := by
  rw [wlist, wlist, List.range_succ, List.map_append]; rfl
theorem wlist_mem {p : Int} {c : Nat} {b : List UInt8} {m : Nat} {x : Int × List UInt8} : x ∈ wlist p c b m ↔ ∃ i : Nat, i < m ∧ x = (p + (i : Int), secB c b i) := by
  rw [wlist, List.mem_map]
  constructor
  · rintro ⟨i, hi, rfl⟩; exact ⟨i, List.mem_range.1 hi, rfl⟩
  · rintro ⟨i, hi, rfl⟩; exact ⟨i, List.mem_range.2 hi, rfl⟩
def nowW (now : Int → Sec) (p : Int) (c : Nat) (b : List UInt8) (m : Nat) : Int → Sec := fun a => if p ≤ a ∧ a < p + (m : Int) then ⟨secB c b (a - p).toNat, false⟩ else now a
theorem nowW_in (now : Int → Sec) (p : Int) (c : Nat) (b : List UInt8) {m i : Nat} (hi : i < m) : nowW now p c b m (p + (i : Int)) = ⟨secB c b i, false⟩ := by
  rw [nowW, if_pos ⟨by omega, by omega⟩, show (p + (i : Int) - p).toNat = i by omega]
theorem nowW_out (now : Int → Sec) (p : Int) (c : Nat) (b : List UInt8) {m : Nat} {a : Int} (h : ¬ (p ≤ a ∧ a < p + (m : Int))) : nowW now p c b m a = now a := if_neg h
structure Wr (d d' : DS) (p : Int) (c : Nat) (b : List UInt8) (m : Nat) : Prop where
  sure : d'.sure = d.sure
  now : ∀ a, d'.now a = nowW d.now p c b m a
  loose : d'.loose = d.loose ++ wlist p c b m
theorem Wr.put {d d' : DS} {p : Int} {c : Nat} {b : List UInt8} {m : Nat} (h : Wr d d' p c b m) : Wr d (putD d' (p + (m : Int)) (secB c b m)) p c b (m + 1) := by
  refine ⟨h.sure, fun a => ?_, ?_⟩
  · show (if a = p + (m : Int) then _ else d'.now a) = _
    rw [h.now, nowW, nowW]
    by_cases e : a = p + (m : Int)
    · subst e
      rw [if_pos rfl, if_pos ⟨by omega, by omega⟩, show (p + (m : Int) - p).toNat = m by omega]
    · rw [if_neg e]
      by_cases h1 : p ≤ a ∧ a < p + (m : Int)
      · rw [if_pos h1, if_pos ⟨by omega, by omega⟩]
      · rw [if_neg h1, if_neg (by omega)]
  · show d'.loose ++ [_] = _
    rw [h.loose, wlist_succ, List.append_assoc]
theorem Wr.of {d d' d2 : DS} {p : Int} {c : Nat} {b : List UInt8} {m : Nat} (h : Wr d d' p c b m) (h1 : d2.sure = d'.sure) (h2 : d2.now = d'.now) (h3 : d2.loose = d'.loose) : Wr d d2 p c b m :=
  ⟨h1.trans h.sure, fun a => by rw [h2]; exact h.now a, h3.trans h.loose⟩
/-- One write, where the power is on. -/
theorem write_eff {d : DS} {a : Int} (b : List UInt8) (ho : d.off = false) (ha : 0 ≤ a ∧ a < 32768) :
    (d.fuse = 0 → writeE d a = 8 ∧ writeD d a b = offD (putD d a b)) ∧
    (0 < d.fuse → writeE d a = 0 ∧ writeD d a b = { putD d a b with fuse := d.fuse - 1 }) ∧
    (d.fuse < 0 → writeE d a = 0 ∧ writeD d a b = putD d a b) := by
  have hr : readyE d.off a = 0 := by rw [ho]; exact readyE_ok ha
  have hf : (putD d a b).fuse = d.fuse := rfl
  refine ⟨fun h => ⟨?_, ?_⟩, fun h => ⟨?_, ?_⟩, fun h => ⟨?_, ?_⟩⟩
  · rw [writeE, if_pos hr, if_pos (by rw [burnB, decide_eq_true_eq]; exact h)]
  · rw [writeD, if_pos hr, burnD, if_pos (by rw [hf]; exact h)]
  · rw [writeE, if_pos hr, if_neg (by rw [burnB, decide_eq_true_eq]; omega)]
  · rw [writeD, if_pos hr, burnD, if_neg (by rw [hf]; omega), if_pos (by rw [hf]; exact h), hf]
  · rw [writeE, if_pos hr, if_neg (by rw [burnB, decide_eq_true_eq]; omega)]
  · rw [writeD, if_pos hr, burnD, if_neg (by rw [hf]; omega), if_neg (by rw [hf]; omega)]
theorem wrS_eff {d : DS} {p : Int} {c : Nat} {b : List UInt8} (hp : 0 ≤ p ∧ p + 10 ≤ 32768) (ho : d.off = false) (hf : -1 ≤ d.fuse) : ∀ k : Nat, k ≤ 10 →
    ∃ m : Nat, m ≤ k ∧ Wr d (wrS d p c b k).1 p c b m ∧
      ((wrS d p c b k).2 = 0 → m = k ∧ (wrS d p c b k).1.off = false ∧ (d.fuse = -1 ∧ (wrS d p c b k).1.fuse = -1 ∨ (k : Int) ≤ d.fuse ∧ (wrS d p c b k).1.fuse = d.fuse - (k : Int))) ∧
      ((wrS d p c b k).2 ≠ 0 → (wrS d p c b k).2 = 8 ∧ (wrS d p c b k).1.off = true ∧ 0 ≤ d.fuse ∧ d.fuse < (k : Int))
  | 0, _ => ⟨0, Nat.le_refl _, ⟨rfl, fun a => by rw [nowW_out _ _ _ _ (by omega)]; rfl, by simp [wlist, wrS]⟩, fun _ => ⟨rfl, ho, by
      by_cases h : d.fuse = -1
      · exact .inl ⟨h, h⟩
      · exact .inr ⟨by omega, by show d.fuse = d.fuse - ((0 : Nat) : Int); omega⟩⟩, fun h => absurd rfl h⟩
  | k + 1, hk => by
    obtain ⟨m, hm, hW, h1, h2⟩ := wrS_eff (c := c) (b := b) hp ho hf k (by omega)
    by_cases he : (wrS d p c b k).2 = 0
    · obtain ⟨rfl, ho1, hf1⟩ := h1 he
      have hst : wrS d p c b (m + 1) = (writeD (wrS d p c b m).1 (p + (m : Int)) (secB c b m), writeE (wrS d p c b m).1 (p + (m : Int))) := by rw [wrS, if_pos he]
      rw [hst]
      generalize (wrS d p c b m).1 = d1 at *
      obtain ⟨e1, e2, e3⟩ := write_eff (secB c b m) ho1 (a := p + (m : Int)) (by omega)
      have hWp := hW.put
      by_cases hz : d1.fuse = 0
      · obtain ⟨q1, q2⟩ := e1 hz
        refine ⟨m + 1, Nat.le_refl _, ?_, fun h => ?_, fun _ => ⟨q1, ?_, ?_⟩⟩
        · simp only [q2]; exact hWp.of rfl rfl rfl
        · simp only [q1] at h; omega
        · simp only [q2]; rfl
        · omega
      · by_cases hpos : 0 < d1.fuse
        · obtain ⟨q1, q2⟩ := e2 hpos
          refine ⟨m + 1, Nat.le_refl _, ?_, fun _ => ⟨rfl, ?_, ?_⟩, fun h => absurd q1 h⟩
          · simp only [q2]; exact hWp.of rfl rfl rfl
          · simp only [q2]; exact ho1
          · simp only [q2]; omega
        · obtain ⟨q1, q2⟩ := e3 (by omega)
          refine ⟨m + 1, Nat.le_refl _, ?_, fun _ => ⟨rfl, ?_, ?_⟩, fun h => absurd q1 h⟩
          · simp only [q2]; exact hWp
          · simp only [q2]; exact ho1
          · have hfp : (putD d1 (p + (m : Int)) (secB c b m)).fuse = d1.fuse := rfl
            simp only [q2]
            rw [hfp]
            omega
    · have hst : wrS d p c b (k + 1) = wrS d p c b k := by rw [wrS, if_neg he]
      rw [hst]
      obtain ⟨q1, q2, q3⟩ := h2 he
      exact ⟨m, by omega, hW, fun h => absurd h he, fun _ => ⟨q1, q2, by omega, by omega⟩⟩
/-- A disk that is on, nothing loose. -/
structure Calm (d : DS) : Prop where
  off : d.off = false
  fuse : d.fuse = -1
  loose : d.loose = []
  same : ∀ a, d.sure a = d.now a
theorem on_now (d : DS) (ps : List UInt8) (a : Int) : (onAll (offD d) ps).now a = (if (d.loose.any fun x => decide (x.1 = a)) = true then picksF d.loose 0 ps d.sure a else d.now a) ∧ (onAll (offD d) ps).sure a = picksF d.loose 0 ps d.sure a ∧ (onAll (offD d) ps).off = false ∧ (onAll (offD d) ps).fuse = -1 ∧ (onAll (offD d) ps).loose = [] ∧ onE (offD d) = 0 := by
  have hon : onAll (offD d) ps = onD (offD d) ps := by unfold onAll; exact if_pos rfl
  rw [hon]
  exact ⟨syncF_at _ _ _ _, rfl, rfl, rfl, rfl, by unfold onE; exact if_pos rfl⟩
theorem any_mem (l : List (Int × List UInt8)) (a : Int) : (l.any fun x => decide (x.1 = a)) = true ↔ ∃ x ∈ l, x.1 = a := by simp
/-- The power goes and comes where sure sectors and loose writes are so. -/
theorem on_calm {d d' : DS} (hd : Calm d) {p : Int} {c : Nat} {b : List UInt8} {m : Nat} (hW : Wr d d' p c b m) (ps : List UInt8) :
    Calm (onAll (offD d') ps) ∧ (∀ a, ¬ (p ≤ a ∧ a < p + (m : Int)) → (onAll (offD d') ps).now a = d.now a) ∧
    ∀ i : Nat, i < m → (onAll (offD d') ps).now (p + (i : Int)) = d.now (p + (i : Int)) ∨ (onAll (offD d') ps).now (p + (i : Int)) = ⟨secB c b i, false⟩ ∨ ((onAll (offD d') ps).now (p + (i : Int))).lost = true := by
  have hl : d'.loose = wlist p c b m := by rw [hW.loose, hd.loose, List.nil_append]
  have hany : ∀ a, (d'.loose.any fun x => decide (x.1 = a)) = true ↔ (p ≤ a ∧ a < p + (m : Int)) := by
    intro a
    rw [any_mem, hl]
    constructor
    · rintro ⟨x, hx, rfl⟩
      obtain ⟨i, hi, rfl⟩ := wlist_mem.1 hx
      simp only; omega
    · rintro ⟨h1, h2⟩
      exact ⟨_, wlist_mem.2 ⟨(a - p).toNat, by omega, rfl⟩, by simp only; omega⟩
  have hpk : ∀ a, ¬ (p ≤ a ∧ a < p + (m : Int)) → picksF d'.loose 0 ps d'.sure a = d.now a := by
    intro a ha
    rcases picksF_is ps a d'.loose 0 d'.sure with h | ⟨x, h1, h2, _⟩
    · rw [h, hW.sure, hd.same]
    · exact absurd ((hany a).1 ((any_mem _ _).2 ⟨x, h1, h2⟩)) ha
  obtain ⟨_, _, h3, h4, h5, _⟩ := on_now d' ps 0
  refine ⟨⟨h3, h4, h5, fun a => ?_⟩, fun a ha => ?_, fun i hi => ?_⟩
  · obtain ⟨h1, h2, _⟩ := on_now d' ps a
    rw [h1, h2]
    split
    · rfl
    · next hc =>
      rw [hany] at hc
      rw [hpk a hc, hW.now, nowW_out _ _ _ _ hc]
  · obtain ⟨h1, _⟩ := on_now d' ps a
    rw [h1, if_neg (by rw [hany]; exact ha), hW.now, nowW_out _ _ _ _ ha]
  · obtain ⟨h1, _⟩ := on_now d' ps (p + (i : Int))
    rw [h1, if_pos ((hany _).2 ⟨by omega, by omega⟩)]
    rcases picksF_is ps (p + (i : Int)) d'.loose 0 d'.sure with h | ⟨x, h1, h2, h3⟩
    · exact .inl (by rw [h, hW.sure, hd.same])
    · rw [hl] at h1
      obtain ⟨j, hj, rfl⟩ := wlist_mem.1 h1
      simp only at h2 h3
      obtain rfl : j = i := by omega
      exact .inr h3
theorem wlist_any (p : Int) (c : Nat) (b : List UInt8) (m : Nat) (a : Int) : ((wlist p c b m).any fun x => decide (x.1 = a)) = true ↔ (p ≤ a ∧ a < p + (m : Int)) := by
  rw [any_mem]
  constructor
  · rintro ⟨x, hx, rfl⟩
    obtain ⟨i, hi, rfl⟩ := wlist_mem.1 hx
    simp only; omega
  · rintro ⟨h1, h2⟩
    exact ⟨_, wlist_mem.2 ⟨(a - p).toNat, by omega, rfl⟩, by simp only; omega⟩
/-- A Put with a fuse, then the power goes and comes. -/
theorem ptF_power {d : DS} (h : Calm d) (f : Int) {p : Int} (hp : 0 ≤ p ∧ p + 20 ≤ 32768) {which : Nat} (hw : which ≤ 1) {b : List UInt8} (ps : List UInt8) (q : Int) (hq : q = p + ((1 - which : Nat) : Int) * 10) :
    ((ptF (fuseD d f) p which b).2 = 0 ∨ (ptF (fuseD d f) p which b).2 = 8) ∧
    Calm (onAll (offD (ptF (fuseD d f) p which b).1) ps) ∧
    (∀ a, ¬ (q ≤ a ∧ a < q + 10) → (onAll (offD (ptF (fuseD d f) p which b).1) ps).now a = d.now a) ∧
    (∀ i : Nat, i < 10 → (onAll (offD (ptF (fuseD d f) p which b).1) ps).now (q + (i : Int)) = d.now (q + (i : Int)) ∨ (onAll (offD (ptF (fuseD d f) p which b).1) ps).now (q + (i : Int)) = ⟨secB (nextF d p) b i, false⟩ ∨ ((onAll (offD (ptF (fuseD d f) p which b).1) ps).now (q + (i : Int))).lost = true) ∧
    ((ptF (fuseD d f) p which b).2 = 0 → ∀ i : Nat, i < 10 → (onAll (offD (ptF (fuseD d f) p which b).1) ps).now (q + (i : Int)) = ⟨secB (nextF d p) b i, false⟩) := by
  have hqb : 0 ≤ q ∧ q + 10 ≤ 32768 := by omega
  have hn : nextF (fuseD d f) p = nextF d p := rfl
  have hf : (fuseD d f).fuse = max f (-1) := rfl
  obtain ⟨m, hm, hW, h0, h8⟩ := wrS_eff (d := fuseD d f) (p := q) (c := nextF d p) (b := b) hqb h.off (by rw [hf]; omega) 10 (Nat.le_refl _)
  have hW : Wr d (wrS (fuseD d f) q (nextF d p) b 10).1 q (nextF d p) b m := ⟨hW.sure, hW.now, hW.loose⟩
  rw [ptF, hn, ← hq]
  generalize wrS (fuseD d f) q (nextF d p) b 10 = r at *
  obtain ⟨d1, e1⟩ := r
  simp only at h0 h8 hW ⊢
  by_cases he : e1 = 0
  · rw [if_pos he]
    obtain ⟨rfl, ho, hfu⟩ := h0 he
    simp only
    by_cases hb : burnB d1 = true
    · have hE : syncE d1 = 8 := by simp [syncE, ho, hb]
      have hD : syncAll d1 = offD d1 := by
        have : d1.fuse = 0 := by rwa [burnB, decide_eq_true_eq] at hb
        simp [syncAll, ho, hb, burnD, this]
      rw [hE, hD]
      obtain ⟨k1, k2, k3⟩ := on_calm h (d' := offD d1) (hW.of rfl rfl rfl) ps
      refine ⟨.inr rfl, k1, fun a ha => k2 a (by omega), fun i hi => k3 i hi, fun h => by omega⟩
    · have hb' : burnB d1 = false := by simpa using hb
      have hE : syncE d1 = 0 := by simp [syncE, ho, hb']
      have hD : syncAll d1 = syncD (burnD d1) := by simp [syncAll, ho, hb']
      rw [hE, hD]
      have hl : (burnD d1).loose = d1.loose ∧ (burnD d1).now = d1.now ∧ (burnD d1).sure = d1.sure := by
        unfold burnD
        split
        · exact ⟨rfl, rfl, rfl⟩
        · split <;> exact ⟨rfl, rfl, rfl⟩
      have hnow : ∀ a, (onAll (offD (syncD (burnD d1))) ps).now a = d1.now a := by
        intro a
        obtain ⟨g1, _⟩ := on_now (syncD (burnD d1)) ps a
        rw [g1, if_neg (by simp [syncD])]
        show (burnD d1).now a = _
        rw [hl.2.1]
      have hsure : ∀ a, (onAll (offD (syncD (burnD d1))) ps).sure a = d1.now a := by
        intro a
        obtain ⟨_, g2, _⟩ := on_now (syncD (burnD d1)) ps a
        rw [g2]
        show syncF (burnD d1).now (burnD d1).loose (burnD d1).sure a = _
        rw [syncF_at, hl.1, hl.2.1, hl.2.2]
        split
        · rfl
        · next hc =>
          rw [hW.loose, h.loose, List.nil_append, wlist_any] at hc
          rw [hW.sure, h.same, hW.now, nowW_out _ _ _ _ hc]
      obtain ⟨_, _, g3, g4, g5, _⟩ := on_now (syncD (burnD d1)) ps 0
      refine ⟨.inl rfl, ⟨g3, g4, g5, fun a => by rw [hnow, hsure]⟩, fun a ha => ?_, fun i hi => ?_, fun _ i hi => ?_⟩
      · rw [hnow, hW.now, nowW_out _ _ _ _ (by omega)]
      · rw [hnow, hW.now, nowW_in _ _ _ _ hi]; exact .inr (.inl rfl)
      · rw [hnow, hW.now, nowW_in _ _ _ _ hi]
  · rw [if_neg he]
    obtain ⟨q1, q2, _⟩ := h8 he
    obtain ⟨k1, k2, k3⟩ := on_calm h hW ps
    refine ⟨.inr q1, k1, fun a ha => k2 a (by omega), fun i hi => ?_, fun h => absurd h he⟩
    by_cases him : i < m
    · exact k3 i him
    · exact .inl (k2 _ (by omega))
end Go.Proofs.YtmjdfajdompkeaaGreatDoor
namespace Go.Proofs.YtmjdfajdompkeaaGreatDoor
open Go.RowKit Go.Rat
theorem view_on {d : DS} (ho : d.off = false) {p : Int} {i : Nat} (hp : 0 ≤ p + (i : Int) ∧ p + (i : Int) < 32768) : viewD d p i = if (d.now (p + (i : Int))).lost = true then none else some (d.now (p + (i : Int))).b := by
  have hr : readyE d.off (p + (i : Int)) = 0 := by rw [ho]; exact readyE_ok hp
  rw [viewD, readE, if_pos hr, readB]
  by_cases hl : (d.now (p + (i : Int))).lost = true
  · rw [if_pos hl, if_pos hl, if_neg (by decide)]
  · have hl' : (d.now (p + (i : Int))).lost = false := by simpa using hl
    rw [if_neg hl, if_neg hl, if_pos rfl, if_pos ⟨hr, hl'⟩]
theorem view_same {d d' : DS} (ho : d.off = false) (ho' : d'.off = false) {p : Int} {i : Nat} (hp : 0 ≤ p + (i : Int) ∧ p + (i : Int) < 32768) (h : d'.now (p + (i : Int)) = d.now (p + (i : Int))) : viewD d' p i = viewD d p i := by
  rw [view_on ho hp, view_on ho' hp, h]
theorem view_is {d : DS} (ho : d.off = false) {p : Int} {i : Nat} (hp : 0 ≤ p + (i : Int) ∧ p + (i : Int) < 32768) {b : List UInt8} (h : d.now (p + (i : Int)) = ⟨b, false⟩) : viewD d p i = some b := by
  rw [view_on ho hp, h]; rfl
theorem view_add (d : DS) (p : Int) (j i : Nat) : viewD d (p + (j : Int)) i = viewD d p (j + i) := by
  rw [viewD, viewD, show p + (j : Int) + (i : Int) = p + ((j + i : Nat) : Int) by omega]
/-- The slots' counts and bytes. -/
def slotV (d : DS) (p : Int) (s : Nat) : Nat × List UInt8 := rdF (viewD d (p + ((s * 10 : Nat) : Int)))
def opE (d : DS) (p : Int) : Int := if d.off = true then 8 else if (slotV d p 0).1 = 0 ∧ (slotV d p 1).1 = 0 then 9 else 0
def opF (d : DS) (p : Int) : Nat × List UInt8 := if (slotV d p 0).1 < (slotV d p 1).1 then (1, (slotV d p 1).2) else (0, (slotV d p 0).2)
theorem slotV_ext {d d' : DS} {p : Int} {s : Nat} (h : ∀ i : Nat, i < 10 → viewD d' p (s * 10 + i) = viewD d p (s * 10 + i)) : slotV d' p s = slotV d p s :=
  rdF_ext fun i hi => by rw [view_add, view_add]; exact h i hi
structure CellSt (d : DS) (p : Int) (which n : Nat) (has : List UInt8) (K : Nat) : Prop where
  off : d.off = false
  at_ : 0 ≤ p ∧ p + 20 ≤ 32768
  wh : which ≤ 1
  own : ∀ i, i < 10 → viewD d p (which * 10 + i) = some (secB n has i)
  oth : (slotV d p (1 - which)).1 < n
  top : ∀ i s, i < 20 → viewD d p i = some s → cntB s ≤ K
  len : has.length ≤ 1100
  nK : n ≤ K
  K64 : K + 1 < 2 ^ 64
section
variable {d d' : DS} {p : Int} {which n : Nat} {has : List UInt8} {K : Nat}
theorem CellSt.slot (h : CellSt d p which n has K) : slotV d p which = (n, has) :=
  rdF_full (by have := h.nK; have := h.K64; omega) h.len fun i hi => by rw [view_add]; exact h.own i hi
theorem CellSt.open_ (h : CellSt d p which n has K) : opE d p = 0 ∧ opF d p = (which, has) := by
  have hs := h.slot
  have ho := h.oth
  have hw := h.wh
  rw [opE, opF, h.off, if_neg (by decide)]
  by_cases e : which = 0
  · subst e
    have ho : (slotV d p 1).1 < n := ho
    rw [hs]
    simp only
    exact ⟨by rw [if_neg (by omega)], by rw [if_neg (by omega)]⟩
  · obtain rfl : which = 1 := by omega
    have ho : (slotV d p 0).1 < n := ho
    rw [hs]
    simp only
    exact ⟨by rw [if_neg (by omega)], by rw [if_pos (by omega)]⟩
theorem CellSt.keep (h : CellSt d p which n has K) (ho : d'.off = false) (hn : ∀ a, p ≤ a → a < p + 20 → d'.now a = d.now a) : CellSt d' p which n has K := by
  have hv : ∀ i : Nat, i < 20 → viewD d' p i = viewD d p i := fun i hi => view_same h.off ho (by have := h.at_; omega) (hn _ (by omega) (by omega))
  have hw := h.wh
  refine ⟨ho, h.at_, hw, fun i hi => by rw [hv _ (by omega)]; exact h.own i hi, ?_, fun i s hi hs => h.top i s hi (by rw [← hv i hi]; exact hs), h.len, h.nK, h.K64⟩
  rw [slotV_ext (d := d) fun i hi => hv _ (by omega)]
  exact h.oth
theorem CellSt.up (h : CellSt d p which n has K) {K' : Nat} (hk : K ≤ K') (h6 : K' + 1 < 2 ^ 64) : CellSt d p which n has K' :=
  ⟨h.off, h.at_, h.wh, h.own, h.oth, fun i s hi hs => Nat.le_trans (h.top i s hi hs) hk, h.len, Nat.le_trans h.nK hk, h6⟩
theorem CellSt.next (h : CellSt d p which n has K) : n < nextF d p ∧ nextF d p ≤ K + 1 ∧ ∀ i s, i < 20 → viewD d p i = some s → cntB s < nextF d p := by
  have hw := h.wh
  have h1 := topF_le (viewD d p) K 20 h.top
  have h2 := h.K64
  have he : nextF d p = topF (viewD d p) 20 + 1 := by rw [nextF, Nat.mod_eq_of_lt (by omega)]
  have h3 : ∀ i s, i < 20 → viewD d p i = some s → cntB s < nextF d p := fun i s hi hs => by
    have := topF_ge (viewD d p) 20 i s hi hs
    omega
  refine ⟨?_, by omega, h3⟩
  have := h3 _ _ (by omega) (h.own 0 (by omega))
  rwa [cntB_secB (by have := h.nK; omega)] at this
/-- The other slot turned: each of its sectors is as it was, or new, or lost. -/
theorem CellSt.torn (h : CellSt d p which n has K) (ho : d'.off = false) {b : List UInt8} (hb : b.length ≤ 1100) (q : Int) (hq : q = p + ((1 - which : Nat) : Int) * 10)
    (hout : ∀ a, ¬ (q ≤ a ∧ a < q + 10) → d'.now a = d.now a)
    (hin : ∀ i : Nat, i < 10 → d'.now (q + (i : Int)) = d.now (q + (i : Int)) ∨ d'.now (q + (i : Int)) = ⟨secB (nextF d p) b i, false⟩ ∨ (d'.now (q + (i : Int))).lost = true) (hK : K + 2 < 2 ^ 64) :
    (CellSt d' p (1 - which) (nextF d p) b (K + 1) ∧ (∀ i : Nat, i < 10 → d'.now (q + (i : Int)) = ⟨secB (nextF d p) b i, false⟩)) ∨
    (CellSt d' p which n has (K + 1) ∧ ∃ i : Nat, i < 10 ∧ d'.now (q + (i : Int)) ≠ ⟨secB (nextF d p) b i, false⟩) := by
  have hw := h.wh
  have hat := h.at_
  obtain ⟨hn1, hn2, hn3⟩ := h.next
  have hn64 : nextF d p < 2 ^ 64 := Nat.mod_lt _ (by omega)
  have hqi : ∀ i : Nat, q + (i : Int) = p + (((1 - which) * 10 + i : Nat) : Int) := fun i => by rw [hq]; omega
  have hvown : ∀ i : Nat, i < 10 → viewD d' p (which * 10 + i) = viewD d p (which * 10 + i) := fun i hi => view_same h.off ho (by omega) (hout _ (by omega))
  have htop : ∀ i s, i < 20 → viewD d' p i = some s → cntB s ≤ K + 1 := by
    intro i s hi hs
    by_cases hc : q ≤ p + (i : Int) ∧ p + (i : Int) < q + 10
    · obtain ⟨j, hj, hij⟩ : ∃ j : Nat, j < 10 ∧ q + (j : Int) = p + (i : Int) := ⟨i - (1 - which) * 10, by omega, by omega⟩
      rcases hin j hj with h1 | h1 | h1
      · rw [hij] at h1
        rw [view_same h.off ho (by omega) h1] at hs
        have := h.top i s hi hs
        omega
      · rw [hij] at h1
        rw [view_is ho (by omega) h1] at hs
        cases hs
        rw [cntB_secB hn64]; exact hn2
      · rw [hij] at h1
        rw [view_on ho (by omega), if_pos h1] at hs
        cases hs
    · rw [view_same h.off ho (by omega) (hout _ hc)] at hs
      have := h.top i s hi hs
      omega
  by_cases hall : ∀ i : Nat, i < 10 → d'.now (q + (i : Int)) = ⟨secB (nextF d p) b i, false⟩
  · refine .inl ⟨⟨ho, hat, by omega, fun i hi => ?_, ?_, htop, hb, hn2, by omega⟩, hall⟩
    · exact view_is ho (by omega) (by rw [← hqi]; exact hall i hi)
    · rw [show 1 - (1 - which) = which by omega, slotV_ext (d := d) hvown, h.slot]
      exact hn1
  · have hex : ∃ i : Nat, i < 10 ∧ d'.now (q + (i : Int)) ≠ ⟨secB (nextF d p) b i, false⟩ := by
      refine Classical.byContradiction fun hc => hall fun i hi => Classical.byContradiction fun h1 => hc ⟨i, hi, h1⟩
    refine .inr ⟨⟨ho, hat, hw, fun i hi => by rw [hvown i hi]; exact h.own i hi, ?_, htop, h.len, by have := h.nK; omega, by omega⟩, hex⟩
    obtain ⟨i0, hi0, hne⟩ := hex
    by_cases hz : (slotV d' p (1 - which)).1 = 0
    · rw [hz]; have := h.oth; omega
    · have hwh := rdF_of hz
      have hold : ∀ i : Nat, i < 10 → viewD d' p ((1 - which) * 10 + i) = viewD d p ((1 - which) * 10 + i) := by
        obtain ⟨s0, hs0, hc0⟩ := hwh i0 hi0
        have hlt : (rdF (viewD d' (p + (((1 - which) * 10 : Nat) : Int)))).1 < nextF d p := by
          rw [← hc0]
          rw [view_add] at hs0
          rcases hin i0 hi0 with h1 | h1 | h1
          · rw [hqi] at h1
            rw [view_same h.off ho (by omega) h1] at hs0
            exact hn3 _ _ (by omega) hs0
          · exact absurd h1 hne
          · rw [hqi] at h1
            rw [view_on ho (by omega), if_pos h1] at hs0
            cases hs0
        intro i hi
        obtain ⟨s, hs, hc⟩ := hwh i hi
        rw [view_add] at hs
        rcases hin i hi with h1 | h1 | h1
        · rw [hqi] at h1
          exact view_same h.off ho (by omega) h1
        · rw [hqi] at h1
          rw [view_is ho (by omega) h1] at hs
          cases hs
          rw [cntB_secB hn64] at hc
          omega
        · rw [hqi] at h1
          rw [view_on ho (by omega), if_pos h1] at hs
          cases hs
      rw [slotV_ext hold]
      exact h.oth
end
/-- Put, then the power: the cell has what was put, or what it had. -/
theorem put_power {d : DS} {p : Int} {which n : Nat} {has : List UInt8} {K : Nat} (hC : Calm d) (h : CellSt d p which n has K) (hK : K + 2 < 2 ^ 64) (f : Int) {b : List UInt8} (hb : b.length ≤ 1100) (ps : List UInt8) :
    ((ptF (fuseD d f) p which b).2 = 0 ∨ (ptF (fuseD d f) p which b).2 = 8) ∧ Calm (onAll (offD (ptF (fuseD d f) p which b).1) ps) ∧
    (CellSt (onAll (offD (ptF (fuseD d f) p which b).1) ps) p (1 - which) (nextF d p) b (K + 1) ∨ ((ptF (fuseD d f) p which b).2 = 8 ∧ CellSt (onAll (offD (ptF (fuseD d f) p which b).1) ps) p which n has (K + 1))) := by
  obtain ⟨h1, h2, h3, h4, h5⟩ := ptF_power hC f (p := p) h.at_ h.wh (b := b) ps _ rfl
  refine ⟨h1, h2, ?_⟩
  rcases h.torn h2.off hb _ rfl h3 h4 hK with ⟨k, _⟩ | ⟨k, i, hi, hne⟩
  · exact .inl k
  · rcases h1 with h1 | h1
    · exact absurd (h5 h1 i hi) hne
    · exact .inr ⟨h1, k⟩
/-- The writes of a slot, where no fuse burns. -/
theorem wrS_calm {d : DS} {p : Int} {c : Nat} {b : List UInt8} (hp : 0 ≤ p ∧ p + 10 ≤ 32768) (ho : d.off = false) (hf : d.fuse = -1) :
    (wrS d p c b 10).2 = 0 ∧ Wr d (wrS d p c b 10).1 p c b 10 ∧ (wrS d p c b 10).1.off = false ∧ (wrS d p c b 10).1.fuse = -1 := by
  obtain ⟨m, hm, hW, h0, h8⟩ := wrS_eff (c := c) (b := b) hp ho (by omega) 10 (Nat.le_refl _)
  by_cases he : (wrS d p c b 10).2 = 0
  · obtain ⟨rfl, h1, h2⟩ := h0 he
    exact ⟨he, hW, h1, by omega⟩
  · have := h8 he
    omega
theorem put_calm {d : DS} {p : Int} {which n : Nat} {has : List UInt8} {K : Nat} (hf : d.fuse = -1) (h : CellSt d p which n has K) (hK : K + 2 < 2 ^ 64) {b : List UInt8} (hb : b.length ≤ 1100) :
    (ptF d p which b).2 = 0 ∧ (ptF d p which b).1.off = false ∧ (ptF d p which b).1.fuse = -1 ∧ (ptF d p which b).1.loose = [] ∧ CellSt (ptF d p which b).1 p (1 - which) (nextF d p) b (K + 1) ∧
    (∀ a, (ptF d p which b).1.now a = nowW d.now (p + ((1 - which : Nat) : Int) * 10) (nextF d p) b 10 a) := by
  have hw := h.wh
  have hat := h.at_
  obtain ⟨q, hq⟩ : ∃ q, p + ((1 - which : Nat) : Int) * 10 = q := ⟨_, rfl⟩
  obtain ⟨h0, hW, ho1, hf1⟩ := wrS_calm (c := nextF d p) (b := b) (p := q) (by omega) h.off hf
  obtain ⟨s1, s2⟩ := syncAll_on ho1 hf1
  have he : ptF d p which b = (syncD (wrS d q (nextF d p) b 10).1, 0) := by rw [ptF, hq, if_pos h0, s1, s2]
  rw [he, hq]
  have hnow : ∀ a, (syncD (wrS d q (nextF d p) b 10).1).now a = nowW d.now q (nextF d p) b 10 a := hW.now
  refine ⟨rfl, ho1, hf1, rfl, ?_, hnow⟩
  rcases h.torn (d' := syncD (wrS d q (nextF d p) b 10).1) ho1 hb q hq.symm (fun a ha => by rw [hnow, nowW_out _ _ _ _ (by omega)]) (fun i hi => .inr (.inl (by rw [hnow, nowW_in _ _ _ _ hi]))) hK with ⟨k, _⟩ | ⟨_, i, hi, hne⟩
  · exact k
  · exact absurd (by rw [hnow, nowW_in _ _ _ _ hi]) hne
/-- Format, where no fuse burns. -/
theorem format_calm {d : DS} {p : Int} (hp : 0 ≤ p ∧ p + 20 ≤ 32768) (ho : d.off = false) (hf : d.fuse = -1) :
    (fmF d p).2 = 0 ∧ (fmF d p).1.off = false ∧ (fmF d p).1.fuse = -1 ∧ (fmF d p).1.loose = [] ∧ CellSt (fmF d p).1 p 0 2 [] 2 ∧ (∀ a, ¬ (p ≤ a ∧ a < p + 20) → (fmF d p).1.now a = d.now a) ∧
    ((∀ a, d.sure a = d.now a ∨ (d.loose.any fun x => decide (x.1 = a)) = true) → ∀ a, (fmF d p).1.sure a = (fmF d p).1.now a) := by
  obtain ⟨h0, hW, ho1, hf1⟩ := wrS_calm (c := 2) (b := []) (p := p) (by omega) ho hf
  obtain ⟨h2, hW2, ho2, hf2⟩ := wrS_calm (c := 1) (b := []) (p := p + 10) (d := (wrS d p 2 [] 10).1) (by omega) ho1 hf1
  obtain ⟨s1, s2⟩ := syncAll_on ho2 hf2
  have he : fmF d p = (syncD (wrS (wrS d p 2 [] 10).1 (p + 10) 1 [] 10).1, 0) := by rw [fmF, if_pos h0, if_pos h2, s1, s2]
  rw [he]
  generalize (wrS (wrS d p 2 [] 10).1 (p + 10) 1 [] 10).1 = d2 at *
  generalize (wrS d p 2 [] 10).1 = d1 at *
  have hnow : ∀ a, (syncD d2).now a = nowW (nowW d.now p 2 [] 10) (p + 10) 1 [] 10 a := fun a => by
    show d2.now a = _
    rw [hW2.now]
    unfold nowW
    split
    · rfl
    · rw [hW.now]; rfl
  have hn0 : ∀ i : Nat, i < 10 → (syncD d2).now (p + (i : Int)) = ⟨secB 2 [] i, false⟩ := fun i hi => by
    rw [hnow, nowW_out _ _ _ _ (by omega), nowW_in _ _ _ _ hi]
  have hn1 : ∀ i : Nat, i < 10 → (syncD d2).now (p + ((10 + i : Nat) : Int)) = ⟨secB 1 [] i, false⟩ := fun i hi => by
    rw [hnow, show p + ((10 + i : Nat) : Int) = p + 10 + (i : Int) by omega, nowW_in _ _ _ _ hi]
  have hoff : (syncD d2).off = false := ho2
  refine ⟨rfl, ho2, hf2, rfl, ⟨hoff, hp, by omega, fun i hi => ?_, ?_, fun i s hi hs => ?_, by simp, by omega, by omega⟩, fun a ha => by rw [hnow, nowW_out _ _ _ _ (by omega), nowW_out _ _ _ _ (by omega)], ?_⟩
  · rw [Nat.zero_mul, Nat.zero_add]
    exact view_is hoff (by omega) (hn0 i hi)
  · have : slotV (syncD d2) p 1 = (1, []) := rdF_full (by omega) (by simp) fun i hi => by rw [view_add]; exact view_is hoff (by omega) (hn1 i hi)
    rw [this]
    decide
  · by_cases h10 : i < 10
    · rw [view_is hoff (by omega) (hn0 i h10)] at hs
      cases hs
      rw [cntB_secB (by omega)]; omega
    · obtain ⟨j, hj, rfl⟩ : ∃ j, j < 10 ∧ i = 10 + j := ⟨i - 10, by omega, by omega⟩
      rw [view_is hoff (by omega) (hn1 j hj)] at hs
      cases hs
      rw [cntB_secB (by omega)]; omega
  · intro hs a
    show syncF d2.now d2.loose d2.sure a = d2.now a
    rw [syncF_at]
    split
    · rfl
    · next hc =>
      rw [hW2.loose, hW.loose, List.any_append, List.any_append, Bool.or_eq_true, Bool.or_eq_true, wlist_any, wlist_any] at hc
      rw [hW2.sure, hW.sure, hW2.now, nowW_out _ _ _ _ (fun q => hc (.inr q)), hW.now, nowW_out _ _ _ _ (fun q => hc (.inl (.inr q)))]
      rcases hs a with h1 | h1
      · exact h1
      · exact absurd (.inl (.inl h1)) hc
end Go.Proofs.YtmjdfajdompkeaaGreatDoor
namespace Go.Proofs.YtmjdfajdompkeaaGreatDoor
open Go.RowKit Go.Rat
/-- What the iterator holds. -/
structure Secs (w : World) (gc ga gb : Nat) (c : Nat) (xs : List UInt8) : Prop where
  cnt : Blk w gc 40 #[.int .u64 (c : Int)]
  hdr : ∃ cap, Blk w ga 39 #[.slice (some ⟨gb, 0, none⟩) 1200 cap] ∧ 1200 ≤ cap ∧ cap ≤ 9223372036854775807
  row : RB w (some ⟨gb, 0, none⟩) 1200 xs
set_option maxHeartbeats 1000000 in
theorem sectors_any (w : World) (c : Nat) (A : Option Addr) (n cap : Nat) (xs : List UInt8) (hr : RB w A n xs) (hn : n ≤ 1100) :
    Calls Tryz.prog 73 #[.int .u64 (c : Int), .slice A n cap] w fun e w' => ∃ gc ga gb, e = .returned (.func (.func 87) #[] #[.pointer (some ⟨gc, 0, none⟩), .pointer (some ⟨ga, 0, none⟩)]) ∧
      Secs w' gc ga gb c (allB xs) ∧ w.heap.size ≤ gc ∧ w.heap.size ≤ ga ∧ w.heap.size ≤ gb ∧ gb < w'.heap.size ∧ Below w.heap.size w w' := by
  have hxl := hr.len
  go_enter Tryz.func73, Tryz.ntmps73
  go_wp2_with fail
  have hX := Blk.new w 40 #[.int .u64 (c : Int)]
  have hb1 := below_alloc w (.cells #[.int .u64 (c : Int)] 40)
  obtain ⟨w1, hw1⟩ : ∃ x, w.alloc (.cells #[.int .u64 (c : Int)] 40) = x := ⟨_, rfl⟩
  rw [hw1] at hX hb1 ⊢
  have hr1 := hr.below hb1
  have hgc : w.heap.size < w1.heap.size := hX.lt
  clear hw1
  refine (half_any _ none 0 0 [] n (RB.nil_ _ _) (by omega) (by omega)).mono ?_
  rintro e w2 ⟨A2, N2, c2, rfl, hO2, hb2⟩
  rw [List.nil_append] at hO2
  have hN2 := hO2.len
  rw [be_length] at hN2
  subst hN2
  have hr2 := hr1.below hb2
  have hX2 := hX.below hb2 hX.lt
  simp only []
  go_upto_region 2 with (at_builtin; refine app_bytes rfl _ _ rfl w1.heap.size A2 2 c2 (be 2 n) rfl hO2 A n cap xs rfl hr2 (by omega) hb2.size ?_; intro A3 N3 c3 w3 hc3 hc3' hO3 hG3)
  have hN3 := hO3.len
  rw [List.length_append, be_length, hxl] at hN3
  subst hN3
  have hb3 : Below w1.heap.size w1 w3 := hG3.own hb2 (Nat.le_refl _) hO2
  have hX3 := hX.below hb3 hX.lt
  have hO4 := hO3.alloc (.cells #[.slice A3 (2 + n) c3] 39)
  have hX4 := hX3.alloc (.cells #[.slice A3 (2 + n) c3] 39)
  have hH4 := Blk.new w3 39 #[.slice A3 (2 + n) c3]
  have hb4 := below_alloc2 hb3 (Nat.le_refl _) (.cells #[.slice A3 (2 + n) c3] 39)
  have hga : w1.heap.size ≤ w3.heap.size := hb3.size
  have hAlt : ∀ k, A3.map (·.block) = some k → k < w3.heap.size := fun k hk => (hO3.ge k hk).2
  obtain ⟨w4, hw4⟩ : ∃ x, w3.alloc (.cells #[.slice A3 (2 + n) c3] 39) = x := ⟨_, rfl⟩
  rw [hw4] at hO4 hX4 hH4 hb4 ⊢
  obtain ⟨ga, hgae⟩ : ∃ x, w3.heap.size = x := ⟨_, rfl⟩
  rw [hgae] at hH4 hga hAlt ⊢
  clear hX2 hX3 hO3 hO2 hG3 hb2 hb3 hr1 hr2 hw4 hgae hX
  have h0 := hH4.cell 0
  have f0 := hH4.frozen 0
  simp only [List.getElem?_toArray, List.getElem?_cons_zero] at h0
  have hk0 : 0 < 1198 - n := by omega
  have hbyt : 2 + n + (1198 - n) ≤ 140737488355328 := by omega
  go_wp2_with (at_builtin; refine app_noughts rfl _ _ rfl w1.heap.size A3 (2 + n) c3 (be 2 n ++ xs) rfl hO4 (1198 - n) (congrArg (Value.int .i64) (by omega)) hk0 hbyt hb4.size ?_; intro A5 N5 c5 w5 hc5 hc5' hO5 hG5; refine Hid.out ?_)
  refine Lib.hid ?_
  have hN5 := hO5.len
  have hall : be 2 n ++ xs ++ List.replicate (1198 - n) 0 = allB xs := by rw [allB, hxl]
  rw [hall, allB_length (by omega)] at hN5
  subst hN5
  rw [hall] at hO5
  have hgaw : ga < w4.heap.size := hH4.lt
  obtain ⟨gb, rfl⟩ : ∃ gb, A5 = some ⟨gb, 0, none⟩ := by
    rcases hO5.2 with ⟨h, _⟩ | ⟨g, cap, cur, hv, _⟩
    · injection h with h1 h2 h3
      cases h2
    · injection hv with h3 h4 h5
      exact ⟨g, h3⟩
  have hgab : gb ≠ ga := by
    intro e
    rcases hG5.lies with h | ⟨k, h, hk1, hk2⟩
    · have := hAlt gb (by rw [← h]; rfl)
      omega
    · have h : gb = k := Option.some.inj h
      omega
  have hgbx := hO5.ge gb rfl
  have hb5 : Below w1.heap.size w1 w5 := hG5.own hb4 (Nat.le_refl _) hO4
  have hX5 : Blk w5 w.heap.size 40 #[.int .u64 (c : Int)] := hX4.grown hG5.grown (fun e => by have := (hO4.ge _ e.symm).1; omega)
  have hH5 : Blk w5 ga 39 #[.slice A3 (2 + n) c3] := hH4.grown hG5.grown (fun e => by have := hAlt _ e.symm; omega)
  have hR5 := hO5.reads
  have h0 := hH5.cell 0
  have f0 := hH5.frozen 0
  simp only [List.getElem?_toArray, List.getElem?_cons_zero] at h0
  have hH6 := hH5.set_ 0 (.slice (some ⟨gb, 0, none⟩) 1200 c5)
  have hgs := grownBy_set w5 ga 0 (.slice (some ⟨gb, 0, none⟩) 1200 c5)
  have hX6 := hX5.grown hgs (fun e => by injection e with e; omega)
  have hR6 := hR5.grown hgs (.inl (fun e => by injection e with e; exact hgab e))
  have hb6 : Below w1.heap.size w1 (w5.setCell ⟨ga, 0, none⟩ (.slice (some ⟨gb, 0, none⟩) 1200 c5)) := hb5.grown hgs hb5.size (fun k e => by cases e; exact hga)
  have hgb6 : gb < (w5.setCell ⟨ga, 0, none⟩ (.slice (some ⟨gb, 0, none⟩) 1200 c5)).heap.size := by have := hgs.size; omega
  have hwga : w.heap.size ≤ ga := by omega
  have hwgb : w.heap.size ≤ gb := by omega
  clear hX4 hH4 hO4 hG5 hAlt hX5 hH5 hR5 hO5 hb4 hb5 hgs
  go_wp2_with fail
  go_ret
  exact ⟨_, ga, gb, rfl, ⟨hX6, ⟨c5, hH6, hc5, hc5'⟩, hR6⟩, Nat.le_refl _, hwga, hwgb, hgb6, hb1.trans (hb6.mono (by omega))⟩
end Go.Proofs.YtmjdfajdompkeaaGreatDoor
namespace Go.Proofs.YtmjdfajdompkeaaGreatDoor
open Go.RowKit Go.Rat
attribute [local go_sem] Oper.semAt_some
theorem wp_appB {w : World} {o : Oper} {a : Act} {K : Act → World → Prop} {Q : Exit → Act → World → Prop} (s x : Operand)
    (ho : o.op = .call { callee := .builtin .append, args := #[s, x], argTypes := #[39, 39] })
    (base : Nat) (A : Option Addr) (n c : Nat) (xs : List UInt8) (hs : a.eval s = .slice A n c) (hown : OB 5 w base A n c xs)
    (A' : Option Addr) (m c' : Nat) (news : List UInt8) (hx : a.eval x = .slice A' m c') (hr : RB w A' m news) (hbytes : n + m ≤ 140737488355328) (hbase : base ≤ w.heap.size)
    (h : ∀ A2 N2 c2 w2, N2 ≤ c2 → c2 ≤ 9223372036854775807 → OB 5 w2 base A2 N2 c2 (xs ++ news) → Grew w w2 A A2 → K (a.put o.dst (.slice A2 N2 c2)) w2) :
    o.wp Tryz.prog a w K Q := by
  obtain ⟨i0, hi, hz0, hz1, hz2⟩ := info_parts u8info
  obtain ⟨A2, c2, w2, hrun, h2, h3, h4⟩ := run_append_reads (P := Tryz.prog) w base 39 o.type 5 i0 _ 1 1 Tryz.underlying39 hi hz0 hz1 hz2 rfl (by omega) A n c (bvs xs) hown w.heap.size A' m c' (bvs news) hr (bvs_one _) (by simp only [maxLen]; omega) (by omega) hbase
  unfold Oper.wp
  simp only [execOp, ho, resolve, invoke, builtin, Sem.run_bind, Sem.run_pure, Result.andThen_ok, List.map_toArray, List.map_cons, List.map_nil, hs, hx, hrun]
  exact h _ _ _ _ (own_cap h2).1 (own_cap h2).2 (by unfold OB; rw [bvs_append]; exact h2) ⟨h3, h4.imp id fun h => ⟨_, h, Nat.le_refl _, (h2.lt _ (by cases A2 <;> simp_all [Value.ownBlock])).2⟩⟩
theorem arrayAt_run {P : Program} {w : World} {t e : TypeId} {n len c : Nat} {A : Option Addr} (hu : P.underlying t = some (.array n e)) (h : n ≤ len) : (Instr.arrayAt t (.slice A len c)).run P w = .ok (.pointer A) w := by
  have hn : ¬ (len < n) := by omega
  simp [Instr.arrayAt, run_underlying hu, hn]
/-- The first k numbers. -/
def fr : Nat → List (Fin 10)
  | 0 => []
  | k + 1 => fr k ++ [⟨k % 10, Nat.mod_lt _ (by omega)⟩]
theorem fr_length : ∀ k, (fr k).length = k
  | 0 => rfl
  | k + 1 => by rw [fr, List.length_append, fr_length k]; rfl
def encS (c : Nat) (xs : List UInt8) (i : Fin 10) : Array Value := #[.int .i64 (i.1 : Int), .agg (bvs (secB c xs i.1)).toArray]
/-- What a round keeps of the iterator's own. -/
structure KpS (gc ga gb : Nat) (A B : World) : Prop where
  size : A.heap.size ≤ B.heap.size
  c : B.heap[gc]? = A.heap[gc]?
  a : B.heap[ga]? = A.heap[ga]?
  b : B.heap[gb]? = A.heap[gb]?
theorem KpS.refl (gc ga gb : Nat) (A : World) : KpS gc ga gb A A := ⟨Nat.le_refl _, rfl, rfl, rfl⟩
theorem KpS.trans {gc ga gb : Nat} {A B C : World} (h : KpS gc ga gb A B) (k : KpS gc ga gb B C) : KpS gc ga gb A C := ⟨Nat.le_trans h.size k.size, k.c.trans h.c, k.a.trans h.a, k.b.trans h.b⟩
theorem KpS.of_below {gc ga gb n : Nat} {A B : World} (h : Below n A B) (hs : A.heap.size ≤ B.heap.size) (hc : gc < n) (ha : ga < n) (hb : gb < n) : KpS gc ga gb A B := ⟨hs, h.block _ hc, h.block _ ha, h.block _ hb⟩
theorem Secs.keep {A B : World} {gc ga gb c : Nat} {xs : List UInt8} (h : Secs A gc ga gb c xs) (k : KpS gc ga gb A B) : Secs B gc ga gb c xs := by
  obtain ⟨cap, h1, h2, h3⟩ := h.hdr
  refine ⟨k.c.trans h.cnt, ⟨cap, k.a.trans h1, h2, h3⟩, h.row.1, fun hn => ?_⟩
  obtain ⟨ad, e, hb, hcell⟩ := h.row.2 hn
  cases e
  exact ⟨_, rfl, Nat.lt_of_lt_of_le hb k.size, fun j u hu => (World.cell?_of_block (by rw [block_of_add]; exact k.b)).trans (hcell j u hu)⟩
theorem partB_at (xs : List UInt8) (i : Nat) (h : xs.length ≤ 1198) (hi : i < 10) {w : World} {gb : Nat} (hr : RB w (some ⟨gb, 0, none⟩) 1200 (allB xs)) : RB w (some ⟨gb, i * 120, none⟩) 120 (partB xs i) := by
  have hl := allB_length h
  refine ⟨by rw [bvs_length, partB_length h hi], fun _ => ?_⟩
  obtain ⟨ad, e, hb, hc⟩ := hr.2 (by omega)
  cases e
  refine ⟨_, rfl, hb, fun j u hu => ?_⟩
  have hj : j < 120 := by
    have := (List.getElem?_eq_some_iff.1 hu).1
    rwa [bvs_length, partB_length h hi] at this
  have h2 : (bvs (allB xs))[i * 120 + j]? = some u := by
    rw [← hu, bvs, bvs, List.getElem?_map, List.getElem?_map, partB, List.getElem?_take, if_pos hj, List.getElem?_drop]
  have := hc _ _ h2
  rw [← this]
  congr 1
  simp only [Addr.add]
  split <;> split <;> simp_all <;> omega
set_option maxRecDepth 20000 in
set_option maxHeartbeats 4000000 in
theorem sectors1_stops (w : World) (gc ga gb c : Nat) (xs : List UInt8) (hS : Secs w gc ga gb c (allB xs)) (hxs : xs.length ≤ 1100) (hc : c < 2 ^ 64) (hgc : gc < w.heap.size) (hga : ga < w.heap.size) (hgb : gb < w.heap.size) :
    SeqStopsK Fence.wide 3 Tryz.prog 87 #[.pointer (some ⟨gc, 0, none⟩), .pointer (some ⟨ga, 0, none⟩)] (encS c xs) (KpS gc ga gb) (fun ys => ys = fr 10) (fun pre => ∃ k, k ≤ 10 ∧ pre = fr k) 10 w := fun l J Jx W hW hJ hJx hY h0 => by
  refine callsIn_wide.2 ?_
  have hS0 := hS.keep (KpS.of_below hW hW.size hgc hga hgb)
  have hws := hW.size
  go_enter Tryz.func87, Tryz.ntmps87
  go_wp2_with fail
  go_loopw [6] (fun i wr => ∃ k : Nat, k ≤ 10 ∧ i = .int .i64 (k : Int) ∧ J (fr k) wr ∧ KpS gc ga gb W wr) (fun i _ => 10 - (intOf i).toNat)
  case atStart => exact ⟨0, by omega, rfl, h0, KpS.refl _ _ _ _⟩
  case round =>
    obtain ⟨k, hk, rfl, hJk, hkp⟩ := hrel
    by_cases hk10 : k < 10
    · have hSk := hS0.keep hkp
      have hgw := hSk.row.at_ (show 0 < 1200 by omega)
      obtain ⟨_, e, hgbw, _⟩ := hgw
      cases e
      obtain ⟨cap, hH, hcap, hcap2⟩ := hSk.hdr
      have hrp := partB_at xs k (by omega) hk10 hSk.row
      have hpl := partB_length (b := xs) (by omega) hk10
      have c0 := hSk.cnt.cell 0
      have a0 := hH.cell 0
      simp only [List.getElem?_toArray, List.getElem?_cons_zero] at c0 a0
      have g1 : (k : Int) < 10 := by omega
      have g2 : (0 : Int) ≤ (k : Int) := by omega
      have hw1 : IntKind.i64.wrap ((k : Int) * 120) = (k : Int) * 120 := IntWalk.i64_in _ (by omega)
      have hw2 : IntKind.i64.wrap ((k : Int) + 1) = (k : Int) + 1 := IntWalk.i64_in _ (by omega)
      have hw3 : IntKind.i64.wrap (((k : Int) + 1) * 120) = ((k : Int) + 1) * 120 := IntWalk.i64_in _ (by omega)
      clear hS hS0 h0 hW
      go_wp2_with fail
      refine wp_region_plan [(0, true), (2, true), (3, true), (4, true), (5, true), (6, true), (7, true), (8, true), (1, false), (9, false), (10, true)]
        (fun z => z.cell? ⟨gc, 0, none⟩ = some (.int .u64 (c : Int)) ∧ z.cell? ⟨ga, 0, none⟩ = some (.slice (some ⟨gb, 0, none⟩) 1200 cap)) (by kernel_rfl) (by kernel_rfl) (by kernel_rfl) (by kernel_rfl) (fun _ _ d _ _ h => by cases d <;> exact h) ⟨c0, a0⟩ ?_
      simp only [planOps, List.getElem?_toArray, List.getElem?_cons_zero, List.getElem?_cons_succ]
      repeat (first
        | (refine wpS_skip (by rfl) ?_; simp only [Act.put, List.setIfInBounds_toArray, List.set_cons_zero, List.set_cons_succ])
        | (refine wpS_q ?_ (by rfl) ?_ ?_; rotate_left; (focus (intro z hz; (try dsimp only at hz); go_simp; rfl)); simp only [Act.put, List.setIfInBounds_toArray, List.set_cons_zero, List.set_cons_succ]))
      refine wpS_q (.slice (some ⟨gb, k * 120, none⟩) 120 (cap - k * 120)) (by rfl) (fun z hz => ?_) ?_
      · clear hY
        have t1 : ((k : Int) * 120).toNat = k * 120 := by omega
        have t2 : (((k : Int) + 1) * 120).toNat - k * 120 = 120 := by omega
        go_simp
        rw [if_pos ⟨by omega, by omega⟩, if_pos ⟨by omega, by omega⟩, if_neg (by omega)]
      simp only [Act.put, List.setIfInBounds_toArray, List.set_cons_zero, List.set_cons_succ]
      refine wpS_l (by rfl) (fun K hK => ?_)
      go_wp2_with fail
      refine (word_any _ none 0 0 [] c (RB.nil_ _ _) (by omega) hc).mono ?_
      rintro e w2 ⟨A2, N2, c2, rfl, hO2, hb2⟩
      rw [List.nil_append] at hO2
      have hN2 := hO2.len
      rw [be_length] at hN2
      subst hN2
      have hb2 : Below wr.heap.size wr w2 := drew_below.trans hb2
      have hO2 : OB 5 w2 wr.heap.size A2 8 c2 (be 8 c) := hO2
      refine hK _ _ _ ⟨((hSk.cnt.below hb2 hSk.cnt.lt).cell 0).trans rfl, ((hH.below hb2 hH.lt).cell 0).trans rfl⟩ (fun _ h => h) ?_
      clear hK
      refine wpS_l (by rfl) (fun K hK => ?_)
      refine wp_appB _ _ (by rfl) wr.heap.size A2 8 c2 (be 8 c) (by rfl) hO2 (some ⟨gb, k * 120, none⟩) 120 (cap - k * 120) (partB xs k) (by rfl) (hrp.below hb2) (by omega) hb2.size ?_
      intro A3 N3 c3 w3 hc3 hc3' hO3 hG3
      have hb3 : Below wr.heap.size wr w3 := hG3.own hb2 (Nat.le_refl _) hO2
      refine hK _ _ _ ⟨((hSk.cnt.below hb3 hSk.cnt.lt).cell 0).trans rfl, ((hH.below hb3 hH.lt).cell 0).trans rfl⟩ (fun _ h => h) ?_
      clear hK
      iterate 1 (refine wpS_q ?_ (by rfl) ?_ ?_; rotate_left; (focus (intro z hz; (try dsimp only at hz); go_simp; rfl)); simp only [Act.put, List.setIfInBounds_toArray, List.set_cons_zero, List.set_cons_succ])
      refine wpS_nil ?_
      have hO3 : OB 5 w3 wr.heap.size A3 N3 c3 (secB c xs k) := hO3
      have hN3 := hO3.len
      have hsl := secB_length c (b := xs) (by omega) hk10
      rw [hsl] at hN3
      subst hN3
      clear hO2 hG3 hb2 hrp hw1 hw2 hw3
      go_upto_region 4 with (fail)
      obtain ⟨g3, L, rfl, hB3, hL3⟩ : ∃ (g3 : Nat) (L : List Value), A3 = some ⟨g3, 0, none⟩ ∧ Blk w3 g3 5 L.toArray ∧ (L.drop 0).take 128 = bvs (secB c xs k) := by
        rcases hO3.2 with ⟨h, _⟩ | ⟨g, cap, cur, hv, _, hgB, _, _, _, htk⟩
        · injection h with h1 h2 h3
          cases h2
        · injection hv with h3 h4 h5
          exact ⟨g, cur.toList, h3, hgB, by simpa using htk⟩
      have hbl : (bvs (secB c xs k)).length = 128 := by rw [bvs_length, hsl]
      have hJ3 : J (fr k) w3 := hJ _ _ _ none hJk (grownBy_of_below hb3 none) (fun r e => by cases e)
      obtain ⟨fn, tmps, assign, body, hy, hR⟩ := hY (fr k) ⟨k % 10, Nat.mod_lt _ (by omega)⟩ w3 hJ3 (by rw [fr_length]; exact hk10)
      have hkm : k % 10 = k := Nat.mod_eq_of_lt hk10
      simp only [encS, hkm] at hy
      have hkp3 : KpS gc ga gb wr w3 := KpS.of_below hb3 hb3.size (by have := hkp.size; omega) (by have := hkp.size; omega) hgbw
      have HKM := Lib.hid hkm
      have HK3 := Lib.hid (hkp.trans hkp3)
      clear hO3 hJ hJx hJk hY hJ3 hSk hH hsl hkm hkp hkp3 hb3 c0 a0
      refine (wpIn_wide (n := 3)).1 ?_
      refine wpIn_region_lit ?_
      have hat := arrayAt_run (w := w3) (A := some ⟨g3, 0, none⟩) (c := c3) Tryz.underlying89 (Nat.le_refl 128)
      repeat (first | ((with_reducible refine wplIn_value rfl rfl rfl (.agg (bvs (secB c xs k)).toArray) ?_ ?_); (focus exact load_mid_run rfl g3 0 L (bvs (secB c xs k)) Tryz.underlying89 rfl i128 hB3 hL3 hbl rfl); simp only [Act.put, List.setIfInBounds_toArray, List.set_cons_zero, List.set_cons_succ]) | gi_step)
      refine hR.mono ?_
      clear hR hy hat
      rintro e W3 (⟨rfl, hJ4, hk4⟩ | ⟨rfl, hJx4⟩)
      · have hJ5 : J (fr (k + 1)) W3 := hJ4
        clear hJ4
        simp only []
        repeat gi_step
        go_wp2_with fail
        exact ⟨⟨k + 1, by omega, congrArg (Value.int .i64) (by omega), hJ5, HK3.out.trans hk4⟩, by simp [intOf]; omega⟩
      · have hJ5 : Jx (fr (k + 1)) W3 := hJx4
        clear hJx4
        simp only []
        repeat gi_step
        go_wp2_with fail
        refine bodyPost_ret (results_none rfl _ _ _) rfl ?_
        exact ⟨⟨_, rfl⟩, .inr ⟨_, ⟨k + 1, by omega, rfl⟩, hJ5⟩⟩
    · obtain rfl : k = 10 := by omega
      have g1 : ¬ ((10 : Nat) : Int) < 10 := by omega
      go_wp2_with fail
      go_end0
      exact ⟨⟨_, rfl⟩, .inl hJk⟩
end Go.Proofs.YtmjdfajdompkeaaGreatDoor
namespace Go.Proofs.YtmjdfajdompkeaaGreatDoor
open Go.RowKit Go.Rat Go.Shelf
attribute [local go_sem] Oper.semAt_some
def stp (p : Int) (c : Nat) (b : List UInt8) (s : DS × Int) (i : Fin 10) : DS × Int := if s.2 = 0 then (writeD s.1 (p + (i.1 : Int)) (secB c b i.1), writeE s.1 (p + (i.1 : Int))) else s
def wrL (d : DS) (p : Int) (c : Nat) (b : List UInt8) (l : List (Fin 10)) : DS × Int := l.foldl (stp p c b) (d, 0)
theorem wrL_snoc (d : DS) (p : Int) (c : Nat) (b : List UInt8) (l : List (Fin 10)) (i : Fin 10) : wrL d p c b (l ++ [i]) = stp p c b (wrL d p c b l) i := by
  rw [wrL, wrL, List.foldl_append]; rfl
theorem wrL_fr (d : DS) (p : Int) (c : Nat) (b : List UInt8) : ∀ k, k ≤ 10 → wrL d p c b (fr k) = wrS d p c b k
  | 0, _ => rfl
  | k + 1, h => by
    rw [fr, wrL_snoc, wrL_fr d p c b k (by omega), stp, wrS]
    simp only [Nat.mod_eq_of_lt (show k < 10 by omega)]
theorem writeD_loose (d : DS) (a : Int) (b : List UInt8) : (writeD d a b).loose.length ≤ d.loose.length + 1 := by
  unfold writeD burnD
  split
  · split
    · show (d.loose ++ [_]).length ≤ _; simp
    · split
      · show (d.loose ++ [_]).length ≤ _; simp
      · show (d.loose ++ [_]).length ≤ _; simp
  · omega
theorem wrL_loose (d : DS) (p : Int) (c : Nat) (b : List UInt8) (l : List (Fin 10)) : (wrL d p c b l).1.loose.length ≤ d.loose.length + l.length := by
  suffices H : ∀ (l : List (Fin 10)) (s : DS × Int), (l.foldl (stp p c b) s).1.loose.length ≤ s.1.loose.length + l.length from H l (d, 0)
  intro l
  induction l with
  | nil => intro s; exact Nat.le_refl _
  | cons i l ih =>
    intro s
    refine Nat.le_trans (ih _) ?_
    have : (stp p c b s i).1.loose.length ≤ s.1.loose.length + 1 := by
      unfold stp
      split
      · exact writeD_loose _ _ _
      · omega
    rw [List.length_cons]
    omega
/-- What stands between two rounds. -/
structure WInv (w : World) (base : Nat) (l : DL) (p : Int) (which bp bi be N : Nat) (ks : List Nat) (d : DS) (v : Int) (W : World) (l' : DL) : Prop where
  disk : DiskAt W base l' d
  mv : Moved w W l l'
  pl : Blk W bp 99 #[.pointer (some ⟨l.g, 0, none⟩), .int .i64 p]
  wh : Blk W bi 3 #[.int .i64 (which : Int)]
  er : Blk W be 29 #[.int .i64 v]
  out : ∀ k, (k = bp ∨ k = bi ∨ k = be ∨ k ∈ ks) → k < N ∧ ¬ l'.fp k
  size : N ≤ W.heap.size
  ms : l.gs < N
  mn : l.gn < N
  old : w.heap.size ≤ N
section
variable {w : World} {base : Nat} {l : DL} {p : Int} {which bp bi be N : Nat} {ks : List Nat} {d : DS} {v : Int} {W W' : World} {l' l2 : DL}
theorem cells_row {A : Option Addr} {e : TypeId} {size n c : Nat} {xs : List Value} (h : W.ownsRow base e size (.slice A n c) n xs) {k : Nat} (hk : A.map (·.block) = some k) : ∃ cs, W.heap[k]? = some (.cells cs e) := by
  rcases h.2 with ⟨h, _⟩ | ⟨g, cap, cur, hv, _, hg, _⟩
  · injection h with h1 h2 h3
    subst h1
    cases hk
  · injection hv with h1 h2 h3
    subst h1
    cases hk
    exact ⟨cur, hg⟩
theorem WInv.fp_cells (h : WInv w base l p which bp bi be N ks d v W l') {k : Nat} (hk : l'.fp k) : k < N ∨ ∃ cs t, W.heap[k]? = some (.cells cs t) := by
  have e1 := congrArg (fun x => x.2.1) h.mv.g
  have e2 := congrArg (fun x => x.2.2) h.mv.g
  have hs := h.ms
  have hn := h.mn
  rcases hk with rfl | rfl | rfl | hk
  · exact .inr ⟨_, _, h.disk.blk⟩
  · left; simp only at e1; omega
  · left; simp only at e2; omega
  · obtain ⟨cs, hc⟩ := cells_row h.disk.row hk
    exact .inr ⟨cs, _, hc⟩
theorem WInv.step (h : WInv w base l p which bp bi be N ks d v W l') {d2 : DS} (hm : Moved W W' l' l2) (hD : DiskAt W' base l2 d2) : WInv w base l p which bp bi be N ks d2 v W' l2 := by
  have hs := h.size
  refine ⟨hD, h.mv.trans hm, hm.chg.blk h.pl (h.out _ (.inl rfl)).2, hm.chg.blk h.wh (h.out _ (.inr (.inl rfl))).2, hm.chg.blk h.er (h.out _ (.inr (.inr (.inl rfl)))).2, fun k hk => ⟨(h.out k hk).1, fun hf => ?_⟩, Nat.le_trans hs hm.chg.size, h.ms, h.mn, h.old⟩
  rcases hm.fp k hf with h1 | h1
  · exact (h.out k hk).2 h1
  · have := (h.out k hk).1
    omega
theorem WInv.below (h : WInv w base l p which bp bi be N ks d v W l') (hb : Below W.heap.size W W') : WInv w base l p which bp bi be N ks d v W' l' := h.step (Moved.of_below hb) (h.disk.below hb)
theorem WInv.own (h : WInv w base l p which bp bi be N ks d v W l') {row : Option Nat} (hg : W.grownBy W' row) (hr : ∀ r, row = some r → N ≤ r ∧ ∃ o : Obj, W.heap[r]? = some o ∧ o.isCells = false) : WInv w base l p which bp bi be N ks d v W' l' := by
  have nc : ∀ r, row = some r → N ≤ r ∧ ∀ cs t, W.heap[r]? ≠ some (.cells cs t) := fun r e => by
    obtain ⟨h1, o, h2, h3⟩ := hr r e
    refine ⟨h1, fun cs t h4 => ?_⟩
    rw [h2] at h4
    cases h4
    cases h3
  have hch : Chg (fun x => row = some x) W W' := Chg.of_grown' hg (fun g e => e)
  have hB : ∀ {g : Nat} {T : TypeId} {cs : Array Value}, Blk W g T cs → Blk W' g T cs := fun hb => hch.blk hb (fun e => (nc _ e).2 _ _ hb)
  refine ⟨h.disk.kept hch (fun x hx e => ?_), ⟨h.mv.g, ⟨hg.os.trans h.mv.chg.os, hg.tape.trans h.mv.chg.tape, hg.output.trans h.mv.chg.output, Nat.le_trans h.mv.chg.size hg.size, fun k hk hf => (hg.block k (Nat.lt_of_lt_of_le hk h.mv.chg.size) (fun e => ?_)).trans (h.mv.chg.block k hk hf)⟩, h.mv.fp⟩, hB h.pl, hB h.wh, hB h.er, h.out, Nat.le_trans h.size hg.size, h.ms, h.mn, h.old⟩
  · obtain ⟨h1, h2⟩ := nc x e
    rcases h.fp_cells hx with h3 | ⟨cs, t, h3⟩
    · omega
    · exact h2 _ _ h3
  · have := (nc k e.symm).1
    have := h.old
    omega
theorem WInv.keeps (h : WInv w base l p which bp bi be N ks d v W l') (hm : Moved W W' l' l2) : KeepsFrom N W W' :=
  ⟨hm.chg.size, fun k o hk ho hc => (hm.chg.block k (Array.getElem?_eq_some_iff.1 ho).1 (fun hf => by
    rcases h.fp_cells hf with h1 | ⟨cs, t, h1⟩
    · omega
    · rw [h1] at ho
      cases ho
      cases hc)).trans ho⟩
theorem WInv.kps {gc ga gb : Nat} (h : WInv w base l p which bp bi be N [gc, ga, gb] d v W l') (hm : Moved W W' l' l2) : KpS gc ga gb W W' := by
  have hs := h.size
  have f : ∀ k, k ∈ [gc, ga, gb] → W'.heap[k]? = W.heap[k]? := fun k hk => hm.chg.block k (by have := (h.out k (.inr (.inr (.inr hk)))).1; omega) (h.out k (.inr (.inr (.inr hk)))).2
  exact ⟨hm.chg.size, f gc (by simp), f ga (by simp), f gb (by simp)⟩
theorem WInv.setE (h : WInv w base l p which bp bi be N ks d v W l') (hw : w.heap.size ≤ be) (h1 : bp ≠ be) (h2 : bi ≠ be) (u : Int) : WInv w base l p which bp bi be N ks d u (W.setCell ⟨be, 0, none⟩ (.int .i64 u)) l' := by
  have hg := grownBy_set W be 0 (.int .i64 u)
  refine ⟨h.disk.beside hg (h.out _ (.inr (.inr (.inl rfl)))).2, ⟨h.mv.g, ⟨hg.os.trans h.mv.chg.os, hg.tape.trans h.mv.chg.tape, hg.output.trans h.mv.chg.output, Nat.le_trans h.mv.chg.size hg.size, fun k hk hf => (hg.block k (Nat.lt_of_lt_of_le hk h.mv.chg.size) (fun e => by cases e; omega)).trans (h.mv.chg.block k hk hf)⟩, h.mv.fp⟩,
    h.pl.grown hg (fun e => by injection e with e; exact h1 e), h.wh.grown hg (fun e => by injection e with e; exact h2 e), h.er.set_ 0 (.int .i64 u), h.out, Nat.le_trans h.size hg.size, h.ms, h.mn, h.old⟩
end
set_option maxRecDepth 20000 in
set_option maxHeartbeats 4000000 in
theorem cwrite_any (w : World) (base : Nat) (l : DL) (d : DS) (hD : DiskAt w base l d) (g : Nat) (hg : l.g = g) (hbase : base ≤ w.heap.size) (hlo : d.loose.length < 900000000) (p : Int) (which : Nat) (hw : which ≤ 1) (hp : 0 ≤ p ∧ p + 20 ≤ 32768)
    (c : Nat) (hc : c < 2 ^ 64) (A : Option Addr) (n cap : Nat) (b : List UInt8) (hr : RB w A n b) (hn : n ≤ 1100) :
    Calls Tryz.prog 50 #[.agg #[.pointer (some ⟨g, 0, none⟩), .int .i64 p], .int .i64 (which : Int), .int .u64 (c : Int), .slice A n cap] w fun e w' => ∃ l', e = .returned (.int .i64 (wrS d (p + (which : Int) * 10) c b 10).2) ∧ l'.g = g ∧ DiskAt w' base l' (wrS d (p + (which : Int) * 10) c b 10).1 ∧ Moved w w' l l' := by
  have hxl := hr.len
  refine (callsIn_wide (n := 4)).1 ?_
  refine callsIn_of_wp_marks Tryz.func50 rfl trivial ?_ rfl
  simp only [Tryz.ntmps50, List.size_toArray, List.length_cons, List.length_nil, Nat.reduceAdd, Nat.reduceSub, Array.replicate_succ, Array.replicate_zero, List.push_toArray, List.append_toArray, List.nil_append, List.cons_append]
  refine (wpIn_wide (n := 4)).2 ?_
  go_wp2_with fail
  have hP := Blk.new w 99 #[.pointer (some ⟨g, 0, none⟩), .int .i64 p]
  have hb1 := below_alloc w (.cells #[.pointer (some ⟨g, 0, none⟩), .int .i64 p] 99)
  obtain ⟨w1, hw1⟩ : ∃ x, w.alloc (.cells #[.pointer (some ⟨g, 0, none⟩), .int .i64 p] 99) = x := ⟨_, rfl⟩
  rw [hw1] at hP hb1 ⊢
  have hs1 : w1.heap.size = w.heap.size + 1 := by rw [← hw1]; simp
  have hI := Blk.new w1 3 #[.int .i64 (which : Int)]
  have hb2 := below_alloc w1 (.cells #[.int .i64 (which : Int)] 3)
  obtain ⟨w2, hw2⟩ : ∃ x, w1.alloc (.cells #[.int .i64 (which : Int)] 3) = x := ⟨_, rfl⟩
  rw [hw2] at hI hb2 ⊢
  have hs2 : w2.heap.size = w.heap.size + 1 + 1 := by rw [← hw2]; simp; omega
  have hE := Blk.new w2 29 #[.int .i64 0]
  have hb3 := below_alloc w2 (.cells #[.int .i64 0] 29)
  obtain ⟨w3, hw3⟩ : ∃ x, w2.alloc (.cells #[.int .i64 0] 29) = x := ⟨_, rfl⟩
  rw [hw3] at hE hb3 ⊢
  have hs3 : w2.heap.size < w3.heap.size := hE.lt
  have hb02 := hb1.trans (hb2.mono (by omega))
  have hb03 := hb02.trans (hb3.mono (by omega))
  have hP3 := (hP.below hb2 (by omega)).below hb3 (by omega)
  have hI3 := hI.below hb3 (by omega)
  rw [hs1] at hI3
  rw [hs2] at hE hs3
  obtain ⟨bp, hbp⟩ : ∃ x, w.heap.size = x := ⟨_, rfl⟩
  obtain ⟨bi, hbi⟩ : ∃ x, w.heap.size + 1 = x := ⟨_, rfl⟩
  obtain ⟨be, hbe⟩ : ∃ x, w.heap.size + 1 + 1 = x := ⟨_, rfl⟩
  rw [hbe] at hE hs3 ⊢
  rw [hbi] at hI3 ⊢
  rw [hbp] at hP3 ⊢
  have HBP := Lib.hid hbp
  have HBI := Lib.hid hbi
  have HBE := Lib.hid hbe
  have hxx : bp < bi ∧ bi < be ∧ be < w3.heap.size := by omega
  have hr3 := hr.below hb03
  clear hP hI hb1 hb2 hb3 hs1 hs2 hs3 hw1 hw2 hw3 hb02 hbp hbi hbe
  refine (sectors_any w3 c A n cap b hr3 hn).mono ?_
  rintro e w5 ⟨gc, ga, gb, rfl, hS, hgc, hga, hgb, hgb5, hb5⟩
  have hb05 := hb03.trans (hb5.mono (by have := hb03.size; omega))
  have hP5 := hP3.below hb5 hP3.lt
  have hI5 := hI3.below hb5 hI3.lt
  have hE5 := hE.below hb5 hE.lt
  simp only []
  clear hb5 hb03 hP3 hI3 hE hr3
  go_wp2_with fail
  obtain ⟨N, hN⟩ : ∃ N, w5.heap.size = N := ⟨_, rfl⟩
  obtain ⟨q, hq⟩ : ∃ q, p + (which : Int) * 10 = q := ⟨_, rfl⟩
  have hH0 : WInv w base l p which bp bi be N [gc, ga, gb] d 0 w5 l := by
    have hgs := (hD.fp_lt (.inr (.inl rfl))).2
    have hgn := (hD.fp_lt (.inr (.inr (.inl rfl)))).2
    have h1 := HBP.out
    have h2 := hb05.size
    have hcl := hS.cnt.lt
    obtain ⟨cp, hHd, _⟩ := hS.hdr
    have hal := hHd.lt
    refine ⟨hD.below hb05, Moved.of_below hb05, by rw [hg]; exact hP5, hI5, hE5, fun k hk => ⟨?_, fun hf => ?_⟩, by omega, by omega, by omega, by omega⟩
    · have := hE5.lt
      simp at hk
      omega
    · have := (hD.fp_lt hf).2
      simp at hk
      omega
  refine (wpIn_wide (n := 4)).1 ?_
  refine wpIn_rangeFunc_ownH rfl (by omega) (gf := 87) (lb := #[.pointer (some ⟨gc, 0, none⟩), .pointer (some ⟨ga, 0, none⟩)]) rfl trivial (enters_of Tryz.func87 (by kernel_rfl) rfl)
    (sectors1_stops w5 gc ga gb c b hS (by omega) hc hS.cnt.lt (by obtain ⟨_, h, _⟩ := hS.hdr; exact h.lt) hgb5) (fun h k => h.trans k)
    (fun W l o o' hl h1 h2 h3 => ⟨by simp, ?kc, ?ka, ?kb⟩) (Below.refl _ _) (fun _ => rfl)
    (fun pre W => (wrL d q c b pre).2 = 0 ∧ ∃ l', WInv w base l p which bp bi be N [gc, ga, gb] (wrL d q c b pre).1 0 W l')
    (fun cc pre W => cc = .ret ∧ (wrL d q c b pre).2 ≠ 0 ∧ ∃ l', WInv w base l p which bp bi be N [gc, ga, gb] (wrL d q c b pre).1 (wrL d q c b pre).2 W l')
    ?hI ?hIx ⟨rfl, l, hH0⟩
    (fun x a' W => ∃ B, Blk W B 89 (bvs (secB c b x.1)).toArray ∧ a' = { tmps := #[.agg #[.pointer (some ⟨g, 0, none⟩), .int .i64 p], .int .i64 (which : Int), .int .u64 (c : Int), .slice A n cap, .pointer (some ⟨bp, 0, none⟩), .pointer (some ⟨bi, 0, none⟩), undef, undef, .pointer (some ⟨be, 0, none⟩), .int .i64 (x.1 : Int), .pointer (some ⟨B, 0, none⟩), undef, .int .u64 (c : Int), .slice A n cap, .func (.func 87) #[] #[.pointer (some ⟨gc, 0, none⟩), .pointer (some ⟨ga, 0, none⟩)], .int .i64 (x.1 : Int), .agg (bvs (secB c b x.1)).toArray, undef, undef, undef, undef, undef, undef, undef, undef, undef, undef, undef, undef, undef, undef], defers := [] })
    ?hAx ?assign ?body ?done ?stop
  case kc => exact World.putObj_heap_other (by have := hS.cnt.lt; omega)
  case ka => exact World.putObj_heap_other (by obtain ⟨_, h, _⟩ := hS.hdr; have := h.lt; omega)
  case kb => exact World.putObj_heap_other (by omega)
  case hI => exact fun s A B row ⟨h0, l', hi⟩ hgr hr => ⟨h0, l', hi.own hgr (fun r e => by rw [← hN]; exact hr r e)⟩
  case hIx => exact fun cc s A B row ⟨h0, h1, l', hi⟩ hgr hr => ⟨h0, h1, l', hi.own hgr (fun r e => by rw [← hN]; exact hr r e)⟩
  case hAx =>
    exact fun x a' s A B row ⟨b0, h1, h2⟩ hgr hr => ⟨b0, h1.grown hgr (fun e => by
      obtain ⟨_, o, h3, h4⟩ := hr _ e.symm
      rw [show A.heap[b0]? = _ from h1] at h3
      cases h3
      cases h4), h2⟩
  case assign =>
    rintro lr pre x W K ⟨h0, l', hi⟩ hK
    simp only [encS]
    have hsl := secB_length c (b := b) (by omega) x.2
    have hbs : (bvs (secB c b x.1)).toArray.size = 128 := by rw [bvs_size, hsl]
    clear hD hr hS hb05 hP5 hI5 hE5 hH0
    refine wpIn_seq_k (fun K2 hK2 => ?_)
    refine wpIn_region_of (by rintro ⟨a, w, h⟩; exact h) (by rfl) ?_
    go_wp2_with fail
    refine wpIn_region_of (by rintro ⟨a, w, h⟩; exact h) (by rfl) ?_
    repeat (first | ((with_reducible refine wpl_store_fresh (bvs (secB c b x.1)).toArray i128 ?_ hbs (bvs_all _) ?_ ?_ ?_); (focus kernel_rfl); (focus rfl); (focus rfl); intro w6 hSb hl3 hb; simp only [Act.put]; refine Hid.out ?_) | go_values | go_skip | go_guarded | go_step | go_upon | go_back)
    refine Lib.hid ?_
    have hm := Moved.of_below (l := l') hb
    exact hK _ _ (by rw [hN]; exact hi.keeps hm) (hi.kps hm) ⟨h0, l', hi.below hb⟩ ⟨_, hSb, rfl⟩
  case body =>
    rintro lr pre x a' W hlr ⟨rr, hrr⟩ ⟨h0, l', hi⟩ ⟨B, hB, rfl⟩ hlt
    have hsl := secB_length c (b := b) (by omega) x.2
    have hbs : (bvs (secB c b x.1)).toArray.size = 128 := by rw [bvs_size, hsl]
    have hst : wrL d q c b (pre ++ [x]) = (writeD (wrL d q c b pre).1 (q + (x.1 : Int)) (secB c b x.1), writeE (wrL d q c b pre).1 (q + (x.1 : Int))) := by rw [wrL_snoc, stp, if_pos h0]
    have hlo1 : (wrL d q c b pre).1.loose.length < 1000000000 := by have := wrL_loose d q c b pre; omega
    have hlg : l'.g = g := (congrArg Prod.fst hi.mv.g).trans hg
    have hbase' : base ≤ W.heap.size := Nat.le_trans hbase hi.mv.chg.size
    have c0 := hi.pl.cell 0
    have c1 := hi.pl.cell 1
    have c2 := hi.wh.cell 0
    simp only [List.getElem?_toArray, List.getElem?_cons_zero, List.getElem?_cons_succ] at c0 c1 c2
    rw [hg] at c0
    have hx10 := x.2
    have HST := Lib.hid hst
    have HN := Lib.hid hN
    have hbe : w.heap.size ≤ be ∧ bp ≠ be ∧ bi ≠ be := by have := HBP.out; omega
    obtain ⟨d1, hd1⟩ : ∃ d1, (wrL d q c b pre).1 = d1 := ⟨_, rfl⟩
    rw [hd1] at hi HST hlo1
    obtain ⟨E, hE⟩ : ∃ E, writeE d1 (q + (x.1 : Int)) = E := ⟨_, rfl⟩
    rw [hE] at HST
    have HE := Lib.hid hE
    clear hD hr hS hb05 hP5 hI5 hE5 hH0 hst hN hd1 hE h0 hrr hlr
    refine wpIn_block ?_
    refine wpIn_seq_k (fun K2 hK2 => ?_)
    refine wpIn_region_of (by rintro ⟨a, w, h⟩; exact h) (by rfl) ?_
    repeat (first | ((with_reducible refine wpl_load B _ _ Tryz.underlying89 i128 hB hbs ?_ ?_); (focus rfl); simp only [Act.put, List.setIfInBounds_toArray, List.set_cons_zero, List.set_cons_succ]) | go_values | go_skip | go_guarded | go_step | go_upon | go_back)
    refine (gwrite _ base g _ _ hi.disk hlg hbase' (q + (x.1 : Int)) (secB c b x.1) hsl hlo1).mono ?_
    rw [HE.out]
    rintro e w6 ⟨l2, rfl, hlg2, hD2, hm⟩
    have hi2 := hi.step hm hD2
    have hkf : KeepsFrom w5.heap.size W w6 := by rw [HN.out]; exact hi.keeps hm
    have hkp := hi.kps hm
    have c3 := hi2.er.cell 0
    have f3 := hi2.er.frozen 0
    simp only [List.getElem?_toArray, List.getElem?_cons_zero] at c3
    simp only []
    clear hm hi hD2 hB c0 c1 c2
    go_wp2_with fail
    refine wpIn_seq_k (fun K3 hK3 => ?_)
    refine wpIn_region_of (by rintro ⟨a, w, h⟩; exact h) (by rfl) ?_
    by_cases hE0 : E = 0
    · subst hE0
      go_wp2_with fail
      refine wpIn_cond_false rfl ?_
      refine wpIn_skip ?_
      exact ⟨hkf, hkp, by rw [HST.out], l2, by rw [HST.out]; exact hi2⟩
    · have hne : (E != 0) = true := by simpa using hE0
      have HE0 := Lib.hid hE0
      clear hE0
      go_wp2_with fail
      refine wpIn_cond_true rfl ?_
      refine wpIn_seq_k (fun K4 hK4 => ?_)
      refine wpIn_region_of (by rintro ⟨a, w, h⟩; exact h) (by rfl) ?_
      go_wp2_with fail
      refine wpIn_ret ?_
      exact ⟨hkf.trans ((KeepsOthers.setCell _ _ _).from _), rfl, by rw [HST.out]; exact HE0.out, l2, by rw [HST.out]; exact hi2.setE hbe.1 hbe.2.1 hbe.2.2 E⟩
  case done =>
    rintro D ys W hDs rfl ⟨h0, l', hi⟩ hKD
    have c3 := hi.er.cell 0
    have f3 := hi.er.frozen 0
    simp only [List.getElem?_toArray, List.getElem?_cons_zero] at c3
    rw [wrL_fr _ _ _ _ _ (Nat.le_refl 10)] at h0 hi
    have hlg : l'.g = g := (congrArg Prod.fst hi.mv.g).trans hg
    clear hD hr hS hb05 hP5 hI5 hE5 hH0
    have hbe : w.heap.size ≤ be ∧ bp ≠ be ∧ bi ≠ be := by have := HBP.out; omega
    have hi2 := hi.setE hbe.1 hbe.2.1 hbe.2.2 0
    have hK' := (KeepsOthers.setCell W ⟨be, 0, none⟩ (.int .i64 0)).same D _ hKD rfl
    have hi3 := hi2.own (grownBy_putObj' _ D (.deferred none)) (fun r e => by cases e; exact ⟨by omega, _, hK', rfl⟩)
    have hc5 := hi3.er.cell 0
    simp only [List.getElem?_toArray, List.getElem?_cons_zero] at hc5
    clear hi hi2
    go_wp2_with fail
    refine ⟨by simp, .inl ⟨_, _, rfl, run_takeDeferred hK', ?_⟩⟩
    refine ⟨.int .i64 0, ?_, l', by rw [hq, h0], hlg, by rw [hq]; exact hi3.disk, hi3.mv⟩
    simp [results, Tryz.f50, go_sem, hc5]
  case stop =>
    rintro D cc pre W hDs ⟨k, hk, rfl⟩ ⟨rfl, h0, l', hi⟩ hKD
    have hlg : l'.g = g := (congrArg Prod.fst hi.mv.g).trans hg
    rw [wrL_fr _ _ _ _ _ hk] at h0 hi
    have hst := wrS_stop h0 (10 - k)
    rw [show k + (10 - k) = 10 by omega] at hst
    rw [← hst] at hi
    clear hD hr hS hb05 hP5 hI5 hE5 hH0
    have hi3 := hi.own (grownBy_putObj' _ D (.deferred none)) (fun r e => by cases e; exact ⟨by omega, _, hKD, rfl⟩)
    have hc5 := hi3.er.cell 0
    simp only [List.getElem?_toArray, List.getElem?_cons_zero] at hc5
    clear hi
    refine wpIn_ret ?_
    refine ⟨by simp, .inl ⟨_, _, rfl, run_takeDeferred hKD, ?_⟩⟩
    refine ⟨.int .i64 (wrS d q c b 10).2, ?_, l', by rw [hq], hlg, by rw [hq]; exact hi3.disk, hi3.mv⟩
    simp [results, Tryz.f50, go_sem, hc5]
end Go.Proofs.YtmjdfajdompkeaaGreatDoor
namespace Go.Proofs.YtmjdfajdompkeaaGreatDoor
open Go.RowKit Go.Rat
set_option maxHeartbeats 1000000 in
theorem ccount_any (w : World) (s : List UInt8) (hs : s.length = 128) :
    Calls Tryz.prog 69 #[.agg (bvs s).toArray] w fun e w' => e = .returned (.int .u64 (cntB s : Int)) ∧ Below w.heap.size w w' := by
  have hB := Blk.new w 89 (bvs s).toArray
  have hb1 := below_alloc w (.cells (bvs s).toArray 89)
  have htk : takeF (s.take 8) false 8 = (s.take 8, [], false) := by
    have h8 : (s.take 8).length ≤ 8 := by rw [List.length_take]; omega
    refine (takeF_ok (xs := s.take 8) (k := 8) (by rw [List.length_take]; omega)).trans ?_
    rw [List.take_of_length_le (l := s.take 8) h8, List.drop_of_length_le (l := s.take 8) h8]
  have hR := Blk.reads hB (s.take 8) (by simp only [bvs, List.map_take, List.length_take]; rw [hs]; rfl)
  have hl8 : (s.take 8).length = 8 := by rw [List.length_take]; omega
  rw [hl8] at hR
  have hbs : (bvs s).toArray.size = 128 := by rw [bvs_size, hs]
  have HTK := Lib.hid htk
  clear htk
  obtain ⟨Z, hZ⟩ : ∃ Z, (bvs s).toArray = Z := ⟨_, rfl⟩
  rw [hZ] at hB hb1 hR hbs ⊢
  go_enter Tryz.func69, Tryz.ntmps69
  go_upto_region 1 with (fail)
  obtain ⟨w1, hw1⟩ : ∃ x, w.alloc (.cells Z 89) = x := ⟨_, rfl⟩
  rw [hw1] at hB hb1 hR ⊢
  clear hw1 hZ
  go_wp2_with fail
  refine (cnew_any w1 _ 8 128 (s.take 8) hR (by omega)).mono ?_
  rintro e w2 ⟨g, gb, rfl, hC, hg1, hg2, hg3, hb2⟩
  simp only []
  go_wp2_with fail
  refine (cword_any w2 g gb _ false hC).mono ?_
  rw [HTK.out]
  rintro e w3 ⟨rfl, hC3, hg4⟩
  simp only []
  have hb3 : Below w1.heap.size w1 w3 := hb2.grown hg4 hb2.size (fun q hq => by cases hq; exact hg1)
  clear hC hC3 hg4 hb2 hg3 hB hR
  go_wp2_with fail
  go_ret
  exact ⟨rfl, hb1.trans (hb3.mono hb1.size)⟩
def anyB (xs : List UInt8) : Bool := xs.any (· != 0)
theorem anyB_take (xs : List UInt8) {k : Nat} (hk : k < xs.length) (h : anyB (xs.take k) = false) : anyB (xs.take (k + 1)) = (xs.getD k 0 != 0) := by
  rw [List.take_add_one, List.getElem?_eq_getElem hk, anyB, List.any_append]
  unfold anyB at h
  rw [h, List.getD_eq_getElem?_getD, List.getElem?_eq_getElem hk]
  simp
theorem anyB_pre (xs : List UInt8) {k : Nat} (h : anyB (xs.take k) = true) : anyB xs = true := by
  unfold anyB at *
  rw [List.any_eq_true] at *
  obtain ⟨x, hx, h1⟩ := h
  exact ⟨x, List.mem_of_mem_take hx, h1⟩
theorem nz_any (w : World) (c : UInt8) : Calls Tryz.prog 72 #[.int .u8 (c.toNat : Int)] w fun e w' => e = .returned (.bool (c != 0)) ∧ w = w' := by
  have h : ((c.toNat : Int) != 0) = (c != 0) := by
    by_cases e : c = 0
    · subst e; rfl
    · have : c.toNat ≠ 0 := fun h => e (UInt8.toNat_inj.1 h)
      have h1 : ((c.toNat : Int) != 0) = true := by simp; omega
      rw [h1]; simp [e]
  have H := Lib.hid h
  clear h
  go_enter Tryz.func72, Tryz.ntmps72
  go_wp2_with fail
  go_ret
  exact ⟨congrArg (fun b => Ending.returned (.bool b)) H.out, rfl⟩
set_option maxHeartbeats 1000000 in
theorem indexFunc_any (w : World) (A : Option Addr) (n c : Nat) (xs : List UInt8) (hr : RB w A n xs) (hn : n ≤ 100000) :
    Calls Tryz.prog 85 #[.slice A n c, .func (.func 72) #[] #[]] w fun e w' => (∃ i : Int, e = .returned (.int .i64 i) ∧ (anyB xs = true ∧ 0 ≤ i ∨ anyB xs = false ∧ i = -1)) ∧ w = w' := by
  have hl := hr.len
  go_enter Tryz.func85, Tryz.ntmps85
  go_wp2_with fail
  go_loop [8] (fun i => ∃ k : Nat, k ≤ n ∧ i = .int .i64 (k : Int) ∧ anyB (xs.take k) = false) (fun i => n - (intOf i).toNat)
  case atStart => exact ⟨0, Nat.zero_le _, rfl, by simp [anyB]⟩
  case round =>
    obtain ⟨k, hk, rfl, hz⟩ := hrel
    have HZ := Lib.hid hz
    clear hz
    by_cases hkn : k < n
    · obtain ⟨ad, rfl, hadl, hc⟩ := hr.at_ hkn
      have hstep := anyB_take xs (k := k) (by omega) HZ.out
      have hb := (xs.getD k 0).toNat_lt
      obtain ⟨x, hx⟩ : ∃ x, xs.getD k 0 = x := ⟨_, rfl⟩
      rw [hx] at hc hstep
      clear hx
      have HST := Lib.hid hstep
      have g1 : (k : Int) < (n : Int) := by omega
      have g0 : (0 : Int) ≤ (k : Int) := by omega
      clear hstep hl
      obtain ⟨v, hv⟩ : ∃ v, (x != 0) = v := ⟨_, rfl⟩
      rw [hv] at HST
      have HV := Lib.hid hv
      clear hv
      cases v
      · go_wp2_with (refine (nz_any _ x).mono ?_; rw [HV.out]; rintro e w2 ⟨rfl, rfl⟩; simp only [])
        go_round
        case rel => exact ⟨k + 1, by omega, by go_num, HST.out⟩
        case measure => simp [intOf]; omega
      · go_wp2_with (refine (nz_any _ x).mono ?_; rw [HV.out]; rintro e w2 ⟨rfl, rfl⟩; simp only [])
        go_ret
        exact ⟨⟨_, rfl, .inl ⟨anyB_pre xs HST.out, g0⟩⟩, rfl⟩
    · obtain rfl : k = n := by omega
      have g1 : ¬ (k : Int) < (k : Int) := by omega
      have HL := Lib.hid hl
      clear hl
      go_wp2_with fail
      go_ret
      exact ⟨⟨_, rfl, .inr ⟨by have := HZ.out; rwa [List.take_of_length_le (by rw [HL.out]; exact Nat.le_refl _)] at this, rfl⟩⟩, rfl⟩
theorem contains_any (w : World) (A : Option Addr) (n c : Nat) (xs : List UInt8) (hr : RB w A n xs) (hn : n ≤ 100000) :
    Calls Tryz.prog 71 #[.slice A n c, .func (.func 72) #[] #[]] w fun e w' => e = .returned (.bool (anyB xs)) ∧ w = w' := by
  obtain ⟨v, hv⟩ : ∃ v, anyB xs = v := ⟨_, rfl⟩
  have HV := Lib.hid hv
  clear hv
  go_enter Tryz.func71, Tryz.ntmps71
  go_wp2_with fail
  refine (indexFunc_any w A n c xs hr hn).mono ?_
  rintro e w2 ⟨⟨i, rfl, h⟩, rfl⟩
  rw [HV.out] at h
  simp only []
  rcases h with ⟨rfl, h⟩ | ⟨rfl, rfl⟩
  · go_wp2_with fail
    go_ret
    exact ⟨congrArg (fun b => Ending.returned (.bool b)) HV.out.symm, rfl⟩
  · go_wp2_with fail
    go_ret
    exact ⟨congrArg (fun b => Ending.returned (.bool b)) HV.out.symm, rfl⟩
theorem may_any (w : World) (g : Nat) (p : Int) : Calls Tryz.prog 46 #[.agg #[.pointer (some ⟨g, 0, none⟩), .int .i64 p]] w fun e w' => e = .returned (.int .i64 (mayE p)) ∧ Below w.heap.size w w' := by
  by_cases h : 0 ≤ p ∧ p ≤ 32748
  · have hm : mayE p = 0 := if_pos h
    obtain ⟨h1, h2⟩ := h
    have h1' : ¬ p < 0 := by omega
    have h2' : ¬ 32748 < p := by omega
    have H := Lib.hid hm
    clear hm
    go_enter Tryz.func46, Tryz.ntmps46
    go_wp2_with fail
    go_ret
    exact ⟨congrArg (fun i => Ending.returned (.int .i64 i)) H.out.symm, below_alloc _ _⟩
  · have hm : mayE p = 1 := if_neg h
    have H := Lib.hid hm
    clear hm
    by_cases h1 : p < 0
    · clear h
      go_enter Tryz.func46, Tryz.ntmps46
      go_wp2_with fail
      go_ret
      exact ⟨congrArg (fun i => Ending.returned (.int .i64 i)) H.out.symm, below_alloc _ _⟩
    · have h2 : 32748 < p := by omega
      have h3 : 0 ≤ p := by omega
      clear h
      go_enter Tryz.func46, Tryz.ntmps46
      go_wp2_with fail
      go_ret
      exact ⟨congrArg (fun i => Ending.returned (.int .i64 i)) H.out.symm, below_alloc _ _⟩
theorem may_nil (w : World) (p : Int) : Calls Tryz.prog 46 #[.agg #[.pointer none, .int .i64 p]] w fun e w' => e = .returned (.int .i64 2) ∧ Below w.heap.size w w' := by
  go_enter Tryz.func46, Tryz.ntmps46
  go_wp2_with fail
  go_ret
  exact ⟨rfl, below_alloc _ _⟩
end Go.Proofs.YtmjdfajdompkeaaGreatDoor
namespace Go.Proofs.YtmjdfajdompkeaaGreatDoor
open Go.RowKit Go.Rat
theorem view_len {d : DS} (h : DOk d) {p : Int} {i : Nat} {s : List UInt8} (hs : viewD d p i = some s) : s.length = 128 := by
  unfold viewD at hs
  split at hs
  · cases hs
    exact readB_length h _
  · cases hs
theorem rdS_len {F : Nat → Option (List UInt8)} (hF : ∀ i s, F i = some s → s.length = 128) : ∀ k n all, rdS F k = some (n, all) → all.length = k * 120 ∧ n < 2 ^ 64
  | 0, n, all, h => by
    simp [rdS] at h
    obtain ⟨rfl, rfl⟩ := h
    simp
  | k + 1, n, all, h => by
    rw [rdS] at h
    split at h
    · next m al s h1 h2 =>
      split at h
      · simp only [Option.some.injEq, Prod.mk.injEq] at h
        have := (rdS_len hF k m al h1).1
        have hs := hF _ _ h2
        rw [← h.1, ← h.2]
        refine ⟨?_, cntB_lt s⟩
        rw [List.length_append, List.length_drop, this, hs, Nat.succ_mul]
      · cases h
    · cases h
theorem rdS_bad {F : Nat → Option (List UInt8)} {k n : Nat} {all s : List UInt8} (h1 : rdS F k = some (n, all)) (h2 : F k = some s) (hk : k ≠ 0) (hc : cntB s ≠ n) (hk10 : k < 10) : rdF F = (0, []) := by
  have h3 : rdS F (k + 1) = none := by
    rw [rdS, h1, h2]
    simp only []
    rw [if_neg (by rintro (h | h); exact hk h; exact hc h)]
  have up : ∀ j, rdS F (k + 1 + j) = none := by
    intro j
    induction j with
    | zero => exact h3
    | succ j ih => rw [← Nat.add_assoc, rdS, ih]
  have := up (10 - (k + 1))
  rw [show k + 1 + (10 - (k + 1)) = 10 by omega] at this
  rw [rdF, this]
theorem rdS_next {F : Nat → Option (List UInt8)} {k n : Nat} {all s : List UInt8} (h1 : rdS F k = some (n, all)) (h2 : F k = some s) (hc : k = 0 ∨ cntB s = n) : rdS F (k + 1) = some (cntB s, all ++ s.drop 8) := by
  rw [rdS, h1, h2]
  simp only []
  rw [if_pos hc]
theorem blk_drop8 {w : World} {g : Nat} {T : TypeId} {s : List UInt8} (hB : Blk w g T (bvs s).toArray) (hs : s.length = 128) : RB w (some ⟨g, 8, none⟩) 120 (s.drop 8) := by
  refine ⟨by rw [bvs_length, List.length_drop, hs], fun _ => ⟨_, rfl, hB.lt, fun j u hu => ?_⟩⟩
  have ha : ((⟨g, 8, none⟩ : Addr).add j) = ⟨g, 8 + j, none⟩ := by
    simp only [Addr.add]
    split
    · next h => subst h; rfl
    · rfl
  rw [ha, hB.cell (8 + j), List.getElem?_toArray, ← hu, bvs, bvs, List.map_drop, List.getElem?_drop]
theorem all_anyB (xs : List UInt8) : xs.all (· == 0) = !anyB xs := by
  unfold anyB
  induction xs with
  | nil => rfl
  | cons x xs ih =>
    rw [List.all_cons, List.any_cons, ih, Bool.not_or]
    congr 1
    cases h : (x == 0) <;> simp_all
set_option maxRecDepth 20000 in
set_option maxHeartbeats 8000000 in
theorem cread_any (w : World) (base : Nat) (l : DL) (d : DS) (hD : DiskAt w base l d) (g : Nat) (hg : l.g = g) (p : Int) (which : Nat) (hw : which ≤ 1) (hp : 0 ≤ p ∧ p + 20 ≤ 32768) :
    Calls Tryz.prog 48 #[.agg #[.pointer (some ⟨g, 0, none⟩), .int .i64 p], .int .i64 (which : Int)] w fun e w' => ∃ A N c, e = .returned (.tuple #[.int .u64 ((slotV d p which).1 : Int), .slice A N c]) ∧ OB 5 w' w.heap.size A N c (slotV d p which).2 ∧ Below w.heap.size w w' := by
  obtain ⟨q, hq⟩ : ∃ q, p + (which : Int) * 10 = q := ⟨_, rfl⟩
  have hsv : slotV d p which = rdF (viewD d q) := by rw [slotV, ← hq, show (((which * 10 : Nat) : Int)) = (which : Int) * 10 by omega]
  rw [hsv]
  have hqb : 0 ≤ q ∧ q + 10 ≤ 32768 := by omega
  have hFl : ∀ i s, viewD d q i = some s → s.length = 128 := fun i s h => view_len hD.ok h
  obtain ⟨F, hF⟩ : ∃ F, viewD d q = F := ⟨_, rfl⟩
  have hFv : ∀ i : Nat, F i = if readE d (q + (i : Int)) = 0 then some (readB d (q + (i : Int))) else none := fun i => by rw [← hF]; rfl
  rw [hF] at hFl ⊢
  have HFV := Lib.hid hFv
  have HFL := Lib.hid hFl
  clear hsv hF hFv hFl
  go_enter Tryz.func48, Tryz.ntmps48
  go_upto_block 0 with (fail)
  have hP := Blk.new w 99 #[.pointer (some ⟨g, 0, none⟩), .int .i64 p]
  have hb1 := below_alloc w (.cells #[.pointer (some ⟨g, 0, none⟩), .int .i64 p] 99)
  obtain ⟨w1, hw1⟩ : ∃ x, w.alloc (.cells #[.pointer (some ⟨g, 0, none⟩), .int .i64 p] 99) = x := ⟨_, rfl⟩
  rw [hw1] at hP hb1 ⊢
  have hs1 : w.heap.size < w1.heap.size := hP.lt
  have hD1 := hD.below hb1
  clear hw1 hD
  obtain ⟨bp, hbp⟩ : ∃ x, w.heap.size = x := ⟨_, rfl⟩
  rw [hbp] at hP ⊢
  have HBP := Lib.hid hbp
  clear hbp
  go_cut [4, 6] (fun n al wx => ∃ (nk : Nat) (allk : List UInt8) (A : Option Addr) (N c : Nat), n = .int .u64 (nk : Int) ∧ al = .slice A N c ∧ rdS F 10 = some (nk, allk) ∧ OB 5 wx w1.heap.size A N c allk ∧ Below w1.heap.size w1 wx)
  case first =>
    go_wp2_with fail
    go_loopw [4, 6, 13] (fun n al i wr => ∃ (k nk : Nat) (allk : List UInt8) (A : Option Addr) (N c : Nat), k ≤ 10 ∧ i = .int .i64 (k : Int) ∧ n = .int .u64 (nk : Int) ∧ al = .slice A N c ∧ rdS F k = some (nk, allk) ∧ OB 5 wr w1.heap.size A N c allk ∧ Below w1.heap.size w1 wr) (fun _ _ i _ => 10 - (intOf i).toNat)
    case atStart => exact ⟨0, 0, [], none, 0, 0, by omega, rfl, rfl, rfl, rfl, OB.nil_ _ _ _, Below.refl _ _⟩
    case round =>
      obtain ⟨k, nk, allk, A, N, c, hk, rfl, rfl, rfl, hrd, hO, hbk⟩ := hrel
      by_cases hk10 : k < 10
      · have hPk := hP.below hbk hP.lt
        have hDk := hD1.below hbk
        have c0 := hPk.cell 0
        have c1 := hPk.cell 1
        simp only [List.getElem?_toArray, List.getElem?_cons_zero, List.getElem?_cons_succ] at c0 c1
        have hFk := HFV.out k
        have hsl : (readB d (q + (k : Int))).length = 128 := readB_length hDk.ok _
        obtain ⟨s, hs⟩ : ∃ s, readB d (q + (k : Int)) = s := ⟨_, rfl⟩
        obtain ⟨E, hE⟩ : ∃ E, readE d (q + (k : Int)) = E := ⟨_, rfl⟩
        rw [hs] at hFk hsl
        rw [hE] at hFk
        have HS := Lib.hid hs
        have HE := Lib.hid hE
        have HFK := Lib.hid hFk
        have HRD := Lib.hid hrd
        have hsz : (bvs s).toArray.size = 128 := by rw [bvs_size, hsl]
        have g1 : (k : Int) < 10 := by omega
        have g2 : (0 : Int) ≤ (k : Int) := by omega
        have hNl := hO.len
        have hal : allk.length = k * 120 := (rdS_len HFL.out k nk allk HRD.out).1
        have hnk : nk < 2 ^ 64 := (rdS_len HFL.out k nk allk HRD.out).2
        have hN12 : N ≤ 1200 := by omega
        have HNL := Lib.hid hNl
        clear hs hE hFk hrd hNl hal
        go_wp2_with fail
        refine (gread _ base g _ _ hDk hg (q + (k : Int))).mono ?_
        rw [HS.out, HE.out]
        rintro e w3 ⟨rfl, hb⟩
        simp only []
        have hO := OB.grown hO (grownBy_of_below hb none) (.inr rfl)
        have hbk := hbk.trans (hb.mono hbk.size)
        have hw13 := hbk.size
        clear hb c0 c1 hDk hPk
        repeat (first | ((with_reducible refine wpl_store_fresh (bvs s).toArray i128 ?_ hsz (bvs_all _) ?_ ?_ ?_); (focus kernel_rfl); (focus rfl); (focus rfl); intro w4 hB hl3 hb; simp only [Act.put]; refine Hid.out ?_) | go_values | go_skip | go_guarded | go_step | go_upon | go_back)
        refine Lib.hid ?_
        have hO := OB.grown hO (grownBy_of_below hb none) (.inr rfl)
        have hbk := hbk.trans (hb.mono hbk.size)
        clear hb hl3
        have hgB1 : w1.heap.size ≤ w3.heap.size := hw13
        obtain ⟨gB, hgB⟩ : ∃ x, w3.heap.size = x := ⟨_, rfl⟩
        rw [hgB] at hB hgB1 ⊢
        clear hgB
        have hgb : w.heap.size ≤ gB := by omega
        by_cases hE0 : E = 0
        · subst hE0
          have hsome : F k = some s := HFK.out.trans (if_pos rfl)
          have HSM := Lib.hid hsome
          clear hsome
          by_cases hk0 : k = 0
          · subst hk0
            have hnx := rdS_next HRD.out HSM.out (.inl rfl)
            have HNX := Lib.hid hnx
            clear hnx
            repeat (first | ((with_reducible refine wpl_load gB _ _ Tryz.underlying89 i128 hB hsz ?_ ?_); (focus rfl); simp only [Act.put, List.setIfInBounds_toArray, List.set_cons_zero, List.set_cons_succ]) | go_values | go_skip | go_guarded | go_step | go_upon | go_back)
            refine (ccount_any _ s hsl).mono ?_
            rintro e w5 ⟨rfl, hb⟩
            simp only []
            have hO := OB.grown hO (grownBy_of_below hb none) (.inr rfl)
            have hbk := hbk.trans (hb.mono hbk.size)
            have hB := hB.below hb hB.lt
            have hR8 := blk_drop8 hB hsl
            clear hb
            go_wp2_with (at_builtin; refine app_bytes rfl _ _ rfl w1.heap.size A N c allk rfl hO (some ⟨gB, 8, none⟩) 120 120 (s.drop 8) rfl hR8 (by omega) hbk.size ?_; intro A2 N2 c2 w6 hc2 hc2' hO2 hG2)
            have hbk := hG2.own hbk (Nat.le_refl _) hO
            exact ⟨⟨0 + 1, cntB s, allk ++ s.drop 8, A2, N2, c2, by omega, congrArg (Value.int .i64) (by omega), rfl, rfl, HNX.out, hO2, hbk⟩, by simp [intOf]⟩
          · have hk0' : 0 < k := by omega
            by_cases hcn : cntB s = nk
            · have hnx := rdS_next HRD.out HSM.out (.inr hcn)
              have HNX := Lib.hid hnx
              have hcne : ((cntB s : Int) != (nk : Int)) = false := by rw [hcn]; simp
              clear hnx hcn hk0
              repeat (first | ((with_reducible refine wpl_loadG gB _ (bvs s).toArray Tryz.underlying89 i128 hB hsz ?_ ?_ ?_); (focus rfl); (focus rfl); simp only [Act.put, List.setIfInBounds_toArray, List.set_cons_zero, List.set_cons_succ]) | go_values | go_skip | go_guarded | go_step | go_upon | go_back)
              refine (ccount_any _ s hsl).mono ?_
              rintro e w5' ⟨rfl, hb⟩
              simp only []
              have hO := OB.grown hO (grownBy_of_below hb none) (.inr rfl)
              have hbk := hbk.trans (hb.mono hbk.size)
              have hB := hB.below hb hB.lt
              clear hb
              repeat (first | ((with_reducible refine wpl_load gB _ _ Tryz.underlying89 i128 hB hsz ?_ ?_); (focus rfl); simp only [Act.put, List.setIfInBounds_toArray, List.set_cons_zero, List.set_cons_succ]) | go_values | go_skip | go_guarded | go_step | go_upon | go_back)
              refine (ccount_any _ s hsl).mono ?_
              rintro e w5 ⟨rfl, hb⟩
              simp only []
              have hO := OB.grown hO (grownBy_of_below hb none) (.inr rfl)
              have hbk := hbk.trans (hb.mono hbk.size)
              have hB := hB.below hb hB.lt
              have hR8 := blk_drop8 hB hsl
              clear hb
              go_wp2_with (at_builtin; refine app_bytes rfl _ _ rfl w1.heap.size A N c allk rfl hO (some ⟨gB, 8, none⟩) 120 120 (s.drop 8) rfl hR8 (by omega) hbk.size ?_; intro A2 N2 c2 w6 hc2 hc2' hO2 hG2)
              have hbk := hG2.own hbk (Nat.le_refl _) hO
              exact ⟨⟨k + 1, cntB s, allk ++ s.drop 8, A2, N2, c2, by omega, congrArg (Value.int .i64) (by omega), rfl, rfl, HNX.out, hO2, hbk⟩, by simp [intOf]; omega⟩
            · have hbad := rdS_bad HRD.out HSM.out hk0 hcn hk10
              have HBAD := Lib.hid hbad
              have hcne : ((cntB s : Int) != (nk : Int)) = true := by simp; omega
              clear hbad hcn hk0
              repeat (first | ((with_reducible refine wpl_loadG gB _ (bvs s).toArray Tryz.underlying89 i128 hB hsz ?_ ?_ ?_); (focus rfl); (focus rfl); simp only [Act.put, List.setIfInBounds_toArray, List.set_cons_zero, List.set_cons_succ]) | go_values | go_skip | go_guarded | go_step | go_upon | go_back)
              refine (ccount_any _ s hsl).mono ?_
              rintro e w5' ⟨rfl, hb⟩
              simp only []
              have hbk := hbk.trans (hb.mono hbk.size)
              clear hb
              go_wp2_with fail
              go_ret2
              exact ⟨none, 0, 0, by rw [HBAD.out]; rfl, by rw [HBAD.out]; exact OB.nil_ _ _ _, hb1.trans (hbk.mono (Nat.le_of_lt hs1))⟩
        · have hne : (E != 0) = true := by simpa using hE0
          have hbad := rdF_lost hk10 (HFK.out.trans (if_neg hE0))
          have HBAD := Lib.hid hbad
          clear hbad hE0
          go_wp2_with fail
          go_ret2
          exact ⟨none, 0, 0, by rw [HBAD.out]; rfl, by rw [HBAD.out]; exact OB.nil_ _ _ _, hb1.trans (hbk.mono (Nat.le_of_lt hs1))⟩
      · obtain rfl : k = 10 := by omega
        have g1 : ¬ ((10 : Nat) : Int) < 10 := by omega
        go_wp2_with fail
        go_meet
        exact ⟨nk, allk, A, N, c, rfl, rfl, hrd, hO, hbk⟩
  case rest =>
    obtain ⟨nk, allk, A, N, c, rfl, rfl, hrd, hO, hbk⟩ := hcut
    have hal := (rdS_len HFL.out 10 nk allk hrd).1
    have hnk := (rdS_len HFL.out 10 nk allk hrd).2
    have hrf : rdF F = endF nk allk := by rw [rdF, hrd]
    have hNl := hO.len
    obtain rfl : N = 1200 := by omega
    have ht2 : takeF allk false 2 = (allk.take 2, allk.drop 2, false) := takeF_ok (k := 2) (by omega)
    have hM := num_lt16 (ys := allk.take 2) (by rw [List.length_take]; omega)
    have hl0 : (allk.drop 2).length = 1198 := by rw [List.length_drop]; omega
    unfold endF at hrf
    obtain ⟨M, hMe⟩ : ∃ M, num (allk.take 2) = M := ⟨_, rfl⟩
    obtain ⟨R, hRe⟩ : ∃ R, allk.drop 2 = R := ⟨_, rfl⟩
    rw [hMe] at hM hrf
    rw [hRe] at hl0 hrf ht2
    have HM := Lib.hid hMe
    have HT2 := Lib.hid ht2
    have HRF := Lib.hid hrf
    have HL0 := Lib.hid hl0
    clear hal hrd hrf hNl ht2 hMe hRe hP hD1 hl0
    go_wp2_with fail
    refine (cnew_any wc A 1200 c allk hO.reads (by omega)).mono ?_
    rintro e w3 ⟨gC, gb, rfl, hC, hg1, hg2, hg3, hb3⟩
    simp only []
    have hgC1 : w1.heap.size ≤ gC := Nat.le_trans hbk.size hg1
    have hbk := hbk.trans (hb3.mono hbk.size)
    clear hb3 hO hg3
    go_wp2_with fail
    refine (chalf_any w3 gC gb allk false hC).mono ?_
    rw [HT2.out, HM.out]
    rintro e w4 ⟨rfl, hC4, hgr4⟩
    simp only []
    have hbk := hbk.grown hgr4 hbk.size (fun q hq => by cases hq; exact hgC1)
    have hgC4 : gC < w4.heap.size := Nat.lt_of_lt_of_le hg2 hgr4.size
    clear hC hgr4
    by_cases h98 : M ≤ 1198
    · have ht3 : takeF R false (M : Int) = (R.take M, R.drop M, false) := takeF_ok (by rw [HL0.out]; exact h98)
      have hLd : (R.drop M).length = 1198 - M := by rw [List.length_drop, HL0.out]
      have ht4 : takeF (R.drop M) false (((1198 - M : Nat)) : Int) = (R.drop M, [], false) := by
        refine (takeF_ok (by rw [hLd]; exact Nat.le_refl _)).trans ?_
        rw [← hLd, List.take_of_length_le (Nat.le_refl _), List.drop_of_length_le (Nat.le_refl _)]
      have HT3 := Lib.hid ht3
      have HT4 := Lib.hid ht4
      have HLD := Lib.hid hLd
      clear ht3 ht4 hLd
      go_wp2_with fail
      refine (craw_any w4 gC gb R false (M : Int) hC4 (by rw [HL0.out]; omega)).mono ?_
      rw [HT3.out]
      rintro e w5 ⟨A1, N1, c1, rfl, hO5, hC5, hgr5⟩
      simp only []
      have hbk := hbk.grown hgr5 hbk.size (fun q hq => by cases hq; exact hgC1)
      have hA1 : A1.map (·.block) ≠ some gC := fun e => by have := (hO5.ge _ e).1; omega
      clear hC4 hgr5
      go_wp2_with fail
      refine (cleft_any w5 gC gb _ false hC5).mono ?_
      rw [HLD.out]
      rintro e w5' ⟨rfl, rfl⟩
      simp only []
      go_wp2_with fail
      refine (craw_any w5 gC gb _ false _ hC5 (by rw [HLD.out]; omega)).mono ?_
      rw [HT4.out]
      rintro e w6 ⟨A2, N2, c2, rfl, hO6, hC6, hgr6⟩
      simp only []
      have hbk := hbk.grown hgr6 hbk.size (fun q hq => by cases hq; exact hgC1)
      have hO5 := (OB.grown hO5 hgr6 (.inl hA1)).mono (B := w.heap.size) (by have := hbk.size; omega)
      have hR6 := hO6.reads
      have hN6 : N2 ≤ 100000 := by have := hO6.len; rw [HLD.out] at this; omega
      clear hC5 hgr6 hO6 hA1
      by_cases h11 : M ≤ 1100
      · have h11' : ¬ (1100 : Int) < (M : Int) := by omega
        obtain ⟨v, hv⟩ : ∃ v, anyB (R.drop M) = v := ⟨_, rfl⟩
        have HV := Lib.hid hv
        clear hv
        cases v
        · have hfin : rdF F = (nk, R.take M) := by rw [HRF.out, if_pos ⟨h11, by rw [all_anyB, HV.out]; rfl⟩]
          have HFIN := Lib.hid hfin
          clear hfin
          go_wp2_with (first
            | ((with_reducible refine (cok_any w6 gC gb _ false hC6).mono ?_); rintro e w7 ⟨rfl, rfl⟩; simp only [])
            | ((with_reducible refine (contains_any w6 A2 N2 c2 _ hR6 hN6).mono ?_); rw [HV.out]; rintro e w7 ⟨rfl, rfl⟩; simp only []))
          go_ret2
          exact ⟨A1, N1, c1, by rw [HFIN.out]; rfl, by rw [HFIN.out]; exact hO5, hb1.trans (hbk.mono (Nat.le_of_lt hs1))⟩
        · have hfin : rdF F = (0, []) := by rw [HRF.out, if_neg (by rw [all_anyB, HV.out]; rintro ⟨_, h⟩; cases h)]
          have HFIN := Lib.hid hfin
          clear hfin
          go_wp2_with (first
            | ((with_reducible refine (cok_any w6 gC gb _ false hC6).mono ?_); rintro e w7 ⟨rfl, rfl⟩; simp only [])
            | ((with_reducible refine (contains_any w6 A2 N2 c2 _ hR6 hN6).mono ?_); rw [HV.out]; rintro e w7 ⟨rfl, rfl⟩; simp only []))
          go_ret2
          exact ⟨none, 0, 0, by rw [HFIN.out]; rfl, by rw [HFIN.out]; exact OB.nil_ _ _ _, hb1.trans (hbk.mono (Nat.le_of_lt hs1))⟩
      · have h11' : (1100 : Int) < (M : Int) := by omega
        have hfin : rdF F = (0, []) := by rw [HRF.out, if_neg (fun h => h11 h.1)]
        have HFIN := Lib.hid hfin
        clear hfin
        go_wp2_with ((with_reducible refine (cok_any w6 gC gb _ false hC6).mono ?_); rintro e w7 ⟨rfl, rfl⟩; simp only [])
        go_ret2
        exact ⟨none, 0, 0, by rw [HFIN.out]; rfl, by rw [HFIN.out]; exact OB.nil_ _ _ _, hb1.trans (hbk.mono (Nat.le_of_lt hs1))⟩
    · have hfin : rdF F = (0, []) := by rw [HRF.out, if_neg (fun h => by omega)]
      have HFIN := Lib.hid hfin
      have ht3 : takeF R false (M : Int) = ([], R, true) := takeF_bad (.inr (.inr (by rw [HL0.out]; omega)))
      have ht4 : takeF R true 1198 = ([], R, true) := takeF_bad (.inl rfl)
      have HT3 := Lib.hid ht3
      have HT4 := Lib.hid ht4
      clear hfin ht3 ht4
      go_wp2_with fail
      refine (craw_any w4 gC gb R false (M : Int) hC4 (by rw [HL0.out]; omega)).mono ?_
      rw [HT3.out]
      rintro e w5 ⟨A1, N1, c1, rfl, hO5, hC5, hgr5⟩
      simp only []
      have hbk := hbk.grown hgr5 hbk.size (fun q hq => by cases hq; exact hgC1)
      clear hC4 hgr5 hO5
      go_wp2_with fail
      refine (cleft_any w5 gC gb _ true hC5).mono ?_
      rw [HL0.out]
      rintro e w5' ⟨rfl, rfl⟩
      simp only []
      go_wp2_with fail
      refine (craw_any w5 gC gb _ true 1198 hC5 (by rw [HL0.out]; omega)).mono ?_
      rw [HT4.out]
      rintro e w6 ⟨A2, N2, c2, rfl, hO6, hC6, hgr6⟩
      simp only []
      have hbk := hbk.grown hgr6 hbk.size (fun q hq => by cases hq; exact hgC1)
      clear hC5 hgr6 hO6
      go_wp2_with ((with_reducible refine (cok_any w6 gC gb _ true hC6).mono ?_); rintro e w7 ⟨rfl, rfl⟩; simp only [])
      go_ret2
      exact ⟨none, 0, 0, by rw [HFIN.out]; rfl, by rw [HFIN.out]; exact OB.nil_ _ _ _, hb1.trans (hbk.mono (Nat.le_of_lt hs1))⟩
end Go.Proofs.YtmjdfajdompkeaaGreatDoor
namespace Go.Proofs.YtmjdfajdompkeaaGreatDoor
open Go.RowKit Go.Rat
structure CS where
  p : Int
  b : List UInt8
  which : Nat
  dead : Bool
theorem OB_ne {w : World} {base : Nat} {A : Option Addr} {n c : Nat} {xs : List UInt8} {k : Nat} {T : TypeId} {cs : Array Value} (h : OB 5 w base A n c xs) (hB : Blk w k T cs) (hT : T ≠ 5) : A.map (·.block) ≠ some k := by
  intro e
  obtain ⟨cur, hc⟩ := cells_row h e
  rw [show w.heap[k]? = _ from hB] at hc
  injection hc with hc
  injection hc with _ h2
  exact hT h2
/-- A cell beside its disk. -/
structure CellAt (w : World) (base : Nat) (l : DL) (k : Nat) (s : CS) : Prop where
  blk : ∃ A N c, Blk w k 101 #[.pointer (some ⟨l.g, 0, none⟩), .int .i64 s.p, .slice A N c, .int .i64 (s.which : Int), .bool s.dead] ∧ OB 5 w base A N c s.b ∧ (∀ x, A.map (·.block) = some x → ¬ l.fp x)
  out : ¬ l.fp k
  bk : base ≤ k
  wh : s.which ≤ 1
  len : s.b.length ≤ 1100
theorem cell_ne8 : (101 : TypeId) ≠ 5 := by decide
theorem CellAt.lt {w : World} {base : Nat} {l : DL} {k : Nat} {s : CS} (h : CellAt w base l k s) : k < w.heap.size := by
  obtain ⟨_, _, _, h1, _⟩ := h.blk
  exact h1.lt
theorem CellAt.kept {w w' : World} {base : Nat} {l l' : DL} {k : Nat} {s : CS} {F : Nat → Prop} (h : CellAt w base l k s) (hc : Chg F w w') (hk : ¬ F k) (hF : ∀ x, F x → l.fp x ∨ ∃ T cs, Blk w x T cs ∧ T ≠ 5) (hg : l'.g = l.g) (hfp : ∀ x, l'.fp x → l.fp x ∨ w.heap.size ≤ x) : CellAt w' base l' k s := by
  obtain ⟨A, N, c, h1, h2, h3⟩ := h.blk
  have hA : ∀ x, A.map (·.block) = some x → ¬ F x := fun x hx hf => by
    rcases hF x hf with h4 | ⟨T, cs, h4, h5⟩
    · exact h3 x hx h4
    · exact OB_ne h2 h4 h5 hx
  refine ⟨⟨A, N, c, by rw [hg]; exact hc.blk h1 hk, hc.own h2 hA, fun x hx hf => ?_⟩, fun hf => ?_, h.bk, h.wh, h.len⟩
  · rcases hfp x hf with h4 | h4
    · exact h3 x hx h4
    · have := (h2.ge x hx).2
      omega
  · rcases hfp k hf with h4 | h4
    · exact h.out h4
    · have := h1.lt
      omega
theorem CellAt.moved {w w' : World} {base : Nat} {l l' : DL} {k : Nat} {s : CS} (h : CellAt w base l k s) (hm : Moved w w' l l') : CellAt w' base l' k s :=
  h.kept hm.chg h.out (fun _ hx => .inl hx) (congrArg Prod.fst hm.g) hm.fp
theorem CellAt.below {w w' : World} {base : Nat} {l : DL} {k : Nat} {s : CS} (h : CellAt w base l k s) (hb : Below w.heap.size w w') : CellAt w' base l k s := h.moved (Moved.of_below hb)
theorem endF_len (n : Nat) (all : List UInt8) : (endF n all).2.length ≤ 1100 := by
  unfold endF
  split
  · next h => simp only [List.length_take]; omega
  · simp
theorem rdF_len (F : Nat → Option (List UInt8)) : (rdF F).2.length ≤ 1100 := by
  unfold rdF
  split
  · simp
  · exact endF_len _ _
def openCell (d : DS) (p : Int) : CS := ⟨p, (opF d p).2, (opF d p).1, false⟩
theorem opF_wh (d : DS) (p : Int) : (opF d p).1 ≤ 1 := by
  unfold opF
  split <;> simp
theorem opF_len (d : DS) (p : Int) : (opF d p).2.length ≤ 1100 := by
  unfold opF
  split <;> exact rdF_len _
set_option maxRecDepth 20000 in
set_option maxHeartbeats 8000000 in
theorem copen_any (w : World) (base : Nat) (l : DL) (d : DS) (hD : DiskAt w base l d) (g : Nat) (hg : l.g = g) (hbase : base ≤ w.heap.size) (p : Int) (hp : 0 ≤ p ∧ p + 20 ≤ 32768) :
    Calls Tryz.prog 21 #[.pointer (some ⟨g, 0, none⟩), .int .i64 p] w fun e w' => ((opE d p ≠ 0 ∧ e = .returned (.tuple #[.pointer none, .int .i64 (opE d p)])) ∨
      (opE d p = 0 ∧ ∃ k, e = .returned (.tuple #[.pointer (some ⟨k, 0, none⟩), .int .i64 0]) ∧ CellAt w' base l k (openCell d p) ∧ w.heap.size ≤ k)) ∧ Below w.heap.size w w' := by
  have hmay : mayE p = 0 := if_pos ⟨hp.1, by omega⟩
  have HMAY := Lib.hid hmay
  clear hmay
  go_enter Tryz.func21, Tryz.ntmps21
  go_upto_region 2 with (fail)
  have hC := Blk.new w 101 #[.pointer (some ⟨g, 0, none⟩), .int .i64 p, .slice none 0 0, .int .i64 0, .bool false]
  have hb1 := below_alloc w (.cells #[.pointer (some ⟨g, 0, none⟩), .int .i64 p, .slice none 0 0, .int .i64 0, .bool false] 101)
  obtain ⟨w1, hw1⟩ : ∃ x, w.alloc (.cells #[.pointer (some ⟨g, 0, none⟩), .int .i64 p, .slice none 0 0, .int .i64 0, .bool false] 101) = x := ⟨_, rfl⟩
  rw [hw1] at hC hb1 ⊢
  have hs1 : w.heap.size < w1.heap.size := hC.lt
  have hD1 := hD.below hb1
  have hkf : ¬ l.fp w.heap.size := fun hf => by have := (hD.fp_lt hf).2; omega
  clear hw1 hD
  obtain ⟨k, hk⟩ : ∃ x, w.heap.size = x := ⟨_, rfl⟩
  rw [hk] at hC hkf hs1 ⊢
  have HK := Lib.hid hk
  clear hk
  have c0 := hC.cell 0
  have c1 := hC.cell 1
  simp only [List.getElem?_toArray, List.getElem?_cons_zero, List.getElem?_cons_succ] at c0 c1
  go_wp2_with fail
  refine (may_any w1 g p).mono ?_
  rw [HMAY.out]
  rintro e w2 ⟨rfl, hb2⟩
  simp only []
  have hbb : Below w.heap.size w w2 := hb1.trans (hb2.mono (by have := hb1.size; omega))
  have hC := hC.below hb2 hC.lt
  have hD2 := hD1.below hb2
  clear hb1 hb2 c0 c1 hD1
  go_wp2_with fail
  refine (gpower w2 base g l d hD2 hg).mono ?_
  rintro e w2' ⟨rfl, rfl⟩
  cases hoff : d.off
  · have ho : opE d p = if (slotV d p 0).1 = 0 ∧ (slotV d p 1).1 = 0 then 9 else 0 := by rw [opE, hoff, if_neg (by decide)]
    have hof : opF d p = if (slotV d p 0).1 < (slotV d p 1).1 then (1, (slotV d p 1).2) else (0, (slotV d p 0).2) := rfl
    have hwh := opF_wh d p
    have hln := opF_len d p
    have HO := Lib.hid ho
    have HOF := Lib.hid hof
    have HWH := Lib.hid hwh
    have HLN := Lib.hid hln
    clear ho hof hoff hwh hln
    have c0 := hC.cell 0
    have c1 := hC.cell 1
    simp only [List.getElem?_toArray, List.getElem?_cons_zero, List.getElem?_cons_succ] at c0 c1
    have hfl : ∀ x, l.fp x → x < w2.heap.size := fun x hx => (hD2.fp_lt hx).2
    simp only []
    go_wp2_with fail
    refine (cread_any w2 base l d hD2 g hg p 0 (by omega) hp).mono ?_
    rintro e w3 ⟨A0, N0, z0, rfl, hO0, hb3⟩
    simp only []
    have hbb3 := hbb.trans (hb3.mono hbb.size)
    have hC3 := hC.below hb3 hC.lt
    have hD3 := hD2.below hb3
    clear c0 c1 hC hD2
    have c0 := hC3.cell 0
    have c1 := hC3.cell 1
    simp only [List.getElem?_toArray, List.getElem?_cons_zero, List.getElem?_cons_succ] at c0 c1
    go_wp2_with fail
    refine (cread_any w3 base l d hD3 g hg p 1 (by omega) hp).mono ?_
    rintro e w4 ⟨A1, N1, z1, rfl, hO1, hb4⟩
    simp only []
    have hbb4 := hbb3.trans (hb4.mono hbb3.size)
    have hC4 := hC3.below hb4 hC3.lt
    have hD4 := hD3.below hb4
    have hO0 := OB.grown hO0 (grownBy_of_below hb4 none) (.inr rfl)
    have hf0 : ∀ x, A0.map (·.block) = some x → ¬ l.fp x := fun x hx hf => by
      have h1 := (hO0.ge x hx).1
      have h2 := hfl x hf
      omega
    have hf1 : ∀ x, A1.map (·.block) = some x → ¬ l.fp x := fun x hx hf => by
      have h1 := (hO1.ge x hx).1
      have h2 := hfl x hf
      have := hb3.size
      omega
    have hs23 : w.heap.size ≤ w2.heap.size ∧ w2.heap.size ≤ w3.heap.size := ⟨hbb.size, hb3.size⟩
    clear c0 c1 hC3 hD3 hD4 hbb hbb3 hb3 hb4 hs1 hfl
    obtain ⟨⟨n, a⟩, h0⟩ : ∃ x, slotV d p 0 = x := ⟨_, rfl⟩
    rw [h0] at HO HOF hO0 ⊢
    obtain ⟨⟨m, b⟩, h1⟩ : ∃ x, slotV d p 1 = x := ⟨_, rfl⟩
    rw [h1] at HO HOF hO1 ⊢
    clear h0 h1
    simp only at HO HOF hO0 hO1 ⊢
    by_cases hlt : n < m
    · skip
      have hoe : opE d p = 0 := by rw [HO.out, if_neg (by omega)]
      have hff : opF d p = (1, b) := by rw [HOF.out, if_pos hlt]
      have HOE := Lib.hid hoe
      have HFF := Lib.hid hff
      have hlt' : (n : Int) < (m : Int) := by omega
      clear hoe hff
      have f3 := hC4.frozen 3
      have c3 := hC4.cell 3
      have f2 := hC4.frozen 2
      have c2 := hC4.cell 2
      simp only [List.getElem?_toArray, List.getElem?_cons_zero, List.getElem?_cons_succ] at c2 c3
      have hC5 := hC4.set_ 3 (.int .i64 1)
      have hC6 := hC5.set_ 2 (.slice A1 N1 z1)
      simp only [List.setIfInBounds_toArray, List.set_cons_zero, List.set_cons_succ] at hC6
      have hg5 := grownBy_set w4 k 3 (.int .i64 1)
      have hg6 := grownBy_set (w4.setCell ⟨k, 3, none⟩ (.int .i64 1)) k 2 (.slice A1 N1 z1)
      have hO16 := (OB.grown (OB.grown hO1 hg5 (.inl (OB_ne hO1 hC4 cell_ne8))) hg6 (.inl (OB_ne hO1 hC4 cell_ne8))).mono (B := base) (by omega)
      have hbb6 := (hbb4.grown hg5 hbb4.size (fun q hq => by cases hq; exact Nat.le_of_eq HK.out)).grown hg6 (by have := hbb4.size; have := hg5.size; omega) (fun q hq => by cases hq; exact Nat.le_of_eq HK.out)
      clear hC4 hC5 hg5 hg6 hbb4 hO1 hO0
      by_cases hn0 : n = 0
      · subst hn0
        have hm0 : ((m : Int) == 0) = false := by simp; omega
        go_wp2_with fail
        go_ret2
        exact ⟨.inr ⟨by rw [HOE.out], k, rfl, ⟨⟨A1, N1, z1, by rw [hg, openCell, HFF.out]; exact hC6, by rw [openCell, HFF.out]; exact hO16, hf1⟩, hkf, by have := HK.out; omega, HWH.out, HLN.out⟩, Nat.le_of_eq HK.out⟩, hbb6⟩
      · have hn0' : ((n : Int) == 0) = false := by simpa using hn0
        clear hn0
        go_wp2_with fail
        go_ret2
        exact ⟨.inr ⟨by rw [HOE.out], k, rfl, ⟨⟨A1, N1, z1, by rw [hg, openCell, HFF.out]; exact hC6, by rw [openCell, HFF.out]; exact hO16, hf1⟩, hkf, by have := HK.out; omega, HWH.out, HLN.out⟩, Nat.le_of_eq HK.out⟩, hbb6⟩
    · by_cases hm0 : m = 0 ∧ n = 0
      · obtain ⟨rfl, rfl⟩ := hm0
        have hoe : opE d p = 9 := by rw [HO.out, if_pos ⟨rfl, rfl⟩]
        have HOE := Lib.hid hoe
        clear hoe
        go_wp2_with fail
        go_ret2
        exact ⟨.inl ⟨by rw [HOE.out]; decide, by rw [HOE.out]; rfl⟩, hbb4⟩
      · skip
        have hn0 : n ≠ 0 := by omega
        have hoe : opE d p = 0 := by rw [HO.out, if_neg (by omega)]
        have hff : opF d p = (0, a) := by rw [HOF.out, if_neg hlt]
        have HOE := Lib.hid hoe
        have HFF := Lib.hid hff
        have hlt' : ¬ (n : Int) < (m : Int) := by omega
        have hn0' : ((n : Int) == 0) = false := by simpa using hn0
        clear hoe hff hn0
        have f2 := hC4.frozen 2
        have c2 := hC4.cell 2
        simp only [List.getElem?_toArray, List.getElem?_cons_zero, List.getElem?_cons_succ] at c2
        have hC6 := hC4.set_ 2 (.slice A0 N0 z0)
        simp only [List.setIfInBounds_toArray, List.set_cons_zero, List.set_cons_succ] at hC6
        have hg6 := grownBy_set w4 k 2 (.slice A0 N0 z0)
        have hO06 := (OB.grown hO0 hg6 (.inl (OB_ne hO0 hC4 cell_ne8))).mono (B := base) (by omega)
        have hbb6 := hbb4.grown hg6 hbb4.size (fun q hq => by cases hq; exact Nat.le_of_eq HK.out)
        clear hC4 hg6 hbb4 hO1 hO0
        go_wp2_with fail
        go_ret2
        exact ⟨.inr ⟨by rw [HOE.out], k, rfl, ⟨⟨A0, N0, z0, by rw [hg, openCell, HFF.out]; exact hC6, by rw [openCell, HFF.out]; exact hO06, hf0⟩, hkf, by have := HK.out; omega, HWH.out, HLN.out⟩, Nat.le_of_eq HK.out⟩, hbb6⟩
  · have ho : opE d p = 8 := by rw [opE, hoff, if_pos rfl]
    have HO := Lib.hid ho
    clear ho hoff
    simp only []
    go_wp2_with fail
    go_ret2
    exact ⟨.inl ⟨by rw [HO.out]; decide, by rw [HO.out]; rfl⟩, hbb⟩
end Go.Proofs.YtmjdfajdompkeaaGreatDoor
namespace Go.Proofs.YtmjdfajdompkeaaGreatDoor
open Go.RowKit Go.Rat
theorem wrap64u (n : Nat) : IntKind.u64.wrap ((n : Int) + 1) = (((n + 1) % 2 ^ 64 : Nat) : Int) := by
  simp [IntKind.wrap, IntKind.signed, IntKind.bits]
set_option maxRecDepth 20000 in
set_option maxHeartbeats 8000000 in
theorem cnext_any (w : World) (base : Nat) (l : DL) (d : DS) (hD : DiskAt w base l d) (g : Nat) (hg : l.g = g) (k : Nat) (s : CS) (hC : CellAt w base l k s) (hp : 0 ≤ s.p ∧ s.p + 20 ≤ 32768) :
    Calls Tryz.prog 51 #[.pointer (some ⟨k, 0, none⟩)] w fun e w' => e = .returned (.int .u64 (nextF d s.p : Int)) ∧ Below w.heap.size w w' := by
  obtain ⟨A, N, c, hB, _, _⟩ := hC.blk
  rw [hg] at hB
  obtain ⟨p, hpe⟩ : ∃ p, s.p = p := ⟨_, rfl⟩
  rw [hpe] at hB hp ⊢
  obtain ⟨F, hF⟩ : ∃ F, viewD d p = F := ⟨_, rfl⟩
  have hFv : ∀ i : Nat, F i = if readE d (p + (i : Int)) = 0 then some (readB d (p + (i : Int))) else none := fun i => by rw [← hF]; rfl
  have hnx : nextF d p = (topF F 20 + 1) % 2 ^ 64 := by rw [nextF, hF]
  have HFV := Lib.hid hFv
  have HNX := Lib.hid hnx
  clear hF hFv hnx hC hpe
  go_enter Tryz.func51, Tryz.ntmps51
  go_upto_block 0 with (fail)
  go_cut [2] (fun n wx => n = .int .u64 (topF F 20 : Int) ∧ Below w.heap.size w wx)
  case first =>
    go_wp2_with fail
    go_loopw [2, 6] (fun n i wr => ∃ kk : Nat, kk ≤ 20 ∧ i = .int .i64 (kk : Int) ∧ n = .int .u64 (topF F kk : Int) ∧ Below w.heap.size w wr) (fun _ i _ => 20 - (intOf i).toNat)
    case atStart => exact ⟨0, by omega, rfl, rfl, Below.refl _ _⟩
    case round =>
      obtain ⟨kk, hk, rfl, rfl, hbk⟩ := hrel
      by_cases hk20 : kk < 20
      · have hBk := hB.below hbk hB.lt
        have hDk := hD.below hbk
        have c0 := hBk.cell 0
        have c1 := hBk.cell 1
        simp only [List.getElem?_toArray, List.getElem?_cons_zero, List.getElem?_cons_succ] at c0 c1
        have hFk := HFV.out kk
        have hsl : (readB d (p + (kk : Int))).length = 128 := readB_length hDk.ok _
        obtain ⟨b, hb⟩ : ∃ s, readB d (p + (kk : Int)) = s := ⟨_, rfl⟩
        obtain ⟨E, hE⟩ : ∃ E, readE d (p + (kk : Int)) = E := ⟨_, rfl⟩
        rw [hb] at hFk hsl
        rw [hE] at hFk
        have HB := Lib.hid hb
        have HE := Lib.hid hE
        have HFK := Lib.hid hFk
        have hsz : (bvs b).toArray.size = 128 := by rw [bvs_size, hsl]
        have htn := topF_lt F kk
        have hcb := cntB_lt b
        have htop : topF F (kk + 1) = match F kk with | some s => max (topF F kk) (cntB s) | none => topF F kk := rfl
        have HTOP := Lib.hid htop
        obtain ⟨T, hT⟩ : ∃ T, topF F kk = T := ⟨_, rfl⟩
        rw [hT] at HTOP htn ⊢
        have g1 : (kk : Int) < 20 := by omega
        have g2 : (0 : Int) ≤ (kk : Int) := by omega
        have hw1 : IntKind.i64.wrap (p + (kk : Int)) = p + (kk : Int) := IntWalk.i64_in _ (by omega)
        clear hb hE hFk htop hT
        go_wp2_with fail
        have hB0 := hB
        refine wp_region_planT ((.q 0 (.q 1 (.q 2 (.q 3 (.q 4 (.q 5 (.q 6 (.q 7 (.q 8 (.q 9 (.q 10 (.q 11 (.two 12 16 (.q 13 (.q 14 (.q 15 (.l 16 (.l 17 (.q 18 .done)))))) (.l 12 (.q 13 (.q 14 (.q 15 (.l 17 (.q 18 .done))))))))))))))))))))
          (fun z => z.cell? ⟨k, 0, none⟩ = some (.pointer (some ⟨g, 0, none⟩)) ∧ z.cell? ⟨k, 1, none⟩ = some (.int .i64 p)) (by kernel_rfl) (by kernel_rfl) (by kernel_rfl) (by kernel_rfl) (by kernel_rfl) (fun _ _ d _ _ h => by cases d <;> exact h) ⟨c0, c1⟩ ?_
        iterate 12 (refine wpT_q (by rfl) ?_ (by rfl) ?_ ?_; rotate_left; (focus (intro z hz; (try dsimp only at hz); go_simp; rfl)); simp only [Act.put])
        refine wpT_two (by rfl) (by rfl) (by rfl) (by rfl) (fun K hK => ?_) (fun K hK => ?_)
        · go_wp2_with fail
          refine (gread _ base g _ _ (hDk.below drew_below) hg (p + (kk : Int))).mono ?_
          rw [HB.out, HE.out]
          rintro e w3 ⟨rfl, hb⟩
          have hb3 : Below wr.heap.size wr w3 := drew_below.trans hb
          have hbk := hbk.trans (hb3.mono hbk.size)
          have hB := hB0.below hbk hB0.lt
          clear c0 c1
          have c0 := hB.cell 0
          have c1 := hB.cell 1
          simp only [List.getElem?_toArray, List.getElem?_cons_zero, List.getElem?_cons_succ] at c0 c1
          refine hK _ _ _ ⟨c0, c1⟩ (fun _ h => h) ?_
          clear hK hb hb3
          iterate 3 (refine wpT_q (by rfl) ?_ (by rfl) ?_ ?_; rotate_left; (focus (intro z hz; (try dsimp only at hz); go_simp; rfl)); simp only [Act.put])
          refine wpT_l (by rfl) (by rfl) (fun K hK => ?_)
          go_simp
          have hZ := Blk.new w3 89 Tryz.zeroCells89
          rw [zc128] at hZ
          have hal := below_alloc w3 (.cells (bvs zs).toArray 89)
          have hgz : w.heap.size ≤ w3.heap.size := hbk.size
          have hbk := hbk.trans (hal.mono hbk.size)
          rw [zc128]
          obtain ⟨gz, hgze⟩ : ∃ x, w3.heap.size = x := ⟨_, rfl⟩
          obtain ⟨w4, hw4⟩ : ∃ x, w3.alloc (.cells (bvs zs).toArray 89) = x := ⟨_, rfl⟩
          rw [hw4] at hZ hbk ⊢
          rw [hgze] at hZ hgz ⊢
          clear hal hgze hw4 c0 c1 hB
          have hB := hB0.below hbk hB0.lt
          have c0 := hB.cell 0
          have c1 := hB.cell 1
          simp only [List.getElem?_toArray, List.getElem?_cons_zero, List.getElem?_cons_succ] at c0 c1
          refine hK _ _ _ ⟨c0, c1⟩ (fun _ h => h) ?_
          clear hK c0 c1 hB
          try simp only [Act.put, List.setIfInBounds_toArray, List.set_cons_zero, List.set_cons_succ]
          refine wpT_l (by rfl) (by rfl) (fun K hK => ?_)
          refine wp_storeRow rfl gz 89 (bvs zs).toArray (bvs b).toArray i128 hZ zsA_size hsz (by simpa using bvs_one b) rfl rfl ?_
          have hZ := hZ.setRow (bvs b).toArray
          have hbk := hbk.grown (grownBy_setRow _ gz (bvs b).toArray) hbk.size (fun q hq => by cases hq; exact hgz)
          have hB := hB0.below hbk hB0.lt
          have c0 := hB.cell 0
          have c1 := hB.cell 1
          simp only [List.getElem?_toArray, List.getElem?_cons_zero, List.getElem?_cons_succ] at c0 c1
          refine hK _ _ _ ⟨c0, c1⟩ (fun _ h => h) ?_
          clear hK c0 c1 hB
          iterate 1 (refine wpT_q (by rfl) ?_ (by rfl) ?_ ?_; rotate_left; (focus (intro z hz; (try dsimp only at hz); go_simp; rfl)); simp only [Act.put])
          refine wpT_done ?_
          by_cases hE0 : E = 0
          · subst hE0
            have hsome : F kk = some b := HFK.out.trans (if_pos rfl)
            have htop : topF F (kk + 1) = max T (cntB b) := by have := HTOP.out; rw [hsome] at this; exact this
            have HT := Lib.hid htop
            have hmx : max (T : Int) (cntB b : Int) = ((max T (cntB b) : Nat) : Int) := by omega
            clear hsome htop
            repeat (first | ((with_reducible refine wpl_load gz _ _ Tryz.underlying89 i128 hZ hsz ?_ ?_); (focus rfl); simp only [Act.put, List.setIfInBounds_toArray, List.set_cons_zero, List.set_cons_succ]) | go_values | go_skip | go_guarded | go_step | go_upon | go_back)
            refine (ccount_any _ b hsl).mono ?_
            rintro e w9 ⟨rfl, hb⟩
            simp only []
            have hbk := hbk.trans (hb.mono hbk.size)
            clear hb hZ
            go_wp2_with fail
            exact ⟨⟨kk + 1, by omega, congrArg (Value.int .i64) (by omega), congrArg (Value.int .u64) (by rw [HT.out]; omega), hbk⟩, by simp [intOf]; omega⟩
          · have hne : (E == 0) = false := by simpa using hE0
            have htop : topF F (kk + 1) = T := by have := HTOP.out; rw [HFK.out, if_neg hE0] at this; exact this
            have HT := Lib.hid htop
            clear htop hE0
            go_wp2_with fail
            exact ⟨⟨kk + 1, by omega, congrArg (Value.int .i64) (by omega), congrArg (Value.int .u64) (by rw [HT.out]), hbk⟩, by simp [intOf]; omega⟩
        · go_simp
          have hZ : Blk (wr.alloc (.cells (bvs zs).toArray 89)).drew wr.heap.size 89 (bvs zs).toArray := Blk.new wr 89 (bvs zs).toArray
          have hgz : w.heap.size ≤ wr.heap.size := hbk.size
          have hbw : Below wr.heap.size wr (wr.alloc (.cells (bvs zs).toArray 89)).drew := (below_alloc wr (.cells (bvs zs).toArray 89)).drew
          have hbk := hbk.trans (hbw.mono hbk.size)
          have hDk := hDk.below hbw
          rw [zc128]
          obtain ⟨w4, hw4⟩ : ∃ x, (wr.alloc (.cells (bvs zs).toArray 89)).drew = x := ⟨_, rfl⟩
          rw [hw4] at hZ hbk hDk ⊢
          obtain ⟨gz, hgze⟩ : ∃ x, wr.heap.size = x := ⟨_, rfl⟩
          rw [hgze] at hZ hgz ⊢
          clear hgze hw4 c0 c1 hbw
          have hB := hB0.below hbk hB0.lt
          have c0 := hB.cell 0
          have c1 := hB.cell 1
          simp only [List.getElem?_toArray, List.getElem?_cons_zero, List.getElem?_cons_succ] at c0 c1
          refine hK _ _ _ ⟨c0, c1⟩ (fun _ h => h) ?_
          clear hK c0 c1 hB
          try simp only [Act.put, List.setIfInBounds_toArray, List.set_cons_zero, List.set_cons_succ]
          refine wpT_l (by rfl) (by rfl) (fun K hK => ?_)
          go_wp2_with fail
          refine (gread _ base g _ _ hDk hg (p + (kk : Int))).mono ?_
          rw [HB.out, HE.out]
          rintro e w3 ⟨rfl, hb⟩
          have hbk := hbk.trans (hb.mono hbk.size)
          have hZ := hZ.below hb hZ.lt
          have hB := hB0.below hbk hB0.lt
          have c0 := hB.cell 0
          have c1 := hB.cell 1
          simp only [List.getElem?_toArray, List.getElem?_cons_zero, List.getElem?_cons_succ] at c0 c1
          refine hK _ _ _ ⟨c0, c1⟩ (fun _ h => h) ?_
          clear hK hb c0 c1 hB
          iterate 3 (refine wpT_q (by rfl) ?_ (by rfl) ?_ ?_; rotate_left; (focus (intro z hz; (try dsimp only at hz); go_simp; rfl)); simp only [Act.put])
          refine wpT_l (by rfl) (by rfl) (fun K hK => ?_)
          refine wp_storeRow rfl gz 89 (bvs zs).toArray (bvs b).toArray i128 hZ zsA_size hsz (by simpa using bvs_one b) rfl rfl ?_
          have hZ := hZ.setRow (bvs b).toArray
          have hbk := hbk.grown (grownBy_setRow _ gz (bvs b).toArray) hbk.size (fun q hq => by cases hq; exact hgz)
          have hB := hB0.below hbk hB0.lt
          have c0 := hB.cell 0
          have c1 := hB.cell 1
          simp only [List.getElem?_toArray, List.getElem?_cons_zero, List.getElem?_cons_succ] at c0 c1
          refine hK _ _ _ ⟨c0, c1⟩ (fun _ h => h) ?_
          clear hK c0 c1 hB
          iterate 1 (refine wpT_q (by rfl) ?_ (by rfl) ?_ ?_; rotate_left; (focus (intro z hz; (try dsimp only at hz); go_simp; rfl)); simp only [Act.put])
          refine wpT_done ?_
          by_cases hE0 : E = 0
          · subst hE0
            have hsome : F kk = some b := HFK.out.trans (if_pos rfl)
            have htop : topF F (kk + 1) = max T (cntB b) := by have := HTOP.out; rw [hsome] at this; exact this
            have HT := Lib.hid htop
            have hmx : max (T : Int) (cntB b : Int) = ((max T (cntB b) : Nat) : Int) := by omega
            clear hsome htop
            repeat (first | ((with_reducible refine wpl_load gz _ _ Tryz.underlying89 i128 hZ hsz ?_ ?_); (focus rfl); simp only [Act.put, List.setIfInBounds_toArray, List.set_cons_zero, List.set_cons_succ]) | go_values | go_skip | go_guarded | go_step | go_upon | go_back)
            refine (ccount_any _ b hsl).mono ?_
            rintro e w9 ⟨rfl, hb⟩
            simp only []
            have hbk := hbk.trans (hb.mono hbk.size)
            clear hb hZ
            go_wp2_with fail
            exact ⟨⟨kk + 1, by omega, congrArg (Value.int .i64) (by omega), congrArg (Value.int .u64) (by rw [HT.out]; omega), hbk⟩, by simp [intOf]; omega⟩
          · have hne : (E == 0) = false := by simpa using hE0
            have htop : topF F (kk + 1) = T := by have := HTOP.out; rw [HFK.out, if_neg hE0] at this; exact this
            have HT := Lib.hid htop
            clear htop hE0
            go_wp2_with fail
            exact ⟨⟨kk + 1, by omega, congrArg (Value.int .i64) (by omega), congrArg (Value.int .u64) (by rw [HT.out]), hbk⟩, by simp [intOf]; omega⟩
      · obtain rfl : kk = 20 := by omega
        have g1 : ¬ ((20 : Nat) : Int) < 20 := by omega
        go_wp2_with fail
        go_meet
        exact ⟨rfl, hbk⟩
  case rest =>
    obtain ⟨rfl, hbk⟩ := hcut
    have htn := topF_lt F 20
    have hwr := wrap64u (topF F 20)
    have HWR := Lib.hid hwr
    obtain ⟨T, hT⟩ : ∃ T, topF F 20 = T := ⟨_, rfl⟩
    rw [hT] at HNX htn HWR ⊢
    clear hwr hT
    go_wp2_with fail
    go_ret
    exact ⟨congrArg (fun i => Ending.returned (.int .u64 i)) (by rw [HWR.out, HNX.out]), hbk⟩
end Go.Proofs.YtmjdfajdompkeaaGreatDoor
namespace Go.Proofs.YtmjdfajdompkeaaGreatDoor
open Go.RowKit Go.Rat
theorem cget_any (w : World) (base : Nat) (l : DL) (k : Nat) (s : CS) (hC : CellAt w base l k s) :
    Calls Tryz.prog 31 #[.pointer (some ⟨k, 0, none⟩)] w fun e w' => ∃ A c, e = .returned (.slice A s.b.length c) ∧ OB 5 w' w.heap.size A s.b.length c s.b ∧ Below w.heap.size w w' := by
  obtain ⟨A, N, c, hB, hO, _⟩ := hC.blk
  have hl := hC.len
  have hr := hO.reads
  have hN := hO.len
  have c2 := hB.cell 2
  simp only [List.getElem?_toArray, List.getElem?_cons_zero, List.getElem?_cons_succ] at c2
  subst hN
  clear hB hO hC
  go_enter Tryz.func31, Tryz.ntmps31
  go_wp2_with fail
  refine (clone_any w A _ c s.b hr (by omega)).mono ?_
  rintro e w2 ⟨A2, c2', rfl, hO2, hb2⟩
  simp only []
  go_wp2_with fail
  go_ret
  exact ⟨A2, c2', rfl, hO2, hb2⟩
theorem cget_nil (w : World) : Calls Tryz.prog 31 #[.pointer none] w fun e w' => e = .returned (.slice none 0 0) ∧ w = w' := by
  go_enter Tryz.func31, Tryz.ntmps31
  go_wp2_with fail
  go_ret
  exact ⟨rfl, rfl⟩
theorem cput_nil (w : World) (A : Option Addr) (n c : Nat) : Calls Tryz.prog 23 #[.pointer none, .slice A n c] w fun e w' => e = .returned (.int .i64 2) ∧ w = w' := by
  go_enter Tryz.func23, Tryz.ntmps23
  go_wp2_with fail
  go_ret
  exact ⟨rfl, rfl⟩
theorem cput_dead (w : World) (base : Nat) (l : DL) (k : Nat) (s : CS) (hC : CellAt w base l k s) (hd : s.dead = true) (A : Option Addr) (n c : Nat) (hn : n ≤ 1100) :
    Calls Tryz.prog 23 #[.pointer (some ⟨k, 0, none⟩), .slice A n c] w fun e w' => e = .returned (.int .i64 8) ∧ w = w' := by
  obtain ⟨A', N, c', hB, _, _⟩ := hC.blk
  have c4 := hB.cell 4
  simp only [List.getElem?_toArray, List.getElem?_cons_zero, List.getElem?_cons_succ, hd] at c4
  have hn' : ¬ (1100 : Int) < (n : Int) := by omega
  clear hB hC hd
  go_enter Tryz.func23, Tryz.ntmps23
  go_wp2_with fail
  go_ret
  exact ⟨rfl, rfl⟩
theorem cput_many (w : World) (k : Nat) (A : Option Addr) (n c : Nat) (hn : 1100 < n) :
    Calls Tryz.prog 23 #[.pointer (some ⟨k, 0, none⟩), .slice A n c] w fun e w' => e = .returned (.int .i64 6) ∧ w = w' := by
  have hn' : (1100 : Int) < (n : Int) := by omega
  go_enter Tryz.func23, Tryz.ntmps23
  go_wp2_with fail
  go_ret
  exact ⟨rfl, rfl⟩
def putCell (s : CS) (b : List UInt8) (E : Int) : CS := if E = 0 then ⟨s.p, b, 1 - s.which, false⟩ else { s with dead := true }
/-- A disk and a cell have moved on. -/
structure CMoved (w w' : World) (l l' : DL) (k : Nat) : Prop where
  g : (l'.g, l'.gs, l'.gn) = (l.g, l.gs, l.gn)
  chg : Chg (fun x => l.fp x ∨ x = k) w w'
  fp : ∀ x, l'.fp x → l.fp x ∨ w.heap.size ≤ x
theorem CMoved.of_moved {w w' : World} {l l' : DL} (h : Moved w w' l l') (k : Nat) : CMoved w w' l l' k := ⟨h.g, h.chg.mono (fun _ hx => .inl hx), h.fp⟩
theorem CMoved.trans {a b c : World} {l m n : DL} {k : Nat} (h : CMoved a b l m k) (q : CMoved b c m n k) : CMoved a c l n k :=
  ⟨q.g.trans h.g, h.chg.trans q.chg (fun x hx => by
    rcases hx with hx | hx
    · rcases h.fp x hx with h1 | h1
      · exact .inl (.inl h1)
      · exact .inr h1
    · exact .inl (.inr hx)), fun x hx => by
    rcases q.fp x hx with h1 | h1
    · exact h.fp x h1
    · exact .inr (Nat.le_trans h.chg.size h1)⟩
theorem CMoved.set {w w' : World} {l l' : DL} {k : Nat} (h : CMoved w w' l l' k) (i : Nat) (v : Value) : CMoved w (w'.setCell ⟨k, i, none⟩ v) l l' k :=
  ⟨h.g, h.chg.trans (Chg.of_grown (F := fun x => x = k) (grownBy_set w' k i v) rfl) (fun _ hx => .inl (.inr hx)), h.fp⟩
set_option maxRecDepth 20000 in
set_option maxHeartbeats 8000000 in
theorem cput_any (w : World) (base : Nat) (l : DL) (d : DS) (hD : DiskAt w base l d) (g : Nat) (hg : l.g = g) (hbase : base ≤ w.heap.size) (hlo : d.loose.length < 900000000) (k : Nat) (s : CS) (hC : CellAt w base l k s) (hp : 0 ≤ s.p ∧ s.p + 20 ≤ 32768) (hdead : s.dead = false)
    (A : Option Addr) (n cap : Nat) (b : List UInt8) (hr : RB w A n b) (hn : n ≤ 1100) (hap : n ≠ 0 → ∀ x, A.map (·.block) = some x → ¬ l.fp x ∧ x ≠ k) :
    Calls Tryz.prog 23 #[.pointer (some ⟨k, 0, none⟩), .slice A n cap] w fun e w' => ∃ l', e = .returned (.int .i64 (ptF d s.p s.which b).2) ∧ l'.g = g ∧ DiskAt w' base l' (ptF d s.p s.which b).1 ∧ CellAt w' base l' k (putCell s b (ptF d s.p s.which b).2) ∧ CMoved w w' l l' k := by
  obtain ⟨A', N, c', hB, hO, hA'⟩ := hC.blk
  rw [hg, hdead] at hB
  have hout := hC.out
  have hbk := hC.bk
  have hwh := hC.wh
  have hln := hC.len
  obtain ⟨p, which, dead, b0, hpe, hwe, hbe⟩ : ∃ p which dead b0, s.p = p ∧ s.which = which ∧ s.b = b0 := ⟨_, _, s.dead, _, rfl, rfl, rfl⟩
  rw [hpe] at hB hp ⊢
  rw [hwe] at hB hwh ⊢
  rw [hbe] at hO hln
  have HPE := Lib.hid hpe
  have HWE := Lib.hid hwe
  have HBE := Lib.hid hbe
  have hnx := (cnext_any w.drew base l d (hD.below drew_below) g hg k s (hC.below drew_below) (by rw [hpe]; exact hp))
  rw [hpe] at hnx
  have c0 := hB.cell 0
  have c1 := hB.cell 1
  have c3 := hB.cell 3
  have c4 := hB.cell 4
  simp only [List.getElem?_toArray, List.getElem?_cons_zero, List.getElem?_cons_succ] at c0 c1 c3 c4
  have hn' : ¬ (1100 : Int) < (n : Int) := by omega
  have hto : (1 : Int) - (which : Int) = ((1 - which : Nat) : Int) := by omega
  have hnlt : nextF d p < 2 ^ 64 := Nat.mod_lt _ (by omega)
  obtain ⟨tw, hte⟩ : ∃ tw, 1 - which = tw := ⟨_, rfl⟩
  rw [hte] at hto
  have hto1 : tw ≤ 1 := by omega
  have HTE := Lib.hid hte
  have HTO := Lib.hid hto
  clear hC hdead hpe hwe hbe hte
  go_enter Tryz.func23, Tryz.ntmps23
  go_wp2_with fail
  refine wp_region_plan [(0, true), (1, true), (2, true), (3, true), (4, true), (5, true), (7, true), (6, false), (8, false), (9, true)]
    (fun z => z.cell? ⟨k, 0, none⟩ = some (.pointer (some ⟨g, 0, none⟩)) ∧ z.cell? ⟨k, 1, none⟩ = some (.int .i64 p)) (by kernel_rfl) (by kernel_rfl) (by kernel_rfl) (by kernel_rfl) (fun _ _ d _ _ h => by cases d <;> exact h) ⟨c0, c1⟩ ?_
  simp only [planOps, List.getElem?_toArray, List.getElem?_cons_zero, List.getElem?_cons_succ]
  repeat (first
    | (refine wpS_skip (by rfl) ?_; simp only [Act.put, List.setIfInBounds_toArray, List.set_cons_zero, List.set_cons_succ])
    | (refine wpS_q ?_ (by rfl) ?_ ?_; rotate_left; (focus (intro z hz; (try dsimp only at hz); go_simp; rfl)); simp only [Act.put, List.setIfInBounds_toArray, List.set_cons_zero, List.set_cons_succ]))
  refine wpS_l (by rfl) (fun K hK => ?_)
  go_wp2_with fail
  refine hnx.mono ?_
  rintro e w3 ⟨rfl, hb⟩
  have hb3 : Below w.heap.size w w3 := drew_below.trans hb
  have hB3 := hB.below hb3 hB.lt
  have hD3 := hD.below hb3
  have hr3 := hr.below hb3
  have hO3 : OB 5 w3 base A' N c' b0 := OB.grown hO (grownBy_of_below hb3 none) (.inr rfl)
  have hm3 : CMoved w w3 l l k := CMoved.of_moved (Moved.of_below hb3) k
  have c0 := hB3.cell 0
  have c1 := hB3.cell 1
  simp only [List.getElem?_toArray, List.getElem?_cons_zero, List.getElem?_cons_succ] at c0 c1
  refine hK _ _ _ ⟨c0, c1⟩ (fun _ h => h) ?_
  clear hK hb hB hD hr hO c3 c4 hnx
  obtain ⟨r, hre⟩ : ∃ r, wrS d (p + (tw : Int) * 10) (nextF d p) b 10 = r := ⟨_, rfl⟩
  have hpt : ptF d p which b = if r.2 = 0 then (syncAll r.1, syncE r.1) else r := by
    have h1 := HTE.out
    rw [ptF, h1, hre]
  have hw3 := hb3.size
  have hbs3 : base ≤ w3.heap.size := Nat.le_trans hbase hb3.size
  have HRE := Lib.hid hre
  have HPT := Lib.hid hpt
  clear hre hpt hb3
  refine wpS_l (by rfl) (fun K hK => ?_)
  go_wp2_with fail
  refine (cwrite_any w3 base l d hD3 g hg hbs3 hlo p tw hto1 hp (nextF d p) hnlt A n cap b hr3 hn).mono ?_
  rw [HRE.out]
  rintro e w4 ⟨l4, rfl, hlg4, hD4, hm4⟩
  have hB4 := hm4.chg.blk hB3 hout
  have hr4 := hm4.chg.rbN hr3 (fun hn0 x hx => (hap hn0 x hx).1)
  have hO4 : OB 5 w4 base A' N c' b0 := hm4.chg.own hO3 hA'
  have hm4' := hm3.trans (CMoved.of_moved hm4 k)
  have c0 := hB4.cell 0
  have c1 := hB4.cell 1
  simp only [List.getElem?_toArray, List.getElem?_cons_zero, List.getElem?_cons_succ] at c0 c1
  have hout4 : ¬ l4.fp k := fun hf => by
    rcases hm4.fp k hf with h | h
    · exact hout h
    · have := hB3.lt
      omega
  have hA4 : ∀ x, A'.map (·.block) = some x → ¬ l4.fp x := fun x hx hf => by
    rcases hm4.fp x hf with h | h
    · exact hA' x hx h
    · have := (hO3.ge x hx).2
      omega
  have hap4 : n ≠ 0 → ∀ x, A.map (·.block) = some x → ¬ l4.fp x ∧ x ≠ k := fun hn0 x hx => ⟨fun hf => by
    rcases hm4.fp x hf with h | h
    · exact (hap hn0 x hx).1 h
    · obtain ⟨ad, hA, hlt, _⟩ := hr3.2 (by omega)
      rw [hA] at hx
      have : ad.block = x := Option.some.inj hx
      omega, (hap hn0 x hx).2⟩
  refine hK _ _ _ ⟨c0, c1⟩ (fun _ h => h) ?_
  clear hK hm4 hB3 hD3 hr3 hO3 hm3
  iterate 1 (refine wpS_q ?_ (by rfl) ?_ ?_; rotate_left; (focus (intro z hz; (try dsimp only at hz); go_simp; rfl)); simp only [Act.put, List.setIfInBounds_toArray, List.set_cons_zero, List.set_cons_succ])
  refine wpS_nil ?_
  clear c0 c1
  by_cases he : r.2 = 0
  · have he' : (r.2 == 0) = true := by simpa using he
    have c0 := hB4.cell 0
    simp only [List.getElem?_toArray, List.getElem?_cons_zero] at c0
    have hpt := HPT.out
    rw [if_pos he] at hpt
    have HPT2 := Lib.hid hpt
    rw [he]
    clear hpt he he'
    go_wp2_with fail
    refine (gsync _ base g _ _ hD4 hlg4).mono ?_
    rintro e w5 ⟨l5, rfl, hlg5, hD5, hm5⟩
    simp only []
    obtain ⟨E, hE⟩ : ∃ E, syncE r.1 = E := ⟨_, rfl⟩
    rw [hE]
    have hpt := HPT2.out
    rw [hE] at hpt
    have HPT3 := Lib.hid hpt
    have hB5 := hm5.chg.blk hB4 hout4
    have hr5 := hm5.chg.rbN hr4 (fun hn0 x hx => (hap4 hn0 x hx).1)
    have hO5 : OB 5 w5 base A' N c' b0 := hm5.chg.own hO4 hA4
    have hm5' := hm4'.trans (CMoved.of_moved hm5 k)
    have hout5 : ¬ l5.fp k := fun hf => by
      rcases hm5.fp k hf with h | h
      · exact hout4 h
      · have := hB4.lt
        omega
    have hA5 : ∀ x, A'.map (·.block) = some x → ¬ l5.fp x := fun x hx hf => by
      rcases hm5.fp x hf with h | h
      · exact hA4 x hx h
      · have := (hO4.ge x hx).2
        omega
    clear hE hpt HPT2 c0 hm5 hB4 hO4 hD4 hm4'
    by_cases hE0 : E = 0
    · subst hE0
      have f4 := hB5.frozen 4
      have c4 := hB5.cell 4
      simp only [List.getElem?_toArray, List.getElem?_cons_zero, List.getElem?_cons_succ] at c4
      have hB6 := hB5.set_ 4 (.bool false)
      simp only [List.setIfInBounds_toArray, List.set_cons_zero, List.set_cons_succ] at hB6
      have hg6 := grownBy_set w5 k 4 (.bool false)
      have hD6 := hD5.beside hg6 hout5
      have hr6 := (Chg.of_grown (F := fun x => x = k) hg6 rfl).rbN hr5 (fun hn0 x hx e => (hap4 hn0 x hx).2 e)
      have hm6 := hm5'.set 4 (.bool false)
      clear hB5 hO5 hD5 hm5' hr4 hr5 hg6
      go_upto_region 13 with (fail)
      obtain ⟨w6, hw6⟩ : ∃ x, w5.setCell ⟨k, 4, none⟩ (.bool false) = x := ⟨_, rfl⟩
      rw [hw6] at hB6 hD6 hr6 hm6 ⊢
      clear hw6 f4 c4
      go_wp2_with fail
      refine (clone_any w6 A n cap b hr6 (by omega)).mono ?_
      rintro e w7 ⟨A7, c7, rfl, hO7, hb7⟩
      simp only []
      have hB7 := hB6.below hb7 hB6.lt
      have hD7 := hD6.below hb7
      have hm7 := hm6.trans (CMoved.of_moved (Moved.of_below (l := l5) hb7) k)
      have hb6s : base ≤ w6.heap.size := Nat.le_trans hbase hm6.chg.size
      have hA7 : ∀ x, A7.map (·.block) = some x → ¬ l5.fp x := fun x hx hf => by
        have h1 := (hO7.ge x hx).1
        have h2 := (hD6.fp_lt hf).2
        omega
      have f3 := hB7.frozen 3
      have c3 := hB7.cell 3
      have f2 := hB7.frozen 2
      have c2 := hB7.cell 2
      simp only [List.getElem?_toArray, List.getElem?_cons_zero, List.getElem?_cons_succ] at c2 c3
      have hB8 := hB7.set_ 3 (.int .i64 (tw : Int))
      have hB9 := hB8.set_ 2 (.slice A7 n c7)
      simp only [List.setIfInBounds_toArray, List.set_cons_zero, List.set_cons_succ] at hB9
      have hg8 := grownBy_set w7 k 3 (.int .i64 (tw : Int))
      have hg9 := grownBy_set (w7.setCell ⟨k, 3, none⟩ (.int .i64 (tw : Int))) k 2 (.slice A7 n c7)
      have hD9 := (hD7.beside hg8 hout5).beside hg9 hout5
      have hO9 := (OB.grown (OB.grown hO7 hg8 (.inl (OB_ne hO7 hB7 cell_ne8))) hg9 (.inl (OB_ne hO7 hB7 cell_ne8))).mono (B := base) hb6s
      have hm9 := (hm7.set 3 (.int .i64 (tw : Int))).set 2 (.slice A7 n c7)
      have hbl := hr6.len
      clear hB6 hD6 hr6 hm6 hb7 hB7 hD7 hm7 hO7 hB8 hg8 hg9
      go_wp2_with fail
      go_ret
      exact ⟨l5, by rw [HPT3.out]; rfl, hlg5, by rw [HPT3.out]; exact hD9, ⟨⟨A7, n, c7, by rw [hlg5, HPT3.out]; simp only [putCell, if_pos, HPE.out, HWE.out, HTE.out]; exact hB9, by rw [HPT3.out]; simp only [putCell, if_pos]; exact hO9, hA7⟩, hout5, hbk, by rw [HPT3.out]; simp only [putCell, if_pos, HWE.out, HTE.out]; exact hto1, by rw [HPT3.out]; simp only [putCell, if_pos]; omega⟩, hm9⟩
    · skip
      have hne : (E != 0) = true := by simpa using hE0
      have hfin : ptF d p which b = (syncAll r.1, E) := HPT3.out
      have HFIN := Lib.hid hfin
      have HE0 := Lib.hid hE0
      have f4 := hB5.frozen 4
      have c4 := hB5.cell 4
      simp only [List.getElem?_toArray, List.getElem?_cons_zero, List.getElem?_cons_succ] at c4
      have hB6 := hB5.set_ 4 (.bool true)
      simp only [List.setIfInBounds_toArray, List.set_cons_zero, List.set_cons_succ] at hB6
      have hg6 := grownBy_set w5 k 4 (.bool true)
      have hD6 := hD5.beside hg6 hout5
      have hO6 : OB 5 _ base A' N c' b0 := OB.grown hO5 hg6 (.inl (OB_ne hO5 hB5 cell_ne8))
      have hm6 := hm5'.set 4 (.bool true)
      clear hfin hE0 hB5 hO5 hD5 hm5' hr4 hap4 hg6
      go_wp2_with fail
      go_ret
      exact ⟨l5, by rw [HFIN.out]; rfl, hlg5, by rw [HFIN.out]; exact hD6, ⟨⟨A', N, c', by rw [hlg5, HFIN.out]; simp only [putCell, if_neg HE0.out, HPE.out, HWE.out]; exact hB6, by rw [HFIN.out]; simp only [putCell, if_neg HE0.out, HBE.out]; exact hO6, hA5⟩, hout5, hbk, by rw [HFIN.out]; simp only [putCell, if_neg HE0.out, HWE.out]; exact hwh, by rw [HFIN.out]; simp only [putCell, if_neg HE0.out, HBE.out]; exact hln⟩, hm6⟩
  · have he' : (r.2 == 0) = false := by simpa using he
    have hne : (r.2 != 0) = true := by simpa using he
    have hfin : ptF d p which b = (r.1, r.2) := by rw [HPT.out, if_neg he]
    have HFIN := Lib.hid hfin
    have HE0 := Lib.hid he
    have f4 := hB4.frozen 4
    have c4 := hB4.cell 4
    simp only [List.getElem?_toArray, List.getElem?_cons_zero, List.getElem?_cons_succ] at c4
    have hB6 := hB4.set_ 4 (.bool true)
    simp only [List.setIfInBounds_toArray, List.set_cons_zero, List.set_cons_succ] at hB6
    have hg6 := grownBy_set w4 k 4 (.bool true)
    have hD6 := hD4.beside hg6 hout4
    have hO6 : OB 5 _ base A' N c' b0 := OB.grown hO4 hg6 (.inl (OB_ne hO4 hB4 cell_ne8))
    have hm6 := hm4'.set 4 (.bool true)
    clear hfin he hB4 hO4 hD4 hm4' hr4 hap4 hg6
    go_wp2_with fail
    go_ret
    exact ⟨l4, by rw [HFIN.out]; rfl, hlg4, by rw [HFIN.out]; exact hD6, ⟨⟨A', N, c', by rw [hlg4, HFIN.out]; simp only [putCell, if_neg HE0.out, HPE.out, HWE.out]; exact hB6, by rw [HFIN.out]; simp only [putCell, if_neg HE0.out, HBE.out]; exact hO6, hA4⟩, hout4, hbk, by rw [HFIN.out]; simp only [putCell, if_neg HE0.out, HWE.out]; exact hwh, by rw [HFIN.out]; simp only [putCell, if_neg HE0.out, HBE.out]; exact hln⟩, hm6⟩
end Go.Proofs.YtmjdfajdompkeaaGreatDoor
namespace Go.Proofs.YtmjdfajdompkeaaGreatDoor
open Go.RowKit Go.Rat
def fms (d : DS) (p : Int) (k : Nat) : DS × Int := if k = 0 then (d, 0) else if k = 1 then wrS d p 2 [] 10 else wrS (wrS d p 2 [] 10).1 (p + 10) 1 [] 10
theorem fms_zero (d : DS) (p : Int) : fms d p 0 = (d, 0) := if_pos rfl
theorem fms_one (d : DS) (p : Int) : fms d p 1 = wrS d p 2 [] 10 := (if_neg (by decide)).trans (if_pos rfl)
theorem fms_two (d : DS) (p : Int) : fms d p 2 = wrS (wrS d p 2 [] 10).1 (p + 10) 1 [] 10 := (if_neg (by decide)).trans (if_neg (by decide))
theorem fmF_a {d : DS} {p : Int} (h : (fms d p 1).2 ≠ 0) : fmF d p = fms d p 1 := by
  rw [fms_one] at h ⊢
  exact if_neg h
theorem fmF_b {d : DS} {p : Int} (h1 : (fms d p 1).2 = 0) (h : (fms d p 2).2 ≠ 0) : fmF d p = fms d p 2 := by
  rw [fms_one] at h1
  rw [fms_two] at h ⊢
  exact (if_pos h1).trans (if_neg h)
theorem fmF_c {d : DS} {p : Int} (h1 : (fms d p 1).2 = 0) (h : (fms d p 2).2 = 0) : fmF d p = (syncAll (fms d p 2).1, syncE (fms d p 2).1) := by
  rw [fms_one] at h1
  rw [fms_two] at h ⊢
  exact (if_pos h1).trans (if_pos h)
theorem wrS_loose (d : DS) (p : Int) (c : Nat) (b : List UInt8) : ∀ k, (wrS d p c b k).1.loose.length ≤ d.loose.length + k
  | 0 => Nat.le_refl _
  | k + 1 => by
    have ih := wrS_loose d p c b k
    rw [wrS]
    split
    · have := writeD_loose (wrS d p c b k).1 (p + (k : Int)) (secB c b k)
      simp only
      omega
    · omega
theorem fms_next (d : DS) (p : Int) {k : Nat} (hk : k < 2) : fms d p (k + 1) = wrS (fms d p k).1 (p + (k : Int) * 10) (2 - k) [] 10 := by
  have hc : k = 0 ∨ k = 1 := by omega
  rcases hc with rfl | rfl
  · rw [fms_zero, fms_one, show p + ((0 : Nat) : Int) * 10 = p by omega]
  · rw [fms_one, fms_two, show p + ((1 : Nat) : Int) * 10 = p + 10 by omega]
theorem fms_loose (d : DS) (p : Int) {k : Nat} (hk : k < 2) : (fms d p k).1.loose.length ≤ d.loose.length + 10 := by
  have hc : k = 0 ∨ k = 1 := by omega
  rcases hc with rfl | rfl
  · rw [fms_zero]
    exact Nat.le_add_right _ _
  · have h := wrS_loose d p 2 [] 10
    have e := congrArg (fun r => r.1.loose.length) (fms_one d p)
    omega
set_option maxRecDepth 20000 in
set_option maxHeartbeats 8000000 in
theorem cformat_any (w : World) (base : Nat) (l : DL) (d : DS) (hD : DiskAt w base l d) (g : Nat) (hg : l.g = g) (hbase : base ≤ w.heap.size) (hlo : d.loose.length < 800000000) (p : Int) (hp : 0 ≤ p ∧ p + 20 ≤ 32768) :
    Calls Tryz.prog 27 #[.pointer (some ⟨g, 0, none⟩), .int .i64 p] w fun e w' => ∃ l', e = .returned (.int .i64 (fmF d p).2) ∧ l'.g = g ∧ DiskAt w' base l' (fmF d p).1 ∧ Moved w w' l l' := by
  have hmay : mayE p = 0 := if_pos ⟨hp.1, by omega⟩
  have HMAY := Lib.hid hmay
  clear hmay
  go_enter Tryz.func27, Tryz.ntmps27
  go_upto_region 2 with (fail)
  have hP := Blk.new w 99 #[.pointer (some ⟨g, 0, none⟩), .int .i64 p]
  have hb1 := below_alloc w (.cells #[.pointer (some ⟨g, 0, none⟩), .int .i64 p] 99)
  obtain ⟨w1, hw1⟩ : ∃ x, w.alloc (.cells #[.pointer (some ⟨g, 0, none⟩), .int .i64 p] 99) = x := ⟨_, rfl⟩
  rw [hw1] at hP hb1 ⊢
  have hX := Out.new hD hP
  have hD1 := hD.below hb1
  obtain ⟨bp, hbp⟩ : ∃ x, w.heap.size = x := ⟨_, rfl⟩
  rw [hbp] at hX hP ⊢
  have HBP := Lib.hid hbp
  have c0 := hP.cell 0
  have c1 := hP.cell 1
  simp only [List.getElem?_toArray, List.getElem?_cons_zero, List.getElem?_cons_succ] at c0 c1
  clear hw1 hD hbp
  go_wp2_with fail
  refine (may_any w1 g p).mono ?_
  rw [HMAY.out]
  rintro e w2 ⟨rfl, hb2⟩
  simp only []
  have hX := hX.below hb2
  have hD2 := hD1.below hb2
  have hmv : Moved w w2 l l := (Moved.of_below hb1).trans (Moved.of_below hb2)
  clear c0 c1 hD1 hb2 hb1 hP
  go_upto_block 0 with (fail)
  go_cut [] (fun wx => ∃ l', (fms d p 1).2 = 0 ∧ (fms d p 2).2 = 0 ∧ DiskAt wx base l' (fms d p 2).1 ∧ Moved w wx l l')
  case first =>
    go_wp2_with fail
    go_loopw [17] (fun i wr => ∃ (kk : Nat) (l' : DL), kk ≤ 2 ∧ i = .int .i64 (kk : Int) ∧ (∀ j, j ≤ kk → (fms d p j).2 = 0) ∧ DiskAt wr base l' (fms d p kk).1 ∧ Moved w wr l l' ∧ Out wr l' bp 99 #[.pointer (some ⟨g, 0, none⟩), .int .i64 p]) (fun i _ => 2 - (intOf i).toNat)
    case atStart => exact ⟨0, l, by omega, rfl, (fun j hj => (by have h : j = 0 := (by omega); subst h; rw [fms_zero])), (by rw [fms_zero]; exact hD2), hmv, hX⟩
    case round =>
      obtain ⟨kk, l', hk, rfl, h0, hDk, hmk, hXk⟩ := hrel
      clear hX hD2 hmv
      by_cases hk2 : kk < 2
      · have hnx := fms_next d p hk2
        have hlo1 := fms_loose d p hk2
        have c0 := hXk.1.cell 0
        have c1 := hXk.1.cell 1
        simp only [List.getElem?_toArray, List.getElem?_cons_zero, List.getElem?_cons_succ] at c0 c1
        have hlg : l'.g = g := (congrArg Prod.fst hmk.g).trans hg
        have hbs : base ≤ wr.heap.size := Nat.le_trans hbase hmk.chg.size
        have hcc : (2 : Int) - (kk : Int) = ((2 - kk : Nat) : Int) := by omega
        have g1 : (kk : Int) < 2 := by omega
        have g2 : (0 : Int) ≤ (kk : Int) := by omega
        have H0 := Lib.hid h0
        have HNX := Lib.hid hnx
        have hfm : (fms d p (kk + 1)).2 ≠ 0 → fmF d p = fms d p (kk + 1) := fun hne => by
          have hc : kk = 0 ∨ kk = 1 := by omega
          rcases hc with rfl | rfl
          · exact fmF_a hne
          · exact fmF_b (h0 1 (by omega)) hne
        have HFM := Lib.hid hfm
        clear h0 hnx hfm
        obtain ⟨r, hr⟩ : ∃ r, fms d p (kk + 1) = r := ⟨_, rfl⟩
        have hr2 := HNX.out
        rw [hr] at hr2
        have HR := Lib.hid hr
        have HR2 := Lib.hid hr2
        clear hr hr2 HNX
        go_wp2_with fail
        refine (cwrite_any _ base l' _ hDk g hlg hbs (by omega) p kk (by omega) hp (2 - kk) (by omega) none 0 0 [] (RB.nil_ _ _) (by omega)).mono ?_
        rw [← HR2.out]
        rintro e w4 ⟨l2, rfl, hlg2, hD2, hm⟩
        simp only []
        have hXk := hXk.moved hm
        have hmk := hmk.trans hm
        clear hm hDk c0 c1
        by_cases he : r.2 = 0
        · have hall : ∀ j, j ≤ kk + 1 → (fms d p j).2 = 0 := fun j hj => by
            by_cases hjk : j ≤ kk
            · exact H0.out j hjk
            · have : j = kk + 1 := by omega
              rw [this, HR.out]
              exact he
          have HALL := Lib.hid hall
          rw [he]
          rw [← HR.out] at hD2
          clear hall he
          go_wp2_with fail
          exact ⟨⟨kk + 1, l2, by omega, congrArg (Value.int .i64) (by omega), HALL.out, hD2, hmk, hXk⟩, by simp [intOf]; omega⟩
        · have hne : (r.2 != 0) = true := by simpa using he
          have hf := HFM.out (by rw [HR.out]; exact he)
          rw [HR.out] at hf
          have HF := Lib.hid hf
          clear hf he
          go_wp2_with fail
          go_ret
          exact ⟨l2, by rw [HF.out]; rfl, hlg2, by rw [HF.out]; exact hD2, hmk⟩
      · obtain rfl : kk = 2 := by omega
        have g1 : ¬ ((2 : Nat) : Int) < 2 := by omega
        have H0 := Lib.hid h0
        clear h0
        go_wp2_with fail
        go_meet
        exact ⟨l', H0.out 1 (by omega), H0.out 2 (by omega), hDk, hmk⟩
  case rest =>
    clear hX hD2 hmv
    obtain ⟨l', h1, h2, hDk, hmk⟩ := hcut
    have hlg : l'.g = g := (congrArg Prod.fst hmk.g).trans hg
    have hfm : fmF d p = (syncAll (fms d p 2).1, syncE (fms d p 2).1) := fmF_c h1 h2
    have HFM := Lib.hid hfm
    clear h1 h2 hfm
    go_wp2_with fail
    refine (gsync _ base g _ _ hDk hlg).mono ?_
    rintro e w4 ⟨l2, rfl, hlg2, hD2, hm⟩
    simp only []
    go_wp2_with fail
    go_ret
    exact ⟨l2, by rw [HFM.out]; rfl, hlg2, by rw [HFM.out]; exact hD2, hmk.trans hm⟩
end Go.Proofs.YtmjdfajdompkeaaGreatDoor
namespace Go.Proofs.YtmjdfajdompkeaaGreatDoor
open Go.RowKit Go.Rat
theorem rb_lit (w : World) (e : TypeId) (fr : Nat × Nat) (l : List UInt8) : RB (w.alloc (.cells (bvs l).toArray e fr)) (some ⟨w.heap.size, 0, none⟩) l.length l := by
  refine ⟨by simp [bvs_length], fun _ => ⟨_, rfl, by simp, fun j u hu => ?_⟩⟩
  rw [show (⟨w.heap.size, 0, none⟩ : Addr).add j = ⟨w.heap.size, j, none⟩ by unfold Addr.add; split <;> simp_all, cell_of_row (w.alloc (.cells (bvs l).toArray e fr)) w.heap.size j (bvs l).toArray e fr (_root_.Go.heap_alloc_new w _), List.getElem?_toArray]
  exact hu
/-- What the anchor comes to. -/
def ab : List UInt8 := [97, 98]
theorem zs_cnt : cntB zs = 0 := by decide +kernel
theorem open_zero {p : Int} (hp : 0 ≤ p ∧ p + 20 ≤ 32768) : opE ds0 p = 9 := by
  have h : ∀ s, s ≤ 1 → (slotV ds0 p s).1 = 0 := by
    intro s hs
    by_cases h : (slotV ds0 p s).1 = 0
    · exact h
    · obtain ⟨b, h1, h2⟩ := rdF_of h 0 (by omega)
      rw [view_is (d := ds0) rfl (by omega) (b := zs) rfl] at h1
      cases h1
      rw [zs_cnt] at h2
      exact h2.symm
  rw [opE, if_neg (by decide), if_pos ⟨h 0 (by omega), h 1 (by omega)⟩]
structure Wk5 (d1 d2 : DS) : Prop where
  f1 : fmF ds0 0 = (d1, 0)
  o1 : opE d1 0 = 0
  c1 : openCell d1 0 = ⟨0, [], 0, false⟩
  l1 : d1.loose = []
  f2 : ptF d1 0 0 ab = (d2, 0)
  o2 : opE d2 0 = 0
  c2 : openCell d2 0 = ⟨0, ab, 1, false⟩
theorem wk5 : ∃ d1 d2, Wk5 d1 d2 := by
  obtain ⟨h1, h2, h3, h4, h5, _⟩ := format_calm (d := ds0) (p := 0) (by omega) rfl rfl
  obtain ⟨k1, _, _, _, k5, _⟩ := put_calm (b := ab) h3 h5 (by decide) (by decide)
  obtain ⟨o1, o2⟩ := h5.open_
  obtain ⟨q1, q2⟩ := k5.open_
  refine ⟨(fmF ds0 0).1, (ptF (fmF ds0 0).1 0 0 ab).1, ⟨?_, o1, ?_, h4, ?_, q1, ?_⟩⟩
  · exact Prod.ext rfl h1
  · rw [openCell, o2]
  · exact Prod.ext rfl k1
  · rw [openCell, q2]
end Go.Proofs.YtmjdfajdompkeaaGreatDoor
namespace Go.Proofs.YtmjdfajdompkeaaGreatDoor
open Go.RowKit Go.Rat
theorem copen_nil (w : World) (p : Int) : Calls Tryz.prog 21 #[.pointer none, .int .i64 p] w fun e w' => e = .returned (.tuple #[.pointer none, .int .i64 2]) ∧ Below w.heap.size w w' := by
  go_enter Tryz.func21, Tryz.ntmps21
  go_upto_region 2 with (fail)
  have hC := Blk.new w 101 #[.pointer none, .int .i64 p, .slice none 0 0, .int .i64 0, .bool false]
  have hb1 := below_alloc w (.cells #[.pointer none, .int .i64 p, .slice none 0 0, .int .i64 0, .bool false] 101)
  obtain ⟨w1, hw1⟩ : ∃ x, w.alloc (.cells #[.pointer none, .int .i64 p, .slice none 0 0, .int .i64 0, .bool false] 101) = x := ⟨_, rfl⟩
  rw [hw1] at hC hb1 ⊢
  have c0 := hC.cell 0
  have c1 := hC.cell 1
  simp only [List.getElem?_toArray, List.getElem?_cons_zero, List.getElem?_cons_succ] at c0 c1
  clear hw1 hC
  go_wp2_with fail
  refine (may_nil w1 p).mono ?_
  rintro e w2 ⟨rfl, hb2⟩
  simp only []
  clear c0 c1
  go_wp2_with fail
  go_ret2
  exact ⟨rfl, hb1.trans (hb2.mono hb1.size)⟩
theorem cformat_nil (w : World) (p : Int) : Calls Tryz.prog 27 #[.pointer none, .int .i64 p] w fun e w' => e = .returned (.int .i64 2) ∧ Below w.heap.size w w' := by
  go_enter Tryz.func27, Tryz.ntmps27
  go_upto_region 2 with (fail)
  have hC := Blk.new w 99 #[.pointer none, .int .i64 p]
  have hb1 := below_alloc w (.cells #[.pointer none, .int .i64 p] 99)
  obtain ⟨w1, hw1⟩ : ∃ x, w.alloc (.cells #[.pointer none, .int .i64 p] 99) = x := ⟨_, rfl⟩
  rw [hw1] at hC hb1 ⊢
  have c0 := hC.cell 0
  have c1 := hC.cell 1
  simp only [List.getElem?_toArray, List.getElem?_cons_zero, List.getElem?_cons_succ] at c0 c1
  clear hw1 hC
  go_wp2_with fail
  refine (may_nil w1 p).mono ?_
  rintro e w2 ⟨rfl, hb2⟩
  simp only []
  clear c0 c1
  go_wp2_with fail
  go_ret
  exact ⟨rfl, hb1.trans (hb2.mono hb1.size)⟩
end Go.Proofs.YtmjdfajdompkeaaGreatDoor
