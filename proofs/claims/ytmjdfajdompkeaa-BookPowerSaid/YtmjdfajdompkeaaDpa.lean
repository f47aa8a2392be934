/- DiskPower: in plain words. -/
import Derived.Test.YtmjdfajdompkeaaDl
import Derived.Test.YtmjdfajdompkeaaFlat
namespace Go.Proofs.Ytmjdfajdompkeaa
open Go.RowKit Go.Rat
abbrev Put2 := UInt8 × UInt8
def putCells (x : Put2) : List Value := [.int .u8 (x.1.toNat : Int), .int .u8 (x.2.toNat : Int)]
theorem puts_at {w : World} {A : Option Addr} {n : Nat} {l : List Put2} (h : Reads w w.heap.size 2 A n (l.flatMap putCells)) {k : Nat} (hk : k < n) :
    ∃ ad, A = some ad ∧ (ad.add (k * 2)).block < w.heap.size ∧ w.cell? (ad.add (k * 2)) = some (.int .u8 ((l.getD k (0, 0)).1.toNat : Int)) ∧ w.cell? ⟨(ad.add (k * 2)).block, (ad.add (k * 2)).off + 1, none⟩ = some (.int .u8 ((l.getD k (0, 0)).2.toNat : Int)) := by
  obtain ⟨ad, rfl, hb, hc⟩ := h.2 (by omega)
  have hlen := flat_len putCells 2 (fun _ => rfl) l
  have hkl : k < l.length := by have := h.1; omega
  have hg : l[k]? = some (l.getD k (0, 0)) := by rw [List.getD_eq_getElem?_getD, List.getElem?_eq_getElem hkl]; rfl
  have F := flat_get putCells 2 (fun _ => rfl) l k
  refine ⟨ad, rfl, by rw [block_of_add]; exact hb, ?_, ?_⟩
  · exact hc _ _ (by have := F 0 _ hg (by omega); simpa [putCells] using this)
  · rw [add_field _ _ _ (by omega)]
    exact hc _ _ (by have := F 1 _ hg (by omega); simpa [putCells] using this)
def atP (x : Put2) : Nat := x.1.toNat % 16
theorem atP_lt (x : Put2) : atP x < 16 := Nat.mod_lt _ (by omega)
def looseP (l : List Put2) : List (Int × List UInt8) := l.map fun x => ((atP x : Int), rep x.2)
def rowsC (f : Nat → List UInt8) (n : Nat) : List Value := (List.range n).flatMap fun a => bvs (f a)
theorem rowsC_succ (f : Nat → List UInt8) (n : Nat) : rowsC f (n + 1) = rowsC f n ++ bvs (f n) := by
  rw [rowsC, rowsC, List.range_succ, List.flatMap_append]; simp
section
variable {f : Nat → List UInt8} (hf : ∀ a, (f a).length = 128)
include hf
theorem rowsC_length : ∀ n, (rowsC f n).length = n * 128
  | 0 => rfl
  | n + 1 => by rw [rowsC_succ, List.length_append, rowsC_length n, bvs_length, hf]; omega
theorem rowsC_get : ∀ n a, a < n → ((rowsC f n).drop (a * 128)).take 128 = bvs (f a)
  | 0, a, h => by omega
  | n + 1, a, h => by
    have hl := rowsC_length hf n
    have hb : (bvs (f a)).length = 128 := by rw [bvs_length, hf]
    rw [rowsC_succ]
    by_cases h1 : a < n
    · rw [List.drop_append_of_le_length (by omega), List.take_append_of_le_length (by rw [List.length_drop]; omega)]
      exact rowsC_get n a h1
    · obtain rfl : a = n := by omega
      rw [← hl, List.drop_left, List.take_of_length_le (by omega)]
theorem rowsC_put (b : List UInt8) (hb : b.length = 128) : ∀ n a, a < n → Go.splice (rowsC f n) (a * 128) (bvs b) = rowsC (fun x => if x = a then b else f x) n
  | 0, a, h => by omega
  | n + 1, a, h => by
    have hl := rowsC_length hf n
    have hbb : (bvs b).length = 128 := by rw [bvs_length, hb]
    rw [rowsC_succ, rowsC_succ]
    by_cases h1 : a < n
    · rw [← rowsC_put b hb n a h1, if_neg (by omega), Go.splice, Go.splice, List.take_append_of_le_length (by omega), List.drop_append_of_le_length (by omega)]
      simp
    · obtain rfl : a = n := by omega
      have he : rowsC (fun x => if x = a then b else f x) a = rowsC f a := by
        rw [rowsC, rowsC, List.flatMap_def, List.flatMap_def]
        exact congrArg _ (List.map_congr_left fun x hx => by rw [if_neg (by have := List.mem_range.1 hx; omega)])
      rw [if_pos rfl, he, Go.splice, ← hl, List.take_left, hbb, List.drop_of_length_le (by rw [List.length_append, bvs_length, hf]; omega), List.append_nil]
end
/-- What the law keeps of the sure puts. -/
def wasF (l : List Put2) : Nat → Nat → List UInt8
  | 0 => fun _ => zs
  | k + 1 => fun a => if a = atP (l.getD k (0, 0)) then rep (l.getD k (0, 0)).2 else wasF l k a
theorem wasF_len (l : List Put2) : ∀ k a, (wasF l k a).length = 128
  | 0, _ => zs_length
  | k + 1, a => by
    unfold wasF
    split
    · exact rep_length _
    · exact wasF_len l k a
/-- After k puts on a disk whose sure sectors are W. -/
structure PutInv (W : Nat → List UInt8) (l : List Put2) (k : Nat) (d : DS) : Prop where
  off : d.off = false
  fuse : d.fuse = -1
  sure : ∀ a : Nat, a < 16 → d.sure a = ⟨W a, false⟩
  loose : d.loose = looseP (l.take k)
  now : ∀ a : Nat, a < 16 → (∀ x ∈ l.take k, atP x ≠ a) → d.now a = ⟨W a, false⟩
theorem take_getD (l : List Put2) {k : Nat} (hk : k < l.length) : l.take (k + 1) = l.take k ++ [l.getD k (0, 0)] := by
  rw [List.take_add_one, List.getElem?_eq_getElem hk, List.getD_eq_getElem?_getD, List.getElem?_eq_getElem hk]; rfl
theorem put_step {W : Nat → List UInt8} {l : List Put2} {k : Nat} {d : DS} (h : PutInv W l k d) (hk : k < l.length) :
    PutInv W l (k + 1) (writeD d (atP (l.getD k (0, 0)) : Nat) (rep (l.getD k (0, 0)).2)) ∧ writeE d (atP (l.getD k (0, 0)) : Nat) = 0 ∧
    ∀ a : Nat, (writeD d (atP (l.getD k (0, 0)) : Nat) (rep (l.getD k (0, 0)).2)).now a = if a = atP (l.getD k (0, 0)) then ⟨rep (l.getD k (0, 0)).2, false⟩ else d.now a := by
  have hx := atP_lt (l.getD k (0, 0))
  obtain ⟨h1, h2⟩ := writeD_on h.off h.fuse (a := ((atP (l.getD k (0, 0)) : Nat) : Int)) (by omega) (rep (l.getD k (0, 0)).2)
  rw [h1]
  have hn : ∀ a : Nat, (putD d (atP (l.getD k (0, 0)) : Nat) (rep (l.getD k (0, 0)).2)).now a = if a = atP (l.getD k (0, 0)) then ⟨rep (l.getD k (0, 0)).2, false⟩ else d.now a := by
    intro a
    show (if (a : Int) = _ then _ else _) = _
    by_cases e : a = atP (l.getD k (0, 0))
    · rw [if_pos e, if_pos (by rw [e])]
    · rw [if_neg e, if_neg (by omega)]
  refine ⟨⟨h.off, h.fuse, h.sure, ?_, ?_⟩, h2, hn⟩
  · show d.loose ++ [_] = _
    rw [h.loose, take_getD l hk, looseP, looseP, List.map_append]; rfl
  · intro a ha hx
    rw [take_getD l hk] at hx
    rw [hn, if_neg (fun e => hx _ (by simp) e.symm)]
    exact h.now a ha fun x hm => hx x (by simp [hm])
theorem put_start : PutInv (fun _ => zs) [] 0 ds0 := ⟨rfl, rfl, fun _ _ => rfl, rfl, fun _ _ _ => rfl⟩
theorem PutInv.first {W : Nat → List UInt8} {l : List Put2} {d : DS} (h : PutInv W [] 0 d) : PutInv W l 0 d := ⟨h.off, h.fuse, h.sure, h.loose, fun a ha _ => h.now a ha (fun x hx => by simp at hx)⟩
theorem looseP_any (l : List Put2) (a : Nat) : ((looseP l).any fun x => decide (x.1 = (a : Int))) = true ↔ ∃ x ∈ l, atP x = a := by
  simp only [looseP, List.any_map, List.any_eq_true, Function.comp, decide_eq_true_eq]
  constructor
  · rintro ⟨x, h1, h2⟩; exact ⟨x, h1, by omega⟩
  · rintro ⟨x, h1, h2⟩; exact ⟨x, h1, by omega⟩
/-- The Sync behind the sure puts. -/
theorem put_sync {l : List Put2} {d : DS} (h : PutInv (fun _ => zs) l l.length d) (hn : ∀ a : Nat, a < 16 → d.now a = ⟨wasF l l.length a, false⟩) :
    syncE d = 0 ∧ PutInv (wasF l l.length) [] 0 (syncAll d) := by
  obtain ⟨h1, h2⟩ := syncAll_on h.off h.fuse
  rw [h1]
  refine ⟨h2, h.off, h.fuse, ?_, rfl, fun a ha _ => hn a ha⟩
  intro a ha
  show syncF d.now d.loose d.sure a = _
  rw [syncF_at, ← hn a ha]
  split
  · rfl
  · next hc =>
    rw [h.loose, List.take_length, looseP_any] at hc
    rw [h.sure a ha, h.now a ha (fun x hx e => hc ⟨x, by simpa using hx, e⟩)]
theorem picksF_is (ps : List UInt8) (a : Int) : ∀ (l : List (Int × List UInt8)) i (f : Int → Sec), picksF l i ps f a = f a ∨ ∃ x ∈ l, x.1 = a ∧ (picksF l i ps f a = ⟨x.2, false⟩ ∨ (picksF l i ps f a).lost = true)
  | [], _, _ => .inl rfl
  | x :: r, i, f => by
    rw [picksF]
    rcases picksF_is ps a r (i + 1) (pickF f x (ps.getD i 0).toNat) with h | ⟨y, h1, h2⟩
    · rw [h]
      unfold pickF
      split
      · exact .inl rfl
      · by_cases e : a = x.1
        · right
          refine ⟨x, by simp, e.symm, ?_⟩
          split <;> simp [upd, e]
        · left
          split <;> simp [upd, e]
    · exact .inr ⟨y, by simp [h1], h2⟩
theorem put_end {W : Nat → List UInt8} {l : List Put2} {d : DS} (h : PutInv W l l.length d) (ps : List UInt8) :
    readE (offD d) 0 = 8 ∧ onE (offD d) = 0 ∧ (onAll (offD d) ps).loose = [] ∧
    ∀ a : Nat, a < 16 → (readE (onAll (offD d) ps) a = 0 ∧ readB (onAll (offD d) ps) a = W a) ∨ ∃ x ∈ l, atP x = a ∧ (readE (onAll (offD d) ps) a = 0 ∧ readB (onAll (offD d) ps) a = rep x.2 ∨ readE (onAll (offD d) ps) a = 9) := by
  have hon : onAll (offD d) ps = onD (offD d) ps := by unfold onAll; exact if_pos rfl
  refine ⟨rfl, by unfold onE; exact if_pos rfl, by rw [hon]; rfl, ?_⟩
  intro a ha
  rw [hon]
  have hr : readyE (onD (offD d) ps).off a = 0 := readyE_ok (by omega)
  have hnow : (onD (offD d) ps).now a = ⟨W a, false⟩ ∨ ∃ x ∈ l, atP x = a ∧ ((onD (offD d) ps).now a = ⟨rep x.2, false⟩ ∨ ((onD (offD d) ps).now a).lost = true) := by
    have he : (onD (offD d) ps).now a = syncF (picksF d.loose 0 ps d.sure) d.loose d.now a := rfl
    rw [he, syncF_at]
    split
    · rcases picksF_is ps a d.loose 0 d.sure with hp | ⟨x, h1, h2, h3⟩
      · rw [hp]
        exact .inl (h.sure a ha)
      · rw [h.loose, List.take_length, looseP, List.mem_map] at h1
        obtain ⟨y, hy, rfl⟩ := h1
        exact .inr ⟨y, hy, by simp at h2; omega, h3⟩
    · next hc =>
      rw [h.loose, List.take_length, looseP_any] at hc
      exact .inl (h.now a ha (fun x hx e => hc ⟨x, by simpa using hx, e⟩))
  rcases hnow with h1 | ⟨x, hx, hxa, h1 | h1⟩
  · left
    exact ⟨by rw [readE, if_pos hr, h1]; rfl, by rw [readB, h1, if_pos ⟨hr, rfl⟩]⟩
  · refine .inr ⟨x, hx, hxa, .inl ?_⟩
    exact ⟨by rw [readE, if_pos hr, h1]; rfl, by rw [readB, h1, if_pos ⟨hr, rfl⟩]⟩
  · refine .inr ⟨x, hx, hxa, .inr ?_⟩
    rw [readE, if_pos hr, h1]
    simp
/-- Whether a sector is fine by the first k soft puts. -/
def fineB (W : List UInt8) (l : List Put2) (a : Nat) (b : List UInt8) (e : Int) : Nat → Bool
  | 0 => decide (e = 0) && decide (b = W)
  | k + 1 => if atP (l.getD k (0, 0)) = a then (fineB W l a b e k || (decide (e = 0) && decide (b = rep (l.getD k (0, 0)).2))) || decide (e = 9) else fineB W l a b e k
theorem fineB_up (W : List UInt8) (l : List Put2) (a : Nat) (b : List UInt8) (e : Int) {k : Nat} (h : fineB W l a b e k = true) : ∀ n, fineB W l a b e (k + n) = true
  | 0 => h
  | n + 1 => by
    have := fineB_up W l a b e h n
    rw [← Nat.add_assoc, fineB, this]
    split <;> simp
theorem fineB_end (W : List UInt8) (l : List Put2) (a : Nat) (b : List UInt8) (e : Int) (h : (e = 0 ∧ b = W) ∨ ∃ x ∈ l, atP x = a ∧ (e = 0 ∧ b = rep x.2 ∨ e = 9)) : fineB W l a b e l.length = true := by
  rcases h with ⟨h1, h2⟩ | ⟨x, hx, ha, h⟩
  · have := fineB_up W l a b e (k := 0) (by simp [fineB, h1, h2]) l.length
    rwa [Nat.zero_add] at this
  · obtain ⟨i, hi, he⟩ := List.getElem_of_mem hx
    have hg : l.getD i (0, 0) = x := by rw [List.getD_eq_getElem?_getD, List.getElem?_eq_getElem hi, he]; rfl
    have h1 : fineB W l a b e (i + 1) = true := by
      rw [fineB, hg, if_pos ha]
      rcases h with ⟨h, h'⟩ | h <;> simp [h]
      simp [h']
    have := fineB_up W l a b e h1 (l.length - (i + 1))
    rwa [show i + 1 + (l.length - (i + 1)) = l.length by omega] at this
end Go.Proofs.Ytmjdfajdompkeaa
