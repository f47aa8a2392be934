/- Slices of structs: where a field lies. -/
import Derived.Test.YtmjdfajdompkeaaBase
namespace Go.Proofs.Ytmjdfajdompkeaa
open Go.RowKit Go.Rat
theorem add_field (ad : Addr) (j i : Nat) (hi : 0 < i) : (⟨(ad.add j).block, (ad.add j).off + i, none⟩ : Addr) = ad.add (j + i) := by
  unfold Addr.add
  by_cases hj : j = 0
  · subst hj
    simp; omega
  · simp [hj]; omega
theorem flat_get {α : Type} (f : α → List Value) (s : Nat) (hf : ∀ a, (f a).length = s) : ∀ (l : List α) (k i : Nat) (a : α), l[k]? = some a → i < s → (l.flatMap f)[k * s + i]? = (f a)[i]? := by
  intro l
  induction l with
  | nil => intro k i a h; simp at h
  | cons x l ih =>
    intro k i a h hi
    rw [List.flatMap_cons]
    cases k with
    | zero =>
      simp at h
      subst h
      rw [Nat.zero_mul, Nat.zero_add, List.getElem?_append_left (by rw [hf]; exact hi)]
    | succ k =>
      simp at h
      rw [List.getElem?_append_right (by rw [hf, Nat.succ_mul]; omega), hf, show (k + 1) * s + i - s = k * s + i by rw [Nat.succ_mul]; omega]
      exact ih k i a h hi
theorem flat_len {α : Type} (f : α → List Value) (s : Nat) (hf : ∀ a, (f a).length = s) (l : List α) : (l.flatMap f).length = l.length * s := by
  rw [List.length_flatMap, List.map_congr_left (g := fun _ => s) (fun a _ => hf a), List.map_const', List.sum_replicate_nat]
end Go.Proofs.Ytmjdfajdompkeaa
