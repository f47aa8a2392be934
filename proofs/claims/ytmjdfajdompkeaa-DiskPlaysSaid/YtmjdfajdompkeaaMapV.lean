/- A map with int keys of the call's own: what it answers, key by key. -/
import Derived.Test.YtmjdfajdompkeaaArr
import Derived.Maps.OwnOps
namespace Go.Rat
open Go Go.RowKit
open Go.Maps (Keyed)
open Go.ChangeMaps Go.MapKept
/-- Block b is a map from int; at a it answers f a (z where nothing is). -/
def MapV (z : Value) (w : World) (b : Nat) (f : Int → Value) : Prop :=
  ∃ es clock, w.heap[b]? = some (.map es clock) ∧ (∀ e ∈ es.toList, ∃ a, e.key = .int .i64 a ∧ (Lit.int .i64 a).wf = true) ∧
    es.toList.Pairwise (fun x y => x.key ≠ y.key) ∧ (∀ e ∈ es.toList, ∀ a, e.key = .int .i64 a → e.val = f a) ∧ ∀ a, (∀ e ∈ es.toList, e.key ≠ .int .i64 a) → f a = z
section
variable {P : Program} {z : Value} {w w' : World} {b : Nat} {f : Int → Value} {t k e : TypeId}
theorem MapV.lt (h : MapV z w b f) : b < w.heap.size := by
  obtain ⟨es, clock, hb, _⟩ := h
  exact (Array.getElem?_eq_some_iff.1 hb).1
theorem MapV.same (h : MapV z w b f) (hb : w'.heap[b]? = w.heap[b]?) : MapV z w' b f := by
  obtain ⟨es, clock, h1, r⟩ := h
  exact ⟨es, clock, hb.trans h1, r⟩
theorem MapV.below {B : Nat} (h : MapV z w b f) (hb : Below B w w') (hl : b < B) : MapV z w' b f := h.same (hb.block b hl)
theorem MapV.grown {row : Option Nat} (h : MapV z w b f) (hg : w.grownBy w' row) (hne : some b ≠ row) : MapV z w' b f := h.same (hg.block b h.lt hne)
theorem MapV.new (z : Value) (w : World) : MapV z (w.alloc (.map #[] 0)) w.heap.size (fun _ => z) :=
  ⟨#[], 0, (MapKept.heap_alloc w _).1, by simp, by simp, by simp, fun _ _ => rfl⟩
theorem MapV.ext {g : Int → Value} (h : MapV z w b f) (he : ∀ a, f a = g a) : MapV z w b g := by
  have : f = g := funext he
  rwa [← this]
theorem MapV.keyed (hk : P.underlying k = some (.int .i64)) {es : List MapEntry} (h : ∀ e ∈ es, ∃ a, e.key = .int .i64 a ∧ (Lit.int .i64 a).wf = true) : ∀ e ∈ es, ∃ l, keyOf P k e.key = some l := fun x hx => by
  obtain ⟨a, ha, hw⟩ := h x hx
  exact ⟨_, by rw [ha]; exact Maps.keyOf_int_mk hk hw⟩
theorem MapV.look (h : MapV z w b f) (hk : P.underlying k = some (.int .i64)) (ht : P.underlying t = some (.map k e)) (hz : (zeroValue e).run P w = .ok z w) (a : Int) (ha : (Lit.int .i64 a).wf = true) :
    (Instr.lookup t (.map (some b)) (.int .i64 a) false).run P w = .ok (f a) w := by
  obtain ⟨es, clock, hb, hks, hd, hv, hn⟩ := h
  have K := Maps.int_keyed hk
  have hkey := Maps.keyOf_int_mk hk ha
  rcases K.find w hkey es.toList (MapV.keyed hk hks) with ⟨h1, h2⟩ | ⟨j, e0, h1, h2, h3⟩
  · rw [hn a h2]
    simp [Instr.lookup, run_underlying ht, MapKept.run_getObj_map hb, K.check w _ hkey, h1, hz, Result.andThen]
  · rw [← hv e0 (List.mem_of_getElem? h2) a h3]
    simp [Instr.lookup, run_underlying ht, MapKept.run_getObj_map hb, K.check w _ hkey, h1, Result.andThen]
theorem MapV.store (h : MapV z w b f) (hk : P.underlying k = some (.int .i64)) (ht : P.underlying t = some (.map k e)) (a : Int) (ha : (Lit.int .i64 a).wf = true) (v : Value) :
    ∃ w', (Instr.mapUpdate t (.map (some b)) (.int .i64 a) v).run P w = .ok () w' ∧ MapV z w' b (fun x => if x = a then v else f x) ∧ w.grownBy w' (some b) := by
  obtain ⟨es, clock, hb, hks, hd, hv, hn⟩ := h
  have K := Maps.int_keyed hk
  have hkey := Maps.keyOf_int_mk hk ha
  have hgr : ∀ o, w.grownBy (setBlock w b o) (some b) := fun o => ⟨rfl, rfl, rfl, by simp [setBlock], fun i _ hi => heap_setBlock_other hb _ (fun e => hi (by rw [e]))⟩
  rcases K.find w hkey es.toList (MapV.keyed hk hks) with ⟨h1, h2⟩ | ⟨j, e0, h1, h2, h3⟩
  · refine ⟨setBlock w b (.map (es.push ⟨.int .i64 a, v, clock⟩) (clock + 1)), ?_, ⟨_, _, heap_setBlock_same hb _, ?_, ?_, ?_, ?_⟩, hgr _⟩
    · simp [Instr.mapUpdate, run_underlying ht, MapKept.run_getObj_map hb, K.check w false hkey, h1, MapKept.run_setObj_map _ hb, Result.andThen, setBlock]
    · intro x hx
      simp only [Array.toList_push, List.mem_append, List.mem_singleton] at hx
      rcases hx with hx | rfl
      · exact hks x hx
      · exact ⟨a, rfl, ha⟩
    · rw [Array.toList_push, List.pairwise_append]
      exact ⟨hd, List.pairwise_singleton _ _, fun x hx y hy => by
        obtain rfl : y = _ := by simpa using hy
        exact h2 x hx⟩
    · intro x hx q hq
      simp only [Array.toList_push, List.mem_append, List.mem_singleton] at hx
      rcases hx with hx | rfl
      · show _ = if q = a then v else f q
        rw [if_neg (fun e => h2 x hx (by rw [hq, e]))]
        exact hv x hx q hq
      · have : q = a := by simpa using hq.symm
        show _ = if q = a then v else f q
        rw [if_pos this]
    · intro q hq
      show (if q = a then v else f q) = z
      have h5 := hq ⟨.int .i64 a, v, clock⟩ (by simp)
      rw [if_neg (fun e => h5 (by rw [e]))]
      exact hn q (fun x hx => hq x (by simp at hx; simp [hx]))
  · have hj : es[j]? = some e0 := by simpa using h2
    have hm0 := List.mem_of_getElem? h2
    have hlist : (es.modify j (fun e' => { e' with key := .int .i64 a, val := v })).toList = es.toList.set j { e0 with key := .int .i64 a, val := v } := by rw [Array.toList_modify, modify_eq_set _ _ _ _ h2]
    have hjl : j < es.toList.length := (List.getElem?_eq_some_iff.1 h2).1
    have hje : es.toList[j] = e0 := (List.getElem?_eq_some_iff.1 h2).2
    have who : ∀ x ∈ es.toList.set j { e0 with key := .int .i64 a, val := v }, x = { e0 with key := .int .i64 a, val := v } ∨ (x ∈ es.toList ∧ x.key ≠ .int .i64 a) := by
      intro x hx
      obtain ⟨i, hi, ex⟩ := List.getElem_of_mem hx
      rw [List.getElem_set] at ex
      split at ex
      · exact Or.inl ex.symm
      · rename_i hne
        have hi' : i < es.toList.length := by simpa using hi
        refine Or.inr ⟨ex ▸ List.getElem_mem hi', ?_⟩
        rw [← h3, ← hje, ← ex]
        rcases Nat.lt_or_gt_of_ne hne with h | h
        · exact fun e => (List.pairwise_iff_getElem.1 hd j i hjl hi' h) e.symm
        · exact List.pairwise_iff_getElem.1 hd i j hi' hjl h
    refine ⟨setBlock w b (.map (es.modify j (fun e' => { e' with key := .int .i64 a, val := v })) clock), ?_, ⟨_, _, heap_setBlock_same hb _, ?_, ?_, ?_, ?_⟩, hgr _⟩
    · simp [Instr.mapUpdate, run_underlying ht, MapKept.run_getObj_map hb, K.check w false hkey, h1, hj, h3, K.stays w hkey, MapKept.run_setObj_map _ hb, Result.andThen, setBlock]
    · intro x hx
      rw [hlist] at hx
      rcases who x hx with rfl | ⟨hx', _⟩
      · exact ⟨a, rfl, ha⟩
      · exact hks x hx'
    · rw [hlist]
      refine List.pairwise_iff_getElem.2 fun i i' hi hi' hlt => ?_
      have hi2 : i < es.toList.length := by simpa using hi
      have hi3 : i' < es.toList.length := by simpa using hi'
      have key : ∀ q (hq : q < es.toList.length), ((es.toList.set j { e0 with key := .int .i64 a, val := v })[q]'(by simpa using hq)).key = (es.toList[q]).key := fun q hq => by
        rw [List.getElem_set]
        split
        · rename_i e
          subst e
          rw [hje, h3]
        · rfl
      rw [key i hi2, key i' hi3]
      exact List.pairwise_iff_getElem.1 hd i i' hi2 hi3 hlt
    · intro x hx q hq
      rw [hlist] at hx
      rcases who x hx with rfl | ⟨hx', hne⟩
      · have : q = a := by simpa using hq.symm
        show _ = if q = a then v else f q
        rw [if_pos this]
      · show _ = if q = a then v else f q
        rw [if_neg (fun e => hne (by rw [hq, e]))]
        exact hv x hx' q hq
    · intro q hq
      rw [hlist] at hq
      have h5 : q ≠ a := fun e => hq { e0 with key := .int .i64 a, val := v } (List.mem_set hjl _) (by rw [e])
      show (if q = a then v else f q) = z
      rw [if_neg h5]
      refine hn q (fun x hx => ?_)
      obtain ⟨i, hi, ex⟩ := List.getElem_of_mem hx
      by_cases hij : j = i
      · subst hij
        rw [← ex, hje, h3]
        intro e
        exact h5 (by simpa using e.symm)
      · exact hq x (ex ▸ by
          have : (es.toList.set j { e0 with key := .int .i64 a, val := v })[i]'(by simpa using hi) = es.toList[i] := by rw [List.getElem_set_ne hij]
          rw [← this]
          exact List.getElem_mem _)
end
end Go.Rat
