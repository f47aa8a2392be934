/- ratchetlaw25.ClientLies in plain words: what lies and truths do to a client. -/
import Derived.Test.YtbbcofpdfkhljaaDoorNy
namespace Go.Proofs.YtbbcofpdfkhljaaDoor
theorem count_upto (l : List (Option ToldV)) (f : Nat) (h : ∀ p, f ≤ p → l.getD p none = none) (t : ToldV) : l.count (some t) ≤ f := by
  have h1 : l.count (some t) = (l.take f).count (some t) + (l.drop f).count (some t) := by
    rw [← List.count_append, List.take_append_drop]
  have h2 : (l.drop f).count (some t) = 0 := by
    rw [List.count_eq_zero]
    intro hm
    obtain ⟨i, hi, he⟩ := List.mem_iff_getElem.1 hm
    have := h (f + i) (by omega)
    rw [List.getD_eq_getElem?_getD] at this
    rw [List.getElem_drop] at he
    have hlt : f + i < l.length := by rw [List.length_drop] at hi; omega
    rw [List.getElem?_eq_getElem hlt, he] at this
    cases this
  have h3 := List.count_le_length (a := some t) (l := l.take f)
  rw [List.length_take] at h3
  omega
theorem count_put (l : List (Option ToldV)) (p : Nat) (hp : p < l.length) (h0 : l.getD p none = none) (t u : ToldV) : (l.set p (some t)).count (some u) = l.count (some u) + if t = u then 1 else 0 := by
  have hg : l[p] = none := by
    rw [List.getD_eq_getElem?_getD, List.getElem?_eq_getElem hp] at h0
    exact h0
  rw [List.count_set hp, hg]
  by_cases h : t = u
  · simp [h]
  · simp [h]
theorem getD_put (l : List (Option ToldV)) (p : Nat) (hp : p < l.length) (t : ToldV) (q : Nat) : (l.set p (some t)).getD q none = if p = q then some t else l.getD q none := by
  rw [List.getD_eq_getElem?_getD, List.getD_eq_getElem?_getD, List.getElem?_set]
  by_cases h : p = q
  · subst h
    simp [hp]
  · simp [h]
/-- What a client hears of the place p. -/
theorem hear_at (c : ClV) (p : Nat) (hp : (p : Int) + 1 ≤ c.n) (t : ToldV) (hcl : t.cl = c.id) (htm : t.tm = c.tm) :
    hearC c ((p : Int) + 1) t = if c.pend = true ∧ c.told.getD p none = none then
      if ((c.told.set p (some t)).count (some t) : Int) ≤ c.n / 2 then ({ c with told := c.told.set p (some t) }, rp0, false)
      else ({ c with told := c.told.set p (some t), pend := false, q := rq0 }, t.rp, true)
    else (c, rp0, false) := by
  have hz : ((p : Int) + 1 - 1).toNat = p := by omega
  unfold hearC
  rw [hz]
  by_cases h : c.pend = true ∧ c.told.getD p none = none
  · rw [if_pos h, if_pos ⟨by omega, hp, h.1, hcl, htm, h.2⟩]
  · rw [if_neg h, if_neg (fun h' => h ⟨h'.2.2.1, h'.2.2.2.2.2⟩)]
/-- Behind some lies: a: how many of the first f told the truth; b: who told. -/
structure Lies (f : Nat) (rt : ToldV) (Q : RqV) (c : ClV) (a : Nat) (b : List Bool) : Prop where
  eq : c = ⟨2 * (f : Int) + 1, 5, 1, true, Q, c.told⟩
  len : c.told.length = 11
  non : ∀ p, f ≤ p → c.told.getD p none = none
  count : c.told.count (some rt) = a
  blen : b.length = 12
  bs : ∀ p, p < 11 → b.getD (p + 1) false = (c.told.getD p none).isSome
theorem lies0 (f : Nat) (rt : ToldV) (Q : RqV) : Lies f rt Q ⟨2 * (f : Int) + 1, 5, 1, true, Q, tol0⟩ 0 (List.replicate 12 false) := by
  refine ⟨rfl, rfl, fun p _ => ?_, ?_, rfl, fun p hp => ?_⟩
  · show tol0.getD p none = none
    rw [tol0, List.getD_eq_getElem?_getD, List.getElem?_replicate]
    split <;> rfl
  · show tol0.count (some rt) = 0
    rw [List.count_eq_zero]
    intro h
    have := List.eq_of_mem_replicate h
    cases this
  · show _ = (tol0.getD p none).isSome
    rw [tol0, List.getD_eq_getElem?_getD, List.getD_eq_getElem?_getD, List.getElem?_replicate, List.getElem?_replicate, if_pos (by omega), if_pos hp]
    rfl
/-- A lie is never accepted. -/
theorem lie_step {f : Nat} {rt : ToldV} {Q : RqV} {c : ClV} {a : Nat} {b : List Bool} (h : Lies f rt Q c a b) (hf : f ≤ 5) (p : Nat) (hp : p < f) (t : ToldV) (hcl : t.cl = 5) (htm : t.tm = 1) :
    ∃ c', hearC c ((p : Int) + 1) t = (c', rp0, false) ∧ Lies f rt Q c' (if b.getD (p + 1) false = false ∧ t = rt then a + 1 else a) (b.set (p + 1) true) := by
  obtain ⟨heq, hlen, hnone, hcount, hbl, hbs⟩ := h
  generalize c.told = l at heq hlen hnone hcount hbs
  subst heq
  have hb := hbs p (by omega)
  have hset : ∀ q, q < 11 → (b.set (p + 1) true).getD (q + 1) false = if p = q then true else b.getD (q + 1) false := fun q hq => by
    rw [List.getD_eq_getElem?_getD, List.getD_eq_getElem?_getD, List.getElem?_set]
    by_cases h : p = q
    · subst h
      have hlt : p + 1 < b.length := by omega
      simp [hlt]
    · simp [h]
  rw [hear_at _ p (by show (p : Int) + 1 ≤ 2 * (f : Int) + 1; omega) t hcl htm]
  by_cases h0 : l.getD p none = none
  · have hc := count_put l p (by omega) h0 t
    have hn : ∀ q, f ≤ q → (l.set p (some t)).getD q none = none := fun q hq => by
      rw [getD_put l p (by omega), if_neg (by omega)]
      exact hnone q hq
    have hle := count_upto _ f hn t
    rw [if_pos ⟨rfl, h0⟩, if_pos (by show ((l.set p (some t)).count (some t) : Int) ≤ (2 * (f : Int) + 1) / 2; omega)]
    refine ⟨_, rfl, rfl, by simpa using hlen, hn, ?_, by simpa using hbl, fun q hq => ?_⟩
    · show (l.set p (some t)).count (some rt) = _
      rw [hc, hcount, hb, h0]
      by_cases ht : t = rt <;> simp [ht]
    · rw [hset q hq]
      show _ = ((l.set p (some t)).getD q none).isSome
      rw [getD_put l p (by omega)]
      by_cases h : p = q
      · rw [if_pos h, if_pos h]; rfl
      · rw [if_neg h, if_neg h]; exact hbs q hq
  · have hb1 : b.getD (p + 1) false = true := by
      rw [hb]
      cases hq : l.getD p none with
      | none => exact absurd hq h0
      | some _ => rfl
    rw [if_neg (fun h => h0 h.2), if_neg (by rw [hb1]; simp)]
    refine ⟨_, rfl, rfl, hlen, hnone, hcount, by simpa using hbl, fun q hq => ?_⟩
    rw [hset q hq]
    by_cases h : p = q
    · subst h
      rw [if_pos rfl]
      exact hb1.symm.trans hb
    · rw [if_neg h]; exact hbs q hq
/-- Behind s truths of the others. -/
structure Truths (f : Nat) (rt : ToldV) (c : ClV) (a s : Nat) : Prop where
  n_ : c.n = 2 * (f : Int) + 1
  id_ : c.id = 5
  tm_ : c.tm = 1
  ok : c.ok
  le : s ≤ a
  few : a ≤ f → c.pend = true ∧ c.told.count (some rt) = a ∧ ∀ p, f + s ≤ p → c.told.getD p none = none
  many : f + 1 ≤ a → c.pend = false
theorem Lies.truths {f : Nat} {rt : ToldV} {Q : RqV} {c : ClV} {a : Nat} {b : List Bool} (h : Lies f rt Q c a b) (hq : Q.tag.length = 32) : Truths f rt c a 0 ∧ a ≤ f := by
  have hle : a ≤ f := by rw [← h.count]; exact count_upto _ f h.non rt
  have he := h.eq
  refine ⟨⟨by rw [he], by rw [he], by rw [he], ⟨by rw [he]; exact hq, h.len⟩, Nat.zero_le _, fun _ => ⟨by rw [he], h.count, fun p hp => h.non p (by omega)⟩, fun hh => by omega⟩, hle⟩
theorem Lies.ok {f : Nat} {rt : ToldV} {Q : RqV} {c : ClV} {a : Nat} {b : List Bool} (h : Lies f rt Q c a b) (hq : Q.tag.length = 32) : c.ok := (h.truths hq).1.ok
/-- A truth is accepted just when f + 1 have told it. -/
theorem truth_step {f : Nat} {rt : ToldV} {c : ClV} {a s : Nat} (h : Truths f rt c a s) (hf : f ≤ 5) (hs : s ≤ f) (hcl : rt.cl = 5) (htm : rt.tm = 1) :
    ∃ c' r, hearC c (((f + s : Nat) : Int) + 1) rt = (c', r, decide (a + 1 = f + 1)) ∧ (a + 1 = f + 1 → r = rt.rp) ∧ (a + 1 ≠ f + 1 → r = rp0) ∧ Truths f rt c' (a + 1) (s + 1) := by
  obtain ⟨hn, hid, htime, hok, hle, hfew, hmany⟩ := h
  have hlen := hok.len
  rw [hear_at c (f + s) (by rw [hn]; omega) rt (by rw [hid, hcl]) (by rw [htime, htm])]
  by_cases ha : a ≤ f
  · obtain ⟨hpend, hcount, hnone⟩ := hfew ha
    have h0 := hnone (f + s) (Nat.le_refl _)
    have hc := count_put c.told (f + s) (by omega) h0 rt rt
    rw [if_pos rfl, hcount] at hc
    rw [if_pos ⟨hpend, h0⟩, hc, hn]
    by_cases he : a + 1 = f + 1
    · rw [if_neg (by omega), decide_eq_true he]
      refine ⟨_, _, rfl, fun _ => rfl, fun h => absurd he h, rfl, hid, htime, ⟨z32_length, by simpa using hlen⟩, by omega, fun h => by omega, fun _ => rfl⟩
    · rw [if_pos (by omega), decide_eq_false he]
      refine ⟨_, _, rfl, fun h => absurd h he, fun _ => rfl, rfl, hid, htime, ⟨hok.tag, by simpa using hlen⟩, by omega, fun _ => ⟨hpend, hc, fun p hp => ?_⟩, fun h => by omega⟩
      show (c.told.set (f + s) (some rt)).getD p none = none
      rw [getD_put c.told (f + s) (by omega), if_neg (by omega)]
      exact hnone p (by omega)
  · have hp := hmany (by omega)
    have he : a + 1 ≠ f + 1 := by omega
    rw [if_neg (by rw [hp]; simp), decide_eq_false he]
    exact ⟨_, _, rfl, fun h => absurd h he, fun _ => rfl, hn, hid, htime, hok, by omega, fun h => by omega, fun _ => hp⟩
end Go.Proofs.YtbbcofpdfkhljaaDoor
