/- ratchetlaw25.ClientAccepts in plain words. -/
import Derived.Test.YtbbcofpdfkhljaaDoorOc
namespace Go.Proofs.YtbbcofpdfkhljaaDoor
/-- How many of the first m replicas told t. -/
def votesF (zs : List (Int × ToldV)) (t : ToldV) (m : Nat) : Nat := (List.range m).countP (fun p : Nat => decide (((p : Int) + 1, t) ∈ zs))
theorem votesF_succ (zs : List (Int × ToldV)) (t : ToldV) (m : Nat) : votesF zs t (m + 1) = votesF zs t m + if ((m : Int) + 1, t) ∈ zs then 1 else 0 := by
  unfold votesF
  rw [List.range_succ, List.countP_append, List.countP_singleton]
  by_cases h : ((m : Int) + 1, t) ∈ zs <;> simp [h]
theorem votesF_le (zs : List (Int × ToldV)) (t : ToldV) (m : Nat) : votesF zs t m ≤ m := by
  have := List.countP_le_length (p := fun p : Nat => decide (((p : Int) + 1, t) ∈ zs)) (l := List.range m)
  rw [List.length_range] at this
  exact this
theorem count_votes (l : List (Option ToldV)) (zs : List (Int × ToldV)) (t : ToldV) (k : Nat) (h : ∀ p, l.getD p none = some t → ((p : Int) + 1, t) ∈ zs) (hk : ∀ p, k ≤ p → l.getD p none = none) :
    l.count (some t) ≤ votesF zs t k := by
  have key : ∀ m, m ≤ l.length → (l.take m).count (some t) ≤ votesF zs t (min m k) := by
    intro m
    induction m with
    | zero => intro _; simp
    | succ m ih =>
      intro hm
      rw [count_step l (some t) m (by omega)]
      have := ih (by omega)
      by_cases hmk : m < k
      · rw [show min (m + 1) k = m + 1 by omega, votesF_succ]
        rw [show min m k = m by omega] at this
        by_cases hx : l.getD m none = some t
        · rw [if_pos hx, if_pos (h m hx)]; omega
        · rw [if_neg hx]; omega
      · rw [show min (m + 1) k = min m k by omega, if_neg (by rw [hk m (by omega)]; simp)]
        omega
  have h1 := key l.length (Nat.le_refl _)
  rw [List.take_length] at h1
  refine Nat.le_trans h1 ?_
  by_cases hlk : l.length ≤ k
  · rw [show min l.length k = l.length by omega]
    have mono : ∀ d, votesF zs t l.length ≤ votesF zs t (l.length + d) := by
      intro d
      induction d with
      | zero => exact Nat.le_refl _
      | succ d ih => rw [← Nat.add_assoc, votesF_succ]; omega
    have := mono (k - l.length)
    rwa [show l.length + (k - l.length) = k by omega] at this
  · rw [show min l.length k = k by omega]; exact Nat.le_refl _
/-- What is known of a client between the law's steps: zs = who told what since the last request. -/
structure Acc (f : Nat) (c : ClV) (zs : List (Int × ToldV)) : Prop where
  n_ : c.n = 2 * (f : Int) + 1
  id_ : c.id = 2
  ok : c.ok
  told : c.pend = true → ∀ p t, c.told.getD p none = some t → ((p : Int) + 1, t) ∈ zs
  out : ∀ p, 2 * f + 1 ≤ p → c.told.getD p none = none
theorem tol0_getD (p : Nat) : tol0.getD p none = none := by
  rw [tol0, List.getD_eq_getElem?_getD, List.getElem?_replicate]
  split <;> rfl
theorem acc0 (f : Nat) : Acc f ⟨2 * (f : Int) + 1, 2, 0, false, rq0, tol0⟩ [] :=
  ⟨rfl, rfl, ⟨z32_length, tol0_len⟩, (fun h => by cases h), fun p _ => tol0_getD p⟩
/-- A request is asked. -/
theorem acc_ask {f : Nat} {c : ClV} {zs : List (Int × ToldV)} (h : Acc f c zs) (n : Nat) (tb : List Int) (o : OpV) (htm : c.tm < 1000) :
    (o.may ∧ c.pend = false ∧ askC n tb c o = (⟨c.n, c.id, c.tm + 1, true, askQ n tb 2 (c.tm + 1) o, tol0⟩, askQ n tb 2 (c.tm + 1) o, 0) ∧ Acc f ⟨c.n, c.id, c.tm + 1, true, askQ n tb 2 (c.tm + 1) o, tol0⟩ [] ∧
      ((askQ n tb 2 (c.tm + 1) o).asked ∧ (askQ n tb 2 (c.tm + 1) o).must n tb = (askQ n tb 2 (c.tm + 1) o).tag) ∧ (askQ n tb 2 (c.tm + 1) o).cl = 2 ∧ (askQ n tb 2 (c.tm + 1) o).tm = c.tm + 1 ∧ (askQ n tb 2 (c.tm + 1) o).op = o) ∨
    (∃ e : Int, e ≠ 0 ∧ askC n tb c o = (c, rq0, e)) := by
  by_cases hm : o.may
  · cases hp : c.pend
    · have hq := askQ_eq n tb 2 (c.tm + 1) o hm (by omega) (by omega)
      refine .inl ⟨hm, rfl, ?_, ⟨h.n_, h.id_, ⟨askQ_tag _ _ _ _ _, tol0_len⟩, fun _ p t ht => ?_, fun p _ => tol0_getD p⟩, askQ_auth n tb 2 (c.tm + 1) o hm (by omega) (by omega), by rw [hq], by rw [hq], by rw [hq]⟩
      · unfold askC
        rw [if_pos hm, if_neg (by rw [hp]; simp), h.id_]
      · have := tol0_getD p
        rw [show (ClV.mk c.n c.id (c.tm + 1) true (askQ n tb 2 (c.tm + 1) o) tol0).told = tol0 from rfl, this] at ht
        cases ht
    · refine .inr ⟨3, by omega, ?_⟩
      unfold askC
      rw [if_pos hm, if_pos hp]
  · refine .inr ⟨1, by omega, ?_⟩
    unfold askC
    rw [if_neg hm]
/-- What is heard: refused or noted; or accepted, and then it was told by f + 1. -/
theorem acc_hear {f : Nat} {c : ClV} {zs : List (Int × ToldV)} (h : Acc f c zs) (j : Int) (t : ToldV) (hf : f ≤ 5) :
    ∃ c' r is, hearC c j t = (c', r, is) ∧ c'.tm = c.tm ∧ Acc f c' (zs ++ [(j, t)]) ∧
      ((is = false ∧ c'.pend = c.pend) ∨ (is = true ∧ c.pend = true ∧ c'.pend = false ∧ t.cl = 2 ∧ t.tm = c.tm ∧ r = t.rp ∧ f + 1 ≤ votesF (zs ++ [(j, t)]) t (2 * f + 1))) := by
  have hmono : c.pend = true → ∀ p u, c.told.getD p none = some u → ((p : Int) + 1, u) ∈ zs ++ [(j, t)] := fun hp p u hu => List.mem_append_left _ (h.told hp p u hu)
  unfold hearC
  by_cases hc : 1 ≤ j ∧ j ≤ c.n ∧ c.pend = true ∧ t.cl = c.id ∧ t.tm = c.tm ∧ c.told.getD (j - 1).toNat none = none
  · rw [if_pos hc]
    obtain ⟨h1, h2, h3, h4, h5, h6⟩ := hc
    have hn := h.n_
    have hp : (j - 1).toNat < c.told.length := by rw [h.ok.len]; omega
    have hj : (((j - 1).toNat : Nat) : Int) + 1 = j := by omega
    have htold : ∀ p u, (c.told.set (j - 1).toNat (some t)).getD p none = some u → ((p : Int) + 1, u) ∈ zs ++ [(j, t)] := fun p u hu => by
      rw [getD_put _ _ hp] at hu
      by_cases e : (j - 1).toNat = p
      · rw [if_pos e] at hu
        cases hu
        rw [← e, hj]
        exact List.mem_append_right _ (List.mem_singleton.2 rfl)
      · rw [if_neg e] at hu
        exact hmono h3 p u hu
    have hout : ∀ p, 2 * f + 1 ≤ p → (c.told.set (j - 1).toNat (some t)).getD p none = none := fun p hpp => by
      rw [getD_put _ _ hp, if_neg (by omega)]
      exact h.out p hpp
    by_cases hle : ((c.told.set (j - 1).toNat (some t)).count (some t) : Int) ≤ c.n / 2
    · rw [if_pos hle]
      exact ⟨_, _, _, rfl, rfl, ⟨hn, h.id_, ⟨h.ok.tag, by simpa using h.ok.len⟩, fun _ => htold, hout⟩, .inl ⟨rfl, rfl⟩⟩
    · rw [if_neg hle]
      have hv := count_votes _ (zs ++ [(j, t)]) t (2 * f + 1) (fun p => htold p t) hout
      refine ⟨_, _, _, rfl, rfl, ⟨hn, h.id_, ⟨z32_length, by simpa using h.ok.len⟩, (fun e => by cases e), hout⟩, .inr ⟨rfl, h3, rfl, h4.trans h.id_, h5, rfl, ?_⟩⟩
      rw [hn] at hle
      omega
  · rw [if_neg hc]
    exact ⟨_, _, _, rfl, rfl, ⟨h.n_, h.id_, h.ok, hmono, h.out⟩, .inl ⟨rfl, rfl⟩⟩
end Go.Proofs.YtbbcofpdfkhljaaDoor
