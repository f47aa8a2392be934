/- cell: what a cell is on the disk, kept by Format, Put, the power. -/
import Derived.Test.YtmjdfajdompkeaaCb
namespace Go.Proofs.Ytmjdfajdompkeaa
open Go.RowKit Go.Rat
theorem view_on {d : DS} (ho : d.off = false) {p : Int} {i : Nat} (hp : 0 ≤ p + (i : Int) ∧ p + (i : Int) < 32768) : viewD d p i = if (d.now (p + (i : Int))).lost = true then none else some (d.now (p + (i : Int))).b := by
  have hr : readyE d.off (p + (i : Int)) = 0 := by rw [ho]; exact readyE_ok hp
  rw [viewD, readE, if_pos hr, readB]
  by_cases hl : (d.now (p + (i : Int))).lost = true
  · rw [if_pos hl, if_pos hl, if_neg (by decide)]
  · have hl' : (d.now (p + (i : Int))).lost = false := by simpa using hl
    rw [if_neg hl, if_neg hl, if_pos rfl, if_pos ⟨hr, hl'⟩]
theorem view_same {d d' : DS} (ho : d.off = false) (ho' : d'.off = false) {p : Int} {i : Nat} (hp : 0 ≤ p + (i : Int) ∧ p + (i : Int) < 32768) (h : d'.now (p + (i : Int)) = d.now (p + (i : Int))) : viewD d' p i = viewD d p i := by
  rw [view_on ho hp, view_on ho' hp, h]
theorem view_is {d : DS} (ho : d.off = false) {p : Int} {i : Nat} (hp : 0 ≤ p + (i : Int) ∧ p + (i : Int) < 32768) {b : List UInt8} (h : d.now (p + (i : Int)) = ⟨b, false⟩) : viewD d p i = some b := by
  rw [view_on ho hp, h]; rfl
theorem view_add (d : DS) (p : Int) (j i : Nat) : viewD d (p + (j : Int)) i = viewD d p (j + i) := by
  rw [viewD, viewD, show p + (j : Int) + (i : Int) = p + ((j + i : Nat) : Int) by omega]
/-- The slots' counts and bytes. -/
def slotV (d : DS) (p : Int) (s : Nat) : Nat × List UInt8 := rdF (viewD d (p + ((s * 10 : Nat) : Int)))
def opE (d : DS) (p : Int) : Int := if d.off = true then 8 else if (slotV d p 0).1 = 0 ∧ (slotV d p 1).1 = 0 then 9 else 0
def opF (d : DS) (p : Int) : Nat × List UInt8 := if (slotV d p 0).1 < (slotV d p 1).1 then (1, (slotV d p 1).2) else (0, (slotV d p 0).2)
theorem slotV_ext {d d' : DS} {p : Int} {s : Nat} (h : ∀ i : Nat, i < 10 → viewD d' p (s * 10 + i) = viewD d p (s * 10 + i)) : slotV d' p s = slotV d p s :=
  rdF_ext fun i hi => by rw [view_add, view_add]; exact h i hi
structure CellSt (d : DS) (p : Int) (which n : Nat) (has : List UInt8) (K : Nat) : Prop where
  off : d.off = false
  at_ : 0 ≤ p ∧ p + 20 ≤ 32768
  wh : which ≤ 1
  own : ∀ i, i < 10 → viewD d p (which * 10 + i) = some (secB n has i)
  oth : (slotV d p (1 - which)).1 < n
  top : ∀ i s, i < 20 → viewD d p i = some s → cntB s ≤ K
  len : has.length ≤ 1100
  nK : n ≤ K
  K64 : K + 1 < 2 ^ 64
section
variable {d d' : DS} {p : Int} {which n : Nat} {has : List UInt8} {K : Nat}
theorem CellSt.slot (h : CellSt d p which n has K) : slotV d p which = (n, has) :=
  rdF_full (by have := h.nK; have := h.K64; omega) h.len fun i hi => by rw [view_add]; exact h.own i hi
theorem CellSt.open_ (h : CellSt d p which n has K) : opE d p = 0 ∧ opF d p = (which, has) := by
  have hs := h.slot
  have ho := h.oth
  have hw := h.wh
  rw [opE, opF, h.off, if_neg (by decide)]
  by_cases e : which = 0
  · subst e
    have ho : (slotV d p 1).1 < n := ho
    rw [hs]
    simp only
    exact ⟨by rw [if_neg (by omega)], by rw [if_neg (by omega)]⟩
  · obtain rfl : which = 1 := by omega
    have ho : (slotV d p 0).1 < n := ho
    rw [hs]
    simp only
    exact ⟨by rw [if_neg (by omega)], by rw [if_pos (by omega)]⟩
theorem CellSt.keep (h : CellSt d p which n has K) (ho : d'.off = false) (hn : ∀ a, p ≤ a → a < p + 20 → d'.now a = d.now a) : CellSt d' p which n has K := by
  have hv : ∀ i : Nat, i < 20 → viewD d' p i = viewD d p i := fun i hi => view_same h.off ho (by have := h.at_; omega) (hn _ (by omega) (by omega))
  have hw := h.wh
  refine ⟨ho, h.at_, hw, fun i hi => by rw [hv _ (by omega)]; exact h.own i hi, ?_, fun i s hi hs => h.top i s hi (by rw [← hv i hi]; exact hs), h.len, h.nK, h.K64⟩
  rw [slotV_ext (d := d) fun i hi => hv _ (by omega)]
  exact h.oth
theorem CellSt.up (h : CellSt d p which n has K) {K' : Nat} (hk : K ≤ K') (h6 : K' + 1 < 2 ^ 64) : CellSt d p which n has K' :=
  ⟨h.off, h.at_, h.wh, h.own, h.oth, fun i s hi hs => Nat.le_trans (h.top i s hi hs) hk, h.len, Nat.le_trans h.nK hk, h6⟩
theorem CellSt.next (h : CellSt d p which n has K) : n < nextF d p ∧ nextF d p ≤ K + 1 ∧ ∀ i s, i < 20 → viewD d p i = some s → cntB s < nextF d p := by
  have hw := h.wh
  have h1 := topF_le (viewD d p) K 20 h.top
  have h2 := h.K64
  have he : nextF d p = topF (viewD d p) 20 + 1 := by rw [nextF, Nat.mod_eq_of_lt (by omega)]
  have h3 : ∀ i s, i < 20 → viewD d p i = some s → cntB s < nextF d p := fun i s hi hs => by
    have := topF_ge (viewD d p) 20 i s hi hs
    omega
  refine ⟨?_, by omega, h3⟩
  have := h3 _ _ (by omega) (h.own 0 (by omega))
  rwa [cntB_secB (by have := h.nK; omega)] at this
/-- The other slot turned: each of its sectors is as it was, or new, or lost. -/
theorem CellSt.torn (h : CellSt d p which n has K) (ho : d'.off = false) {b : List UInt8} (hb : b.length ≤ 1100) (q : Int) (hq : q = p + ((1 - which : Nat) : Int) * 10)
    (hout : ∀ a, ¬ (q ≤ a ∧ a < q + 10) → d'.now a = d.now a)
    (hin : ∀ i : Nat, i < 10 → d'.now (q + (i : Int)) = d.now (q + (i : Int)) ∨ d'.now (q + (i : Int)) = ⟨secB (nextF d p) b i, false⟩ ∨ (d'.now (q + (i : Int))).lost = true) (hK : K + 2 < 2 ^ 64) :
    (CellSt d' p (1 - which) (nextF d p) b (K + 1) ∧ (∀ i : Nat, i < 10 → d'.now (q + (i : Int)) = ⟨secB (nextF d p) b i, false⟩)) ∨
    (CellSt d' p which n has (K + 1) ∧ ∃ i : Nat, i < 10 ∧ d'.now (q + (i : Int)) ≠ ⟨secB (nextF d p) b i, false⟩) := by
  have hw := h.wh
  have hat := h.at_
  obtain ⟨hn1, hn2, hn3⟩ := h.next
  have hn64 : nextF d p < 2 ^ 64 := Nat.mod_lt _ (by omega)
  have hqi : ∀ i : Nat, q + (i : Int) = p + (((1 - which) * 10 + i : Nat) : Int) := fun i => by rw [hq]; omega
  have hvown : ∀ i : Nat, i < 10 → viewD d' p (which * 10 + i) = viewD d p (which * 10 + i) := fun i hi => view_same h.off ho (by omega) (hout _ (by omega))
  have htop : ∀ i s, i < 20 → viewD d' p i = some s → cntB s ≤ K + 1 := by
    intro i s hi hs
    by_cases hc : q ≤ p + (i : Int) ∧ p + (i : Int) < q + 10
    · obtain ⟨j, hj, hij⟩ : ∃ j : Nat, j < 10 ∧ q + (j : Int) = p + (i : Int) := ⟨i - (1 - which) * 10, by omega, by omega⟩
      rcases hin j hj with h1 | h1 | h1
      · rw [hij] at h1
        rw [view_same h.off ho (by omega) h1] at hs
        have := h.top i s hi hs
        omega
      · rw [hij] at h1
        rw [view_is ho (by omega) h1] at hs
        cases hs
        rw [cntB_secB hn64]; exact hn2
      · rw [hij] at h1
        rw [view_on ho (by omega), if_pos h1] at hs
        cases hs
    · rw [view_same h.off ho (by omega) (hout _ hc)] at hs
      have := h.top i s hi hs
      omega
  by_cases hall : ∀ i : Nat, i < 10 → d'.now (q + (i : Int)) = ⟨secB (nextF d p) b i, false⟩
  · refine .inl ⟨⟨ho, hat, by omega, fun i hi => ?_, ?_, htop, hb, hn2, by omega⟩, hall⟩
    · exact view_is ho (by omega) (by rw [← hqi]; exact hall i hi)
    · rw [show 1 - (1 - which) = which by omega, slotV_ext (d := d) hvown, h.slot]
      exact hn1
  · have hex : ∃ i : Nat, i < 10 ∧ d'.now (q + (i : Int)) ≠ ⟨secB (nextF d p) b i, false⟩ := by
      refine Classical.byContradiction fun hc => hall fun i hi => Classical.byContradiction fun h1 => hc ⟨i, hi, h1⟩
    refine .inr ⟨⟨ho, hat, hw, fun i hi => by rw [hvown i hi]; exact h.own i hi, ?_, htop, h.len, by have := h.nK; omega, by omega⟩, hex⟩
    obtain ⟨i0, hi0, hne⟩ := hex
    by_cases hz : (slotV d' p (1 - which)).1 = 0
    · rw [hz]; have := h.oth; omega
    · have hwh := rdF_of hz
      have hold : ∀ i : Nat, i < 10 → viewD d' p ((1 - which) * 10 + i) = viewD d p ((1 - which) * 10 + i) := by
        obtain ⟨s0, hs0, hc0⟩ := hwh i0 hi0
        have hlt : (rdF (viewD d' (p + (((1 - which) * 10 : Nat) : Int)))).1 < nextF d p := by
          rw [← hc0]
          rw [view_add] at hs0
          rcases hin i0 hi0 with h1 | h1 | h1
          · rw [hqi] at h1
            rw [view_same h.off ho (by omega) h1] at hs0
            exact hn3 _ _ (by omega) hs0
          · exact absurd h1 hne
          · rw [hqi] at h1
            rw [view_on ho (by omega), if_pos h1] at hs0
            cases hs0
        intro i hi
        obtain ⟨s, hs, hc⟩ := hwh i hi
        rw [view_add] at hs
        rcases hin i hi with h1 | h1 | h1
        · rw [hqi] at h1
          exact view_same h.off ho (by omega) h1
        · rw [hqi] at h1
          rw [view_is ho (by omega) h1] at hs
          cases hs
          rw [cntB_secB hn64] at hc
          omega
        · rw [hqi] at h1
          rw [view_on ho (by omega), if_pos h1] at hs
          cases hs
      rw [slotV_ext hold]
      exact h.oth
end
/-- Put, then the power: the cell has what was put, or what it had. -/
theorem put_power {d : DS} {p : Int} {which n : Nat} {has : List UInt8} {K : Nat} (hC : Calm d) (h : CellSt d p which n has K) (hK : K + 2 < 2 ^ 64) (f : Int) {b : List UInt8} (hb : b.length ≤ 1100) (ps : List UInt8) :
    ((ptF (fuseD d f) p which b).2 = 0 ∨ (ptF (fuseD d f) p which b).2 = 8) ∧ Calm (onAll (offD (ptF (fuseD d f) p which b).1) ps) ∧
    (CellSt (onAll (offD (ptF (fuseD d f) p which b).1) ps) p (1 - which) (nextF d p) b (K + 1) ∨ ((ptF (fuseD d f) p which b).2 = 8 ∧ CellSt (onAll (offD (ptF (fuseD d f) p which b).1) ps) p which n has (K + 1))) := by
  obtain ⟨h1, h2, h3, h4, h5⟩ := ptF_power hC f (p := p) h.at_ h.wh (b := b) ps _ rfl
  refine ⟨h1, h2, ?_⟩
  rcases h.torn h2.off hb _ rfl h3 h4 hK with ⟨k, _⟩ | ⟨k, i, hi, hne⟩
  · exact .inl k
  · rcases h1 with h1 | h1
    · exact absurd (h5 h1 i hi) hne
    · exact .inr ⟨h1, k⟩
/-- The writes of a slot, where no fuse burns. -/
theorem wrS_calm {d : DS} {p : Int} {c : Nat} {b : List UInt8} (hp : 0 ≤ p ∧ p + 10 ≤ 32768) (ho : d.off = false) (hf : d.fuse = -1) :
    (wrS d p c b 10).2 = 0 ∧ Wr d (wrS d p c b 10).1 p c b 10 ∧ (wrS d p c b 10).1.off = false ∧ (wrS d p c b 10).1.fuse = -1 := by
  obtain ⟨m, hm, hW, h0, h8⟩ := wrS_eff (c := c) (b := b) hp ho (by omega) 10 (Nat.le_refl _)
  by_cases he : (wrS d p c b 10).2 = 0
  · obtain ⟨rfl, h1, h2⟩ := h0 he
    exact ⟨he, hW, h1, by omega⟩
  · have := h8 he
    omega
theorem put_calm {d : DS} {p : Int} {which n : Nat} {has : List UInt8} {K : Nat} (hf : d.fuse = -1) (h : CellSt d p which n has K) (hK : K + 2 < 2 ^ 64) {b : List UInt8} (hb : b.length ≤ 1100) :
    (ptF d p which b).2 = 0 ∧ (ptF d p which b).1.off = false ∧ (ptF d p which b).1.fuse = -1 ∧ (ptF d p which b).1.loose = [] ∧ CellSt (ptF d p which b).1 p (1 - which) (nextF d p) b (K + 1) ∧
    (∀ a, (ptF d p which b).1.now a = nowW d.now (p + ((1 - which : Nat) : Int) * 10) (nextF d p) b 10 a) := by
  have hw := h.wh
  have hat := h.at_
  obtain ⟨q, hq⟩ : ∃ q, p + ((1 - which : Nat) : Int) * 10 = q := ⟨_, rfl⟩
  obtain ⟨h0, hW, ho1, hf1⟩ := wrS_calm (c := nextF d p) (b := b) (p := q) (by omega) h.off hf
  obtain ⟨s1, s2⟩ := syncAll_on ho1 hf1
  have he : ptF d p which b = (syncD (wrS d q (nextF d p) b 10).1, 0) := by rw [ptF, hq, if_pos h0, s1, s2]
  rw [he, hq]
  have hnow : ∀ a, (syncD (wrS d q (nextF d p) b 10).1).now a = nowW d.now q (nextF d p) b 10 a := hW.now
  refine ⟨rfl, ho1, hf1, rfl, ?_, hnow⟩
  rcases h.torn (d' := syncD (wrS d q (nextF d p) b 10).1) ho1 hb q hq.symm (fun a ha => by rw [hnow, nowW_out _ _ _ _ (by omega)]) (fun i hi => .inr (.inl (by rw [hnow, nowW_in _ _ _ _ hi]))) hK with ⟨k, _⟩ | ⟨_, i, hi, hne⟩
  · exact k
  · exact absurd (by rw [hnow, nowW_in _ _ _ _ hi]) hne
/-- Format, where no fuse burns. -/
theorem format_calm {d : DS} {p : Int} (hp : 0 ≤ p ∧ p + 20 ≤ 32768) (ho : d.off = false) (hf : d.fuse = -1) :
    (fmF d p).2 = 0 ∧ (fmF d p).1.off = false ∧ (fmF d p).1.fuse = -1 ∧ (fmF d p).1.loose = [] ∧ CellSt (fmF d p).1 p 0 2 [] 2 ∧ (∀ a, ¬ (p ≤ a ∧ a < p + 20) → (fmF d p).1.now a = d.now a) ∧
    ((∀ a, d.sure a = d.now a ∨ (d.loose.any fun x => decide (x.1 = a)) = true) → ∀ a, (fmF d p).1.sure a = (fmF d p).1.now a) := by
  obtain ⟨h0, hW, ho1, hf1⟩ := wrS_calm (c := 2) (b := []) (p := p) (by omega) ho hf
  obtain ⟨h2, hW2, ho2, hf2⟩ := wrS_calm (c := 1) (b := []) (p := p + 10) (d := (wrS d p 2 [] 10).1) (by omega) ho1 hf1
  obtain ⟨s1, s2⟩ := syncAll_on ho2 hf2
  have he : fmF d p = (syncD (wrS (wrS d p 2 [] 10).1 (p + 10) 1 [] 10).1, 0) := by rw [fmF, if_pos h0, if_pos h2, s1, s2]
  rw [he]
  generalize (wrS (wrS d p 2 [] 10).1 (p + 10) 1 [] 10).1 = d2 at *
  generalize (wrS d p 2 [] 10).1 = d1 at *
  have hnow : ∀ a, (syncD d2).now a = nowW (nowW d.now p 2 [] 10) (p + 10) 1 [] 10 a := fun a => by
    show d2.now a = _
    rw [hW2.now]
    unfold nowW
    split
    · rfl
    · rw [hW.now]; rfl
  have hn0 : ∀ i : Nat, i < 10 → (syncD d2).now (p + (i : Int)) = ⟨secB 2 [] i, false⟩ := fun i hi => by
    rw [hnow, nowW_out _ _ _ _ (by omega), nowW_in _ _ _ _ hi]
  have hn1 : ∀ i : Nat, i < 10 → (syncD d2).now (p + ((10 + i : Nat) : Int)) = ⟨secB 1 [] i, false⟩ := fun i hi => by
    rw [hnow, show p + ((10 + i : Nat) : Int) = p + 10 + (i : Int) by omega, nowW_in _ _ _ _ hi]
  have hoff : (syncD d2).off = false := ho2
  refine ⟨rfl, ho2, hf2, rfl, ⟨hoff, hp, by omega, fun i hi => ?_, ?_, fun i s hi hs => ?_, by simp, by omega, by omega⟩, fun a ha => by rw [hnow, nowW_out _ _ _ _ (by omega), nowW_out _ _ _ _ (by omega)], ?_⟩
  · rw [Nat.zero_mul, Nat.zero_add]
    exact view_is hoff (by omega) (hn0 i hi)
  · have : slotV (syncD d2) p 1 = (1, []) := rdF_full (by omega) (by simp) fun i hi => by rw [view_add]; exact view_is hoff (by omega) (hn1 i hi)
    rw [this]
    decide
  · by_cases h10 : i < 10
    · rw [view_is hoff (by omega) (hn0 i h10)] at hs
      cases hs
      rw [cntB_secB (by omega)]; omega
    · obtain ⟨j, hj, rfl⟩ : ∃ j, j < 10 ∧ i = 10 + j := ⟨i - 10, by omega, by omega⟩
      rw [view_is hoff (by omega) (hn1 j hj)] at hs
      cases hs
      rw [cntB_secB (by omega)]; omega
  · intro hs a
    show syncF d2.now d2.loose d2.sure a = d2.now a
    rw [syncF_at]
    split
    · rfl
    · next hc =>
      rw [hW2.loose, hW.loose, List.any_append, List.any_append, Bool.or_eq_true, Bool.or_eq_true, wlist_any, wlist_any] at hc
      rw [hW2.sure, hW.sure, hW2.now, nowW_out _ _ _ _ (fun q => hc (.inr q)), hW.now, nowW_out _ _ _ _ (fun q => hc (.inl (.inr q)))]
      rcases hs a with h1 | h1
      · exact h1
      · exact absurd (.inl (.inl h1)) hc
end Go.Proofs.Ytmjdfajdompkeaa
