/- cell: what a cell is on the disk, kept by Format, Put, the power. -/
import Derived.Test.YtmjdfajdompkeaaKq7
import Derived.RangeFuncNested
import Derived.RangeFuncBound
import Derived.RangeFuncCalls
import Derived.RangeFuncLeaves
import Derived.OwnWalkIn
import Derived.TacticsInMore
import Derived.LoopNIn
import Derived.LoopIn
import Derived.Shelf.Abstract
import Derived.Shelf.RegionOpen
namespace Go.Proofs.Ytmjdfajdompkeaa
open Go.RowKit Go.Rat
theorem view_on {d : DS} (ho : d.off = false) {p : Int} {i : Nat} (hp : 0 ≤ p + (i : Int) ∧ p + (i : Int) < 32768) : viewD d p i = if (d.now (p + (i : Int))).lost = true then none else some (d.now (p + (i : Int))).b := by
  have hr : readyE d.off (p + (i : Int)) = 0 := by rw [ho]; exact readyE_ok hp
  rw [viewD, readE, if_pos hr, readB]
  by_cases hl : (d.now (p + (i : Int))).lost = true
  · rw [if_pos hl, if_pos hl, if_neg (by decide)]
  · have hl' : (d.now (p + (i : Int))).lost = false := by simpa using hl
    rw [if_neg hl, if_neg hl, if_pos rfl, if_pos ⟨hr, hl'⟩]
theorem view_same {d d' : DS} (ho : d.off = false) (ho' : d'.off = false) {p : Int} {i : Nat} (hp : 0 ≤ p + (i : Int) ∧ p + (i : Int) < 32768) (h : d'.now (p + (i : Int)) = d.now (p + (i : Int))) : viewD d' p i = viewD d p i := by
  rw [view_on ho hp, view_on ho' hp, h]
theorem view_is {d : DS} (ho : d.off = false) {p : Int} {i : Nat} (hp : 0 ≤ p + (i : Int) ∧ p + (i : Int) < 32768) {b : List UInt8} (h : d.now (p + (i : Int)) = ⟨b, false⟩) : viewD d p i = some b := by
  rw [view_on ho hp, h]; rfl
theorem view_add (d : DS) (p : Int) (j i : Nat) : viewD d (p + (j : Int)) i = viewD d p (j + i) := by
  rw [viewD, viewD, show p + (j : Int) + (i : Int) = p + ((j + i : Nat) : Int) by omega]
/-- The slots' counts and bytes. -/
def slotV (d : DS) (p : Int) (s : Nat) : Nat × List UInt8 := rdF (viewD d (p + ((s * 10 : Nat) : Int)))
def opE (d : DS) (p : Int) : Int := if d.off = true then 8 else if (slotV d p 0).1 = 0 ∧ (slotV d p 1).1 = 0 then 9 else 0
def opF (d : DS) (p : Int) : Nat × List UInt8 := if (slotV d p 0).1 < (slotV d p 1).1 then (1, (slotV d p 1).2) else (0, (slotV d p 0).2)
theorem slotV_ext {d d' : DS} {p : Int} {s : Nat} (h : ∀ i : Nat, i < 10 → viewD d' p (s * 10 + i) = viewD d p (s * 10 + i)) : slotV d' p s = slotV d p s :=
  rdF_ext fun i hi => by rw [view_add, view_add]; exact h i hi
structure CellSt (d : DS) (p : Int) (which n : Nat) (has : List UInt8) (K : Nat) : Prop where
  off : d.off = false
  at_ : 0 ≤ p ∧ p + 20 ≤ 32768
  wh : which ≤ 1
  own : ∀ i, i < 10 → viewD d p (which * 10 + i) = some (secB n has i)
  oth : (slotV d p (1 - which)).1 < n
  top : ∀ i s, i < 20 → viewD d p i = some s → cntB s ≤ K
  len : has.length ≤ 1100
  nK : n ≤ K
  K64 : K + 1 < 2 ^ 64
section
variable {d d' : DS} {p : Int} {which n : Nat} {has : List UInt8} {K : Nat}
theorem CellSt.slot (h : CellSt d p which n has K) : slotV d p which = (n, has) :=
  rdF_full (by have := h.nK; have := h.K64; omega) h.len fun i hi => by rw [view_add]; exact h.own i hi
theorem CellSt.open_ (h : CellSt d p which n has K) : opE d p = 0 ∧ opF d p = (which, has) := by
  have hs := h.slot
  have ho := h.oth
  have hw := h.wh
  rw [opE, opF, h.off, if_neg (by decide)]
  by_cases e : which = 0
  · subst e
    have ho : (slotV d p 1).1 < n := ho
    rw [hs]
    simp only
    exact ⟨by rw [if_neg (by omega)], by rw [if_neg (by omega)]⟩
  · obtain rfl : which = 1 := by omega
    have ho : (slotV d p 0).1 < n := ho
    rw [hs]
    simp only
    exact ⟨by rw [if_neg (by omega)], by rw [if_pos (by omega)]⟩
theorem CellSt.keep (h : CellSt d p which n has K) (ho : d'.off = false) (hn : ∀ a, p ≤ a → a < p + 20 → d'.now a = d.now a) : CellSt d' p which n has K := by
  have hv : ∀ i : Nat, i < 20 → viewD d' p i = viewD d p i := fun i hi => view_same h.off ho (by have := h.at_; omega) (hn _ (by omega) (by omega))
  have hw := h.wh
  refine ⟨ho, h.at_, hw, fun i hi => by rw [hv _ (by omega)]; exact h.own i hi, ?_, fun i s hi hs => h.top i s hi (by rw [← hv i hi]; exact hs), h.len, h.nK, h.K64⟩
  rw [slotV_ext (d := d) fun i hi => hv _ (by omega)]
  exact h.oth
theorem CellSt.up (h : CellSt d p which n has K) {K' : Nat} (hk : K ≤ K') (h6 : K' + 1 < 2 ^ 64) : CellSt d p which n has K' :=
  ⟨h.off, h.at_, h.wh, h.own, h.oth, fun i s hi hs => Nat.le_trans (h.top i s hi hs) hk, h.len, Nat.le_trans h.nK hk, h6⟩
theorem CellSt.next (h : CellSt d p which n has K) : n < nextF d p ∧ nextF d p ≤ K + 1 ∧ ∀ i s, i < 20 → viewD d p i = some s → cntB s < nextF d p := by
  have hw := h.wh
  have h1 := topF_le (viewD d p) K 20 h.top
  have h2 := h.K64
  have he : nextF d p = topF (viewD d p) 20 + 1 := by rw [nextF, Nat.mod_eq_of_lt (by omega)]
  have h3 : ∀ i s, i < 20 → viewD d p i = some s → cntB s < nextF d p := fun i s hi hs => by
    have := topF_ge (viewD d p) 20 i s hi hs
    omega
  refine ⟨?_, by omega, h3⟩
  have := h3 _ _ (by omega) (h.own 0 (by omega))
  rwa [cntB_secB (by have := h.nK; omega)] at this
/-- The other slot turned: each of its sectors is as it was, or new, or lost. -/
theorem CellSt.torn (h : CellSt d p which n has K) (ho : d'.off = false) {b : List UInt8} (hb : b.length ≤ 1100) (q : Int) (hq : q = p + ((1 - which : Nat) : Int) * 10)
    (hout : ∀ a, ¬ (q ≤ a ∧ a < q + 10) → d'.now a = d.now a)
    (hin : ∀ i : Nat, i < 10 → d'.now (q + (i : Int)) = d.now (q + (i : Int)) ∨ d'.now (q + (i : Int)) = ⟨secB (nextF d p) b i, false⟩ ∨ (d'.now (q + (i : Int))).lost = true) (hK : K + 2 < 2 ^ 64) :
    (CellSt d' p (1 - which) (nextF d p) b (K + 1) ∧ (∀ i : Nat, i < 10 → d'.now (q + (i : Int)) = ⟨secB (nextF d p) b i, false⟩)) ∨
    (CellSt d' p which n has (K + 1) ∧ ∃ i : Nat, i < 10 ∧ d'.now (q + (i : Int)) ≠ ⟨secB (nextF d p) b i, false⟩) := by
  have hw := h.wh
  have hat := h.at_
  obtain ⟨hn1, hn2, hn3⟩ := h.next
  have hn64 : nextF d p < 2 ^ 64 := Nat.mod_lt _ (by omega)
  have hqi : ∀ i : Nat, q + (i : Int) = p + (((1 - which) * 10 + i : Nat) : Int) := fun i => by rw [hq]; omega
  have hvown : ∀ i : Nat, i < 10 → viewD d' p (which * 10 + i) = viewD d p (which * 10 + i) := fun i hi => view_same h.off ho (by omega) (hout _ (by omega))
  have htop : ∀ i s, i < 20 → viewD d' p i = some s → cntB s ≤ K + 1 := by
    intro i s hi hs
    by_cases hc : q ≤ p + (i : Int) ∧ p + (i : Int) < q + 10
    · obtain ⟨j, hj, hij⟩ : ∃ j : Nat, j < 10 ∧ q + (j : Int) = p + (i : Int) := ⟨i - (1 - which) * 10, by omega, by omega⟩
      rcases hin j hj with h1 | h1 | h1
      · rw [hij] at h1
        rw [view_same h.off ho (by omega) h1] at hs
        have := h.top i s hi hs
        omega
      · rw [hij] at h1
        rw [view_is ho (by omega) h1] at hs
        cases hs
        rw [cntB_secB hn64]; exact hn2
      · rw [hij] at h1
        rw [view_on ho (by omega), if_pos h1] at hs
        cases hs
    · rw [view_same h.off ho (by omega) (hout _ hc)] at hs
      have := h.top i s hi hs
      omega
  by_cases hall : ∀ i : Nat, i < 10 → d'.now (q + (i : Int)) = ⟨secB (nextF d p) b i, false⟩
  · refine .inl ⟨⟨ho, hat, by omega, fun i hi => ?_, ?_, htop, hb, hn2, by omega⟩, hall⟩
    · exact view_is ho (by omega) (by rw [← hqi]; exact hall i hi)
    · rw [show 1 - (1 - which) = which by omega, slotV_ext (d := d) hvown, h.slot]
      exact hn1
  · have hex : ∃ i : Nat, i < 10 ∧ d'.now (q + (i : Int)) ≠ ⟨secB (nextF d p) b i, false⟩ := by
      refine Classical.byContradiction fun hc => hall fun i hi => Classical.byContradiction fun h1 => hc ⟨i, hi, h1⟩
    refine .inr ⟨⟨ho, hat, hw, fun i hi => by rw [hvown i hi]; exact h.own i hi, ?_, htop, h.len, by have := h.nK; omega, by omega⟩, hex⟩
    obtain ⟨i0, hi0, hne⟩ := hex
    by_cases hz : (slotV d' p (1 - which)).1 = 0
    · rw [hz]; have := h.oth; omega
    · have hwh := rdF_of hz
      have hold : ∀ i : Nat, i < 10 → viewD d' p ((1 - which) * 10 + i) = viewD d p ((1 - which) * 10 + i) := by
        obtain ⟨s0, hs0, hc0⟩ := hwh i0 hi0
        have hlt : (rdF (viewD d' (p + (((1 - which) * 10 : Nat) : Int)))).1 < nextF d p := by
          rw [← hc0]
          rw [view_add] at hs0
          rcases hin i0 hi0 with h1 | h1 | h1
          · rw [hqi] at h1
            rw [view_same h.off ho (by omega) h1] at hs0
            exact hn3 _ _ (by omega) hs0
          · exact absurd h1 hne
          · rw [hqi] at h1
            rw [view_on ho (by omega), if_pos h1] at hs0
            cases hs0
        intro i hi
        obtain ⟨s, hs, hc⟩ := hwh i hi
        rw [view_add] at hs
        rcases hin i hi with h1 | h1 | h1
        · rw [hqi] at h1
          exact view_same h.off ho (by omega) h1
        · rw [hqi] at h1
          rw [view_is ho (by omega) h1] at hs
          cases hs
          rw [cntB_secB hn64] at hc
          omega
        · rw [hqi] at h1
          rw [view_on ho (by omega), if_pos h1] at hs
          cases hs
      rw [slotV_ext hold]
      exact h.oth
end
/-- Put, then the power: the cell has what was put, or what it had. -/
theorem put_power {d : DS} {p : Int} {which n : Nat} {has : List UInt8} {K : Nat} (hC : Calm d) (h : CellSt d p which n has K) (hK : K + 2 < 2 ^ 64) (f : Int) {b : List UInt8} (hb : b.length ≤ 1100) (ps : List UInt8) :
    ((ptF (fuseD d f) p which b).2 = 0 ∨ (ptF (fuseD d f) p which b).2 = 8) ∧ Calm (onAll (offD (ptF (fuseD d f) p which b).1) ps) ∧
    (CellSt (onAll (offD (ptF (fuseD d f) p which b).1) ps) p (1 - which) (nextF d p) b (K + 1) ∨ ((ptF (fuseD d f) p which b).2 = 8 ∧ CellSt (onAll (offD (ptF (fuseD d f) p which b).1) ps) p which n has (K + 1))) := by
  obtain ⟨h1, h2, h3, h4, h5⟩ := ptF_power hC f (p := p) h.at_ h.wh (b := b) ps _ rfl
  refine ⟨h1, h2, ?_⟩
  rcases h.torn h2.off hb _ rfl h3 h4 hK with ⟨k, _⟩ | ⟨k, i, hi, hne⟩
  · exact .inl k
  · rcases h1 with h1 | h1
    · exact absurd (h5 h1 i hi) hne
    · exact .inr ⟨h1, k⟩
/-- The writes of a slot, where no fuse burns. -/
theorem wrS_calm {d : DS} {p : Int} {c : Nat} {b : List UInt8} (hp : 0 ≤ p ∧ p + 10 ≤ 32768) (ho : d.off = false) (hf : d.fuse = -1) :
    (wrS d p c b 10).2 = 0 ∧ Wr d (wrS d p c b 10).1 p c b 10 ∧ (wrS d p c b 10).1.off = false ∧ (wrS d p c b 10).1.fuse = -1 := by
  obtain ⟨m, hm, hW, h0, h8⟩ := wrS_eff (c := c) (b := b) hp ho (by omega) 10 (Nat.le_refl _)
  by_cases he : (wrS d p c b 10).2 = 0
  · obtain ⟨rfl, h1, h2⟩ := h0 he
    exact ⟨he, hW, h1, by omega⟩
  · have := h8 he
    omega
theorem put_calm {d : DS} {p : Int} {which n : Nat} {has : List UInt8} {K : Nat} (hf : d.fuse = -1) (h : CellSt d p which n has K) (hK : K + 2 < 2 ^ 64) {b : List UInt8} (hb : b.length ≤ 1100) :
    (ptF d p which b).2 = 0 ∧ (ptF d p which b).1.off = false ∧ (ptF d p which b).1.fuse = -1 ∧ (ptF d p which b).1.loose = [] ∧ CellSt (ptF d p which b).1 p (1 - which) (nextF d p) b (K + 1) ∧
    (∀ a, (ptF d p which b).1.now a = nowW d.now (p + ((1 - which : Nat) : Int) * 10) (nextF d p) b 10 a) := by
  have hw := h.wh
  have hat := h.at_
  obtain ⟨q, hq⟩ : ∃ q, p + ((1 - which : Nat) : Int) * 10 = q := ⟨_, rfl⟩
  obtain ⟨h0, hW, ho1, hf1⟩ := wrS_calm (c := nextF d p) (b := b) (p := q) (by omega) h.off hf
  obtain ⟨s1, s2⟩ := syncAll_on ho1 hf1
  have he : ptF d p which b = (syncD (wrS d q (nextF d p) b 10).1, 0) := by rw [ptF, hq, if_pos h0, s1, s2]
  rw [he, hq]
  have hnow : ∀ a, (syncD (wrS d q (nextF d p) b 10).1).now a = nowW d.now q (nextF d p) b 10 a := hW.now
  refine ⟨rfl, ho1, hf1, rfl, ?_, hnow⟩
  rcases h.torn (d' := syncD (wrS d q (nextF d p) b 10).1) ho1 hb q hq.symm (fun a ha => by rw [hnow, nowW_out _ _ _ _ (by omega)]) (fun i hi => .inr (.inl (by rw [hnow, nowW_in _ _ _ _ hi]))) hK with ⟨k, _⟩ | ⟨_, i, hi, hne⟩
  · exact k
  · exact absurd (by rw [hnow, nowW_in _ _ _ _ hi]) hne
/-- Format, where no fuse burns. -/
theorem format_calm {d : DS} {p : Int} (hp : 0 ≤ p ∧ p + 20 ≤ 32768) (ho : d.off = false) (hf : d.fuse = -1) :
    (fmF d p).2 = 0 ∧ (fmF d p).1.off = false ∧ (fmF d p).1.fuse = -1 ∧ (fmF d p).1.loose = [] ∧ CellSt (fmF d p).1 p 0 2 [] 2 ∧ (∀ a, ¬ (p ≤ a ∧ a < p + 20) → (fmF d p).1.now a = d.now a) ∧
    ((∀ a, d.sure a = d.now a ∨ (d.loose.any fun x => decide (x.1 = a)) = true) → ∀ a, (fmF d p).1.sure a = (fmF d p).1.now a) := by
  obtain ⟨h0, hW, ho1, hf1⟩ := wrS_calm (c := 2) (b := []) (p := p) (by omega) ho hf
  obtain ⟨h2, hW2, ho2, hf2⟩ := wrS_calm (c := 1) (b := []) (p := p + 10) (d := (wrS d p 2 [] 10).1) (by omega) ho1 hf1
  obtain ⟨s1, s2⟩ := syncAll_on ho2 hf2
  have he : fmF d p = (syncD (wrS (wrS d p 2 [] 10).1 (p + 10) 1 [] 10).1, 0) := by rw [fmF, if_pos h0, if_pos h2, s1, s2]
  rw [he]
  generalize (wrS (wrS d p 2 [] 10).1 (p + 10) 1 [] 10).1 = d2 at *
  generalize (wrS d p 2 [] 10).1 = d1 at *
  have hnow : ∀ a, (syncD d2).now a = nowW (nowW d.now p 2 [] 10) (p + 10) 1 [] 10 a := fun a => by
    show d2.now a = _
    rw [hW2.now]
    unfold nowW
    split
    · rfl
    · rw [hW.now]; rfl
  have hn0 : ∀ i : Nat, i < 10 → (syncD d2).now (p + (i : Int)) = ⟨secB 2 [] i, false⟩ := fun i hi => by
    rw [hnow, nowW_out _ _ _ _ (by omega), nowW_in _ _ _ _ hi]
  have hn1 : ∀ i : Nat, i < 10 → (syncD d2).now (p + ((10 + i : Nat) : Int)) = ⟨secB 1 [] i, false⟩ := fun i hi => by
    rw [hnow, show p + ((10 + i : Nat) : Int) = p + 10 + (i : Int) by omega, nowW_in _ _ _ _ hi]
  have hoff : (syncD d2).off = false := ho2
  refine ⟨rfl, ho2, hf2, rfl, ⟨hoff, hp, by omega, fun i hi => ?_, ?_, fun i s hi hs => ?_, by simp, by omega, by omega⟩, fun a ha => by rw [hnow, nowW_out _ _ _ _ (by omega), nowW_out _ _ _ _ (by omega)], ?_⟩
  · rw [Nat.zero_mul, Nat.zero_add]
    exact view_is hoff (by omega) (hn0 i hi)
  · have : slotV (syncD d2) p 1 = (1, []) := rdF_full (by omega) (by simp) fun i hi => by rw [view_add]; exact view_is hoff (by omega) (hn1 i hi)
    rw [this]
    decide
  · by_cases h10 : i < 10
    · rw [view_is hoff (by omega) (hn0 i h10)] at hs
      cases hs
      rw [cntB_secB (by omega)]; omega
    · obtain ⟨j, hj, rfl⟩ : ∃ j, j < 10 ∧ i = 10 + j := ⟨i - 10, by omega, by omega⟩
      rw [view_is hoff (by omega) (hn1 j hj)] at hs
      cases hs
      rw [cntB_secB (by omega)]; omega
  · intro hs a
    show syncF d2.now d2.loose d2.sure a = d2.now a
    rw [syncF_at]
    split
    · rfl
    · next hc =>
      rw [hW2.loose, hW.loose, List.any_append, List.any_append, Bool.or_eq_true, Bool.or_eq_true, wlist_any, wlist_any] at hc
      rw [hW2.sure, hW.sure, hW2.now, nowW_out _ _ _ _ (fun q => hc (.inr q)), hW.now, nowW_out _ _ _ _ (fun q => hc (.inl (.inr q)))]
      rcases hs a with h1 | h1
      · exact h1
      · exact absurd (.inl (.inl h1)) hc
end Go.Proofs.Ytmjdfajdompkeaa
namespace Go.Proofs.Ytmjdfajdompkeaa
open Go.RowKit Go.Rat
/-- A cut at block g (of type T) has the bytes xs left; bad: it is spoilt; its bytes lie in block gb. -/
def CutAt (w : World) (g : Nat) (T : TypeId) (gb : Option Nat) (xs : List UInt8) (bad : Bool) : Prop :=
  ∃ A n c, Blk w g T #[.slice A n c, .bool bad] ∧ RB w A n xs ∧ n ≤ c ∧ c ≤ 9223372036854775807 ∧ A.map (·.block) = gb ∧ gb ≠ some g
theorem CutAt.grown {w w' : World} {g : Nat} {T : TypeId} {gb : Option Nat} {xs : List UInt8} {bad : Bool} {row : Option Nat} (h : CutAt w g T gb xs bad) (hg : w.grownBy w' row) (h1 : some g ≠ row) (h2 : gb ≠ row ∨ row = none) : CutAt w' g T gb xs bad := by
  obtain ⟨A, n, c, hB, hR, h3, h4, h5, h6⟩ := h
  exact ⟨A, n, c, hB.grown hg h1, hR.grown hg (by rw [h5]; exact h2), h3, h4, h5, h6⟩

/-- What is taken: the bytes, those that are left, whether it is spoilt. -/
def takeF (xs : List UInt8) (bad : Bool) (k : Int) : List UInt8 × List UInt8 × Bool :=
  if bad = true ∨ k < 0 ∨ (xs.length : Int) < k then ([], xs, true) else (xs.take k.toNat, xs.drop k.toNat, false)
theorem takeF_bad {xs : List UInt8} {bad : Bool} {k : Int} (h : bad = true ∨ k < 0 ∨ (xs.length : Int) < k) : takeF xs bad k = ([], xs, true) := if_pos h
theorem takeF_ok {xs : List UInt8} {k : Nat} (h : k ≤ xs.length) : takeF xs false (k : Int) = (xs.take k, xs.drop k, false) := by
  unfold takeF
  rw [if_neg (by simp; omega)]
  rfl

set_option maxHeartbeats 1000000 in
theorem take_any (w : World) (g : Nat) (gb : Option Nat) (xs : List UInt8) (bad : Bool) (k : Int) (hC : CutAt w g 168 gb xs bad) :
    Calls Try.prog 101 #[.pointer (some ⟨g, 0, none⟩), .int .i64 k] w fun e w' => ∃ A' N' c', e = .returned (.slice A' N' c') ∧ RB w' A' N' (takeF xs bad k).1 ∧ N' ≤ c' ∧ c' ≤ 9223372036854775807 ∧ (A' = none ∨ A'.map (·.block) = gb) ∧
      CutAt w' g 168 gb (takeF xs bad k).2.1 (takeF xs bad k).2.2 ∧ w.grownBy w' (some g) := by
  obtain ⟨A, n, c, hB, hR, hnc, hc, hgb, hne⟩ := hC
  have h0 := hB.cell 0
  have h1 := hB.cell 1
  have f0 := hB.frozen 0
  have f1 := hB.frozen 1
  simp at h0 h1
  have hl := hR.len
  by_cases hbad : bad = true ∨ k < 0 ∨ (xs.length : Int) < k
  · rw [takeF_bad hbad]
    have fin : ∀ b, b = true → ∃ A' N' c', Ending.returned (.slice none 0 0) = .returned (.slice A' N' c') ∧ RB (w.setCell ⟨g, 1, none⟩ (.bool b)) A' N' [] ∧ N' ≤ c' ∧ c' ≤ 9223372036854775807 ∧ (A' = none ∨ A'.map (·.block) = gb) ∧
        CutAt (w.setCell ⟨g, 1, none⟩ (.bool b)) g 168 gb xs true ∧ w.grownBy (w.setCell ⟨g, 1, none⟩ (.bool b)) (some g) := by
      rintro b rfl
      exact ⟨none, 0, 0, rfl, RB.nil_ _ _, Nat.le_refl _, by omega, .inl rfl, ⟨A, n, c, hB.set_ 1 _, hR.grown (grownBy_set w g 1 _) (.inl (by rw [hgb]; exact hne)), hnc, hc, hgb, hne⟩, grownBy_set w g 1 _⟩
    have FIN := Lib.hid fin
    clear fin hB hR hne hgb
    cases bad with
    | true =>
      go_enter Try.func101, Try.ntmps101
      go_wp2_with fail
      go_ret
      exact FIN.out _ rfl
    | false =>
      simp at hbad
      by_cases hk : k < 0
      · have hk' : decide (k < 0) = true := by simpa using hk
        go_enter Try.func101, Try.ntmps101
        go_wp2_with fail
        go_ret
        exact FIN.out _ rfl
      · have hk' : decide (k < 0) = false := by simpa using hk
        have hk2 : decide ((n : Int) < k) = true := by simp; omega
        go_enter Try.func101, Try.ntmps101
        go_wp2_with fail
        go_ret
        exact FIN.out _ rfl
  · obtain rfl : bad = false := by cases bad <;> simp_all
    obtain ⟨m, rfl⟩ := Int.eq_ofNat_of_zero_le (show 0 ≤ k by omega)
    have hm : m ≤ xs.length := by omega
    rw [takeF_ok hm]
    have hk' : decide ((m : Int) < 0) = false := by simp
    have hk2 : decide ((n : Int) < (m : Int)) = false := by simp; omega
    have hmn : m ≤ n := by omega
    have fin : ∀ A2 n2 c2, A2 = (if c = m then A else A.map (·.add m)) → n2 = n - m → c2 = c - m → ∃ A' N' c', Ending.returned (.slice A m c) = .returned (.slice A' N' c') ∧ RB ((w.setCell ⟨g, 1, none⟩ (.bool false)).setCell ⟨g, 0, none⟩ (.slice A2 n2 c2)) A' N' (xs.take m) ∧ N' ≤ c' ∧ c' ≤ 9223372036854775807 ∧ (A' = none ∨ A'.map (·.block) = gb) ∧
        CutAt ((w.setCell ⟨g, 1, none⟩ (.bool false)).setCell ⟨g, 0, none⟩ (.slice A2 n2 c2)) g 168 gb (xs.drop m) false ∧ w.grownBy ((w.setCell ⟨g, 1, none⟩ (.bool false)).setCell ⟨g, 0, none⟩ (.slice A2 n2 c2)) (some g) := by
      rintro A2 n2 c2 rfl rfl rfl
      have hg := (grownBy_set w g 1 (.bool false)).trans (grownBy_set (w.setCell ⟨g, 1, none⟩ (.bool false)) g 0 (.slice (if c = m then A else A.map (·.add m)) (n - m) (c - m)))
      have hRA := hR.grown hg (.inl (by rw [hgb]; exact hne))
      have hcut := Reads.cut hRA (k := m) (cap := c) hmn hnc
      have htk := Reads.take_ hRA (k := m) hmn
      simp only [Nat.mul_one] at hcut htk
      refine ⟨A, m, c, rfl, ?_, by omega, hc, .inr hgb, ⟨_, n - m, c - m, (hB.set_ 1 _).set_ 0 _, ?_, by omega, by omega, ?_, hne⟩, hg⟩
      · simpa [RB, bvs, List.map_take] using htk
      · simpa [RB, bvs, List.map_drop] using hcut
      · split
        · exact hgb
        · rw [← hgb]; cases A <;> simp [block_of_add]
    have FIN := Lib.hid fin
    clear fin hB hR hne hgb hbad
    by_cases hcm : c = m
    · subst hcm
      go_enter Try.func101, Try.ntmps101
      go_wp2_with fail
      go_ret
      exact FIN.out _ _ _ (by simp) (by omega) (by omega)
    · go_enter Try.func101, Try.ntmps101
      go_wp2_with fail
      go_ret
      exact FIN.out _ _ _ (by simp [hcm]) rfl rfl
theorem takeF_len (xs : List UInt8) (bad : Bool) (k : Int) : ((takeF xs bad k).1.length : Int) ≤ max k 0 := by
  unfold takeF
  split
  · simp; omega
  · simp; omega
theorem ret_int {k : IntKind} {a b : Int} (h : a = b) : Ending.returned (.int k a) = .returned (.int k b) := by rw [h]
theorem or_snoc64 (a : Nat) (b : UInt8) (ha : a < 72057594037927936) : bits .or .u64 (IntKind.u64.wrap ((a : Int) * 256)) (IntKind.u64.wrap (b.toNat : Int)) = ((a * 256 + b.toNat : Nat) : Int) := by
  have hb := b.toNat_lt
  rw [IntKind.wrap_u64, IntKind.wrap_u64, Int.emod_eq_of_lt (by omega) (by omega), Int.emod_eq_of_lt (by omega) (by omega)]
  rw [show (a : Int) * 256 = ((a * 256 : Nat) : Int) from by omega, u64_or_nat _ _ (by omega) (by omega)]
  have := Nat.shiftLeft_add_eq_or_of_lt (i := 8) (b := b.toNat) (by omega) a
  rw [Nat.shiftLeft_eq] at this
  rw [← this]
theorem num_next {ys : List UInt8} {j : Nat} (hj : j < ys.length) (h8 : j < 8) :
    Value.int .u64 (bits .or .u64 (IntKind.u64.wrap ((num (ys.take j) : Int) * 256)) (IntKind.u64.wrap ((ys.getD j 0).toNat : Int))) = .int .u64 (num (ys.take (j + 1)) : Int) := by
  have h : num (ys.take j) < 72057594037927936 := Nat.lt_of_lt_of_le (num_lt _) (Nat.le_trans (Nat.pow_le_pow_right (by omega) (show (ys.take j).length ≤ 7 by simp; omega)) (by decide))
  rw [or_snoc64 _ _ h, List.take_succ_eq_append_getElem hj, num_snoc]
  simp [List.getD_eq_getElem?_getD, List.getElem?_eq_getElem hj]

set_option maxHeartbeats 1000000 in
theorem sum_any (w : World) (g : Nat) (gb : Option Nat) (xs : List UInt8) (bad : Bool) (k : Int) (hC : CutAt w g 168 gb xs bad) (hk : 0 ≤ k) (hk8 : k ≤ 8) :
    Calls Try.prog 102 #[.func (.func 101) #[.pointer (some ⟨g, 0, none⟩)] #[], .int .i64 k] w fun e w' => e = .returned (.int .u64 (num (takeF xs bad k).1)) ∧
      CutAt w' g 168 gb (takeF xs bad k).2.1 (takeF xs bad k).2.2 ∧ w.grownBy w' (some g) := by
  have hyl := takeF_len xs bad k
  obtain ⟨ys, st, hF⟩ : ∃ ys st, takeF xs bad k = (ys, st) := ⟨_, _, rfl⟩
  rw [hF] at hyl ⊢
  have HF := Lib.hid hF
  clear hF
  go_enter Try.func102, Try.ntmps102
  go_wp2_with (go_at_call 101; refine (take_any w g gb xs bad k hC).mono ?_; rw [HF.out]; rintro e w1 ⟨A1, N1, c1, rfl, hR1, hn1, hc1, hgb1, hC1, hg1⟩)
  have hl := hR1.len
  go_loop [4, 6, 11] (fun n x i => ∃ j : Nat, j ≤ N1 ∧ i = .int .i64 j ∧ n = .int .u64 (num (ys.take j))) (fun _ _ i => N1 - (intOf i).toNat)
  case atStart => exact ⟨0, Nat.zero_le _, rfl, rfl⟩
  case round =>
    obtain ⟨j, hj, rfl, rfl⟩ := hrel
    by_cases hlt : j < N1
    · obtain ⟨ad, rfl, hb, hc⟩ := hR1.at_ hlt
      have HN := Lib.hid (num_next (ys := ys) (j := j) (by omega) (by omega))
      go_wp2_with fail
      exact ⟨⟨j + 1, by omega, by go_num, by rw [← HN.out]; simp [List.getD_eq_getElem?_getD, List.getElem?_eq_getElem (show j < ys.length by omega)]⟩, by simp [intOf]; omega⟩
    · obtain rfl : j = N1 := by omega
      go_wp2_with fail
      go_ret
      exact ⟨ret_int (by rw [List.take_of_length_le (by omega)]), hC1, hg1⟩

theorem takeF_len' (xs : List UInt8) (bad : Bool) (k : Nat) : (takeF xs bad k).1.length ≤ k := by have := takeF_len xs bad k; omega
set_option maxHeartbeats 400000 in
theorem cword_any (w : World) (g : Nat) (gb : Option Nat) (xs : List UInt8) (bad : Bool) (hC : CutAt w g 168 gb xs bad) :
    Calls Try.prog 100 #[.pointer (some ⟨g, 0, none⟩)] w fun e w' => e = .returned (.int .u64 (num (takeF xs bad 8).1)) ∧
      CutAt w' g 168 gb (takeF xs bad 8).2.1 (takeF xs bad 8).2.2 ∧ w.grownBy w' (some g) := by
  go_enter Try.func100, Try.ntmps100
  go_wp2_with (go_at_call 102; refine (sum_any w g gb xs bad 8 hC (by omega) (by omega)).mono ?_; rintro e w1 ⟨rfl, hC1, hg1⟩)
  go_ret
  exact ⟨rfl, hC1, hg1⟩
set_option maxHeartbeats 400000 in
theorem chalf_any (w : World) (g : Nat) (gb : Option Nat) (xs : List UInt8) (bad : Bool) (hC : CutAt w g 168 gb xs bad) :
    Calls Try.prog 85 #[.pointer (some ⟨g, 0, none⟩)] w fun e w' => e = .returned (.int .u16 (num (takeF xs bad 2).1)) ∧
      CutAt w' g 168 gb (takeF xs bad 2).2.1 (takeF xs bad 2).2.2 ∧ w.grownBy w' (some g) := by
  go_enter Try.func85, Try.ntmps85
  go_wp2_with (go_at_call 102; refine (sum_any w g gb xs bad 2 hC (by omega) (by omega)).mono ?_; rintro e w1 ⟨rfl, hC1, hg1⟩)
  go_ret
  exact ⟨ret_int (IntWalk.u16_in _ (by have h := num_lt16 (takeF_len' xs bad 2); change num (takeF xs bad 2).1 < _ at h; omega)), hC1, hg1⟩
theorem OB.blocks {e : TypeId} {w : World} {base n c : Nat} {A : Option Addr} {xs : List UInt8} (h : OB e w base A n c xs) : ∀ k, A.map (·.block) = some k → base ≤ k := fun k hk => (h.ge k hk).1
set_option maxHeartbeats 400000 in
theorem cnew_any (w : World) (A : Option Addr) (n c : Nat) (xs : List UInt8) (hr : RB w A n xs) (hn : n ≤ 140737488355328) :
    Calls Try.prog 84 #[.slice A n c] w fun e w' => ∃ g gb, e = .returned (.pointer (some ⟨g, 0, none⟩)) ∧ CutAt w' g 168 gb xs false ∧ w.heap.size ≤ g ∧ g < w'.heap.size ∧ (∀ k, gb = some k → w.heap.size ≤ k ∧ k < w'.heap.size) ∧ Below w.heap.size w w' := by
  go_enter Try.func84, Try.ntmps84
  go_wp2_with (go_at_call 66; refine (clone_any w A n c xs hr hn).mono ?_; rintro e w1 ⟨A1, c1, rfl, hO, hb1⟩)
  go_ret
  exact ⟨_, A1.map (·.block), rfl, ⟨A1, n, c1, Blk.new _ _ _, hO.reads.alloc _, hO.cap.1, hO.cap.2, rfl, fun h => by have := (hO.ge _ h).2; omega⟩, hb1.size, by simp, fun k hk => ⟨(hO.ge k hk).1, by have := (hO.ge k hk).2; simp; omega⟩, hb1.alloc hb1.size _⟩
theorem CutAt.open_ {w : World} {g : Nat} {T : TypeId} {gb : Option Nat} {xs : List UInt8} {bad : Bool} (h : CutAt w g T gb xs bad) : ∃ A n c, Blk w g T #[.slice A n c, .bool bad] ∧ RB w A n xs ∧ n ≤ c ∧ c ≤ 9223372036854775807 ∧ A.map (·.block) = gb ∧ gb ≠ some g ∧
    w.cell? ⟨g, 0, none⟩ = some (.slice A n c) ∧ w.cell? ⟨g, 1, none⟩ = some (.bool bad) ∧ w.frozen? ⟨g, 0, none⟩ = false ∧ w.frozen? ⟨g, 1, none⟩ = false := by
  obtain ⟨A, n, c, hB, h2, h3, h4, h5, h6⟩ := h
  exact ⟨A, n, c, hB, h2, h3, h4, h5, h6, by simpa using hB.cell 0, by simpa using hB.cell 1, hB.frozen 0, hB.frozen 1⟩
theorem takeF_length (xs : List UInt8) (bad : Bool) (k : Int) : (takeF xs bad k).1.length ≤ xs.length ∧ (takeF xs bad k).2.1.length ≤ xs.length := by
  unfold takeF
  split
  · simp
  · simp; omega
set_option maxHeartbeats 400000 in
theorem craw_any (w : World) (g : Nat) (gb : Option Nat) (xs : List UInt8) (bad : Bool) (k : Int) (hC : CutAt w g 168 gb xs bad) (hlen : xs.length ≤ 140737488355328) :
    Calls Try.prog 86 #[.pointer (some ⟨g, 0, none⟩), .int .i64 k] w fun e w' => ∃ A' N' c', e = .returned (.slice A' N' c') ∧ OB 5 w' w.heap.size A' N' c' (takeF xs bad k).1 ∧
      CutAt w' g 168 gb (takeF xs bad k).2.1 (takeF xs bad k).2.2 ∧ w.grownBy w' (some g) := by
  have hl := (takeF_length xs bad k).1
  go_enter Try.func86, Try.ntmps86
  go_wp2_with (first | (go_at_call 101; refine (take_any w g gb xs bad k hC).mono ?_; rintro e w1 ⟨A1, N1, c1, rfl, hR1, hn1, hc1, hgb1, hC1, hg1⟩) | (go_at_call 66; refine (clone_any w1 A1 N1 c1 _ hR1 (by have := hR1.len; omega)).mono ?_; rintro e w2 ⟨A2, c2, rfl, hO2, hb2⟩))
  go_ret
  have hg2 := grownBy_of_below hb2 none
  exact ⟨A2, N1, c2, rfl, hO2.mono hg1.size, hC1.grown hg2 (by simp) (.inr rfl), hg1.trans (grownBy_of_below hb2 _)⟩
set_option maxHeartbeats 400000 in
theorem cleft_any (w : World) (g : Nat) (gb : Option Nat) (xs : List UInt8) (bad : Bool) (hC : CutAt w g 168 gb xs bad) :
    Calls Try.prog 87 #[.pointer (some ⟨g, 0, none⟩)] w fun e w' => e = .returned (.int .i64 xs.length) ∧ w = w' := by
  obtain ⟨A, n, c, hB, hR, hnc, hcc, hgb, hne, h0, h1, f0, f1⟩ := hC.open_
  have hl := hR.len
  go_enter Try.func87, Try.ntmps87
  go_wp2_with fail
  go_ret
  exact ⟨ret_int (by omega), rfl⟩
set_option maxHeartbeats 400000 in
theorem cok_any (w : World) (g : Nat) (gb : Option Nat) (xs : List UInt8) (bad : Bool) (hC : CutAt w g 168 gb xs bad) :
    Calls Try.prog 88 #[.pointer (some ⟨g, 0, none⟩)] w fun e w' => e = .returned (.bool !bad) ∧ w = w' := by
  obtain ⟨A, n, c, hB, hR, hnc, hcc, hgb, hne, h0, h1, f0, f1⟩ := hC.open_
  go_enter Try.func88, Try.ntmps88
  go_wp2_with fail
  go_ret
  exact ⟨rfl, rfl⟩

set_option maxHeartbeats 400000 in
theorem put16_any (w : World) (A : Option Addr) (n c : Nat) (xs : List UInt8) (x : Nat) (hr : RB w A n xs) (hn : n ≤ 140737487000000) (_hx : x < 2 ^ 16) :
    Calls Try.prog 93 #[.slice A n c, .int .u16 x, .int .i64 2] w fun e w' => ∃ A' N' c', e = .returned (.slice A' N' c') ∧ OB 5 w' w.heap.size A' N' c' (xs ++ be 2 x) ∧ Below w.heap.size w w' := by
  have hxl := hr.len
  go_enter Try.func93, Try.ntmps93
  go_wp2_with (first | (go_at_call 66; refine (clone_any _ A n c xs hr (by omega)).mono ?_; rintro e w1 ⟨A1, c1, rfl, hO1, hb1⟩) | (go_at_call 106; refine (grow_any w1 w.heap.size A1 n c1 xs 2 hO1 hb1.size (by omega) (by omega) (by omega)).mono ?_; rintro e w2 ⟨A2, c2, rfl, hO2, hb2⟩))
  go_loopw [7, 8] (fun v i wr => ∃ (k : Nat) (A3 : Option Addr) (N3 c3 : Nat), k ≤ 2 ∧ i = .int .i64 (2 - 1 - (k : Int)) ∧ v = .slice A3 N3 c3 ∧ OB 5 wr w.heap.size A3 N3 c3 (xs ++ (be 2 x).take k) ∧ Below w.heap.size w wr) (fun _ i _ => (intOf i + 1).toNat)
  case atStart => exact ⟨0, A2, n, c2, by omega, rfl, rfl, by simpa using hO2, hb1.trans (hb2.mono hb1.size)⟩
  case round =>
    obtain ⟨k, A3, N3, c3, hk, rfl, rfl, hO3, hb3⟩ := hrel
    clear hO1 hb1 hO2 hb2
    have hN3 := hO3.len
    go_wp2_with (at_builtin; refine app_bytes rfl _ _ rfl w.heap.size _ _ _ (xs ++ (be 2 x).take k) rfl (hO3.alloc _) _ _ _ [UInt8.ofNat (x / 2 ^ (8 * (1 - k)))] rfl (RB.one_ _ _ (bv_be _ _)) (by simp [be_length] at hN3; omega) (by simp; exact Nat.le_succ_of_le hb3.size) ?_; intro A4 N4 c4 w4 hc4 hc4' hO4 hG4)
    · go_roundw
      case rel => exact ⟨k + 1, A4, N4, c4, by omega, by go_num, rfl, by rw [be_snoc 2 x k (by omega), ← List.append_assoc]; exact hO4, hG4.own (below_alloc2 hb3 (Nat.le_refl _) _) (Nat.le_refl _) (hO3.alloc _)⟩
      case measure => simp [intOf]; omega
    · go_ret
      exact ⟨A3, N3, c3, rfl, by rwa [List.take_of_length_le (by rw [be_length]; omega)] at hO3, hb3⟩

set_option maxHeartbeats 400000 in
theorem half_any (w : World) (A : Option Addr) (n c : Nat) (xs : List UInt8) (x : Nat) (hr : RB w A n xs) (hn : n ≤ 140737487000000) (hx : x < 2 ^ 16) :
    Calls Try.prog 71 #[.slice A n c, .int .u16 x] w fun e w' => ∃ A' N' c', e = .returned (.slice A' N' c') ∧ OB 5 w' w.heap.size A' N' c' (xs ++ be 2 x) ∧ Below w.heap.size w w' := by
  go_enter Try.func71, Try.ntmps71
  go_wp2_with (go_at_call 93; refine (put16_any _ A n c xs x hr hn hx).mono ?_; rintro e w1 ⟨A1, N1, c1, rfl, hO1, hb1⟩)
  go_ret
  exact ⟨A1, N1, c1, rfl, hO1, hb1⟩

end Go.Proofs.Ytmjdfajdompkeaa
namespace Go.Rat
open Go Go.RowKit
def tame (o : Oper) : Bool := match o.op with
  | .defer _ => false
  | _ => true
theorem tame_of {o : Oper} (h : tame o = true) : ∀ c, o.op ≠ .defer c := by
  intro c e
  unfold tame at h
  rw [e] at h
  cases h
theorem oper_in {P : Program} {o : Oper} {a : Act} {w : World} {K K' : Act → World → Prop} {Q : Exit → Act → World → Prop} {l n : Nat} (ht : tame o = true) (hK : ∀ a w, K a w → K' a w)
    (h : o.wp P a w K Q) : o.wpIn (Fence.wide.inRound l) n P a w K' Q := by
  refine ⟨fun _ _ => trivial, ?_⟩
  rw [Oper.semAt_eq _ _ _ (tame_of ht)]
  unfold Oper.wp at h
  generalize (execOp a.eval o).run P w = r at h
  match r, h with
  | .ok (.value v) w', h => exact hK _ _ h
  | .ok .skip w', h => exact hK _ _ h
  | .ok (.defer d) w', h => exact hK _ _ h
  | .ok (.enter f args) w', h =>
    exact ⟨fun hd => (by cases hd), CallsIn.inRound l (callsIn_wide.2 (Calls.mono h (fun e w'' he => by
      cases e with
      | returned v => exact hK _ _ he
      | panicked c => exact he
      | outgrown => exact he)))⟩
  | .ok (.row row args) w', h =>
    exact ⟨fun hd => (by cases hd), fun c cs _ => let ⟨v, w2, r, s⟩ := h c cs; ⟨v, w2, hK _ _ r, stepsIn_wide.2 s⟩⟩
  | .halt (.panic v) w', h => exact h
/-- A region in a round, walked as everywhere. -/
theorem wpListIn_of {P : Program} {ops : Array Oper} {Q : Exit → Act → World → Prop} {l n : Nat} (hQ : ¬ LetsOut Q) : ∀ (rest : List Oper) (a : Act) (w : World), rest.all tame = true →
    wpList P ops Q rest a w → wpListIn (Fence.wide.inRound l) n P ops Q rest a w
  | [], _, _, _, h => h
  | o :: rest, a, w, ht, h => by
    rw [List.all_cons, Bool.and_eq_true] at ht
    unfold wpListIn
    unfold wpList at h
    by_cases hw : Region.wanted o (yielded ops a.tmps) = true
    · rw [if_pos hw] at h ⊢
      rcases h with h | h
      · exact oper_in ht.1 (fun a w => wpListIn_of hQ rest a w ht.2) h
      · exact absurd h.2 hQ
    · rw [if_neg hw] at h ⊢
      exact ⟨fun _ _ => trivial, wpListIn_of hQ rest _ _ ht.2 h⟩
theorem wpIn_region_of {P : Program} {Q : Exit → Act → World → Prop} {a : Act} {w : World} {l n id : Nat} {ops : List Oper} (hQ : ¬ LetsOut Q) (ht : ops.all tame = true) (h : wpList P ops.toArray Q ops a w) :
    (Code.region id ops.toArray false).wpIn (Fence.wide.inRound l) n P Q a w :=
  wpIn_region_lit (wpListIn_of hQ ops a w ht h)
theorem wplIn_value {F : Fence} {n : Nat} {P : Program} {ops : Array Oper} {rest : List Oper} {Q : Exit → Act → World → Prop} {o : Oper} {a : Act} {w : World} (hg : o.guard = none) (hd : tame o = true) (ha : o.about P w a.eval = none) (v : Value)
    (hv : (execOp a.eval o).run P w = .ok (.value v) w) (h : wpListIn F n P ops Q rest (a.put o.dst v) w) : wpListIn F n P ops Q (o :: rest) a w :=
  wpListIn_plain hg fun K hK => ⟨fun f hf => (by rw [ha] at hf; cases hf), by rw [Oper.semAt_eq _ _ _ (tame_of hd), hv]; exact hK _ _ h⟩
end Go.Rat
namespace Go.Proofs.Ytmjdfajdompkeaa
open Go.RowKit Go.Rat
/-- What the iterator holds. -/
structure Secs (w : World) (gc ga gb : Nat) (c : Nat) (xs : List UInt8) : Prop where
  cnt : Blk w gc 90 #[.int .u64 (c : Int)]
  hdr : ∃ cap, Blk w ga 22 #[.slice (some ⟨gb, 0, none⟩) 1200 cap] ∧ 1200 ≤ cap ∧ cap ≤ 9223372036854775807
  row : RB w (some ⟨gb, 0, none⟩) 1200 xs
set_option maxHeartbeats 1000000 in
theorem sectors_any (w : World) (c : Nat) (A : Option Addr) (n cap : Nat) (xs : List UInt8) (hr : RB w A n xs) (hn : n ≤ 1100) :
    Calls Try.prog 91 #[.int .u64 (c : Int), .slice A n cap] w fun e w' => ∃ gc ga gb, e = .returned (.func (.func 104) #[] #[.pointer (some ⟨gc, 0, none⟩), .pointer (some ⟨ga, 0, none⟩)]) ∧
      Secs w' gc ga gb c (allB xs) ∧ w.heap.size ≤ gc ∧ w.heap.size ≤ ga ∧ w.heap.size ≤ gb ∧ gb < w'.heap.size ∧ Below w.heap.size w w' := by
  have hxl := hr.len
  go_enter Try.func91, Try.ntmps91
  go_wp2_with fail
  have hX := Blk.new w 90 #[.int .u64 (c : Int)]
  have hb1 := below_alloc w (.cells #[.int .u64 (c : Int)] 90)
  obtain ⟨w1, hw1⟩ : ∃ x, w.alloc (.cells #[.int .u64 (c : Int)] 90) = x := ⟨_, rfl⟩
  rw [hw1] at hX hb1 ⊢
  have hr1 := hr.below hb1
  have hgc : w.heap.size < w1.heap.size := hX.lt
  clear hw1
  refine (half_any _ none 0 0 [] n (RB.nil_ _ _) (by omega) (by omega)).mono ?_
  rintro e w2 ⟨A2, N2, c2, rfl, hO2, hb2⟩
  rw [List.nil_append] at hO2
  have hN2 := hO2.len
  rw [be_length] at hN2
  subst hN2
  have hr2 := hr1.below hb2
  have hX2 := hX.below hb2 hX.lt
  simp only []
  go_upto_region 2 with (at_builtin; refine app_bytes rfl _ _ rfl w1.heap.size A2 2 c2 (be 2 n) rfl hO2 A n cap xs rfl hr2 (by omega) hb2.size ?_; intro A3 N3 c3 w3 hc3 hc3' hO3 hG3)
  have hN3 := hO3.len
  rw [List.length_append, be_length, hxl] at hN3
  subst hN3
  have hb3 : Below w1.heap.size w1 w3 := hG3.own hb2 (Nat.le_refl _) hO2
  have hX3 := hX.below hb3 hX.lt
  have hO4 := hO3.alloc (.cells #[.slice A3 (2 + n) c3] 22)
  have hX4 := hX3.alloc (.cells #[.slice A3 (2 + n) c3] 22)
  have hH4 := Blk.new w3 22 #[.slice A3 (2 + n) c3]
  have hb4 := below_alloc2 hb3 (Nat.le_refl _) (.cells #[.slice A3 (2 + n) c3] 22)
  have hga : w1.heap.size ≤ w3.heap.size := hb3.size
  have hAlt : ∀ k, A3.map (·.block) = some k → k < w3.heap.size := fun k hk => (hO3.ge k hk).2
  obtain ⟨w4, hw4⟩ : ∃ x, w3.alloc (.cells #[.slice A3 (2 + n) c3] 22) = x := ⟨_, rfl⟩
  rw [hw4] at hO4 hX4 hH4 hb4 ⊢
  obtain ⟨ga, hgae⟩ : ∃ x, w3.heap.size = x := ⟨_, rfl⟩
  rw [hgae] at hH4 hga hAlt ⊢
  clear hX2 hX3 hO3 hO2 hG3 hb2 hb3 hr1 hr2 hw4 hgae hX
  have h0 := hH4.cell 0
  have f0 := hH4.frozen 0
  simp only [List.getElem?_toArray, List.getElem?_cons_zero] at h0
  have hk0 : 0 < 1198 - n := by omega
  have hbyt : 2 + n + (1198 - n) ≤ 140737488355328 := by omega
  go_wp2_with (at_builtin; refine app_noughts rfl _ _ rfl w1.heap.size A3 (2 + n) c3 (be 2 n ++ xs) rfl hO4 (1198 - n) (congrArg (Value.int .i64) (by omega)) hk0 hbyt hb4.size ?_; intro A5 N5 c5 w5 hc5 hc5' hO5 hG5; refine Hid.out ?_)
  refine Lib.hid ?_
  have hN5 := hO5.len
  have hall : be 2 n ++ xs ++ List.replicate (1198 - n) 0 = allB xs := by rw [allB, hxl]
  rw [hall, allB_length (by omega)] at hN5
  subst hN5
  rw [hall] at hO5
  have hgaw : ga < w4.heap.size := hH4.lt
  obtain ⟨gb, rfl⟩ : ∃ gb, A5 = some ⟨gb, 0, none⟩ := by
    rcases hO5.2 with ⟨h, _⟩ | ⟨g, cap, cur, hv, _⟩
    · injection h with h1 h2 h3
      cases h2
    · injection hv with h3 h4 h5
      exact ⟨g, h3⟩
  have hgab : gb ≠ ga := by
    intro e
    rcases hG5.lies with h | ⟨k, h, hk1, hk2⟩
    · have := hAlt gb (by rw [← h]; rfl)
      omega
    · have h : gb = k := Option.some.inj h
      omega
  have hgbx := hO5.ge gb rfl
  have hb5 : Below w1.heap.size w1 w5 := hG5.own hb4 (Nat.le_refl _) hO4
  have hX5 : Blk w5 w.heap.size 90 #[.int .u64 (c : Int)] := hX4.grown hG5.grown (fun e => by have := (hO4.ge _ e.symm).1; omega)
  have hH5 : Blk w5 ga 22 #[.slice A3 (2 + n) c3] := hH4.grown hG5.grown (fun e => by have := hAlt _ e.symm; omega)
  have hR5 := hO5.reads
  have h0 := hH5.cell 0
  have f0 := hH5.frozen 0
  simp only [List.getElem?_toArray, List.getElem?_cons_zero] at h0
  have hH6 := hH5.set_ 0 (.slice (some ⟨gb, 0, none⟩) 1200 c5)
  have hgs := grownBy_set w5 ga 0 (.slice (some ⟨gb, 0, none⟩) 1200 c5)
  have hX6 := hX5.grown hgs (fun e => by injection e with e; omega)
  have hR6 := hR5.grown hgs (.inl (fun e => by injection e with e; exact hgab e))
  have hb6 : Below w1.heap.size w1 (w5.setCell ⟨ga, 0, none⟩ (.slice (some ⟨gb, 0, none⟩) 1200 c5)) := hb5.grown hgs hb5.size (fun k e => by cases e; exact hga)
  have hgb6 : gb < (w5.setCell ⟨ga, 0, none⟩ (.slice (some ⟨gb, 0, none⟩) 1200 c5)).heap.size := by have := hgs.size; omega
  have hwga : w.heap.size ≤ ga := by omega
  have hwgb : w.heap.size ≤ gb := by omega
  clear hX4 hH4 hO4 hG5 hAlt hX5 hH5 hR5 hO5 hb4 hb5 hgs
  go_wp2_with fail
  go_ret
  exact ⟨_, ga, gb, rfl, ⟨hX6, ⟨c5, hH6, hc5, hc5'⟩, hR6⟩, Nat.le_refl _, hwga, hwgb, hgb6, hb1.trans (hb6.mono (by omega))⟩
end Go.Proofs.Ytmjdfajdompkeaa
namespace Go.Proofs.Ytmjdfajdompkeaa
open Go.RowKit Go.Rat
attribute [local go_sem] Oper.semAt_some
theorem wp_appB {w : World} {o : Oper} {a : Act} {K : Act → World → Prop} {Q : Exit → Act → World → Prop} (s x : Operand)
    (ho : o.op = .call { callee := .builtin .append, args := #[s, x], argTypes := #[22, 22] })
    (base : Nat) (A : Option Addr) (n c : Nat) (xs : List UInt8) (hs : a.eval s = .slice A n c) (hown : OB 5 w base A n c xs)
    (A' : Option Addr) (m c' : Nat) (news : List UInt8) (hx : a.eval x = .slice A' m c') (hr : RB w A' m news) (hbytes : n + m ≤ 140737488355328) (hbase : base ≤ w.heap.size)
    (h : ∀ A2 N2 c2 w2, N2 ≤ c2 → c2 ≤ 9223372036854775807 → OB 5 w2 base A2 N2 c2 (xs ++ news) → Grew w w2 A A2 → K (a.put o.dst (.slice A2 N2 c2)) w2) :
    o.wp Try.prog a w K Q := by
  obtain ⟨i0, hi, hz0, hz1, hz2⟩ := info_parts u8info
  obtain ⟨A2, c2, w2, hrun, h2, h3, h4⟩ := run_append_reads (P := Try.prog) w base 22 o.type 5 i0 _ 1 1 Try.underlying22 hi hz0 hz1 hz2 rfl (by omega) A n c (bvs xs) hown w.heap.size A' m c' (bvs news) hr (bvs_one _) (by simp only [maxLen]; omega) (by omega) hbase
  unfold Oper.wp
  simp only [execOp, ho, resolve, invoke, builtin, Sem.run_bind, Sem.run_pure, Result.andThen_ok, List.map_toArray, List.map_cons, List.map_nil, hs, hx, hrun]
  exact h _ _ _ _ (own_cap h2).1 (own_cap h2).2 (by unfold OB; rw [bvs_append]; exact h2) ⟨h3, h4.imp id fun h => ⟨_, h, Nat.le_refl _, (h2.lt _ (by cases A2 <;> simp_all [Value.ownBlock])).2⟩⟩
theorem arrayAt_run {P : Program} {w : World} {t e : TypeId} {n len c : Nat} {A : Option Addr} (hu : P.underlying t = some (.array n e)) (h : n ≤ len) : (Instr.arrayAt t (.slice A len c)).run P w = .ok (.pointer A) w := by
  have hn : ¬ (len < n) := by omega
  simp [Instr.arrayAt, run_underlying hu, hn]
/-- The first k numbers. -/
def fr : Nat → List (Fin 10)
  | 0 => []
  | k + 1 => fr k ++ [⟨k % 10, Nat.mod_lt _ (by omega)⟩]
theorem fr_length : ∀ k, (fr k).length = k
  | 0 => rfl
  | k + 1 => by rw [fr, List.length_append, fr_length k]; rfl
def encS (c : Nat) (xs : List UInt8) (i : Fin 10) : Array Value := #[.int .i64 (i.1 : Int), .agg (bvs (secB c xs i.1)).toArray]
/-- What a round keeps of the iterator's own. -/
structure KpS (gc ga gb : Nat) (A B : World) : Prop where
  size : A.heap.size ≤ B.heap.size
  c : B.heap[gc]? = A.heap[gc]?
  a : B.heap[ga]? = A.heap[ga]?
  b : B.heap[gb]? = A.heap[gb]?
theorem KpS.refl (gc ga gb : Nat) (A : World) : KpS gc ga gb A A := ⟨Nat.le_refl _, rfl, rfl, rfl⟩
theorem KpS.trans {gc ga gb : Nat} {A B C : World} (h : KpS gc ga gb A B) (k : KpS gc ga gb B C) : KpS gc ga gb A C := ⟨Nat.le_trans h.size k.size, k.c.trans h.c, k.a.trans h.a, k.b.trans h.b⟩
theorem KpS.of_below {gc ga gb n : Nat} {A B : World} (h : Below n A B) (hs : A.heap.size ≤ B.heap.size) (hc : gc < n) (ha : ga < n) (hb : gb < n) : KpS gc ga gb A B := ⟨hs, h.block _ hc, h.block _ ha, h.block _ hb⟩
theorem Secs.keep {A B : World} {gc ga gb c : Nat} {xs : List UInt8} (h : Secs A gc ga gb c xs) (k : KpS gc ga gb A B) : Secs B gc ga gb c xs := by
  obtain ⟨cap, h1, h2, h3⟩ := h.hdr
  refine ⟨k.c.trans h.cnt, ⟨cap, k.a.trans h1, h2, h3⟩, h.row.1, fun hn => ?_⟩
  obtain ⟨ad, e, hb, hcell⟩ := h.row.2 hn
  cases e
  exact ⟨_, rfl, Nat.lt_of_lt_of_le hb k.size, fun j u hu => (World.cell?_of_block (by rw [block_of_add]; exact k.b)).trans (hcell j u hu)⟩
theorem partB_at (xs : List UInt8) (i : Nat) (h : xs.length ≤ 1198) (hi : i < 10) {w : World} {gb : Nat} (hr : RB w (some ⟨gb, 0, none⟩) 1200 (allB xs)) : RB w (some ⟨gb, i * 120, none⟩) 120 (partB xs i) := by
  have hl := allB_length h
  refine ⟨by rw [bvs_length, partB_length h hi], fun _ => ?_⟩
  obtain ⟨ad, e, hb, hc⟩ := hr.2 (by omega)
  cases e
  refine ⟨_, rfl, hb, fun j u hu => ?_⟩
  have hj : j < 120 := by
    have := (List.getElem?_eq_some_iff.1 hu).1
    rwa [bvs_length, partB_length h hi] at this
  have h2 : (bvs (allB xs))[i * 120 + j]? = some u := by
    rw [← hu, bvs, bvs, List.getElem?_map, List.getElem?_map, partB, List.getElem?_take, if_pos hj, List.getElem?_drop]
  have := hc _ _ h2
  rw [← this]
  congr 1
  simp only [Addr.add]
  split <;> split <;> simp_all <;> omega
set_option maxRecDepth 20000 in
set_option maxHeartbeats 4000000 in
theorem sectors1_stops (w : World) (gc ga gb c : Nat) (xs : List UInt8) (hS : Secs w gc ga gb c (allB xs)) (hxs : xs.length ≤ 1100) (hc : c < 2 ^ 64) (hgc : gc < w.heap.size) (hga : ga < w.heap.size) (hgb : gb < w.heap.size) :
    SeqStopsK Fence.wide 3 Try.prog 104 #[.pointer (some ⟨gc, 0, none⟩), .pointer (some ⟨ga, 0, none⟩)] (encS c xs) (KpS gc ga gb) (fun ys => ys = fr 10) (fun pre => ∃ k, k ≤ 10 ∧ pre = fr k) 10 w := fun l J Jx W hW hJ hJx hY h0 => by
  refine callsIn_wide.2 ?_
  have hS0 := hS.keep (KpS.of_below hW hW.size hgc hga hgb)
  have hws := hW.size
  go_enter Try.func104, Try.ntmps104
  go_wp2_with fail
  go_loopw [6] (fun i wr => ∃ k : Nat, k ≤ 10 ∧ i = .int .i64 (k : Int) ∧ J (fr k) wr ∧ KpS gc ga gb W wr) (fun i _ => 10 - (intOf i).toNat)
  case atStart => exact ⟨0, by omega, rfl, h0, KpS.refl _ _ _ _⟩
  case round =>
    obtain ⟨k, hk, rfl, hJk, hkp⟩ := hrel
    by_cases hk10 : k < 10
    · have hSk := hS0.keep hkp
      have hgw := hSk.row.at_ (show 0 < 1200 by omega)
      obtain ⟨_, e, hgbw, _⟩ := hgw
      cases e
      obtain ⟨cap, hH, hcap, hcap2⟩ := hSk.hdr
      have hrp := partB_at xs k (by omega) hk10 hSk.row
      have hpl := partB_length (b := xs) (by omega) hk10
      have c0 := hSk.cnt.cell 0
      have a0 := hH.cell 0
      simp only [List.getElem?_toArray, List.getElem?_cons_zero] at c0 a0
      have g1 : (k : Int) < 10 := by omega
      have g2 : (0 : Int) ≤ (k : Int) := by omega
      have hw1 : IntKind.i64.wrap ((k : Int) * 120) = (k : Int) * 120 := IntWalk.i64_in _ (by omega)
      have hw2 : IntKind.i64.wrap ((k : Int) + 1) = (k : Int) + 1 := IntWalk.i64_in _ (by omega)
      have hw3 : IntKind.i64.wrap (((k : Int) + 1) * 120) = ((k : Int) + 1) * 120 := IntWalk.i64_in _ (by omega)
      clear hS hS0 h0 hW
      go_wp2_with fail
      refine wp_region_plan [(0, true), (2, true), (3, true), (4, true), (5, true), (6, true), (7, true), (8, true), (1, false), (9, false), (10, true)]
        (fun z => z.cell? ⟨gc, 0, none⟩ = some (.int .u64 (c : Int)) ∧ z.cell? ⟨ga, 0, none⟩ = some (.slice (some ⟨gb, 0, none⟩) 1200 cap)) (by kernel_rfl) (by kernel_rfl) (by kernel_rfl) (by kernel_rfl) (fun _ _ d _ _ h => by cases d <;> exact h) ⟨c0, a0⟩ ?_
      simp only [planOps, List.getElem?_toArray, List.getElem?_cons_zero, List.getElem?_cons_succ]
      repeat (first
        | (refine wpS_skip (by rfl) ?_; simp only [Act.put, List.setIfInBounds_toArray, List.set_cons_zero, List.set_cons_succ])
        | (refine wpS_q ?_ (by rfl) ?_ ?_; rotate_left; (focus (intro z hz; (try dsimp only at hz); go_simp; rfl)); simp only [Act.put, List.setIfInBounds_toArray, List.set_cons_zero, List.set_cons_succ]))
      refine wpS_q (.slice (some ⟨gb, k * 120, none⟩) 120 (cap - k * 120)) (by rfl) (fun z hz => ?_) ?_
      · clear hY
        have t1 : ((k : Int) * 120).toNat = k * 120 := by omega
        have t2 : (((k : Int) + 1) * 120).toNat - k * 120 = 120 := by omega
        go_simp
        rw [if_pos ⟨by omega, by omega⟩, if_pos ⟨by omega, by omega⟩, if_neg (by omega)]
      simp only [Act.put, List.setIfInBounds_toArray, List.set_cons_zero, List.set_cons_succ]
      refine wpS_l (by rfl) (fun K hK => ?_)
      go_wp2_with fail
      refine (word_any _ none 0 0 [] c (RB.nil_ _ _) (by omega) hc).mono ?_
      rintro e w2 ⟨A2, N2, c2, rfl, hO2, hb2⟩
      rw [List.nil_append] at hO2
      have hN2 := hO2.len
      rw [be_length] at hN2
      subst hN2
      have hb2 : Below wr.heap.size wr w2 := drew_below.trans hb2
      have hO2 : OB 5 w2 wr.heap.size A2 8 c2 (be 8 c) := hO2
      refine hK _ _ _ ⟨((hSk.cnt.below hb2 hSk.cnt.lt).cell 0).trans rfl, ((hH.below hb2 hH.lt).cell 0).trans rfl⟩ (fun _ h => h) ?_
      clear hK
      refine wpS_l (by rfl) (fun K hK => ?_)
      refine wp_appB _ _ (by rfl) wr.heap.size A2 8 c2 (be 8 c) (by rfl) hO2 (some ⟨gb, k * 120, none⟩) 120 (cap - k * 120) (partB xs k) (by rfl) (hrp.below hb2) (by omega) hb2.size ?_
      intro A3 N3 c3 w3 hc3 hc3' hO3 hG3
      have hb3 : Below wr.heap.size wr w3 := hG3.own hb2 (Nat.le_refl _) hO2
      refine hK _ _ _ ⟨((hSk.cnt.below hb3 hSk.cnt.lt).cell 0).trans rfl, ((hH.below hb3 hH.lt).cell 0).trans rfl⟩ (fun _ h => h) ?_
      clear hK
      iterate 1 (refine wpS_q ?_ (by rfl) ?_ ?_; rotate_left; (focus (intro z hz; (try dsimp only at hz); go_simp; rfl)); simp only [Act.put, List.setIfInBounds_toArray, List.set_cons_zero, List.set_cons_succ])
      refine wpS_nil ?_
      have hO3 : OB 5 w3 wr.heap.size A3 N3 c3 (secB c xs k) := hO3
      have hN3 := hO3.len
      have hsl := secB_length c (b := xs) (by omega) hk10
      rw [hsl] at hN3
      subst hN3
      clear hO2 hG3 hb2 hrp hw1 hw2 hw3
      go_upto_region 4 with (fail)
      obtain ⟨g3, L, rfl, hB3, hL3⟩ : ∃ (g3 : Nat) (L : List Value), A3 = some ⟨g3, 0, none⟩ ∧ Blk w3 g3 5 L.toArray ∧ (L.drop 0).take 128 = bvs (secB c xs k) := by
        rcases hO3.2 with ⟨h, _⟩ | ⟨g, cap, cur, hv, _, hgB, _, _, _, htk⟩
        · injection h with h1 h2 h3
          cases h2
        · injection hv with h3 h4 h5
          exact ⟨g, cur.toList, h3, hgB, by simpa using htk⟩
      have hbl : (bvs (secB c xs k)).length = 128 := by rw [bvs_length, hsl]
      have hJ3 : J (fr k) w3 := hJ _ _ _ none hJk (grownBy_of_below hb3 none) (fun r e => by cases e)
      obtain ⟨fn, tmps, assign, body, hy, hR⟩ := hY (fr k) ⟨k % 10, Nat.mod_lt _ (by omega)⟩ w3 hJ3 (by rw [fr_length]; exact hk10)
      have hkm : k % 10 = k := Nat.mod_eq_of_lt hk10
      simp only [encS, hkm] at hy
      have hkp3 : KpS gc ga gb wr w3 := KpS.of_below hb3 hb3.size (by have := hkp.size; omega) (by have := hkp.size; omega) hgbw
      have HKM := Lib.hid hkm
      have HK3 := Lib.hid (hkp.trans hkp3)
      clear hO3 hJ hJx hJk hY hJ3 hSk hH hsl hkm hkp hkp3 hb3 c0 a0
      refine (wpIn_wide (n := 3)).1 ?_
      refine wpIn_region_lit ?_
      have hat := arrayAt_run (w := w3) (A := some ⟨g3, 0, none⟩) (c := c3) Try.underlying28 (Nat.le_refl 128)
      repeat (first | ((with_reducible refine wplIn_value rfl rfl rfl (.agg (bvs (secB c xs k)).toArray) ?_ ?_); (focus exact load_mid_run rfl g3 0 L (bvs (secB c xs k)) Try.underlying28 rfl i128 hB3 hL3 hbl rfl); simp only [Act.put, List.setIfInBounds_toArray, List.set_cons_zero, List.set_cons_succ]) | gi_step)
      refine hR.mono ?_
      clear hR hy hat
      rintro e W3 (⟨rfl, hJ4, hk4⟩ | ⟨rfl, hJx4⟩)
      · have hJ5 : J (fr (k + 1)) W3 := hJ4
        clear hJ4
        simp only []
        repeat gi_step
        go_wp2_with fail
        exact ⟨⟨k + 1, by omega, congrArg (Value.int .i64) (by omega), hJ5, HK3.out.trans hk4⟩, by simp [intOf]; omega⟩
      · have hJ5 : Jx (fr (k + 1)) W3 := hJx4
        clear hJx4
        simp only []
        repeat gi_step
        go_wp2_with fail
        refine bodyPost_ret (results_none rfl _ _ _) rfl ?_
        exact ⟨⟨_, rfl⟩, .inr ⟨_, ⟨k + 1, by omega, rfl⟩, hJ5⟩⟩
    · obtain rfl : k = 10 := by omega
      have g1 : ¬ ((10 : Nat) : Int) < 10 := by omega
      go_wp2_with fail
      go_end0
      exact ⟨⟨_, rfl⟩, .inl hJk⟩
end Go.Proofs.Ytmjdfajdompkeaa
