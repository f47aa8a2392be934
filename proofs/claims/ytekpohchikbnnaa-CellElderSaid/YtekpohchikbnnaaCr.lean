/- CellElder: a sector lost. -/
import Derived.Test.YtekpohchikbnnaaCp
namespace Go.Proofs.Ytekpohchikbnnaa
open Go.RowKit Go.Rat
/-- A sector that is lost: what lose does to a disk. -/
def loseW (d : DS) (a : Int) : DS := writeD (syncAll d) a (rep 1)
def loseD (d : DS) (a : Int) : DS := onAll (offD (loseW d a)) [2]
structure LoseIs (d : DS) (a : Int) : Prop where
  s : syncE d = 0
  w : writeE (syncAll d) a = 0
  r8 : readE (offD (loseW d a)) a = 8
  on : onE (offD (loseW d a)) = 0
  r9 : readE (loseD d a) a = 9
  ll : (syncAll d).loose.length = 0
  off : (loseD d a).off = false
  fuse : (loseD d a).fuse = -1
  loose : (loseD d a).loose = []
  lost : ((loseD d a).now a).lost = true
  now : ∀ x, x ≠ a → (loseD d a).now x = d.now x
theorem lose_is {d : DS} (ho : d.off = false) (hf : d.fuse = -1) {a : Int} (ha : 0 ≤ a ∧ a < 32768) : LoseIs d a := by
  obtain ⟨s1, s2⟩ := syncAll_on ho hf
  obtain ⟨_, _, h3⟩ := write_eff (d := syncD d) (rep 1) ho ha
  obtain ⟨h3, h4⟩ := h3 (by show d.fuse < 0; omega)
  have hW : loseW d a = putD (syncD d) a (rep 1) := by rw [loseW, s1, h4]
  have hl : (loseW d a).loose = [(a, rep 1)] := by rw [hW]; rfl
  have hn : (loseW d a).now = fun x => if x = a then ⟨rep 1, false⟩ else d.now x := by rw [hW]; rfl
  obtain ⟨o1, o2, o3, o4, o5, o6⟩ := on_now (loseW d a) [2] a
  have hlost : ((loseD d a).now a).lost = true := by
    rw [loseD, o1, hl, if_pos (by simp)]
    simp [picksF, pickF, upd]
  refine ⟨s2, by rw [s1]; exact h3, ?_, o6, ?_, by rw [s1]; rfl, o3, o4, o5, hlost, fun x hx => ?_⟩
  · rw [readE, show (offD (loseW d a)).off = true from rfl, readyE_off, if_neg (by decide)]
  · rw [readE, show (loseD d a).off = false from o3, readyE_ok ha, if_pos rfl, if_pos hlost]
  · obtain ⟨p1, _⟩ := on_now (loseW d a) [2] x
    rw [loseD, p1, hl, if_neg (by simpa using fun h => hx h.symm), hn]
    exact if_neg hx
theorem LoseIs.view {d : DS} {a p : Int} {i : Nat} (h : LoseIs d a) (ho : d.off = false) (hp : 0 ≤ p + (i : Int) ∧ p + (i : Int) < 32768) : viewD (loseD d a) p i = if p + (i : Int) = a then none else viewD d p i := by
  by_cases e : p + (i : Int) = a
  · rw [if_pos e, view_on h.off hp, e, if_pos h.lost]
  · rw [if_neg e]
    exact view_same ho h.off hp (h.now _ e)
/-- The own slot and the elder. -/
structure ElSt (d : DS) (which n m : Nat) (now was : List UInt8) (K : Nat) : Prop where
  st : CellSt d 0 which n now K
  fuse : d.fuse = -1
  loose : d.loose = []
  els : ∀ i, i < 10 → viewD d 0 ((1 - which) * 10 + i) = some (secB m was i)
  m1 : 1 ≤ m
  mK : m ≤ K
  wl : was.length ≤ 1100
theorem el_start : (fmF ds0 0).2 = 0 ∧ ElSt (fmF ds0 0).1 0 2 1 [] [] 2 := by
  obtain ⟨h1, h2, h3, h4, h5, _, _⟩ := format_calm (d := ds0) (p := 0) (by omega) rfl rfl
  refine ⟨h1, h5, h3, h4, fun i hi => ?_, by omega, by omega, by simp⟩
  obtain ⟨h0, hW, ho1, hf1⟩ := wrS_calm (d := ds0) (c := 2) (b := []) (p := 0) (by omega) rfl rfl
  obtain ⟨k2, hW2, ho2, hf2⟩ := wrS_calm (c := 1) (b := []) (p := 0 + 10) (d := (wrS ds0 0 2 [] 10).1) (by omega) ho1 hf1
  obtain ⟨s1, s2⟩ := syncAll_on ho2 hf2
  have he : fmF ds0 0 = (syncD (wrS (wrS ds0 0 2 [] 10).1 (0 + 10) 1 [] 10).1, 0) := by rw [fmF, if_pos h0, if_pos k2, s1, s2]
  rw [he] at h2 ⊢
  refine view_is h2 (by omega) ?_
  show (wrS (wrS ds0 0 2 [] 10).1 (0 + 10) 1 [] 10).1.now _ = _
  rw [hW2.now, show (0 : Int) + (((1 - 0) * 10 + i : Nat) : Int) = 0 + 10 + (i : Int) by omega, nowW_in _ _ _ _ hi]
theorem ElSt.step {d : DS} {which n m : Nat} {now was : List UInt8} {K : Nat} (h : ElSt d which n m now was K) (hK : K + 2 < 2 ^ 64) {b : List UInt8} (hb : b.length ≤ 1100) :
    (ptF d 0 which b).2 = 0 ∧ ∃ n', ElSt (ptF d 0 which b).1 (1 - which) n' n b now (K + 1) := by
  obtain ⟨h1, h2, h3, h4, h5, h6⟩ := put_calm (b := b) h.fuse h.st hK hb
  have hw := h.st.wh
  refine ⟨h1, _, h5, h3, h4, fun i hi => ?_, ?_, Nat.le_trans h.st.nK (Nat.le_succ K), h.st.len⟩
  · rw [show 1 - (1 - which) = which by omega, view_same h.st.off h2 (by omega) (by rw [h6, nowW_out _ _ _ _ (by omega)])]
    exact h.st.own i hi
  · have := h.st.oth
    omega
/-- One sector of the own slot is lost. -/
structure ElLost (d : DS) (which : Nat) (now was : List UInt8) (K : Nat) : Prop where
  op : opE d 0 = 0 ∧ opF d 0 = (1 - which, was)
  off : d.off = false
  fuse : d.fuse = -1
  loose : d.loose = []
  wh : which ≤ 1
  none_ : ∃ i, i < 10 ∧ viewD d 0 (which * 10 + i) = none
  top : ∀ i s, i < 20 → viewD d 0 i = some s → cntB s ≤ K
  K64 : K + 1 < 2 ^ 64
theorem slot_lost {d : DS} {which i : Nat} (hi : i < 10) (h : viewD d 0 (which * 10 + i) = none) : slotV d 0 which = (0, []) :=
  rdF_lost hi (by rw [view_add]; exact h)
theorem ElSt.lost {d : DS} {which n m : Nat} {now was : List UInt8} {K : Nat} (h : ElSt d which n m now was K) {j : Nat} (hj : j < 10) : ElLost (loseD d ((10 * which + j : Nat) : Int)) which now was K := by
  have hw := h.st.wh
  have hm : m < 2 ^ 64 := by have := h.mK; have := h.st.K64; omega
  have L := lose_is h.st.off h.fuse (a := ((10 * which + j : Nat) : Int)) (by omega)
  have hv := fun i (hi : i < 20) => L.view (p := 0) (i := i) h.st.off (by omega)
  have hnone : viewD (loseD d ((10 * which + j : Nat) : Int)) 0 (which * 10 + j) = none := by rw [hv _ (by omega), if_pos (by omega)]
  have hs0 := slot_lost hj hnone
  have hs1 : slotV (loseD d ((10 * which + j : Nat) : Int)) 0 (1 - which) = (m, was) :=
    rdF_full hm h.wl fun i hi => by rw [view_add, hv _ (by omega), if_neg (by omega)]; exact h.els i hi
  refine ⟨?_, L.off, L.fuse, L.loose, hw, ⟨j, hj, hnone⟩, fun i s hi hs => ?_, h.st.K64⟩
  · have hm1 := h.m1
    rw [opE, opF, L.off, if_neg (by decide)]
    by_cases e : which = 0
    · subst e
      rw [hs0, show slotV _ 0 1 = (m, was) from hs1]
      simp only
      exact ⟨by rw [if_neg (by omega)], by rw [if_pos (by omega)]⟩
    · obtain rfl : which = 1 := by omega
      rw [hs0, show slotV _ 0 0 = (m, was) from hs1]
      simp only
      exact ⟨by rw [if_neg (by omega)], by rw [if_neg (by omega)]⟩
  · rw [hv _ hi] at hs
    split at hs
    · cases hs
    · exact h.st.top i s hi hs
/-- And one of the elder too. -/
structure ElBoth (d : DS) (which : Nat) (K : Nat) : Prop where
  op : opE d 0 = 9
  off : d.off = false
  fuse : d.fuse = -1
  loose : d.loose = []
  wh : which ≤ 1
  none_ : ∃ i, i < 10 ∧ viewD d 0 (which * 10 + i) = none
  top : ∀ i s, i < 20 → viewD d 0 i = some s → cntB s ≤ K
  K64 : K + 1 < 2 ^ 64
theorem ElLost.lost {d : DS} {which : Nat} {now was : List UInt8} {K : Nat} (h : ElLost d which now was K) {j : Nat} (hj : j < 10) : ElBoth (loseD d ((10 * (1 - which) + j : Nat) : Int)) which K := by
  have hw := h.wh
  have L := lose_is h.off h.fuse (a := ((10 * (1 - which) + j : Nat) : Int)) (by omega)
  have hv := fun i (hi : i < 20) => L.view (p := 0) (i := i) h.off (by omega)
  have hnone : viewD (loseD d ((10 * (1 - which) + j : Nat) : Int)) 0 ((1 - which) * 10 + j) = none := by rw [hv _ (by omega), if_pos (by omega)]
  obtain ⟨i0, hi0, hn0⟩ := h.none_
  have hnone' : viewD (loseD d ((10 * (1 - which) + j : Nat) : Int)) 0 (which * 10 + i0) = none := by rw [hv _ (by omega), if_neg (by omega)]; exact hn0
  have hs1 := slot_lost hj hnone
  have hs0 := slot_lost hi0 hnone'
  refine ⟨?_, L.off, L.fuse, L.loose, hw, ⟨i0, hi0, hnone'⟩, fun i s hi hs => ?_, h.K64⟩
  · rw [opE, L.off, if_neg (by decide)]
    by_cases e : which = 0
    · subst e
      rw [hs0, show slotV _ 0 1 = (0, []) from hs1, if_pos ⟨rfl, rfl⟩]
    · obtain rfl : which = 1 := by omega
      rw [hs0, show slotV _ 0 0 = (0, []) from hs1, if_pos ⟨rfl, rfl⟩]
  · rw [hv _ hi] at hs
    split at hs
    · cases hs
    · exact h.top i s hi hs
theorem ElBoth.put {d : DS} {which K : Nat} (h : ElBoth d which K) {b : List UInt8} (hb : b.length ≤ 1100) : (ptF d 0 which b).2 = 0 ∧ opE (ptF d 0 which b).1 0 = 0 ∧ opF (ptF d 0 which b).1 0 = (1 - which, b) := by
  have hw := h.wh
  obtain ⟨q, hq⟩ : ∃ q : Int, 0 + ((1 - which : Nat) : Int) * 10 = q := ⟨_, rfl⟩
  obtain ⟨h0, hW, ho1, hf1⟩ := wrS_calm (c := nextF d 0) (b := b) (p := q) (by omega) h.off h.fuse
  obtain ⟨s1, s2⟩ := syncAll_on ho1 hf1
  have he : ptF d 0 which b = (syncD (wrS d q (nextF d 0) b 10).1, 0) := by rw [ptF, hq, if_pos h0, s1, s2]
  rw [he]
  have hnow : ∀ a, (syncD (wrS d q (nextF d 0) b 10).1).now a = nowW d.now q (nextF d 0) b 10 a := hW.now
  have hoff : (syncD (wrS d q (nextF d 0) b 10).1).off = false := ho1
  generalize syncD (wrS d q (nextF d 0) b 10).1 = d' at *
  have h64 := h.K64
  have ht := topF_le (viewD d 0) K 20 h.top
  have hn : nextF d 0 = topF (viewD d 0) 20 + 1 := by rw [nextF, Nat.mod_eq_of_lt (by omega)]
  obtain ⟨i0, hi0, hn0⟩ := h.none_
  have hs0 : slotV d' 0 which = (0, []) := slot_lost hi0 (by rw [view_same h.off hoff (by omega) (by rw [hnow, nowW_out _ _ _ _ (by omega)])]; exact hn0)
  have hs1 : slotV d' 0 (1 - which) = (nextF d 0, b) := rdF_full (by omega) hb fun i hi => by
    rw [view_add]
    exact view_is hoff (by omega) (by rw [hnow, show (0 : Int) + (((1 - which) * 10 + i : Nat) : Int) = q + (i : Int) by omega, nowW_in _ _ _ _ hi])
  refine ⟨rfl, ?_⟩
  rw [opE, opF, hoff, if_neg (by decide)]
  by_cases e : which = 0
  · subst e
    rw [hs0, show slotV _ 0 1 = (nextF d 0, b) from hs1]
    simp only
    exact ⟨by rw [if_neg (by omega)], by rw [if_pos (by omega)]⟩
  · obtain rfl : which = 1 := by omega
    rw [hs0, show slotV _ 0 0 = (nextF d 0, b) from hs1]
    simp only
    exact ⟨by rw [if_neg (by omega)], by rw [if_neg (by omega)]⟩
end Go.Proofs.Ytekpohchikbnnaa
