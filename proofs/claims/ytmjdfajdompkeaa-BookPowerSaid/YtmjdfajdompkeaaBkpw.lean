/- book: the power goes, in plain words. -/
import Derived.Test.YtmjdfajdompkeaaBk4
import Derived.Test.YtmjdfajdompkeaaBktn
import Derived.Test.YtmjdfajdompkeaaFlat
namespace Go.Proofs.Ytmjdfajdompkeaa
open Go.RowKit Go.Rat
/-- On, nothing loose; a fuse may burn. -/
structure CalmF (d : DS) : Prop where
  off : d.off = false
  fuse : -1 ≤ d.fuse
  loose : d.loose = []
  same : ∀ a, d.sure a = d.now a
section
variable {d d' : DS}
theorem CalmF.base (h : CalmF d) : Calm { d with fuse := -1 } := ⟨h.off, rfl, h.loose, h.same⟩
theorem Calm.fused (h : Calm d) (f : Int) : CalmF (fuseD d f) := ⟨h.off, by show -1 ≤ max f (-1); omega, h.loose, h.same⟩
theorem CalmF.crash (h : CalmF d) (ps : List UInt8) : Calm (onAll (offD d) ps) ∧ ∀ a, (onAll (offD d) ps).now a = d.now a := by
  obtain ⟨h1, h2, _⟩ := onL_calm h.base (d' := d) (p := 0) (B := fun _ => []) (m := 0) ⟨rfl, fun a => by rw [nowL_out _ _ _ (by omega)], by simp [wlL]⟩ ps
  exact ⟨h1, fun a => h2 a (by omega)⟩
/-- Writes and a Sync with a fuse that may burn. -/
theorem apL_step (h : CalmF d) {p : Int} {B : Nat → List UInt8} {m : Nat} (hp : 0 ≤ p ∧ p + (m : Int) ≤ 32768) :
    ((apL d p B m).2 = 0 ∧ CalmF (apL d p B m).1 ∧ (∀ a, (apL d p B m).1.now a = nowL d.now p B m a)) ∨
    ((apL d p B m).2 = 8 ∧ ∀ ps, Calm (onAll (offD (apL d p B m).1) ps) ∧ (∀ a, ¬ (p ≤ a ∧ a < p + (m : Int)) → (onAll (offD (apL d p B m).1) ps).now a = d.now a) ∧
      ∀ i : Nat, i < m → (onAll (offD (apL d p B m).1) ps).now (p + (i : Int)) = d.now (p + (i : Int)) ∨ (onAll (offD (apL d p B m).1) ps).now (p + (i : Int)) = ⟨B i, false⟩ ∨ ((onAll (offD (apL d p B m).1) ps).now (p + (i : Int))).lost = true) := by
  obtain ⟨k, hk, hW, h0, h8⟩ := wrK_eff (B := B) hp h.off h.fuse m (Nat.le_refl _)
  rw [apL]
  generalize wrK d p B m = r at *
  obtain ⟨d1, e1⟩ := r
  simp only at h0 h8 hW ⊢
  by_cases he : e1 = 0
  · rw [if_pos he]
    obtain ⟨rfl, ho, hfu⟩ := h0 he
    simp only
    by_cases hb : burnB d1 = true
    · have hE : syncE d1 = 8 := by simp [syncE, ho, hb]
      have hD : syncAll d1 = offD d1 := by
        have : d1.fuse = 0 := by rwa [burnB, decide_eq_true_eq] at hb
        simp [syncAll, ho, hb, burnD, this]
      rw [hE, hD]
      exact .inr ⟨rfl, fun ps => onL_calm h.base (d' := offD d1) ⟨hW.sure, hW.now, hW.loose⟩ ps⟩
    · have hb' : burnB d1 = false := by simpa using hb
      have hE : syncE d1 = 0 := by simp [syncE, ho, hb']
      have hD : syncAll d1 = syncD (burnD d1) := by simp [syncAll, ho, hb']
      have hf0 : d1.fuse ≠ 0 := by intro e; rw [burnB, decide_eq_false_iff_not] at hb'; exact hb' e
      have hl : (burnD d1).loose = d1.loose ∧ (burnD d1).now = d1.now ∧ (burnD d1).sure = d1.sure ∧ (burnD d1).off = false ∧ -1 ≤ (burnD d1).fuse := by
        have hff := h.fuse
        unfold burnD
        rw [if_neg hf0]
        split
        · exact ⟨rfl, rfl, rfl, ho, by simp only; omega⟩
        · exact ⟨rfl, rfl, rfl, ho, by omega⟩
      rw [hE, hD]
      refine .inl ⟨rfl, ⟨hl.2.2.2.1, hl.2.2.2.2, rfl, fun a => ?_⟩, fun a => ?_⟩
      · show syncF (burnD d1).now (burnD d1).loose (burnD d1).sure a = (burnD d1).now a
        rw [syncF_at, hl.1, hl.2.1, hl.2.2.1]
        split
        · rfl
        · next hc =>
          rw [hW.loose, h.loose, List.nil_append, wlL_any] at hc
          rw [hW.sure, h.same, hW.now, nowL_out _ _ _ hc]
      · show (burnD d1).now a = _
        rw [hl.2.1, hW.now]
  · rw [if_neg he]
    obtain ⟨q1, q2, _⟩ := h8 he
    refine .inr ⟨q1, fun ps => ?_⟩
    obtain ⟨k1, k2, k3⟩ := onL_calm h.base (d' := d1) ⟨hW.sure, hW.now, hW.loose⟩ ps
    refine ⟨k1, fun a ha => k2 a (by omega), fun i hi => ?_⟩
    by_cases him : i < k
    · exact k3 i him
    · exact .inl (k2 _ (by omega))
theorem wrS_wrK (d : DS) (p : Int) (c : Nat) (b : List UInt8) : ∀ k, wrS d p c b k = wrK d p (secB c b) k
  | 0 => rfl
  | k + 1 => by rw [wrS, wrK, wrS_wrK d p c b k]
theorem ptF_apL (d : DS) (p : Int) (which : Nat) (b : List UInt8) : ptF d p which b = apL d (p + ((1 - which : Nat) : Int) * 10) (secB (nextF d p) b) 10 := by rw [ptF, apL, wrS_wrK]
variable {p lim : Int} {life M K : Nat} {rs : List (List UInt8)} {q : Int} {z : Nat}
theorem BookSt.up (h : BookSt d p lim life M K rs q z) {M' : Nat} (h1 : M ≤ M') (h2 : M' ≤ life + 1) : BookSt d p lim life M' K rs q z :=
  ⟨h.cell, h.lim_, h.life62, h.chn, h.zl, fun a ha hb s hs => by have := h.old a ha hb s hs; omega, h2, h.none_⟩
theorem BookSt.stay (h : BookSt d p lim life M K rs q z) {K' : Nat} (hc : ∃ which N has, CellSt d' p which N has K' ∧ (life = 0 ∧ has = [] ∨ has = be 8 life)) (hnow : ∀ a, ¬ (p ≤ a ∧ a < p + 20) → d'.now a = d.now a) : BookSt d' p lim life M K' rs q z := by
  have hlim := h.lim_
  have hq := h.q_
  have ho : d'.off = false := by
    obtain ⟨_, _, _, h1, _⟩ := hc
    exact h1.off
  have hsee : ∀ a, p + 20 ≤ a → a < lim → seeD d' a = seeD d a := fun a h1 h2 => see_same h.off ho (by omega) (hnow a (by omega))
  have h62 := h.life62
  refine ⟨hc, hlim, h62, h.chn.ext (fun a h1 h2 => (hsee a h1 (by omega)).symm), h.zl, fun a h1 h2 s hs => ?_, h.ml, h.none_up (fun a h1 h2 => hsee a (by omega) h2) (by omega)⟩
  rw [hsee a (by omega) h2] at hs
  exact h.old a h1 h2 s hs
/-- All as it was. -/
theorem BookSt.keep (h : BookSt d p lim life M K rs q z) (ho : d'.off = false) (hnow : ∀ a, d'.now a = d.now a) : BookSt d' p lim life M K rs q z := by
  obtain ⟨which, N, has, hc, hh⟩ := h.cell
  exact h.stay ⟨which, N, has, hc.keep ho (fun a _ _ => hnow a), hh⟩ (fun a _ => hnow a)
/-- Open with a fuse that may burn. -/
theorem BookSt.open_power (h : BookSt d p lim life M K rs q z) (hC : CalmF d) (hl : life + 1 < 2 ^ 62) (hK : K + 2 < 2 ^ 64) :
    ((liveF d p).2 = (0, life + 1) ∧ CalmF (liveF d p).1 ∧ BookSt (liveF d p).1 p lim (life + 1) (life + 1) (K + 1) rs q z ∧ (∀ f, rs.length ≤ f → allF (seeD (liveF d p).1) lim (life + 1) f (p + 20) 0 1 = (rs, q, rs.length))) ∨
    ((liveF d p).2 = (8, life + 1) ∧ ∀ ps, Calm (onAll (offD (liveF d p).1) ps) ∧ ∃ life', life ≤ life' ∧ life' ≤ life + 1 ∧ BookSt (onAll (offD (liveF d p).1) ps) p lim life' (life' + 1) (K + 1) rs q z) := by
  obtain ⟨which, N, has, hc, hh⟩ := h.cell
  have hwh := hc.wh
  have hlim := h.lim_
  have hb8 : (be 8 (life + 1)).length ≤ 1100 := by rw [be_length]; omega
  rw [live_of hc hh hl, ptF_apL]
  simp only
  obtain ⟨Q, hQ⟩ : ∃ Q, p + ((1 - which : Nat) : Int) * 10 = Q := ⟨_, rfl⟩
  rw [hQ]
  rcases apL_step hC (p := Q) (B := secB (nextF d p) (be 8 (life + 1))) (m := 10) (by omega) with ⟨k1, k2, k3⟩ | ⟨k1, k2⟩
  · refine .inl ⟨by rw [k1], k2, ?_⟩
    have hnow : ∀ a, ¬ (p ≤ a ∧ a < p + 20) → (apL d Q (secB (nextF d p) (be 8 (life + 1))) 10).1.now a = d.now a := fun a ha => by rw [k3, nowL_out _ _ _ (by omega)]
    refine h.next hl (which := 1 - which) (N := nextF d p) ?_ hnow
    rcases hc.torn (d' := (apL d Q (secB (nextF d p) (be 8 (life + 1))) 10).1) k2.off hb8 Q hQ.symm (fun a ha => by rw [k3, nowL_out _ _ _ (by omega)]) (fun i hi => .inr (.inl (by rw [k3, nowL_in _ _ _ hi]))) hK with ⟨k, _⟩ | ⟨_, i, hi, hne⟩
    · exact k
    · exact absurd (by rw [k3, nowL_in _ _ _ hi]) hne
  · refine .inr ⟨by rw [k1], fun ps => ?_⟩
    obtain ⟨c1, c2, c3⟩ := k2 ps
    have hnow : ∀ a, ¬ (p ≤ a ∧ a < p + 20) → (onAll (offD (apL d Q (secB (nextF d p) (be 8 (life + 1))) 10).1) ps).now a = d.now a := fun a ha => c2 a (by omega)
    refine ⟨c1, ?_⟩
    rcases hc.torn (d' := onAll (offD (apL d Q (secB (nextF d p) (be 8 (life + 1))) 10).1) ps) c1.off hb8 Q hQ.symm (fun a ha => c2 a (by omega)) c3 hK with ⟨k, _⟩ | ⟨k, _⟩
    · exact ⟨life + 1, by omega, by omega, (h.next hl k hnow).1.up (by omega) (by omega)⟩
    · exact ⟨life, by omega, by omega, (h.stay ⟨_, _, _, k, hh⟩ hnow).up h.ml (by omega)⟩
/-- Append with a fuse that may burn. -/
theorem BookSt.append_power (h : BookSt d p lim life M K rs q z) (hC : CalmF d) (hM : M ≤ life) (hl1 : 1 ≤ life) {r : List UInt8} (hr : r.length ≤ 4096) (hq : q + (pagesN r.length : Int) ≤ lim) :
    ((apL d q (recP life (rs.length + 1) r) (pagesN r.length)).2 = 0 ∧ CalmF (apL d q (recP life (rs.length + 1) r) (pagesN r.length)).1 ∧ BookSt (apL d q (recP life (rs.length + 1) r) (pagesN r.length)).1 p lim life life K (rs ++ [r]) (q + (pagesN r.length : Int)) life) ∨
    ((apL d q (recP life (rs.length + 1) r) (pagesN r.length)).2 = 8 ∧ ∀ ps, Calm (onAll (offD (apL d q (recP life (rs.length + 1) r) (pagesN r.length)).1) ps) ∧
      (BookSt (onAll (offD (apL d q (recP life (rs.length + 1) r) (pagesN r.length)).1) ps) p lim life (life + 1) K (rs ++ [r]) (q + (pagesN r.length : Int)) life ∨ BookSt (onAll (offD (apL d q (recP life (rs.length + 1) r) (pagesN r.length)).1) ps) p lim life (life + 1) K rs q z)) := by
  have hlim := h.lim_
  have hqq := h.q_
  rcases apL_step hC (p := q) (B := recP life (rs.length + 1) r) (m := pagesN r.length) (by omega) with ⟨k1, k2, k3⟩ | ⟨k1, k2⟩
  · exact .inl ⟨k1, k2, h.grown hM hl1 hr hq k2.off k3⟩
  · refine .inr ⟨k1, fun ps => ?_⟩
    obtain ⟨c1, c2, c3⟩ := k2 ps
    generalize onAll (offD (apL d q (recP life (rs.length + 1) r) (pagesN r.length)).1) ps = d' at *
    refine ⟨c1, ?_⟩
    by_cases hall : ∀ i : Nat, i < pagesN r.length → d'.now (q + (i : Int)) = ⟨recP life (rs.length + 1) r i, false⟩
    · refine .inl ((h.grown hM hl1 hr hq c1.off (fun a => ?_)).up (by omega) (by omega))
      by_cases ha : q ≤ a ∧ a < q + (pagesN r.length : Int)
      · obtain ⟨i, rfl⟩ : ∃ i : Nat, a = q + (i : Int) := ⟨(a - q).toNat, by omega⟩
        rw [hall i (by omega), nowL_in _ _ _ (by omega)]
      · rw [c2 a ha, nowL_out _ _ _ ha]
    · refine .inr ?_
      obtain ⟨which, N, has, hc, hh⟩ := h.cell
      have h62 := h.life62
      have hpg := (pagesN_room r.length).2
      have hsee : ∀ a, ¬ (q ≤ a ∧ a < q + (pagesN r.length : Int)) → p ≤ a → a < lim → seeD d' a = seeD d a := fun a h0 h1 h2 => see_same h.off c1.off (by omega) (c2 a h0)
      have hin : ∀ i : Nat, i < pagesN r.length → seeD d' (q + (i : Int)) = seeD d (q + (i : Int)) ∨ seeD d' (q + (i : Int)) = some (recP life (rs.length + 1) r i) ∨ seeD d' (q + (i : Int)) = none := fun i hi => by
        rcases c3 i hi with h1 | h1 | h1
        · exact .inl (see_same h.off c1.off (by omega) h1)
        · exact .inr (.inl (see_is c1.off (by omega) h1))
        · exact .inr (.inr (by rw [see_on c1.off (by omega), if_pos h1]))
      have hhd : ∀ i : Nat, i < pagesN r.length → headR (recP life (rs.length + 1) r i) = ⟨life, rs.length + 1, i, pagesN r.length⟩ := fun i hi => head_recP (by omega) (by omega) hr hi
      refine ⟨⟨which, N, has, hc.keep c1.off (fun a h1 h2 => c2 a (by omega)), hh⟩, hlim, h62, h.chn.ext (fun a h1 h2 => (hsee a (by omega) (by omega) (by omega)).symm), h.zl, fun a h1 h2 s hs => ?_, Nat.le_refl _, ?_⟩
      · by_cases ha : q ≤ a ∧ a < q + (pagesN r.length : Int)
        · obtain ⟨i, rfl⟩ : ∃ i : Nat, a = q + (i : Int) := ⟨(a - q).toNat, by omega⟩
          rcases hin i (by omega) with h3 | h3 | h3
          · rw [h3] at hs
            have := h.old _ h1 h2 s hs
            omega
          · rw [h3] at hs
            cases hs
            rw [hhd i (by omega)]
            exact .inl (Nat.lt_succ_self _)
          · rw [h3] at hs; cases hs
        · rw [hsee a ha (by omega) h2] at hs
          have := h.old _ h1 h2 s hs
          omega
      · match hrd : readF (seeD d') lim q rs.length z life with
        | none => rfl
        | some (r2, g) =>
          exfalso
          obtain ⟨a1, a2, a3, a4, a5, _, _, a6⟩ := readF_pages hrd
          by_cases hg : g.life = life
          · have hnew : ∀ i : Nat, i < g.pages → i < pagesN r.length → seeD d' (q + (i : Int)) = some (recP life (rs.length + 1) r i) := fun i hi him => by
              obtain ⟨s, hs, hs1, _⟩ := a6 i hi
              rcases hin i him with h3 | h3 | h3
              · rw [h3] at hs
                have := h.old _ (by omega) (by omega) s hs
                omega
              · exact h3
              · rw [h3] at hs; cases hs
            obtain ⟨s, hs, _, _, _, hs4⟩ := a6 0 (by omega)
            rw [hnew 0 (by omega) (by omega)] at hs
            cases hs
            rw [hhd 0 (by omega)] at hs4
            simp only at hs4
            refine hall fun i hi => ?_
            have hi2 := hnew i (by omega) hi
            rw [see_on c1.off (by omega)] at hi2
            split at hi2
            · cases hi2
            · next hlo =>
              have hlo' : (d'.now (q + (i : Int))).lost = false := by simpa using hlo
              have hb : (d'.now (q + (i : Int))).b = recP life (rs.length + 1) r i := by simpa using hi2
              generalize d'.now (q + (i : Int)) = S at *
              obtain ⟨b, lo⟩ := S
              simp only at hlo' hb
              rw [hlo', hb]
          · have hold : ∀ i : Nat, i < g.pages → seeD d' (q + (i : Int)) = seeD d (q + (i : Int)) := fun i hi => by
              by_cases him : i < pagesN r.length
              · obtain ⟨s, hs, hs1, _⟩ := a6 i hi
                rcases hin i him with h3 | h3 | h3
                · exact h3
                · rw [h3] at hs
                  cases hs
                  rw [hhd i him] at hs1
                  exact absurd hs1.symm hg
                · rw [h3] at hs; cases hs
              · exact hsee _ (by omega) (by omega) (by omega)
            have hk := readF_keep (V' := seeD d) (fr' := z) (life' := life) hrd hold a1 a2
            rw [h.none_] at hk
            cases hk
end
end Go.Proofs.Ytmjdfajdompkeaa
namespace Go.Rat
open Go.ChangeShapes Go.WideShapes Go.ChangeAt Go.RowKit Go
/-- A slice of slices of bytes. -/
structure SR where
  A : Option Addr
  n : Nat
  c : Nat
  l : List SB
def SR.v (s : SR) : Value := .slice s.A s.n s.c
structure SR.ok (w : World) (s : SR) : Prop where
  len : s.l.length = s.n
  r : Reads w w.heap.size 1 s.A s.n (s.l.flatMap fun x => [x.v])
  i : ∀ x ∈ s.l, SB.ok w x
  c : s.n ≤ s.c
theorem rds_rows {P : Program} {t e u : TypeId} (hu : P.underlying t = some (.slice e)) (he : P.underlying e = some (.slice u)) (hb : P.underlying u = some (.int .u8)) (hs : P.cellsOf e = 1) (hs2 : P.cellsOf u = 1) : Rds P t (fun s : SR => [s.v]) SR.ok := by
  intro H enc w base spare held fuel cs x h
  have hcs : ∃ A n c, cs = [.slice A n c] := by
    rcases Go.Deep.open_slice hu h with ⟨h1, _⟩ | ⟨a, len, cap, _, _, _, _, h1, _⟩
    · exact ⟨_, _, _, h1⟩
    · exact ⟨_, _, _, h1⟩
  obtain ⟨A, n, c, rfl⟩ := hcs
  obtain ⟨l, h1, h2, h3, h4, _, _⟩ := slice_cells hu (rds_bytes he hb hs2) (size := 1) hs (by omega) h
  exact ⟨⟨A, n, c, l⟩, rfl, ⟨h1, h2, fun a ha => (h3 a ha).1, h4⟩⟩
end Go.Rat
namespace Go.Proofs.Ytmjdfajdompkeaa
open Go.RowKit Go.Rat
theorem RB.any {w w' : World} {A : Option Addr} {n : Nat} {xs : List UInt8} (h : RB w A n xs) (hn : n = 0) : RB w' A n xs := ⟨h.1, fun h0 => by omega⟩
/-- A row of slices of the call's own; where a slice is not empty it lies beside a disk and beside the row. -/
structure RowW (w : World) (l : DL) (base : Nat) (A : Option Addr) (N c : Nat) (ps : List Pt) : Prop where
  own : w.ownsRow base 22 1 (.slice A N c) N (ps.map Pt.v)
  len : ps.length = N
  ok : ∀ p ∈ ps, PtOk w p
  apart : ∀ p ∈ ps, p.n ≠ 0 → Apart A p.A
  lt : ∀ p ∈ ps, p.n ≠ 0 → ∀ g, p.A.map (·.block) = some g → g < w.heap.size
  out : ∀ p ∈ ps, p.n ≠ 0 → ∀ g, p.A.map (·.block) = some g → ¬ l.fp g
  outA : ∀ g, A.map (·.block) = some g → ¬ l.fp g
section
variable {w w' : World} {l l' : DL} {base N c : Nat} {A : Option Addr} {ps : List Pt}
theorem RowW.nil (w : World) (l : DL) (base : Nat) : RowW w l base none 0 0 [] := ⟨World.ownsRow_nil _ _ _ _, rfl, by simp, by simp, by simp, by simp, by simp⟩
theorem RowW.ltA (h : RowW w l base A N c ps) : ∀ g, A.map (·.block) = some g → base ≤ g ∧ g < w.heap.size := fun g hg =>
  World.ownsRow.lt h.own g (by cases A <;> simp_all [Value.ownBlock])
theorem RowW.cmoved {k : Nat} (h : RowW w l base A N c ps) (hm : CMoved w w' l l' k) (hA : ∀ x, A.map (·.block) = some x → x ≠ k) (hps : ∀ p ∈ ps, p.n ≠ 0 → ∀ x, p.A.map (·.block) = some x → x ≠ k) : RowW w' l' base A N c ps :=
  ⟨hm.chg.own h.own (fun x hx hf => hf.elim (h.outA x hx) (hA x hx)), h.len, fun p hp => ⟨by
      by_cases h0 : p.n = 0
      · exact RB.any (h.ok p hp).r h0
      · exact hm.chg.rb (h.ok p hp).r (fun x hx hf => hf.elim (h.out p hp h0 x hx) (hps p hp h0 x hx)), (h.ok p hp).c⟩, h.apart, fun p hp h0 g hg => Nat.lt_of_lt_of_le (h.lt p hp h0 g hg) hm.chg.size,
    fun p hp h0 g hg hf => by
      rcases hm.fp g hf with h1 | h1
      · exact h.out p hp h0 g hg h1
      · have := h.lt p hp h0 g hg
        omega,
    fun g hg hf => by
      rcases hm.fp g hf with h1 | h1
      · exact h.outA g hg h1
      · have := h.ltA g hg
        omega⟩
theorem RowW.moved (h : RowW w l base A N c ps) (hm : Moved w w' l l') : RowW w' l' base A N c ps :=
  ⟨hm.chg.own h.own h.outA, h.len, fun p hp => ⟨by
      by_cases h0 : p.n = 0
      · exact RB.any (h.ok p hp).r h0
      · exact hm.chg.rb (h.ok p hp).r (h.out p hp h0), (h.ok p hp).c⟩, h.apart, fun p hp h0 g hg => Nat.lt_of_lt_of_le (h.lt p hp h0 g hg) hm.chg.size,
    fun p hp h0 g hg hf => by
      rcases hm.fp g hf with h1 | h1
      · exact h.out p hp h0 g hg h1
      · have := h.lt p hp h0 g hg
        omega,
    fun g hg hf => by
      rcases hm.fp g hf with h1 | h1
      · exact h.outA g hg h1
      · have := h.ltA g hg
        omega⟩
theorem RowW.below (h : RowW w l base A N c ps) (hb : Below w.heap.size w w') : RowW w' l base A N c ps := h.moved (Moved.of_below hb)
theorem RowW.reads (h : RowW w l base A N c ps) : RowR w A N ps := own_rowR h.own h.ok
end
/-- append of one slice to such a row. -/
theorem app_sliceW {w : World} {ops : Array Oper} {rest : List Oper} {o : Oper} {a : Act} {Q : Exit → Act → World → Prop} (hw : Region.wanted o (yielded ops a.tmps) = true) (s x : Operand)
    (ho : o.op = .call { callee := .builtin .append, args := #[s, x], argTypes := #[68, 68] })
    (l : DL) (hlt : ∀ x, l.fp x → x < w.heap.size) (base : Nat) (A : Option Addr) (n c : Nat) (ps : List Pt) (hs : a.eval s = .slice A n c) (hR : RowW w l base A n c ps)
    (p : Pt) (hp : PtOk w p) (hpn : p.n ≠ 0 → ∀ g, p.A.map (·.block) = some g → g < w.heap.size ∧ ¬ l.fp g) (hap : p.n ≠ 0 → Apart A p.A) (T : TypeId)
    (w0 : World) (hw0 : w0 = w.alloc (.cells #[p.v] T))
    (hx : a.eval x = .slice (some ⟨w.heap.size, 0, none⟩) 1 1) (hn : n + 1 < 1000000) (hbase : base ≤ w.heap.size)
    (h : ∀ A2 c2 w2, RowW w2 l base A2 (n + 1) c2 (ps ++ [p]) → Below base w0 w2 → Grew w0 w2 A A2 → wpList Try.prog ops Q rest (a.put o.dst (.slice A2 (n + 1) c2)) w2) :
    wpList Try.prog ops Q (o :: rest) a w0 := by
  subst hw0
  have hR0 := hR.below (below_alloc w (.cells #[p.v] T))
  refine app_rows hw s x ho base A n c (ps.map Pt.v) hs hR0.own _ 1 1 [p.v] hx ⟨w.heap.size + 1, rfl, fun _ => ⟨_, rfl, Nat.lt_succ_self _, cell_one_new w p.v T⟩⟩ (by intro u hu; simp at hu; subst hu; rfl) hn (by simp; omega) ?_
  intro A2 N2 c2 w2 hO hG
  have hN2 : N2 = n + 1 := by
    have h1 := hO.1
    rw [List.length_append, List.length_map, hR.len] at h1
    simp at h1
    omega
  subst hN2
  have hb : Below base (w.alloc (.cells #[p.v] T)) w2 := (Below.refl _ _).grown hG.grown (by simp; omega) (fun k hk => (hR.ltA k hk).1)
  refine h A2 c2 w2 ⟨?_, by rw [List.length_append, hR.len]; rfl, ?_, ?_, ?_, ?_, ?_⟩ hb hG
  · rw [List.map_append]
    exact hO
  · intro q hq
    rcases List.mem_append.1 hq with h1 | h1
    · by_cases h0 : q.n = 0
      · exact ⟨RB.any (hR.ok q h1).r h0, (hR.ok q h1).c⟩
      · exact PtOk.grew (hR0.ok q h1) (hR.apart q h1 h0) hG
    · obtain rfl : q = p := by simpa using h1
      by_cases h0 : q.n = 0
      · exact ⟨RB.any hp.r h0, hp.c⟩
      · exact PtOk.grew (hp.below (below_alloc _ _)) (hap h0) hG
  · intro q hq h0
    rcases List.mem_append.1 hq with h1 | h1
    · exact (hR.apart q h1 h0).grew hG (fun g hg => by have := hR.lt q h1 h0 g hg; simp; omega)
    · obtain rfl : q = p := by simpa using h1
      exact (hap h0).grew hG (fun g hg => by have := (hpn h0 g hg).1; simp; omega)
  · intro q hq h0 g hg
    have hsz := hG.grown.size
    simp at hsz
    rcases List.mem_append.1 hq with h1 | h1
    · have := hR.lt q h1 h0 g hg
      omega
    · obtain rfl : q = p := by simpa using h1
      have := (hpn h0 g hg).1
      omega
  · intro q hq h0 g hg
    rcases List.mem_append.1 hq with h1 | h1
    · exact hR.out q h1 h0 g hg
    · obtain rfl : q = p := by simpa using h1
      exact (hpn h0 g hg).2
  · intro g hg hf
    have hl := hlt g hf
    rcases hG.lies with h1 | ⟨g', h1, h2, _⟩
    · exact hR.outA g (h1 ▸ hg) hf
    · rw [h1] at hg
      cases hg
      simp at h2
      omega
/-- A round of the law: k crashes were gone through. -/
structure PwSt (k : Nat) (d : DS) (life K : Nat) (rs : List (List UInt8)) (q : Int) (z : Nat) : Prop where
  calm : Calm d
  st : BookSt d 0 4000 life (life + 1) K rs q z
  bl : life ≤ 2 * k
  bK : K ≤ 2 + 2 * k
  br : rs.length ≤ 10 * k
  bq : q ≤ 20 + 10 * (rs.length : Int)
theorem pwb_start : ∃ d1, fmF ds0 0 = (d1, 0) ∧ PwSt 0 d1 0 2 [] 20 1 := by
  obtain ⟨h1, h2, h3, h4, h5, _, h7⟩ := format_calm (d := ds0) (p := 0) (by omega) rfl rfl
  obtain ⟨_, s, _, _, _⟩ := book_format (d := ds0) (p := 0) (lim := 4000) (by omega) rfl rfl (fun _ _ _ => rfl)
  exact ⟨_, Prod.ext rfl h1, ⟨⟨h2, h3, h4, h7 (fun _ => .inl rfl)⟩, s, Nat.le_refl _, Nat.le_refl _, Nat.le_refl _, by decide⟩⟩
end Go.Proofs.Ytmjdfajdompkeaa
namespace Go.Proofs.Ytmjdfajdompkeaa
open Go.RowKit Go.Rat
/-- Open, where no fuse burns: the disk is as calm as before. -/
theorem BookSt.op_calm {d : DS} {p lim : Int} {life M K : Nat} {rs : List (List UInt8)} {q : Int} {z : Nat} (h : BookSt d p lim life M K rs q z) (hC : Calm d) (hl : life + 1 < 2 ^ 62) (hK : K + 2 < 2 ^ 64) (size : Int) (hsz : p + size = lim) :
    ∃ d', OpOf d d' p size lim life K rs q z ∧ Calm d' := by
  obtain ⟨d', op⟩ := h.op hC.fuse hl hK size hsz
  have hlim := h.lim_
  have hm := may_ok hlim hsz
  have hd : (liveF d p).1 = d' := by
    rw [← op.d_, bopD, if_neg (by rw [hm]; decide)]
  rcases h.open_power ⟨hC.off, by rw [hC.fuse]; decide, hC.loose, hC.same⟩ hl hK with ⟨_, k2, _⟩ | ⟨k1, _⟩
  · rw [hd] at k2
    exact ⟨d', op, ⟨k2.off, op.f, k2.loose, k2.same⟩⟩
  · have he := op.e
    rw [bopE, if_neg (by rw [hm]; decide), k1] at he
    exact absurd he (show (8 : Int) ≠ 0 by decide)
/-- Open with a fuse. -/
theorem BookSt.op_fused {d : DS} {life K : Nat} {rs : List (List UInt8)} {q : Int} {z : Nat} (h : BookSt d 0 4000 life (life + 1) K rs q z) (hC : Calm d) (f : Int) (hl : life + 1 < 2 ^ 62) (hK : K + 2 < 2 ^ 64) :
    ∃ d', bopD (fuseD d f) 0 4000 = d' ∧ ((bopE (fuseD d f) 0 4000 = 0 ∧ bopA (fuseD d f) 0 4000 = (rs, q, rs.length) ∧ bopS (fuseD d f) 0 4000 = ⟨q, 4000, life + 1, rs.length, false⟩ ∧ CalmF d' ∧ BookSt d' 0 4000 (life + 1) (life + 1) (K + 1) rs q z) ∨
      (bopE (fuseD d f) 0 4000 = 8 ∧ ∀ ps, Calm (onAll (offD d') ps) ∧ ∃ life', life ≤ life' ∧ life' ≤ life + 1 ∧ BookSt (onAll (offD d') ps) 0 4000 life' (life' + 1) (K + 1) rs q z)) := by
  have hf : BookSt (fuseD d f) 0 4000 life (life + 1) K rs q z := h.keep hC.off (fun _ => rfl)
  have hm : bmayE 0 4000 = 0 := by decide
  have hD : bopD (fuseD d f) 0 4000 = (liveF (fuseD d f) 0).1 := by rw [bopD, if_neg (by rw [hm]; decide)]
  have hE : bopE (fuseD d f) 0 4000 = (liveF (fuseD d f) 0).2.1 := by rw [bopE, if_neg (by rw [hm]; decide)]
  have hq := h.q_
  refine ⟨_, hD, ?_⟩
  rcases hf.open_power (hC.fused f) hl hK with ⟨k1, k2, k3, k4⟩ | ⟨k1, k2⟩
  · have hA : bopA (fuseD d f) 0 4000 = (rs, q, rs.length) := by
      rw [bopA, k1]
      exact k4 _ (by have : (4000 : Int).toNat = 4000 := rfl; omega)
    exact .inl ⟨by rw [hE, k1], hA, by rw [bopS, hA, k1]; rfl, k2, k3⟩
  · exact .inr ⟨by rw [hE, k1], k2⟩
/-- Append with a fuse. -/
theorem BookSt.ap_fused {d : DS} {L K : Nat} {rs : List (List UInt8)} {q : Int} {z : Nat} (h : BookSt d 0 4000 L L K rs q z) (hC : CalmF d) (hL : 1 ≤ L) {r : List UInt8} (hr : r.length ≤ 4096) (hq : q + (pagesN r.length : Int) ≤ 4000) :
    ∃ d', (bapR d ⟨q, 4000, L, rs.length, false⟩ r = (d', ⟨q + (pagesN r.length : Int), 4000, L, rs.length + 1, false⟩, 0) ∧ CalmF d' ∧ BookSt d' 0 4000 L L K (rs ++ [r]) (q + (pagesN r.length : Int)) L) ∨
      (bapR d ⟨q, 4000, L, rs.length, false⟩ r = (d', ⟨q, 4000, L, rs.length, true⟩, 8) ∧ ∀ ps, Calm (onAll (offD d') ps) ∧ (BookSt (onAll (offD d') ps) 0 4000 L (L + 1) K (rs ++ [r]) (q + (pagesN r.length : Int)) L ∨ BookSt (onAll (offD d') ps) 0 4000 L (L + 1) K rs q z)) := by
  refine ⟨(apL d q (recP L (rs.length + 1) r) (pagesN r.length)).1, ?_⟩
  rw [bapR, if_neg (by omega), if_neg (by simp), if_neg (by simp only; omega)]
  rcases h.append_power hC (Nat.le_refl _) hL hr hq with ⟨k1, k2, k3⟩ | ⟨k1, k2⟩
  · refine .inl ⟨?_, k2, k3⟩
    simp only [k1, if_true]
  · refine .inr ⟨?_, k2⟩
    simp only [k1]
    rfl
end Go.Proofs.Ytmjdfajdompkeaa
namespace Go.Proofs.Ytmjdfajdompkeaa
open Go.RowKit Go.Rat
set_option maxRecDepth 20000 in
set_option maxHeartbeats 8000000 in
theorem ball_any2 (w : World) (base : Nat) (l : DL) (d : DS) (hD : DiskAt w base l d) (k : Nat) (s : BS) (hB : BookAt w base l k s) (hs : 0 ≤ s.next ∧ s.next ≤ 32768 ∧ s.lim ≤ 32768 ∧ (s.n : Int) ≤ s.next ∧ s.life < 2 ^ 64) (f : Nat) (hf : (s.lim - s.next).toNat ≤ f) :
    Calls Try.prog 69 #[.pointer (some ⟨k, 0, none⟩)] w fun e w' => ∃ A N c ps, e = .returned (.slice A N c) ∧ Row w' l w.heap.size A N c ps ∧ ps.map (·.xs) = (allF (seeD d) s.lim s.life f s.next s.n 1).1 ∧
      BookAt w' base l k { s with next := (allF (seeD d) s.lim s.life f s.next s.n 1).2.1, n := (allF (seeD d) s.lim s.life f s.next s.n 1).2.2 } ∧ w.grownBy w' (some k) ∧ (∀ q ∈ ps, ∀ g, q.A.map (·.block) = some g → w.heap.size ≤ g) := by
  obtain ⟨TOT, hT⟩ : ∃ T, allF (seeD d) s.lim s.life f s.next s.n 1 = T := ⟨_, rfl⟩
  rw [hT]
  have HT := Lib.hid hT
  clear hT
  have hkf : ∀ x, l.fp x → ¬ x = k := fun x hx e => hB.out (e ▸ hx)
  have hlt : ∀ x, l.fp x → x < w.heap.size := fun x hx => (hD.fp_lt hx).2
  have hkw : k < w.heap.size := hB.blk.lt
  go_enter Try.func69, Try.ntmps69
  go_wp2_with fail
  go_loopw [2, 3] (fun rv fv wr => ∃ (p : Int) (n fr f' : Nat) (A : Option Addr) (N c : Nat) (ps : List Pt), rv = .slice A N c ∧ fv = .int .u64 (fr : Int) ∧ fr < 2 ^ 64 ∧ Row wr l w.heap.size A N c ps ∧ BookAt wr base l k { s with next := p, n := n } ∧ (s.lim - p).toNat ≤ f' ∧
    ps.map (·.xs) ++ (allF (seeD d) s.lim s.life f' p n fr).1 = TOT.1 ∧ (allF (seeD d) s.lim s.life f' p n fr).2 = TOT.2 ∧ w.grownBy wr (some k) ∧ 0 ≤ p ∧ p ≤ 32768 ∧ (n : Int) ≤ p ∧ N ≤ n ∧ ∀ q ∈ ps, ∀ g, q.A.map (·.block) = some g → w.heap.size ≤ g) (fun rv _ _ => 40000 - lenOf rv)
  case atStart => exact ⟨s.next, s.n, 1, f, none, 0, 0, [], rfl, rfl, by decide, Row.nil _ _ _, hB, hf, by rw [HT.out]; rfl, by rw [HT.out], World.grownBy.refl _ _, hs.1, hs.2.1, hs.2.2.2.1, Nat.zero_le _, by simp⟩
  case round =>
    obtain ⟨p, n, fr, f', A, N, c, ps, rfl, rfl, hfr, hR, hBr, hf', ht1, ht2, hg, hp0, hp1, hnp, hNn, hge⟩ := hrel
    have hDr : DiskAt wr base l d := hD.kept (Chg.of_grown (F := fun x => x = k) hg rfl) (fun x hx e => hkf x hx e)
    have HT1 := Lib.hid ht1
    have HT2 := Lib.hid ht2
    have hsz := hg.size
    have hR0 := hR
    clear ht1 ht2
    go_wp2_with fail
    refine (bread_any wr base l d hDr k _ hBr ⟨hp0, hp1, by simp only; omega, hs.2.2.2.2⟩ fr hfr).mono ?_
    rintro e wa ⟨(⟨hrf, h, rfl⟩ | ⟨r, h, A1, N1, c1, hrf, rfl, hO⟩), hba⟩
    · have hRF := allF_none hrf f'
      have hx1 := HT1.out
      have hx2 := HT2.out
      rw [hRF] at hx1 hx2
      rw [List.append_nil] at hx1
      have HX1 := Lib.hid hx1
      have HX2 := Lib.hid hx2
      have hR := hR.below hba
      have hBr := hBr.below hba
      have hg := hg.trans (grownBy_of_below hba (some k))
      simp only []
      clear hrf hRF hx1 hx2 hba hDr
      repeat (first | ((with_reducible refine wpl_store_fresh (headL h).toArray i4 ?_ rfl (headL_ones _) ?_ ?_ ?_); (focus rfl); (focus rfl); (focus rfl); intro wb hG hlb hbb; simp only [Act.put]; refine Hid.out ?_) | go_values | go_skip | go_guarded | go_step | go_upon | go_back)
      refine Lib.hid ?_
      have hR := hR.below hbb
      have hBr := hBr.below hbb
      have hg := hg.trans (grownBy_of_below hbb (some k))
      clear hbb hG hlb
      go_wp2_with fail
      go_ret
      exact ⟨A, N, c, rfl, ps, hR, HX1.out, by rw [← HX2.out]; exact hBr, hg, fun q hq a ha => hge q hq a.block (by rw [ha]; rfl)⟩
    · have hrf0 := hrf
      obtain ⟨b1, b2, b3, b4, b5, _, _, _⟩ := readF_pages hrf
      simp only at b2 b5
      obtain ⟨f2, rfl⟩ : ∃ f2, f' = f2 + 1 := ⟨f' - 1, by omega⟩
      have hRF := allF_some hrf f2
      have hx1 := HT1.out
      have hx2 := HT2.out
      rw [hRF] at hx1 hx2
      simp only at hx1 hx2
      have HX1 := Lib.hid hx1
      have HX2 := Lib.hid hx2
      have hhl : h.life < 2 ^ 64 := by have := hs.2.2.2.2; omega
      have hR := hR.below hba
      have hBr := hBr.below hba
      have hg := hg.trans (grownBy_of_below hba (some k))
      have hsa : wr.heap.size ≤ wa.heap.size := hba.size
      have hAA1 : Apart A A1 := fun x hx hx1 => by
        have h1 := (hR0.ltA x hx).2
        have h2 := (hO.ge x hx1).1
        omega
      have hA1l : ∀ x, A1.map (·.block) = some x → x < wa.heap.size ∧ wr.heap.size ≤ x := fun x hx => ⟨(hO.ge x hx).2, (hO.ge x hx).1⟩
      simp only []
      clear hrf hRF hx1 hx2 hba hDr HT1 HT2
      repeat (first | ((with_reducible refine wpl_store_fresh (headL h).toArray i4 ?_ rfl (headL_ones _) ?_ ?_ ?_); (focus rfl); (focus rfl); (focus rfl); intro wb hG hlb hbb; simp only [Act.put]; refine Hid.out ?_) | go_values | go_skip | go_guarded | go_step | go_upon | go_back)
      refine Lib.hid ?_
      have hR := hR.below hbb
      have hBr := hBr.below hbb
      have hO := OB.below hO hbb
      have hg := hg.trans (grownBy_of_below hbb (some k))
      have hsb : wa.heap.size ≤ wb.heap.size := hbb.size
      obtain ⟨gh, hgh⟩ : ∃ x, wa.heap.size = x := ⟨_, rfl⟩
      rw [hgh] at hG hlb hsa hA1l hsb ⊢
      clear hbb hgh
      have hltb : ∀ x, l.fp x → x < wb.heap.size := fun x hx => by have := hlt x hx; omega
      have hpt : PtOk wb ⟨A1, N1, c1, r⟩ := ⟨hO.reads, hO.cap.1⟩
      have hpn : ∀ g, A1.map (·.block) = some g → g < wb.heap.size ∧ ¬ l.fp g := fun x hx => ⟨by have := (hA1l x hx).1; omega, fun hf => by have h1 := hlt x hf; have h2 := (hA1l x hx).2; omega⟩
      have hAgh : A.map (·.block) ≠ some gh := fun e => by have := (hR0.ltA _ e).2; omega
      have hAk : A.map (·.block) ≠ some k := fun e => by have := (hR0.ltA _ e).1; omega
      have hNl : N < 1000000 := by omega
      have hwb : w.heap.size ≤ wb.heap.size := by omega
      have hhp := (readF_pages hrf0).2.2.2.1
      go_wp2_with (at_builtin; refine app_slice rfl _ _ rfl l hltb w.heap.size A N c ps rfl hR ⟨A1, N1, c1, r⟩ hpt hpn hAA1 22 _ rfl rfl hNl hwb ?_; intro A2 c2 wc hR2 hbc hgc; have hGc := (Blk.alloc hG _).grown hgc (Ne.symm hAgh); have hBc := (Blk.alloc hBr.blk _).grown hgc (Ne.symm hAk); have e0 := hGc.cell 0; simp only [headL, List.getElem?_toArray, List.getElem?_cons_zero] at e0)
      have e3 := hGc.cell 3
      have c1' := hBc.cell 1
      have f1 := hBc.frozen 1
      simp only [headL, List.getElem?_toArray, List.getElem?_cons_zero, List.getElem?_cons_succ] at e3 c1'
      have hw1 : IntKind.i64.wrap (h.pages : Int) = (h.pages : Int) := IntWalk.i64_in _ (by omega)
      have hw2 : IntKind.i64.wrap (p + (h.pages : Int)) = p + (h.pages : Int) := IntWalk.i64_in _ (by omega)
      refine wp_region_barrier [(0, false), (1, false), (2, false), (3, true), (4, false), (5, true), (6, false), (7, false), (8, false), (9, false)] 10 [] (fun z => z.cell? ⟨k, 1, none⟩ = some (.int .i64 p) ∧ z.cell? ⟨gh, 3, none⟩ = some (.int .u16 (h.pages : Int))) _ rfl (by kernel_rfl) (by kernel_rfl) (by kernel_rfl) (by kernel_rfl) (fun _ _ d _ _ h => by cases d <;> exact h) ⟨c1', e3⟩ ?_
      simp only [planOps, List.getElem?_toArray, List.getElem?_cons_zero, List.getElem?_cons_succ]
      iterate 3 (refine wpQ_q ?_ (by rfl) ?_ ?_; rotate_left; (focus (intro z hz; (try dsimp only at hz); go_simp; rfl)); simp only [Act.put, List.setIfInBounds_toArray, List.set_cons_zero, List.set_cons_succ])
      refine wpQ_q (.int .i64 p) (by rfl) (fun z hz => by have hz := (hz rfl).1; go_simp) ?_
      simp only [Act.put, List.setIfInBounds_toArray, List.set_cons_zero, List.set_cons_succ]
      iterate 1 (refine wpQ_q ?_ (by rfl) ?_ ?_; rotate_left; (focus (intro z hz; (try dsimp only at hz); go_simp; rfl)); simp only [Act.put, List.setIfInBounds_toArray, List.set_cons_zero, List.set_cons_succ])
      refine wpQ_q (.int .u16 (h.pages : Int)) (by rfl) (fun z hz => by have hz := (hz rfl).2; go_simp) ?_
      simp only [Act.put, List.setIfInBounds_toArray, List.set_cons_zero, List.set_cons_succ]
      iterate 4 (refine wpQ_q ?_ (by rfl) ?_ ?_; rotate_left; (focus (intro z hz; (try dsimp only at hz); go_simp; rfl)); simp only [Act.put, List.setIfInBounds_toArray, List.set_cons_zero, List.set_cons_succ])
      refine wpQ_nil ⟨by rfl, ?_⟩
      go_wp2_with fail
      have hB2 := hBc.set_ 1 (.int .i64 (p + (h.pages : Int)))
      have hg2 := grownBy_set wc k 1 (.int .i64 (p + (h.pages : Int)))
      obtain ⟨wd, hwd⟩ : ∃ x, wc.setCell ⟨k, 1, none⟩ (.int .i64 (p + (h.pages : Int))) = x := ⟨_, rfl⟩
      rw [hwd] at hB2 hg2 ⊢
      refine ⟨fun _ => True, trivial, ?_⟩
      refine wpS_nil ?_
      have hg3 : w.grownBy wd (some k) := andThen_grown (andThen_grown (hg.trans (grownBy_of_below (below_alloc wb _) (some k))) hgc (fun x hx => .inl (hR0.ltA x hx).1)) hg2 (fun x hx => .inr hx)
      have hge2 : ∀ q ∈ ps ++ [⟨A1, N1, c1, r⟩], ∀ g, q.A.map (·.block) = some g → w.heap.size ≤ g := by
        intro q hq x hx
        rcases List.mem_append.1 hq with h1 | h1
        · exact hge q h1 x hx
        · obtain rfl : q = ⟨A1, N1, c1, r⟩ := by simpa using h1
          have := (hA1l x hx).2
          omega
      have hR3 := hR2.chg (Chg.of_grown (F := fun x => x = k) hg2 rfl) (fun x hx e => by omega) hge2
      simp only [List.setIfInBounds_toArray, List.set_cons_zero, List.set_cons_succ] at hB2
      have c4 := hB2.cell 4
      have f4 := hB2.frozen 4
      simp only [List.getElem?_toArray, List.getElem?_cons_zero, List.getElem?_cons_succ] at c4
      clear hwd hR2 hGc hBc hbc hgc hg2 hg e0 e3 c1' f1 hR hBr hO hpt hpn
      go_wp2_with fail
      have hg4 := grownBy_set wd k 4 (.int .i64 ((n : Int) + 1))
      have hR4 := hR3.chg (Chg.of_grown (F := fun x => x = k) hg4 rfl) (fun x hx e => by omega) hge2
      have hB4 := hB2.set_ 4 (.int .i64 ((n : Int) + 1))
      simp only [List.setIfInBounds_toArray, List.set_cons_zero, List.set_cons_succ] at hB4
      refine ⟨⟨p + (h.pages : Int), n + 1, h.life, f2, A2, N + 1, c2, ps ++ [⟨A1, N1, c1, r⟩], rfl, rfl, hhl, hR4.below drew_below, ⟨hB4, hB.out, hB.bk⟩, by omega, ?_, HX2.out, (hg3.trans hg4).trans (grownBy_of_below drew_below (some k)), by omega, by omega, by omega, by omega, hge2⟩, by simp only [lenOf]; omega⟩
      rw [List.map_append, List.append_assoc]
      exact HX1.out
set_option maxRecDepth 20000 in
set_option maxHeartbeats 8000000 in
theorem bopen_any2 (w : World) (base : Nat) (l : DL) (d : DS) (hD : DiskAt w base l d) (g : Nat) (hg : l.g = g) (hbase : base ≤ w.heap.size) (hlo : d.loose.length < 900000000) (p size : Int) :
    Calls Try.prog 44 #[.pointer (some ⟨g, 0, none⟩), .int .i64 p, .int .i64 size] w fun e w' => ∃ l', l'.g = g ∧ DiskAt w' base l' (bopD d p size) ∧ Moved w w' l l' ∧
      ((bopE d p size ≠ 0 ∧ e = .returned (.tuple #[.pointer none, .slice none 0 0, .int .i64 (bopE d p size)])) ∨
       (bopE d p size = 0 ∧ ∃ k A N c ps, e = .returned (.tuple #[.pointer (some ⟨k, 0, none⟩), .slice A N c, .int .i64 0]) ∧ w.heap.size ≤ k ∧ BookAt w' base l' k (bopS d p size) ∧ Row w' l' w.heap.size A N c ps ∧ ps.map (·.xs) = (bopA d p size).1 ∧ (∀ q ∈ ps, ∀ g, q.A.map (·.block) = some g → w.heap.size ≤ g))) := by
  have hE : bopE d p size = if bmayE p size ≠ 0 then bmayE p size else (liveF d p).2.1 := rfl
  have hDD : bopD d p size = if bmayE p size ≠ 0 then d else (liveF d p).1 := rfl
  by_cases hm : bmayE p size = 0
  · rw [if_neg (by rw [hm]; decide)] at hE hDD
    rw [hE, hDD]
    have hpb : 21 ≤ size ∧ size ≤ 32768 ∧ 0 ≤ p ∧ p ≤ 32768 - size := by
      unfold bmayE at hm
      split at hm
      · cases hm
      · omega
    have hlt := liveF_lt d p
    have hA : bopA d p size = allF (seeD (liveF d p).1) (p + size) (liveF d p).2.2 size.toNat (p + 20) 0 1 := rfl
    have hS : bopS d p size = ⟨(bopA d p size).2.1, p + size, (liveF d p).2.2, (bopA d p size).2.2, false⟩ := rfl
    rw [hS, hA]
    obtain ⟨⟨d', E, life⟩, hR⟩ : ∃ R, liveF d p = R := ⟨_, rfl⟩
    rw [hR] at hlt ⊢
    have HR := Lib.hid hR
    have HM := Lib.hid hm
    clear hR hm hE hDD hA hS
    simp only at hlt ⊢
    go_enter Try.func44, Try.ntmps44
    go_wp2_with fail
    refine (bmay_any w g p size).mono ?_
    rw [HM.out]
    rintro e w2 ⟨rfl, rfl⟩
    simp only []
    go_wp2_with fail
    refine (blive_any w base l d hD g hg hbase hlo p (by omega)).mono ?_
    rw [HR.out]
    rintro e w3 ⟨l', rfl, hlg, hD', hmv⟩
    simp only [] at hD' ⊢
    by_cases hE0 : E = 0
    · subst hE0
      go_upto_region 8 with (fail)
      have hK := Blk.new w3 131 #[.pointer (some ⟨g, 0, none⟩), .int .i64 (p + 20), .int .i64 (p + size), .int .u64 (life : Int), .int .i64 0, .bool false]
      have hb4 := below_alloc w3 (.cells #[.pointer (some ⟨g, 0, none⟩), .int .i64 (p + 20), .int .i64 (p + size), .int .u64 (life : Int), .int .i64 0, .bool false] 131)
      have hout : ¬ l'.fp w3.heap.size := fun hf => by have := (hD'.fp_lt hf).2; omega
      have hw3 : w.heap.size ≤ w3.heap.size := hmv.chg.size
      obtain ⟨w4, hw4⟩ : ∃ x, w3.alloc (.cells #[.pointer (some ⟨g, 0, none⟩), .int .i64 (p + 20), .int .i64 (p + size), .int .u64 (life : Int), .int .i64 0, .bool false] 131) = x := ⟨_, rfl⟩
      rw [hw4] at hK hb4 ⊢
      have hD4 := hD'.below hb4
      have hs4 := hb4.size
      obtain ⟨k, hk⟩ : ∃ x, w3.heap.size = x := ⟨_, rfl⟩
      rw [hk] at hK hout hw3 ⊢
      have hB4 : BookAt w4 base l' k ⟨p + 20, p + size, life, 0, false⟩ := ⟨by rw [hlg]; exact hK, hout, by omega⟩
      clear hw4 hK hout
      go_wp2_with fail
      refine (ball_any2 w4 base l' d' hD4 k _ hB4 ⟨by simp only; omega, by simp only; omega, by simp only; omega, by simp only; omega, hlt⟩ size.toNat (by simp only; omega)).mono ?_
      rintro e w5 ⟨A, N, c, ps, rfl, hR, hxs, hB5, hg5, hge5⟩
      simp only [] at hR hxs hB5 ⊢
      go_wp2_with fail
      go_ret3
      have hb5 : Below w3.heap.size w3 w5 := hb4.grown hg5 hs4 (fun q hq => by cases hq; exact Nat.le_of_eq hk)
      have hm5 := hmv.trans (Moved.of_below (l := l') hb5)
      exact ⟨l', hlg, hD'.below hb5, hm5, k, A, N, c, rfl, hw3, hB5, ps, hR.mono (by omega), hxs, fun q hq a ha => by have := hge5 q hq a.block (by rw [ha]; rfl); omega⟩
    · have hne : (E != 0) = true := by simpa using hE0
      go_wp2_with fail
      go_ret3
      exact ⟨l', hlg, hD', hmv, .inl ⟨hE0, rfl⟩⟩
  · rw [if_pos hm] at hE hDD
    rw [hE, hDD]
    obtain ⟨E, hEe⟩ : ∃ E, bmayE p size = E := ⟨_, rfl⟩
    rw [hEe] at hm ⊢
    have HE := Lib.hid hEe
    have hne : (E != 0) = true := by simpa using hm
    clear hE hDD hEe
    go_enter Try.func44, Try.ntmps44
    go_wp2_with fail
    refine (bmay_any w g p size).mono ?_
    rw [HE.out]
    rintro e w2 ⟨rfl, rfl⟩
    simp only []
    go_wp2_with fail
    go_ret3
    exact ⟨l, hg, hD, .of_below (Below.refl _ _), .inl ⟨hm, rfl⟩⟩
end Go.Proofs.Ytmjdfajdompkeaa
namespace Go.Proofs.Ytmjdfajdompkeaa
open Go.RowKit Go.Rat
abbrev Crash6 := SR × UInt8 × SB
def crash6C (x : Crash6) : List Value := [x.1.v] ++ ([.int .u8 (x.2.1.toNat : Int)] ++ [x.2.2.v])
theorem crash6_at {w : World} {A : Option Addr} {n : Nat} {l : List Crash6} (h : Reads w w.heap.size 3 A n (l.flatMap crash6C)) {k : Nat} (hk : k < n) :
    ∃ ad x, A = some ad ∧ x ∈ l ∧ (ad.add (k * 3)).block < w.heap.size ∧ w.cell? (ad.add (k * 3)) = some x.1.v ∧ w.cell? ⟨(ad.add (k * 3)).block, (ad.add (k * 3)).off + 1, none⟩ = some (.int .u8 (x.2.1.toNat : Int)) ∧ w.cell? ⟨(ad.add (k * 3)).block, (ad.add (k * 3)).off + 2, none⟩ = some x.2.2.v := by
  obtain ⟨ad, rfl, hb, hc⟩ := h.2 (by omega)
  have hlen := flat_len crash6C 3 (fun _ => rfl) l
  have hkl : k < l.length := by have := h.1; omega
  have hg : l[k]? = some l[k] := List.getElem?_eq_getElem hkl
  have F := flat_get crash6C 3 (fun _ => rfl) l k
  refine ⟨ad, l[k], rfl, List.getElem_mem hkl, by rw [block_of_add]; exact hb, ?_, ?_, ?_⟩
  · exact hc _ _ (by have := F 0 _ hg (by omega); simpa [crash6C] using this)
  · rw [add_field _ _ _ (by omega)]
    exact hc _ _ (by have := F 1 _ hg (by omega); simpa [crash6C] using this)
  · rw [add_field _ _ _ (by omega)]
    exact hc _ _ (by have := F 2 _ hg (by omega); simpa [crash6C] using this)
/-- Open, in one form for both ways. -/
theorem bopen_gen (w : World) (base : Nat) (l : DL) (d : DS) (hD : DiskAt w base l d) (g : Nat) (hg : l.g = g) (hbase : base ≤ w.heap.size) (hlo : d.loose.length < 900000000) (p size : Int) :
    Calls Try.prog 44 #[.pointer (some ⟨g, 0, none⟩), .int .i64 p, .int .i64 size] w fun e w' => ∃ l' bp sl, e = .returned (.tuple #[bp, sl, .int .i64 (bopE d p size)]) ∧ l'.g = g ∧ DiskAt w' base l' (bopD d p size) ∧ Moved w w' l l' ∧
      ((bopE d p size ≠ 0 ∧ bp = .pointer none ∧ sl = .slice none 0 0) ∨ (bopE d p size = 0 ∧ ∃ k A N c ps, bp = .pointer (some ⟨k, 0, none⟩) ∧ sl = .slice A N c ∧ w.heap.size ≤ k ∧ BookAt w' base l' k (bopS d p size) ∧ RowR w' A N ps ∧ ps.map (·.xs) = (bopA d p size).1)) := by
  refine (bopen_any w base l d hD g hg hbase hlo p size).mono ?_
  rintro e w' ⟨l', h1, h2, h3, (⟨h4, rfl⟩ | ⟨h4, k, A, N, c, ps, rfl, h5, h6, h7, h8⟩)⟩
  · exact ⟨l', _, _, rfl, h1, h2, h3, .inl ⟨h4, rfl, rfl⟩⟩
  · exact ⟨l', _, _, by rw [h4], h1, h2, h3, .inr ⟨h4, k, A, N, c, ps, rfl, rfl, h5, h6, h7.reads, h8⟩⟩
/-- What stands behind the records of a round: whatever is picked, the book has them, or them and the one that was under way. -/
structure AfSt (d : DS) (k : Nat) (rs : List (List UInt8)) (u : Bool) (lb : List UInt8) : Prop where
  on : ∀ ps, Calm (onAll (offD d) ps) ∧ ∃ L K rs2 q z, BookSt (onAll (offD d) ps) 0 4000 L (L + 1) K rs2 q z ∧ L ≤ 2 * k + 1 ∧ K ≤ 3 + 2 * k ∧ q ≤ 20 + 10 * (rs2.length : Int) ∧ (rs2 = rs ∨ u = true ∧ rs2 = rs ++ [lb])
  br : rs.length + (if u then 1 else 0) ≤ 10 * (k + 1)
theorem syncAll_loose (d : DS) : (syncAll d).loose.length ≤ d.loose.length := by
  unfold syncAll
  split
  · exact Nat.le_refl _
  · split
    · unfold burnD offD
      split
      · exact Nat.le_refl _
      · split <;> exact Nat.le_refl _
    · exact Nat.zero_le _
theorem bapR_loose (d : DS) (s : BS) {r : List UInt8} (hr : r.length ≤ 4096) : (bapR d s r).1.loose.length ≤ d.loose.length + 40 := by
  have hp : pagesN r.length ≤ 38 := by unfold pagesN; omega
  have h1 := wrK_loose d s.next (recP s.life (s.n + 1) r) (pagesN r.length)
  have h2 : (apL d s.next (recP s.life (s.n + 1) r) (pagesN r.length)).1.loose.length ≤ d.loose.length + pagesN r.length := by
    unfold apL
    split
    · exact Nat.le_trans (syncAll_loose _) h1
    · exact h1
  unfold bapR
  split
  · simp only; omega
  · split
    · simp only; omega
    · split
      · simp only; omega
      · simp only; omega
theorem bapR_dead (d : DS) {s : BS} (h : s.dead = true) : bapR d s [] = (d, s, 8) := by
  rw [bapR, if_neg (by simp), if_pos h]
set_option maxRecDepth 20000 in
set_option maxHeartbeats 8000000 in
theorem bookPower_any (w : World) (A : Option Addr) (m c : Nat) (l : List Crash6) (hr : Reads w w.heap.size 3 A m (l.flatMap crash6C)) (hi : ∀ x ∈ l, SR.ok w x.1 ∧ SB.ok w x.2.2) :
    Calls Try.prog 17 #[.slice A m c] w fun e w' => e = .returned (.bool true) ∧ Below w.heap.size w w' := by
  by_cases hbig : 20 < m
  · have hbi : (20 : Int) < (m : Int) := by omega
    go_enter Try.func17, Try.ntmps17
    go_wp2_with (go_at_call 43; refine (works6_any w).mono ?_; rintro e w2 ⟨rfl, hb2⟩)
    go_ret
    exact ⟨rfl, hb2⟩
  have hbi : ¬ (20 : Int) < (m : Int) := by omega
  obtain ⟨base, hbase⟩ : ∃ b, w.heap.size = b := ⟨_, rfl⟩
  have HBASE := Lib.hid hbase
  obtain ⟨d0, hf0, hst⟩ := pwb_start
  have HF0 := Lib.hid hf0
  have HST := Lib.hid hst
  have HI := Lib.hid hi
  clear hf0 hi hst
  go_enter Try.func17, Try.ntmps17
  go_wp2_with fail
  refine (dnew_any w).mono ?_
  rintro e w1 ⟨l0, rfl, hD, hb⟩
  have hbb : Below w.heap.size w w1 ∧ base ≤ w1.heap.size := ⟨hb, by rw [← hbase]; exact hb.size⟩
  rw [hbase] at hD
  clear hb hbase
  simp only []
  obtain ⟨g, hlg⟩ : ∃ g, l0.g = g := ⟨_, rfl⟩
  rw [hlg]
  go_wp2_with fail
  refine (bformat_any w1 base l0 ds0 hD g hlg hbb.2 (by decide) 0 (by omega)).mono ?_
  rw [HF0.out]
  rintro e w2 ⟨l1, rfl, hlg1, hD1, hm⟩
  have hbb := base_moved hbb (Nat.le_of_eq HBASE.out) hD hm
  simp only [] at hD1 ⊢
  clear hm hD hlg
  go_wp2_with fail
  go_loopw [4, 5] (fun rv iv wr => ∃ (k : Nat) (d : DS) (l' : DL) (life K : Nat) (rs : List (List UInt8)) (q : Int) (z : Nat) (A' : Option Addr) (N c' : Nat) (ps : List Pt), k ≤ m ∧ iv = .int .i64 (k : Int) ∧ rv = .slice A' N c' ∧ PwSt k d life K rs q z ∧ DiskAt wr base l' d ∧ l'.g = g ∧ RowW wr l' base A' N c' ps ∧ ps.map (·.xs) = rs ∧ Below w.heap.size w wr ∧ base ≤ wr.heap.size) (fun _ iv _ => m - (intOf iv).toNat)
  case atStart => exact ⟨0, d0, l1, 0, 2, [], 20, 1, none, 0, 0, [], Nat.zero_le _, rfl, rfl, HST.out, hD1, hlg1, RowW.nil _ _ _, rfl, hbb.1, hbb.2⟩
  case round =>
    clear hbb hD1 hlg1
    obtain ⟨k, d, l', life, K, rs, q, z, A', N, c', ps, hk, rfl, rfl, hst, hDk, hlk, hRow, hxs, hbk, hbks⟩ := hrel
    by_cases hkm : k < m
    · obtain ⟨ad, ⟨⟨A1, n1, z1, lb⟩, nn, ⟨A2, n2, z2, pk⟩⟩, e, hxl, hadl, q0, q1, q2⟩ := crash6_at hr hkm
      cases e
      obtain ⟨hok1, hok2⟩ := HI.out _ hxl
      obtain ⟨hR2, _, _⟩ := hok2
      simp only [SB.v, SR.v] at q0 q1 q2 hR2
      have hl2 := hR2.len
      obtain ⟨P, hP⟩ : ∃ P, ad.add (k * 3) = P := ⟨_, rfl⟩
      rw [hP] at hadl q0 q1 q2
      have Q0 : Hid (∀ z, Below w.heap.size w z → z.cell? P = some (.slice A1 n1 z1)) := Lib.hid (fun z hz => (hz.cell hadl).trans q0)
      have Q1 : Hid (∀ z, Below w.heap.size w z → z.cell? ⟨P.block, P.off + 1, none⟩ = some (.int .u8 (nn.toNat : Int))) := Lib.hid (fun z hz => (hz.cell (p := ⟨P.block, P.off + 1, none⟩) hadl).trans q1)
      have Q2 : Hid (∀ z, Below w.heap.size w z → z.cell? ⟨P.block, P.off + 2, none⟩ = some (.slice A2 n2 z2)) := Lib.hid (fun z hz => (hz.cell (p := ⟨P.block, P.off + 2, none⟩) hadl).trans q2)
      have HL2 := Lib.hid hl2
      have HOK1 := Lib.hid hok1
      have hbb : Below w.heap.size w wr ∧ base ≤ wr.heap.size := ⟨hbk, hbks⟩
      have g1 : (k : Int) < (m : Int) := by omega
      have g0 : (0 : Int) ≤ (k : Int) := by omega
      have hnn := nn.toNat_lt
      clear hxl q0 q1 q2 hl2 hbk hbks hok1
      have c0 := Q0.out _ hbb.1
      have c2 := Q2.out _ hbb.1
      by_cases hp2 : 200 < n2
      · have hp2' : (200 : Int) < (n2 : Int) := by omega
        clear hp2
        go_wp2_with (go_at_call 43; refine (works6_any _).mono ?_; rintro e w2 ⟨rfl, hb2⟩)
        go_ret
        exact ⟨rfl, below_next' hbb.1 hb2⟩
      have hp2' : ¬ (200 : Int) < (n2 : Int) := by omega
      by_cases hb1 : 10 < n1
      · have hb1' : (10 : Int) < (n1 : Int) := by omega
        clear hp2 hb1
        go_wp2_with (go_at_call 43; refine (works6_any _).mono ?_; rintro e w2 ⟨rfl, hb2⟩)
        go_ret
        exact ⟨rfl, below_next' hbb.1 hb2⟩
      have hb1' : ¬ (10 : Int) < (n1 : Int) := by omega
      clear hp2
      have c1 := Q1.out _ hbb.1
      go_wp2_with fail
      refine (gfuse wr base g l' d hDk hlk ((nn.toNat : Int) % 64) (by omega)).mono ?_
      rintro e w3 ⟨l3, rfl, hlg3, hD3, hm3⟩
      have hRow := hRow.moved hm3
      have hrA : ∀ x, A'.map (·.block) = some x → x < w3.heap.size := fun x hx => (hRow.ltA x hx).2
      have hrP : ∀ p ∈ ps, p.n ≠ 0 → ∀ x, p.A.map (·.block) = some x → x < w3.heap.size := fun p hp h0 x hx => hRow.lt p hp h0 x hx
      have hbb := base_moved hbb (Nat.le_of_eq HBASE.out) hDk hm3
      simp only []
      obtain ⟨f, hf⟩ : ∃ f, (nn.toNat : Int) % 64 = f := ⟨_, rfl⟩
      rw [hf] at hD3 ⊢
      clear hm3 hDk c1 hf
      have hlife := hst.bl
      have hKb := hst.bK
      obtain ⟨d2, hd2, hop⟩ := hst.st.op_fused hst.calm f (by omega) (by omega)
      have HOP := Lib.hid hop
      have hlo : (fuseD d f).loose.length < 900000000 := by rw [show (fuseD d f).loose = d.loose from rfl, hst.calm.loose]; decide
      have hbr := hst.br
      have hbq := hst.bq
      clear hop hst
      go_wp2_with fail
      refine (bopen_gen w3 base l3 (fuseD d f) hD3 g hlg3 hbb.2 hlo 0 4000).mono ?_
      rw [hd2]
      rintro e w4 ⟨l4, bp, sl, rfl, hlg4, hD4, hm4, hcase⟩
      obtain ⟨E, hE⟩ : ∃ E, bopE (fuseD d f) 0 4000 = E := ⟨_, rfl⟩
      rw [hE] at hcase HOP ⊢
      have hRow := hRow.moved hm4
      have hbb := base_moved hbb (Nat.le_of_eq HBASE.out) hD3 hm4
      simp only []
      clear hm4 hD3 hlg3 hlo hd2 hE
      go_upto_region 14 with (fail)
      go_cut [80] (fun t wx => t = .bool false ∧ Below w4.heap.size w4 wx)
      case first =>
        rcases hcase with ⟨hne, rfl, rfl⟩ | ⟨rfl, kb, A3, N3, c3, ps3, rfl, rfl, hk3, hB, hR3, hxs3⟩
        · rcases HOP.out with ⟨he, _⟩ | ⟨he, _⟩
          · exact absurd he hne
          · subst he
            go_wp2_with fail
            go_meet
            exact ⟨rfl, Below.refl _ _⟩
        · rcases HOP.out with ⟨_, ha, _⟩ | ⟨he, _⟩
          · rw [ha] at hxs3
            have hN3 : N3 ≤ 100000 := by
              have h1 := hR3.len
              have h2 := congrArg List.length hxs3
              rw [List.length_map] at h2
              simp only at h2
              omega
            go_wp2_with fail
            refine (same_any w4 A3 N3 c3 ps3 hR3 A' N c' ps hRow.reads hN3 (hxs3.trans hxs.symm)).mono ?_
            rintro e w5 ⟨rfl, hb5⟩
            simp only []
            go_wp2_with fail
            go_meet
            exact ⟨rfl, hb5⟩
          · exact absurd he (by decide)
      case rest =>
        obtain ⟨rfl, hb5⟩ := hcut
        have hRow := hRow.below hb5
        have hD5 := hD4.below hb5
        have hbb := below_base hbb hb5
        have hst5 : (E = 0 ∧ ∃ kb, bp = .pointer (some ⟨kb, 0, none⟩) ∧ CalmF d2 ∧ BookSt d2 0 4000 (life + 1) (life + 1) (K + 1) rs q z ∧ BookAt wc base l4 kb ⟨q, 4000, life + 1, rs.length, false⟩ ∧ w3.heap.size ≤ kb) ∨
            (E = 8 ∧ AfSt d2 k rs false []) := by
          rcases hcase with ⟨hne, rfl, rfl⟩ | ⟨rfl, kb, A3, N3, c3, ps3, rfl, rfl, hk3, hB, hR3, hxs3⟩
          · rcases HOP.out with ⟨he, _⟩ | ⟨he, hps⟩
            · exact absurd he hne
            · refine .inr ⟨he, ⟨fun ps => ?_, by rw [if_neg (by decide)]; omega⟩⟩
              obtain ⟨hc, L, h1, h2, h3⟩ := hps ps
              exact ⟨hc, L, K + 1, rs, q, z, h3, by omega, by omega, hbq, .inl rfl⟩
          · rcases HOP.out with ⟨_, ha, hs, hcf, hbs⟩ | ⟨he, _⟩
            · rw [hs] at hB
              exact .inl ⟨rfl, kb, rfl, hcf, hbs, hB.below hb5, hk3⟩
            · exact absurd he (by decide)
        clear hcase hb5 hD4
        go_upto_block 2 with (fail)
        have hbb1 := hbb.1
        have hbb2 := hbb.2
        go_cut [4, 9, 10] (fun rv lv uv wx => ∃ (dX : DS) (lX : DL) (rsX : List (List UInt8)) (A3 : Option Addr) (N3 c3 : Nat) (psX : List Pt) (lbt : List UInt8) (An : Option Addr) (ln lc : Nat) (u : Bool), rv = .slice A3 N3 c3 ∧ lv = .slice An ln lc ∧ uv = .bool u ∧ AfSt dX k rsX u lbt ∧ DiskAt wx base lX dX ∧ lX.g = g ∧ RowW wx lX base A3 N3 c3 psX ∧ psX.map (·.xs) = rsX ∧ (u = true → RB w An ln lbt ∧ ln ≤ lc) ∧ Below w.heap.size w wx ∧ base ≤ wx.heap.size)
        case first =>
          go_wp2_with fail
          go_loopw [4, 8, 9, 10, 11] (fun rv ev lv uv jv wr2 => ∃ (j : Nat) (dX : DS) (lX : DL) (rsX : List (List UInt8)) (A3 : Option Addr) (N3 c3 : Nat) (psX : List Pt), jv = .int .i64 (j : Int) ∧ j ≤ n1 ∧ rv = .slice A3 N3 c3 ∧ DiskAt wr2 base lX dX ∧ lX.g = g ∧ RowW wr2 lX base A3 N3 c3 psX ∧ psX.map (·.xs) = rsX ∧ Below w.heap.size w wr2 ∧ base ≤ wr2.heap.size ∧ ((ev = .int .i64 0 ∧ uv = .bool false ∧ lv = .slice none 0 0 ∧ ∃ (kb L K2 : Nat) (qX : Int) (zX : Nat), bp = .pointer (some ⟨kb, 0, none⟩) ∧ CalmF dX ∧ BookSt dX 0 4000 L L K2 rsX qX zX ∧ 1 ≤ L ∧ L ≤ 2 * k + 1 ∧ K2 ≤ 3 + 2 * k ∧ rsX.length ≤ 10 * k + j ∧ qX ≤ 20 + 10 * (rsX.length : Int) ∧ BookAt wr2 base lX kb ⟨qX, 4000, L, rsX.length, false⟩ ∧ (∀ x, A3.map (·.block) = some x → x ≠ kb) ∧ (∀ p ∈ psX, p.n ≠ 0 → ∀ x, p.A.map (·.block) = some x → x ≠ kb)) ∨ (ev = .int .i64 8 ∧ ∃ (u : Bool) (lbt : List UInt8) (An : Option Addr) (ln lc : Nat), uv = .bool u ∧ lv = .slice An ln lc ∧ AfSt dX k rsX u lbt ∧ (u = true → RB w An ln lbt ∧ ln ≤ lc)))) (fun _ _ _ _ jv _ => n1 - (intOf jv).toNat)
          case atStart =>
            refine ⟨0, d2, l4, rs, A', N, c', ps, rfl, Nat.zero_le _, rfl, hD5, hlg4, hRow, hxs, hbb1, hbb2, ?_⟩
            rcases hst5 with ⟨rfl, kb, h1, h2, h3, h4, h5⟩ | ⟨rfl, h1⟩
            · exact .inl ⟨rfl, rfl, rfl, kb, life + 1, K + 1, q, z, h1, h2, h3, by omega, by omega, by omega, by omega, hbq, h4, fun x hx => by have := hrA x hx; omega, fun p hp h0 x hx => by have := hrP p hp h0 x hx; omega⟩
            · exact .inr ⟨rfl, false, [], none, 0, 0, rfl, rfl, h1, (fun h => by cases h)⟩
          case round =>
            clear hst5 hD5 hRow hxs hbb hbb1 hbb2 hrA hrP hlg4
            obtain ⟨j, dX, lX, rsX, A3, N3, c3, psX, rfl, hj, rfl, hDX, hlX, hRX, hxX, hbX, hbsX, hcs⟩ := hrel
            have c0 := Q0.out _ hbX
            rcases hcs with ⟨rfl, rfl, rfl, kb, L, K2, qX, zX, rfl, hcf, hbs, b1, b2, b3, b4, b5, hB, hk1, hk2⟩ | ⟨rfl, u, lbt, An, ln, lc, rfl, rfl, haf, hlu⟩
            · by_cases hjn : j < n1
              · obtain ⟨ad2, ⟨Ax, nx, zx, bx⟩, e2, hxl2, hadl2, q02, _⟩ := sb_get HOK1.out.r HOK1.out.len hjn
                simp only at e2
                subst e2
                obtain ⟨hRb, hnz, _⟩ := HOK1.out.i _ hxl2
                simp only [SB.v] at q02 hRb hnz
                have hlx := hRb.len
                obtain ⟨Pb, hPb⟩ : ∃ P, ad2.add j = P := ⟨_, rfl⟩
                have Q3 : Hid (∀ z, Below w.heap.size w z → z.cell? Pb = some (.slice Ax nx zx)) := Lib.hid (fun z hz => by rw [hPb] at hadl2 q02; exact (hz.cell hadl2).trans q02)
                have HLX := Lib.hid hlx
                have g3 : (j : Int) < (n1 : Int) := by omega
                have g4 : (0 : Int) ≤ (j : Int) := by omega
                have g5 : (j : Int) ≤ 10 := by omega
                clear hxl2 hadl2 q02 hlx
                have c3h := Q3.out _ hbX
                by_cases hbig2 : 1000 < nx
                · have hbi2 : (1000 : Int) < (nx : Int) := by omega
                  clear hbig2
                  go_wp2_with (go_at_call 43; refine (works6_any _).mono ?_; rintro e w2 ⟨rfl, hb2⟩)
                  go_ret
                  exact ⟨rfl, below_next' hbX hb2⟩
                have hbi2 : ¬ (1000 : Int) < (nx : Int) := by omega
                have hbl : bx.length ≤ 1000 := by have := HLX.out; omega
                have hP10 : pagesN bx.length ≤ 10 := by unfold pagesN; omega
                obtain ⟨dn, hap⟩ := hbs.ap_fused hcf b1 (r := bx) (by omega) (by omega)
                have hdl := bapR_loose dX ⟨qX, 4000, L, rsX.length, false⟩ (r := bx) (by omega)
                have hlo : dX.loose.length < 800000000 := by rw [hcf.loose]; decide
                have hqX := hbs.q_
                have hbnd : 0 ≤ qX ∧ qX ≤ 32768 ∧ (4000 : Int) ≤ 32768 ∧ rsX.length ≤ 32767 ∧ L < 2 ^ 64 := by omega
                have HB := Lib.hid hbnd
                have hrb := hRb.below hbX
                have hwb := HBASE.out
                have hAxb : nx ≠ 0 → ∀ x, Ax.map (·.block) = some x → x < w.heap.size := fun h0 x hx => by
                  obtain ⟨ad1, e, hlt, _⟩ := hRb.2 (by omega)
                  rw [e] at hx
                  cases hx
                  exact hlt
                have hkb := hB.bk
                clear hbnd hbig2 hqX
                rcases hap with ⟨he, hcf', hbs'⟩ | ⟨he, hps⟩
                · have HE := Lib.hid he
                  have hlen' : (rsX ++ [bx]).length = rsX.length + 1 := by simp
                  have HLEN := Lib.hid hlen'
                  clear he hdl hlen' hbs hcf
                  go_wp2_with fail
                  refine (bappend_any _ base lX dX hDX hbsX hlo kb _ hB HB.out Ax nx zx bx hrb (by omega)).mono ?_
                  rw [HE.out]
                  rintro e w6 ⟨l6, rfl, hl6, hD6, hB6, hm6⟩
                  have hbb6 := base_cmoved ⟨hbX, hbsX⟩ (Nat.le_of_eq HBASE.out) hDX hB hm6
                  have hRX6 := hRX.cmoved hm6 hk1 hk2
                  simp only [] at hD6 hB6 ⊢
                  have c0 := Q0.out _ hbb6.1
                  have c3h := Q3.out _ hbb6.1
                  have hlt6 : ∀ x, l6.fp x → x < w6.heap.size := fun x hx => (hD6.fp_lt hx).2
                  have hpt : PtOk w6 ⟨Ax, nx, zx, bx⟩ := ⟨hRb.below hbb6.1, hnz⟩
                  have hpn : nx ≠ 0 → ∀ x, Ax.map (·.block) = some x → x < w6.heap.size ∧ ¬ l6.fp x := fun h0 x hx => ⟨by have h1 := hAxb h0 x hx; have h2 := hbb6.2; omega, fun hf => by have h1 := hAxb h0 x hx; have h2 := (hD6.fp_lt hf).1; omega⟩
                  have hap6 : nx ≠ 0 → Apart A3 Ax := fun h0 x hx hx1 => by have h1 := hAxb h0 x hx1; have h2 := (hRX6.ltA x hx).1; omega
                  have hNl : N3 + 1 < 1000000 := by
                    have h1 := hRX6.len
                    have h2 := congrArg List.length hxX
                    rw [List.length_map] at h2
                    omega
                  have hbl6 := hB6.blk.lt
                  clear hDX hB hm6 hRX hlo hrb hbX hbsX
                  go_wp2_with (at_builtin; refine app_sliceW rfl _ _ rfl l6 hlt6 base A3 N3 c3 psX rfl hRX6 ⟨Ax, nx, zx, bx⟩ hpt hpn hap6 22 _ rfl rfl hNl hbb6.2 ?_; intro A9 c9 w10 hR10 hb10 hG10)
                  have hb9 := below_alloc w6 (.cells #[(⟨Ax, nx, zx, bx⟩ : Pt).v] 22)
                  have hD10 : DiskAt w10 base l6 dn := (hD6.below hb9).kept (Chg.of_grown' (F := fun x => A3.map (·.block) = some x) hG10.grown (fun g hg => hg)) (fun x hx hf => hRX6.outA x hf hx)
                  have hB10 : BookAt w10 base l6 kb ⟨qX + (pagesN bx.length : Int), 4000, L, rsX.length + 1, false⟩ := ⟨(Blk.alloc hB6.blk _).grown hG10.grown (fun e => hk1 kb e.symm rfl), hB6.out, hB6.bk⟩
                  have hbw : Below w.heap.size w w10 := (below_next' hbb6.1 hb9).trans (hb10.mono (Nat.le_of_eq hwb))
                  have hk1' : ∀ x, A9.map (·.block) = some x → x ≠ kb := fun x hx => by
                    rcases hG10.lies with h | ⟨g', h, h', _⟩
                    · rw [h] at hx; exact hk1 x hx
                    · rw [h] at hx
                      cases hx
                      simp at h'
                      omega
                  have hk2' : ∀ p ∈ psX ++ [⟨Ax, nx, zx, bx⟩], p.n ≠ 0 → ∀ x, p.A.map (·.block) = some x → x ≠ kb := by
                    intro p hp h0 x hx
                    rcases List.mem_append.1 hp with h | h
                    · exact hk2 p h h0 x hx
                    · obtain rfl : p = ⟨Ax, nx, zx, bx⟩ := by simpa using h
                      have := hAxb h0 x hx
                      omega
                  go_roundw
                  case rel => exact ⟨j + 1, dn, l6, rsX ++ [bx], A9, N3 + 1, c9, psX ++ [⟨Ax, nx, zx, bx⟩], congrArg (Value.int .i64) (by omega), by omega, rfl, hD10, hl6.trans hlX, hR10, by rw [List.map_append, hxX]; rfl, hbw, by rw [← hwb]; exact hbw.size, .inl ⟨rfl, rfl, rfl, kb, L, K2, _, L, rfl, hcf', hbs', b1, b2, b3, by rw [HLEN.out]; omega, by rw [HLEN.out]; omega, by rw [HLEN.out]; exact hB10, hk1', hk2'⟩⟩
                  case measure => simp only [intOf]; omega
                · rw [he] at hdl
                  simp only at hdl
                  have haf : AfSt dn k rsX true bx := ⟨fun ps => by
                    obtain ⟨h1, h2 | h2⟩ := hps ps
                    · exact ⟨h1, L, K2, _, _, _, h2, b2, b3, by rw [List.length_append]; simp only [List.length_cons, List.length_nil]; omega, .inr ⟨rfl, rfl⟩⟩
                    · exact ⟨h1, L, K2, _, _, _, h2, b2, b3, b5, .inl rfl⟩, by rw [if_pos rfl]; omega⟩
                  have hl0 : dX.loose.length = 0 := by rw [hcf.loose]; rfl
                  have HE := Lib.hid he
                  clear he hps hbs hcf
                  go_wp2_with fail
                  refine (bappend_any _ base lX dX hDX hbsX hlo kb _ hB HB.out Ax nx zx bx hrb (by omega)).mono ?_
                  rw [HE.out]
                  rintro e w6 ⟨l6, rfl, hl6, hD6, hB6, hm6⟩
                  have hbb6 := base_cmoved ⟨hbX, hbsX⟩ (Nat.le_of_eq HBASE.out) hDX hB hm6
                  have hRX6 := hRX.cmoved hm6 hk1 hk2
                  simp only [] at hD6 hB6 ⊢
                  have c0 := Q0.out _ hbb6.1
                  have c3h := Q3.out _ hbb6.1
                  clear hDX hB hm6 hRX hlo hrb hbX hbsX
                  go_wp2_with fail
                  refine (bappend_any w6 base l6 dn hD6 hbb6.2 (by omega) kb _ hB6 HB.out none 0 0 [] (RB.nil_ _ _) (by omega)).mono ?_
                  rw [bapR_dead dn rfl]
                  rintro e w7 ⟨l7, rfl, hl7, hD7, hB7, hm7⟩
                  have hbb7 := base_cmoved hbb6 (Nat.le_of_eq HBASE.out) hD6 hB6 hm7
                  have hRX7 := hRX6.cmoved hm7 hk1 hk2
                  simp only [] at hD7 hB7 ⊢
                  have c0 := Q0.out _ hbb7.1
                  have c3h := Q3.out _ hbb7.1
                  clear hD6 hB6 hm7 hRX6
                  go_wp2_with fail
                  go_roundw
                  case rel => exact ⟨j + 1, dn, l7, rsX, A3, N3, _, psX, congrArg (Value.int .i64) (by omega), by omega, rfl, hD7, (hl7.trans hl6).trans hlX, hRX7, hxX, hbb7.1, hbb7.2, .inr ⟨rfl, true, bx, Ax, nx, zx, rfl, rfl, haf, fun _ => ⟨hRb, hnz⟩⟩⟩
                  case measure => simp only [intOf]; omega
              · have g3 : ¬ (j : Int) < (n1 : Int) := by omega
                have haf : AfSt dX k rsX false [] := ⟨fun ps => by
                  obtain ⟨h1, h2⟩ := hcf.crash ps
                  exact ⟨h1, L, K2, rsX, qX, zX, (hbs.keep h1.off h2).up (by omega) (Nat.le_refl _), by omega, by omega, b5, .inl rfl⟩, by rw [if_neg (by decide)]; omega⟩
                clear hcf hbs hB hk1 hk2
                go_wp2_with fail
                go_meet
                exact ⟨dX, lX, rsX, A3, N3, c3, psX, [], none, 0, 0, false, rfl, rfl, rfl, haf, hDX, hlX, hRX, hxX, (fun h => by cases h), hbX, hbsX⟩
            · by_cases hjn : j < n1
              · have g3 : (j : Int) < (n1 : Int) := by omega
                go_wp2_with fail
                go_meet
                exact ⟨dX, lX, rsX, A3, N3, c3, psX, lbt, An, ln, lc, u, rfl, rfl, rfl, haf, hDX, hlX, hRX, hxX, hlu, hbX, hbsX⟩
              · have g3 : ¬ (j : Int) < (n1 : Int) := by omega
                go_wp2_with fail
                go_meet
                exact ⟨dX, lX, rsX, A3, N3, c3, psX, lbt, An, ln, lc, u, rfl, rfl, rfl, haf, hDX, hlX, hRX, hxX, hlu, hbX, hbsX⟩
        case rest =>
          obtain ⟨dX, lX, rsX, A3, N3, c3, psX, lbt, An, ln, lc, u, rfl, rfl, rfl, haf, hDX, hlX, hRX, hxX, hlu, hbX, hbsX⟩ := hcut
          clear hst5 hD5 hRow hxs hbb hbb1 hbb2 hrA hrP hlg4 HOP c0 c2
          obtain ⟨_, _, _, _, _, hon⟩ := on_now dX pk 0
          obtain ⟨hcalm, L, K2, rs2, q2, zz, hb2, bL, bK, bq, hrs2⟩ := haf.on pk
          obtain ⟨dn, op, hcn⟩ := hb2.op_calm hcalm (by omega) (by omega) 4000 (by omega)
          have hbr2 := haf.br
          have haf_br : rsX.length ≤ 10 * (k + 1) := by omega
          have HON := Lib.hid hon
          have HOP := Lib.hid op
          have hlo : (onAll (offD dX) pk).loose.length < 900000000 := by rw [hcalm.loose]; decide
          have hst' : PwSt (k + 1) dn (L + 1) (K2 + 1) rs2 q2 zz := ⟨hcn, op.st.up (by omega) (by omega), by omega, by omega, by
            rcases hrs2 with rfl | ⟨rfl, rfl⟩
            · omega
            · rw [List.length_append]; simp only [List.length_cons, List.length_nil]; rw [if_pos rfl] at hbr2; omega, bq⟩
          clear hon hcalm hb2 hcn haf
          obtain ⟨dO, hdO⟩ : ∃ x, onAll (offD dX) pk = x := ⟨_, rfl⟩
          go_wp2_with fail
          refine (goff wc base g lX dX hDX hlX).mono ?_
          rintro e w5 ⟨l5, rfl, hl5, hD5, hm5⟩
          have hRX := hRX.moved hm5
          have hbb := base_moved ⟨hbX, hbsX⟩ (Nat.le_of_eq HBASE.out) hDX hm5
          have c2 := Q2.out _ hbb.1
          have hap2 : n2 ≠ 0 → ∀ x, A2.map (·.block) = some x → ¬ l5.fp x := fun hn0 x hx hf => by
            obtain ⟨a1, hA, hlt, _⟩ := hR2.2 (by omega)
            rw [hA] at hx
            have hxe : a1.block = x := Option.some.inj hx
            have hbe := HBASE.out
            have := (hD5.fp_lt hf).1
            omega
          simp only []
          clear hm5 hDX hlX hbX hbsX
          go_wp2_with fail
          refine (gonN w5 base g l5 _ hD5 hl5 A2 n2 z2 pk (hR2.below hbb.1) hap2).mono ?_
          rw [HON.out]
          rintro e w6 ⟨l6, rfl, hl6, hD6, hm6⟩
          have hRX := hRX.moved hm6
          have hbb := base_moved hbb (Nat.le_of_eq HBASE.out) hD5 hm6
          simp only []
          clear hm6 hD5 hl5 hap2 c2
          go_wp2_with fail
          refine (bopen_any2 w6 base l6 _ hD6 g hl6 hbb.2 hlo 0 4000).mono ?_
          rw [HOP.out.e, HOP.out.d_, HOP.out.s, HOP.out.a]
          rintro e w7 ⟨l7, hl7, hD7, hm7, (⟨h, _⟩ | ⟨_, k7, A7, N7, c7, ps7, rfl, _, _, hR7, hxs7, hge7⟩)⟩
          · exact absurd rfl h
          have hA37 : ∀ x, A3.map (·.block) = some x → x < w6.heap.size := fun x hx => (hRX.ltA x hx).2
          have hA7g : ∀ x, A7.map (·.block) = some x → w6.heap.size ≤ x := fun x hx => (hR7.ltA x hx).1
          have hRX := hRX.moved hm7
          have hbb := base_moved hbb (Nat.le_of_eq HBASE.out) hD6 hm7
          have hRR := hR7.reads
          simp only [] at hxs7 ⊢
          clear hm7 hD6 hl6 hlo hdO hR7
          go_wp2_with fail
          have hN7l : N7 = rs2.length := by
            have h1 := hRR.len
            have h2 := congrArg List.length hxs7
            rw [List.length_map] at h2
            omega
          have hN3l : N3 = rsX.length := by
            have h1 := hRX.len
            have h2 := congrArg List.length hxX
            rw [List.length_map] at h2
            omega
          have hb200 : rsX.length ≤ 300 := by
            have := haf_br
            omega
          rcases hrs2 with rfl | ⟨rfl, rfl⟩
          · have hne : ((N7 : Int) == (N3 : Int) + 1) = false := by
              rw [hN7l, hN3l]
              simp
              omega
            have hw31 : IntKind.i64.wrap ((N3 : Int) + 1) = (N3 : Int) + 1 := IntWalk.i64_in _ (by omega)
            have hN7s : N7 ≤ 100000 := by omega
            clear hN7l hN3l
            refine wp_region_plan [(0, true), (1, true), (2, true), (3, true), (4, true), (5, true), (6, true), (7, true), (8, true), (9, true), (10, true), (11, true), (12, true), (13, true), (14, true), (15, true), (16, true), (17, true), (18, true), (19, true)] (fun _ => True) (by kernel_rfl) (by kernel_rfl) (by kernel_rfl) (by kernel_rfl) (fun _ _ d _ _ h => by cases d <;> exact h) trivial ?_
            simp only [planOps, List.getElem?_toArray, List.getElem?_cons_zero, List.getElem?_cons_succ]
            cases u
            · skip
              repeat (first
                | (refine wpS_skip (by rfl) ?_; simp only [Act.put, List.setIfInBounds_toArray, List.set_cons_zero, List.set_cons_succ])
                | (refine wpS_q ?_ (by rfl) ?_ ?_; rotate_left; (focus (intro z hz; (try dsimp only at hz); go_simp; rfl)); simp only [Act.put, List.setIfInBounds_toArray, List.set_cons_zero, List.set_cons_succ]))
              refine wpS_nil ?_
              clear hne hw31
              go_wp2_with fail
              refine (same_any w7.drew A7 N7 c7 ps7 (hRR.below drew_below) A3 N3 c3 psX (hRX.below drew_below).reads hN7s (hxs7.trans hxX.symm)).mono ?_
              rintro e w8 ⟨rfl, hb8⟩
              have hb8 : Below w7.heap.size w7 w8 := (drew_below (w := w7)).trans hb8
              have hbb := below_base hbb hb8
              have hRX := hRX.below hb8
              have hD8 := hD7.below hb8
              simp only []
              go_wp2_with fail
              go_roundw
              case rel => exact ⟨k + 1, dn, l7, L + 1, K2 + 1, _, q2, zz, A3, N3, c3, psX, by omega, congrArg (Value.int .i64) (by omega), rfl, hst', hD8, hl7, hRX, hxX, hbb.1, hbb.2⟩
              case measure => simp only [intOf]; omega
            · skip
              repeat (first
                | (refine wpS_skip (by rfl) ?_; simp only [Act.put, List.setIfInBounds_toArray, List.set_cons_zero, List.set_cons_succ])
                | (refine wpS_q ?_ (by rfl) ?_ ?_; rotate_left; (focus (intro z hz; (try dsimp only at hz); go_simp; rfl)); simp only [Act.put, List.setIfInBounds_toArray, List.set_cons_zero, List.set_cons_succ]))
              refine wpS_nil ?_
              clear hne hw31
              go_wp2_with fail
              refine (same_any w7.drew A7 N7 c7 ps7 (hRR.below drew_below) A3 N3 c3 psX (hRX.below drew_below).reads hN7s (hxs7.trans hxX.symm)).mono ?_
              rintro e w8 ⟨rfl, hb8⟩
              have hb8 : Below w7.heap.size w7 w8 := (drew_below (w := w7)).trans hb8
              have hbb := below_base hbb hb8
              have hRX := hRX.below hb8
              have hD8 := hD7.below hb8
              simp only []
              go_wp2_with fail
              go_roundw
              case rel => exact ⟨k + 1, dn, l7, L + 1, K2 + 1, _, q2, zz, A3, N3, c3, psX, by omega, congrArg (Value.int .i64) (by omega), rfl, hst', hD8, hl7, hRX, hxX, hbb.1, hbb.2⟩
              case measure => simp only [intOf]; omega
          · have hN71 : N7 = N3 + 1 := by
              rw [hN7l, hN3l, List.length_append]
              rfl
            subst hN71
            obtain ⟨hRl, hlc⟩ := hlu rfl
            obtain ⟨ad7, ⟨A8, n8, c8, x8⟩, rfl, hg7, hq7, ho7⟩ := hRR.at_ (k := N3) (by omega)
            have hx8 : x8 = lbt := by
              have h1 := congrArg (fun l => l[N3]?) hxs7
              simp only [List.getElem?_map, hg7, Option.map_some] at h1
              rw [hN3l, List.getElem?_append_right (Nat.le_refl _), Nat.sub_self] at h1
              exact Option.some.inj h1
            subst hx8
            simp only [Pt.v] at hq7
            have hN3s : N3 ≤ 1000 := by omega
            have hw31 : IntKind.i64.wrap ((N3 : Int) + 1) = (N3 : Int) + 1 := IntWalk.i64_in _ (by omega)
            have hlt31 : ((N3 : Int) < (N3 : Int) + 1) = True := eq_true (by omega)
            have hRlz := hRl.below hbb.1
            have hlbN : ln ≠ 0 → ∀ x, An.map (·.block) = some x → x < w.heap.size := fun h0 x hx => by
              obtain ⟨ad1, e, hlt, _⟩ := hRl.2 (by omega)
              rw [e] at hx
              cases hx
              exact hlt
            clear hN7l hN3l hg7 hlu
            refine wp_region_plan [(0, true), (1, true), (2, true), (3, true), (4, true), (5, true), (6, true), (7, true), (8, true), (9, true), (10, true), (11, true), (12, true), (13, true), (14, true), (15, true), (16, true), (17, true), (18, true), (19, true)] (fun z => z.cell? (ad7.add N3) = some (.slice A8 n8 c8) ∧ RB z A8 n8 x8 ∧ RB z An ln x8) (by kernel_rfl) (by kernel_rfl) (by kernel_rfl) (by kernel_rfl) (fun _ _ d _ _ h => by cases d <;> exact h) ⟨hq7, ho7.r, hRlz⟩ ?_
            simp only [planOps, List.getElem?_toArray, List.getElem?_cons_zero, List.getElem?_cons_succ]
            iterate 15 (refine wpS_q ?_ (by rfl) ?_ ?_; rotate_left; (focus (intro z hz; (try dsimp only at hz); go_simp; rfl)); simp only [Act.put, List.setIfInBounds_toArray, List.set_cons_zero, List.set_cons_succ])
            refine wpS_q (.string (bstr x8)) (by rfl) (fun z hz => by have hcv := conv_str hz.2.1 c8; go_simp) ?_
            simp only [Act.put, List.setIfInBounds_toArray, List.set_cons_zero, List.set_cons_succ]
            iterate 1 (refine wpS_q ?_ (by rfl) ?_ ?_; rotate_left; (focus (intro z hz; (try dsimp only at hz); go_simp; rfl)); simp only [Act.put, List.setIfInBounds_toArray, List.set_cons_zero, List.set_cons_succ])
            refine wpS_q (.string (bstr x8)) (by rfl) (fun z hz => by have hcv := conv_str hz.2.2 lc; go_simp) ?_
            simp only [Act.put, List.setIfInBounds_toArray, List.set_cons_zero, List.set_cons_succ]
            have heqs : ((bstr x8).toList == (bstr x8).toList) = true := by simp
            iterate 2 (refine wpS_q ?_ (by rfl) ?_ ?_; rotate_left; (focus (intro z hz; (try dsimp only at hz); go_simp; rfl)); simp only [Act.put, List.setIfInBounds_toArray, List.set_cons_zero, List.set_cons_succ])
            refine wpS_nil ?_
            have hwb := HBASE.out
            have hb8 := drew_below (w := w7)
            have hbb8 := below_base hbb hb8
            have hRX8 := hRX.below hb8
            have hD8 := hD7.below hb8
            have hRR8 := hRR.below hb8
            obtain ⟨w8, hw8⟩ : ∃ x, w7.drew = x := ⟨_, rfl⟩
            rw [hw8] at hb8 hbb8 hRX8 hD8 hRR8 ⊢
            have hlt8 : ∀ x, l7.fp x → x < w8.heap.size := fun x hx => (hD8.fp_lt hx).2
            have hpt : PtOk w8 ⟨An, ln, lc, x8⟩ := ⟨hRl.below hbb8.1, hlc⟩
            have hpn : ln ≠ 0 → ∀ x, An.map (·.block) = some x → x < w8.heap.size ∧ ¬ l7.fp x := fun h0 x hx => ⟨by have h1 := hlbN h0 x hx; have h2 := hbb8.2; omega, fun hf => by have h1 := hlbN h0 x hx; have h2 := (hD8.fp_lt hf).1; omega⟩
            have hap8 : ln ≠ 0 → Apart A3 An := fun h0 x hx hx1 => by have h1 := hlbN h0 x hx1; have h2 := (hRX8.ltA x hx).1; omega
            have hNl : N3 + 1 < 1000000 := by omega
            clear hw8 hw31 heqs hlt31 hq7 ho7 hRlz hRX hD7 hRR hbb
            go_wp2_with (at_builtin; refine app_sliceW rfl _ _ rfl l7 hlt8 base A3 N3 c3 psX rfl hRX8 ⟨An, ln, lc, x8⟩ hpt hpn hap8 22 _ rfl rfl hNl hbb8.2 ?_; intro A9 c9 w10 hR10 hb10 hG10)
            have hb9 := below_alloc w8 (.cells #[(⟨An, ln, lc, x8⟩ : Pt).v] 22)
            have hD10 : DiskAt w10 base l7 dn := (hD8.below hb9).kept (Chg.of_grown' (F := fun x => A3.map (·.block) = some x) hG10.grown (fun g hg => hg)) (fun x hx hf => hRX8.outA x hf hx)
            have hbw : Below w.heap.size w w10 := (below_next' hbb8.1 hb9).trans (hb10.mono (Nat.le_of_eq hwb))
            have hRR9 := hRR8.below hb9
            have hRR10 : RowR w10 (some ad7) (N3 + 1) ps7 := ⟨hRR9.len, fun hN => by
              obtain ⟨ad', e', hc'⟩ := hRR9.cells hN
              cases e'
              refine ⟨ad7, rfl, fun i p hp => ?_⟩
              have h1 := hc' i p hp
              have h2 := lt_of_cell h1
              rw [World.cell?_of_block (hG10.grown.block _ h2 (fun e => by
                have h3 := hA37 _ e.symm
                rw [block_of_add] at h3
                have h4 := hA7g ad7.block rfl
                omega))]
              exact h1, fun p hp => ⟨by
              by_cases h0 : p.n = 0
              · exact RB.any (hRR9.ok p hp).r h0
              · exact RB.grown (hRR9.ok p hp).r hG10.grown (.inl (fun e => by
                  obtain ⟨adp, ep, _, _⟩ := (hRR9.ok p hp).r.2 (by omega)
                  rw [ep] at e
                  have h3 : adp.block < w6.heap.size := hA37 _ e.symm
                  have h4 := hge7 p hp adp.block (by rw [ep]; rfl)
                  omega)), (hRR9.ok p hp).c⟩⟩
            refine (same_any w10 (some ad7) (N3 + 1) c7 ps7 hRR10 A9 (N3 + 1) c9 _ hR10.reads (by omega) (by rw [hxs7, List.map_append, hxX]; rfl)).mono ?_
            rintro e w11 ⟨rfl, hb11⟩
            have hbw11 := below_next' hbw hb11
            have hR11 := hR10.below hb11
            have hD11 := hD10.below hb11
            simp only []
            clear hRR10 hRR9 hR10 hD10 hb10 hG10 hb9
            go_wp2_with fail
            go_roundw
            case rel => exact ⟨k + 1, dn, l7, L + 1, K2 + 1, _, q2, zz, A9, N3 + 1, c9, psX ++ [⟨An, ln, lc, x8⟩], by omega, congrArg (Value.int .i64) (by omega), rfl, hst', hD11, hl7, hR11, by rw [List.map_append, hxX]; rfl, hbw11, by rw [← hwb]; exact hbw11.size⟩
            case measure => simp only [intOf]; omega
    · have g1 : ¬ (k : Int) < (m : Int) := by omega
      go_wp2_with (go_at_call 43; refine (works6_any _).mono ?_; rintro e w2 ⟨rfl, hb2⟩)
      go_ret
      exact ⟨rfl, below_next' hbk hb2⟩
theorem bookPower_walk (w : World) (A : Option Addr) (m c : Nat) (l : List Crash6) (_ : l.length = m) (hr : Reads w w.heap.size 3 A m (l.flatMap fun x => [x.1.v] ++ ([Value.int .u8 (x.2.1.toNat : Int)] ++ [x.2.2.v]))) (hi : ∀ a ∈ l, (SR.ok w a.1 ∧ True ∧ SB.ok w a.2.2) ∧ ([a.1.v] ++ ([Value.int .u8 (a.2.1.toNat : Int)] ++ [a.2.2.v])).length = 3) (_ : m ≤ c) (_ : c * 56 ≤ 140737488351232) :
    Calls Try.prog 17 #[.slice A m c] w fun e w' => e = .returned (.bool true) ∧ Below w.heap.size w w' :=
  bookPower_any w A m c l hr (fun x hx => ⟨(hi x hx).1.1, (hi x hx).1.2.2⟩)
end Go.Proofs.Ytmjdfajdompkeaa
