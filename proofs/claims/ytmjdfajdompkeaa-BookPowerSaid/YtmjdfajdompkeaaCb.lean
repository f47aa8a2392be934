/- cell: what a Put leaves on the disk, with the power going anywhere. -/
import Derived.Test.YtmjdfajdompkeaaCa
import Derived.Test.YtmjdfajdompkeaaDpa
namespace Go.Proofs.Ytmjdfajdompkeaa
open Go.RowKit Go.Rat
def wlist (p : Int) (c : Nat) (b : List UInt8) (m : Nat) : List (Int × List UInt8) := (List.range m).map fun i => (p + ((i : Nat) : Int), secB c b i)
theorem wlist_succ (p : Int) (c : Nat) (b : List UInt8) (m : Nat) : wlist p c b (m + 1) = wlist p c b m ++ [(p + (m : Int), secB c b m)] := by
  rw [wlist, wlist, List.range_succ, List.map_append]; rfl
theorem wlist_mem {p : Int} {c : Nat} {b : List UInt8} {m : Nat} {x : Int × List UInt8} : x ∈ wlist p c b m ↔ ∃ i : Nat, i < m ∧ x = (p + (i : Int), secB c b i) := by
  rw [wlist, List.mem_map]
  constructor
  · rintro ⟨i, hi, rfl⟩; exact ⟨i, List.mem_range.1 hi, rfl⟩
  · rintro ⟨i, hi, rfl⟩; exact ⟨i, List.mem_range.2 hi, rfl⟩
def nowW (now : Int → Sec) (p : Int) (c : Nat) (b : List UInt8) (m : Nat) : Int → Sec := fun a => if p ≤ a ∧ a < p + (m : Int) then ⟨secB c b (a - p).toNat, false⟩ else now a
theorem nowW_in (now : Int → Sec) (p : Int) (c : Nat) (b : List UInt8) {m i : Nat} (hi : i < m) : nowW now p c b m (p + (i : Int)) = ⟨secB c b i, false⟩ := by
  rw [nowW, if_pos ⟨by omega, by omega⟩, show (p + (i : Int) - p).toNat = i by omega]
theorem nowW_out (now : Int → Sec) (p : Int) (c : Nat) (b : List UInt8) {m : Nat} {a : Int} (h : ¬ (p ≤ a ∧ a < p + (m : Int))) : nowW now p c b m a = now a := if_neg h
structure Wr (d d' : DS) (p : Int) (c : Nat) (b : List UInt8) (m : Nat) : Prop where
  sure : d'.sure = d.sure
  now : ∀ a, d'.now a = nowW d.now p c b m a
  loose : d'.loose = d.loose ++ wlist p c b m
theorem Wr.put {d d' : DS} {p : Int} {c : Nat} {b : List UInt8} {m : Nat} (h : Wr d d' p c b m) : Wr d (putD d' (p + (m : Int)) (secB c b m)) p c b (m + 1) := by
  refine ⟨h.sure, fun a => ?_, ?_⟩
  · show (if a = p + (m : Int) then _ else d'.now a) = _
    rw [h.now, nowW, nowW]
    by_cases e : a = p + (m : Int)
    · subst e
      rw [if_pos rfl, if_pos ⟨by omega, by omega⟩, show (p + (m : Int) - p).toNat = m by omega]
    · rw [if_neg e]
      by_cases h1 : p ≤ a ∧ a < p + (m : Int)
      · rw [if_pos h1, if_pos ⟨by omega, by omega⟩]
      · rw [if_neg h1, if_neg (by omega)]
  · show d'.loose ++ [_] = _
    rw [h.loose, wlist_succ, List.append_assoc]
theorem Wr.of {d d' d2 : DS} {p : Int} {c : Nat} {b : List UInt8} {m : Nat} (h : Wr d d' p c b m) (h1 : d2.sure = d'.sure) (h2 : d2.now = d'.now) (h3 : d2.loose = d'.loose) : Wr d d2 p c b m :=
  ⟨h1.trans h.sure, fun a => by rw [h2]; exact h.now a, h3.trans h.loose⟩
/-- One write, where the power is on. -/
theorem write_eff {d : DS} {a : Int} (b : List UInt8) (ho : d.off = false) (ha : 0 ≤ a ∧ a < 32768) :
    (d.fuse = 0 → writeE d a = 8 ∧ writeD d a b = offD (putD d a b)) ∧
    (0 < d.fuse → writeE d a = 0 ∧ writeD d a b = { putD d a b with fuse := d.fuse - 1 }) ∧
    (d.fuse < 0 → writeE d a = 0 ∧ writeD d a b = putD d a b) := by
  have hr : readyE d.off a = 0 := by rw [ho]; exact readyE_ok ha
  have hf : (putD d a b).fuse = d.fuse := rfl
  refine ⟨fun h => ⟨?_, ?_⟩, fun h => ⟨?_, ?_⟩, fun h => ⟨?_, ?_⟩⟩
  · rw [writeE, if_pos hr, if_pos (by rw [burnB, decide_eq_true_eq]; exact h)]
  · rw [writeD, if_pos hr, burnD, if_pos (by rw [hf]; exact h)]
  · rw [writeE, if_pos hr, if_neg (by rw [burnB, decide_eq_true_eq]; omega)]
  · rw [writeD, if_pos hr, burnD, if_neg (by rw [hf]; omega), if_pos (by rw [hf]; exact h), hf]
  · rw [writeE, if_pos hr, if_neg (by rw [burnB, decide_eq_true_eq]; omega)]
  · rw [writeD, if_pos hr, burnD, if_neg (by rw [hf]; omega), if_neg (by rw [hf]; omega)]
theorem wrS_eff {d : DS} {p : Int} {c : Nat} {b : List UInt8} (hp : 0 ≤ p ∧ p + 10 ≤ 32768) (ho : d.off = false) (hf : -1 ≤ d.fuse) : ∀ k : Nat, k ≤ 10 →
    ∃ m : Nat, m ≤ k ∧ Wr d (wrS d p c b k).1 p c b m ∧
      ((wrS d p c b k).2 = 0 → m = k ∧ (wrS d p c b k).1.off = false ∧ (d.fuse = -1 ∧ (wrS d p c b k).1.fuse = -1 ∨ (k : Int) ≤ d.fuse ∧ (wrS d p c b k).1.fuse = d.fuse - (k : Int))) ∧
      ((wrS d p c b k).2 ≠ 0 → (wrS d p c b k).2 = 8 ∧ (wrS d p c b k).1.off = true ∧ 0 ≤ d.fuse ∧ d.fuse < (k : Int))
  | 0, _ => ⟨0, Nat.le_refl _, ⟨rfl, fun a => by rw [nowW_out _ _ _ _ (by omega)]; rfl, by simp [wlist, wrS]⟩, fun _ => ⟨rfl, ho, by
      by_cases h : d.fuse = -1
      · exact .inl ⟨h, h⟩
      · exact .inr ⟨by omega, by show d.fuse = d.fuse - ((0 : Nat) : Int); omega⟩⟩, fun h => absurd rfl h⟩
  | k + 1, hk => by
    obtain ⟨m, hm, hW, h1, h2⟩ := wrS_eff (c := c) (b := b) hp ho hf k (by omega)
    by_cases he : (wrS d p c b k).2 = 0
    · obtain ⟨rfl, ho1, hf1⟩ := h1 he
      have hst : wrS d p c b (m + 1) = (writeD (wrS d p c b m).1 (p + (m : Int)) (secB c b m), writeE (wrS d p c b m).1 (p + (m : Int))) := by rw [wrS, if_pos he]
      rw [hst]
      generalize (wrS d p c b m).1 = d1 at *
      obtain ⟨e1, e2, e3⟩ := write_eff (secB c b m) ho1 (a := p + (m : Int)) (by omega)
      have hWp := hW.put
      by_cases hz : d1.fuse = 0
      · obtain ⟨q1, q2⟩ := e1 hz
        refine ⟨m + 1, Nat.le_refl _, ?_, fun h => ?_, fun _ => ⟨q1, ?_, ?_⟩⟩
        · simp only [q2]; exact hWp.of rfl rfl rfl
        · simp only [q1] at h; omega
        · simp only [q2]; rfl
        · omega
      · by_cases hpos : 0 < d1.fuse
        · obtain ⟨q1, q2⟩ := e2 hpos
          refine ⟨m + 1, Nat.le_refl _, ?_, fun _ => ⟨rfl, ?_, ?_⟩, fun h => absurd q1 h⟩
          · simp only [q2]; exact hWp.of rfl rfl rfl
          · simp only [q2]; exact ho1
          · simp only [q2]; omega
        · obtain ⟨q1, q2⟩ := e3 (by omega)
          refine ⟨m + 1, Nat.le_refl _, ?_, fun _ => ⟨rfl, ?_, ?_⟩, fun h => absurd q1 h⟩
          · simp only [q2]; exact hWp
          · simp only [q2]; exact ho1
          · have hfp : (putD d1 (p + (m : Int)) (secB c b m)).fuse = d1.fuse := rfl
            simp only [q2]
            rw [hfp]
            omega
    · have hst : wrS d p c b (k + 1) = wrS d p c b k := by rw [wrS, if_neg he]
      rw [hst]
      obtain ⟨q1, q2, q3⟩ := h2 he
      exact ⟨m, by omega, hW, fun h => absurd h he, fun _ => ⟨q1, q2, by omega, by omega⟩⟩
/-- A disk that is on, nothing loose. -/
structure Calm (d : DS) : Prop where
  off : d.off = false
  fuse : d.fuse = -1
  loose : d.loose = []
  same : ∀ a, d.sure a = d.now a
theorem on_now (d : DS) (ps : List UInt8) (a : Int) : (onAll (offD d) ps).now a = (if (d.loose.any fun x => decide (x.1 = a)) = true then picksF d.loose 0 ps d.sure a else d.now a) ∧ (onAll (offD d) ps).sure a = picksF d.loose 0 ps d.sure a ∧ (onAll (offD d) ps).off = false ∧ (onAll (offD d) ps).fuse = -1 ∧ (onAll (offD d) ps).loose = [] ∧ onE (offD d) = 0 := by
  have hon : onAll (offD d) ps = onD (offD d) ps := by unfold onAll; exact if_pos rfl
  rw [hon]
  exact ⟨syncF_at _ _ _ _, rfl, rfl, rfl, rfl, by unfold onE; exact if_pos rfl⟩
theorem any_mem (l : List (Int × List UInt8)) (a : Int) : (l.any fun x => decide (x.1 = a)) = true ↔ ∃ x ∈ l, x.1 = a := by simp
/-- The power goes and comes where sure sectors and loose writes are so. -/
theorem on_calm {d d' : DS} (hd : Calm d) {p : Int} {c : Nat} {b : List UInt8} {m : Nat} (hW : Wr d d' p c b m) (ps : List UInt8) :
    Calm (onAll (offD d') ps) ∧ (∀ a, ¬ (p ≤ a ∧ a < p + (m : Int)) → (onAll (offD d') ps).now a = d.now a) ∧
    ∀ i : Nat, i < m → (onAll (offD d') ps).now (p + (i : Int)) = d.now (p + (i : Int)) ∨ (onAll (offD d') ps).now (p + (i : Int)) = ⟨secB c b i, false⟩ ∨ ((onAll (offD d') ps).now (p + (i : Int))).lost = true := by
  have hl : d'.loose = wlist p c b m := by rw [hW.loose, hd.loose, List.nil_append]
  have hany : ∀ a, (d'.loose.any fun x => decide (x.1 = a)) = true ↔ (p ≤ a ∧ a < p + (m : Int)) := by
    intro a
    rw [any_mem, hl]
    constructor
    · rintro ⟨x, hx, rfl⟩
      obtain ⟨i, hi, rfl⟩ := wlist_mem.1 hx
      simp only; omega
    · rintro ⟨h1, h2⟩
      exact ⟨_, wlist_mem.2 ⟨(a - p).toNat, by omega, rfl⟩, by simp only; omega⟩
  have hpk : ∀ a, ¬ (p ≤ a ∧ a < p + (m : Int)) → picksF d'.loose 0 ps d'.sure a = d.now a := by
    intro a ha
    rcases picksF_is ps a d'.loose 0 d'.sure with h | ⟨x, h1, h2, _⟩
    · rw [h, hW.sure, hd.same]
    · exact absurd ((hany a).1 ((any_mem _ _).2 ⟨x, h1, h2⟩)) ha
  obtain ⟨_, _, h3, h4, h5, _⟩ := on_now d' ps 0
  refine ⟨⟨h3, h4, h5, fun a => ?_⟩, fun a ha => ?_, fun i hi => ?_⟩
  · obtain ⟨h1, h2, _⟩ := on_now d' ps a
    rw [h1, h2]
    split
    · rfl
    · next hc =>
      rw [hany] at hc
      rw [hpk a hc, hW.now, nowW_out _ _ _ _ hc]
  · obtain ⟨h1, _⟩ := on_now d' ps a
    rw [h1, if_neg (by rw [hany]; exact ha), hW.now, nowW_out _ _ _ _ ha]
  · obtain ⟨h1, _⟩ := on_now d' ps (p + (i : Int))
    rw [h1, if_pos ((hany _).2 ⟨by omega, by omega⟩)]
    rcases picksF_is ps (p + (i : Int)) d'.loose 0 d'.sure with h | ⟨x, h1, h2, h3⟩
    · exact .inl (by rw [h, hW.sure, hd.same])
    · rw [hl] at h1
      obtain ⟨j, hj, rfl⟩ := wlist_mem.1 h1
      simp only at h2 h3
      obtain rfl : j = i := by omega
      exact .inr h3
theorem wlist_any (p : Int) (c : Nat) (b : List UInt8) (m : Nat) (a : Int) : ((wlist p c b m).any fun x => decide (x.1 = a)) = true ↔ (p ≤ a ∧ a < p + (m : Int)) := by
  rw [any_mem]
  constructor
  · rintro ⟨x, hx, rfl⟩
    obtain ⟨i, hi, rfl⟩ := wlist_mem.1 hx
    simp only; omega
  · rintro ⟨h1, h2⟩
    exact ⟨_, wlist_mem.2 ⟨(a - p).toNat, by omega, rfl⟩, by simp only; omega⟩
/-- A Put with a fuse, then the power goes and comes. -/
theorem ptF_power {d : DS} (h : Calm d) (f : Int) {p : Int} (hp : 0 ≤ p ∧ p + 20 ≤ 32768) {which : Nat} (hw : which ≤ 1) {b : List UInt8} (ps : List UInt8) (q : Int) (hq : q = p + ((1 - which : Nat) : Int) * 10) :
    ((ptF (fuseD d f) p which b).2 = 0 ∨ (ptF (fuseD d f) p which b).2 = 8) ∧
    Calm (onAll (offD (ptF (fuseD d f) p which b).1) ps) ∧
    (∀ a, ¬ (q ≤ a ∧ a < q + 10) → (onAll (offD (ptF (fuseD d f) p which b).1) ps).now a = d.now a) ∧
    (∀ i : Nat, i < 10 → (onAll (offD (ptF (fuseD d f) p which b).1) ps).now (q + (i : Int)) = d.now (q + (i : Int)) ∨ (onAll (offD (ptF (fuseD d f) p which b).1) ps).now (q + (i : Int)) = ⟨secB (nextF d p) b i, false⟩ ∨ ((onAll (offD (ptF (fuseD d f) p which b).1) ps).now (q + (i : Int))).lost = true) ∧
    ((ptF (fuseD d f) p which b).2 = 0 → ∀ i : Nat, i < 10 → (onAll (offD (ptF (fuseD d f) p which b).1) ps).now (q + (i : Int)) = ⟨secB (nextF d p) b i, false⟩) := by
  have hqb : 0 ≤ q ∧ q + 10 ≤ 32768 := by omega
  have hn : nextF (fuseD d f) p = nextF d p := rfl
  have hf : (fuseD d f).fuse = max f (-1) := rfl
  obtain ⟨m, hm, hW, h0, h8⟩ := wrS_eff (d := fuseD d f) (p := q) (c := nextF d p) (b := b) hqb h.off (by rw [hf]; omega) 10 (Nat.le_refl _)
  have hW : Wr d (wrS (fuseD d f) q (nextF d p) b 10).1 q (nextF d p) b m := ⟨hW.sure, hW.now, hW.loose⟩
  rw [ptF, hn, ← hq]
  generalize wrS (fuseD d f) q (nextF d p) b 10 = r at *
  obtain ⟨d1, e1⟩ := r
  simp only at h0 h8 hW ⊢
  by_cases he : e1 = 0
  · rw [if_pos he]
    obtain ⟨rfl, ho, hfu⟩ := h0 he
    simp only
    by_cases hb : burnB d1 = true
    · have hE : syncE d1 = 8 := by simp [syncE, ho, hb]
      have hD : syncAll d1 = offD d1 := by
        have : d1.fuse = 0 := by rwa [burnB, decide_eq_true_eq] at hb
        simp [syncAll, ho, hb, burnD, this]
      rw [hE, hD]
      obtain ⟨k1, k2, k3⟩ := on_calm h (d' := offD d1) (hW.of rfl rfl rfl) ps
      refine ⟨.inr rfl, k1, fun a ha => k2 a (by omega), fun i hi => k3 i hi, fun h => by omega⟩
    · have hb' : burnB d1 = false := by simpa using hb
      have hE : syncE d1 = 0 := by simp [syncE, ho, hb']
      have hD : syncAll d1 = syncD (burnD d1) := by simp [syncAll, ho, hb']
      rw [hE, hD]
      have hl : (burnD d1).loose = d1.loose ∧ (burnD d1).now = d1.now ∧ (burnD d1).sure = d1.sure := by
        unfold burnD
        split
        · exact ⟨rfl, rfl, rfl⟩
        · split <;> exact ⟨rfl, rfl, rfl⟩
      have hnow : ∀ a, (onAll (offD (syncD (burnD d1))) ps).now a = d1.now a := by
        intro a
        obtain ⟨g1, _⟩ := on_now (syncD (burnD d1)) ps a
        rw [g1, if_neg (by simp [syncD])]
        show (burnD d1).now a = _
        rw [hl.2.1]
      have hsure : ∀ a, (onAll (offD (syncD (burnD d1))) ps).sure a = d1.now a := by
        intro a
        obtain ⟨_, g2, _⟩ := on_now (syncD (burnD d1)) ps a
        rw [g2]
        show syncF (burnD d1).now (burnD d1).loose (burnD d1).sure a = _
        rw [syncF_at, hl.1, hl.2.1, hl.2.2]
        split
        · rfl
        · next hc =>
          rw [hW.loose, h.loose, List.nil_append, wlist_any] at hc
          rw [hW.sure, h.same, hW.now, nowW_out _ _ _ _ hc]
      obtain ⟨_, _, g3, g4, g5, _⟩ := on_now (syncD (burnD d1)) ps 0
      refine ⟨.inl rfl, ⟨g3, g4, g5, fun a => by rw [hnow, hsure]⟩, fun a ha => ?_, fun i hi => ?_, fun _ i hi => ?_⟩
      · rw [hnow, hW.now, nowW_out _ _ _ _ (by omega)]
      · rw [hnow, hW.now, nowW_in _ _ _ _ hi]; exact .inr (.inl rfl)
      · rw [hnow, hW.now, nowW_in _ _ _ _ hi]
  · rw [if_neg he]
    obtain ⟨q1, q2, _⟩ := h8 he
    obtain ⟨k1, k2, k3⟩ := on_calm h hW ps
    refine ⟨.inr q1, k1, fun a ha => k2 a (by omega), fun i hi => ?_, fun h => absurd h he⟩
    by_cases him : i < m
    · exact k3 i him
    · exact .inl (k2 _ (by omega))
end Go.Proofs.Ytmjdfajdompkeaa
