/- DiskFuses: in plain words. -/
import Derived.Test.YtekpohchikbnnaaDl
namespace Go.Proofs.Ytekpohchikbnnaa
open Go.RowKit Go.Rat
/-- The byte of call i. -/
def nb (i : Nat) : UInt8 := UInt8.ofNat (i + 1)
theorem nb_toNat {i : Nat} (h : i < 200) : ((nb i).toNat : Int) = (i : Int) + 1 := by
  have : (nb i).toNat = (i + 1) % 256 := by simp [nb]
  rw [this, Nat.mod_eq_of_lt (by omega)]; omega
/-- The last Sync below k, -1: none. -/
def syF (l : List Bool) : Nat → Int
  | 0 => -1
  | k + 1 => if l.getD k true = true then (k : Int) else syF l k
theorem syF_lt (l : List Bool) : ∀ k, -1 ≤ syF l k ∧ syF l k < (k : Int)
  | 0 => ⟨by simp [syF], by simp [syF]⟩
  | k + 1 => by
    have := syF_lt l k
    rw [syF]
    split <;> omega
theorem syF_is (l : List Bool) : ∀ k, 0 ≤ syF l k → l.getD (syF l k).toNat true = true
  | 0, h => by simp [syF] at h
  | k + 1, h => by
    rw [syF] at h ⊢
    split
    · next hk => rwa [Int.toNat_natCast]
    · next hk =>
      rw [if_neg hk] at h
      exact syF_is l k h
structure FJ (l : List Bool) (s : Int) (k : Nat) (d : DS) : Prop where
  sure : ∀ a : Nat, d.sure a = if a < k ∧ l.getD a true = false ∧ (a : Int) < s then ⟨rep (nb a), false⟩ else zsec
  now : ∀ a : Nat, d.now a = if a < k ∧ l.getD a true = false then ⟨rep (nb a), false⟩ else zsec
  loose : ∀ a : Nat, (d.loose.any fun x => decide (x.1 = (a : Int))) = true ↔ (a < k ∧ l.getD a true = false ∧ s < (a : Int))
  val : ∀ x ∈ d.loose, x.2 = rep (nb x.1.toNat)
  len : d.loose.length ≤ k
theorem FJ.of {l : List Bool} {s : Int} {k : Nat} {d d' : DS} (h : FJ l s k d) (h1 : d'.sure = d.sure) (h2 : d'.now = d.now) (h3 : d'.loose = d.loose) : FJ l s k d' :=
  ⟨by rw [h1]; exact h.sure, by rw [h2]; exact h.now, by rw [h3]; exact h.loose, by rw [h3]; exact h.val, by rw [h3]; exact h.len⟩
theorem FJ.start (l : List Bool) (n : Int) : FJ l (-1) 0 (fuseD ds0 n) :=
  ⟨fun a => by rw [if_neg (by omega)]; rfl, fun a => by rw [if_neg (by omega)]; rfl, fun a => by simp [fuseD, ds0], by simp [fuseD, ds0], by simp [fuseD, ds0]⟩
theorem FJ.put {l : List Bool} {s : Int} {k : Nat} {d : DS} (h : FJ l s k d) (hl : l.getD k true = false) (hs : s < (k : Int)) : FJ l s (k + 1) (putD d k (rep (nb k))) := by
  refine ⟨?_, ?_, ?_, ?_, ?_⟩
  · intro a
    show d.sure a = _
    rw [h.sure]
    by_cases e : a = k
    · subst e
      rw [if_neg (by omega), if_neg (by omega)]
    · have : a < k ↔ a < k + 1 := by omega
      simp only [this]
  · intro a
    show (if (a : Int) = (k : Int) then _ else _) = _
    by_cases e : a = k
    · subst e
      rw [if_pos rfl, if_pos ⟨by omega, hl⟩]
    · rw [if_neg (by omega), h.now]
      have : a < k ↔ a < k + 1 := by omega
      simp only [this]
  · intro a
    show ((d.loose ++ [_]).any _) = true ↔ _
    rw [List.any_append, Bool.or_eq_true, h.loose]
    simp only [List.any_cons, List.any_nil, Bool.or_false, decide_eq_true_eq]
    constructor
    · rintro (⟨h1, h2, h3⟩ | e)
      · exact ⟨by omega, h2, h3⟩
      · obtain rfl : k = a := by omega
        exact ⟨by omega, hl, hs⟩
    · rintro ⟨h1, h2, h3⟩
      by_cases e : a = k
      · exact .inr (by rw [e])
      · exact .inl ⟨by omega, h2, h3⟩
  · intro x hx
    have hx : x ∈ d.loose ++ [((k : Int), rep (nb k))] := hx
    rcases List.mem_append.1 hx with hx | hx
    · exact h.val x hx
    · simp at hx
      subst hx
      simp
  · show (d.loose ++ [_]).length ≤ _
    rw [List.length_append]
    have := h.len
    simp; omega
theorem FJ.skip {l : List Bool} {s : Int} {k : Nat} {d : DS} (h : FJ l s k d) (hl : l.getD k true = true) : FJ l s (k + 1) d := by
  have key : ∀ a : Nat, (a < k ∧ l.getD a true = false) ↔ (a < k + 1 ∧ l.getD a true = false) := by
    intro a
    constructor
    · rintro ⟨h1, h2⟩; exact ⟨by omega, h2⟩
    · rintro ⟨h1, h2⟩
      refine ⟨?_, h2⟩
      by_cases e : a = k
      · subst e; rw [hl] at h2; cases h2
      · omega
  have key3 : ∀ (a : Nat) (p : Prop), (a < k ∧ l.getD a true = false ∧ p) ↔ (a < k + 1 ∧ l.getD a true = false ∧ p) := by
    intro a p
    rw [← and_assoc, key a, and_assoc]
  refine ⟨fun a => ?_, fun a => ?_, fun a => ?_, h.val, by have := h.len; omega⟩
  · rw [h.sure]; simp only [key3]
  · rw [h.now]; simp only [key]
  · rw [h.loose]; simp only [key3]
theorem FJ.sync {l : List Bool} {s : Int} {k : Nat} {d : DS} (h : FJ l s k d) (hl : l.getD k true = true) (hs1 : 0 ≤ s → l.getD s.toNat true = true) : FJ l k (k + 1) (syncD d) := by
  have h' := h.skip hl
  refine ⟨fun a => ?_, fun a => h'.now a, fun a => ?_, by simp [syncD], by simp [syncD]⟩
  · show syncF d.now d.loose d.sure a = _
    rw [syncF_at]
    by_cases hc : (d.loose.any fun x => decide (x.1 = (a : Int))) = true
    · rw [if_pos hc, h.now]
      rw [h.loose] at hc
      rw [if_pos ⟨hc.1, hc.2.1⟩, if_pos ⟨by omega, hc.2.1, by omega⟩]
    · rw [if_neg hc, h.sure]
      rw [h.loose] at hc
      by_cases hk : a < k ∧ l.getD a true = false
      · have : (a : Int) < s := by
          by_cases e : s = (a : Int)
          · have := hs1 (by omega)
            rw [e, Int.toNat_natCast, hk.2] at this
            cases this
          · by_cases e2 : s < (a : Int)
            · exact absurd ⟨hk.1, hk.2, e2⟩ hc
            · omega
        rw [if_pos ⟨hk.1, hk.2, this⟩, if_pos ⟨by omega, hk.2, by omega⟩]
      · rw [if_neg (fun q => hk ⟨q.1, q.2.1⟩), if_neg (fun q => hk ⟨by omega, q.2.1⟩)]
  · simp only [syncD, List.any_nil]
    constructor
    · intro h; cases h
    · rintro ⟨h1, h2, h3⟩; omega
/-- The state ahead of call k: on, as long as no more than so many were. -/
structure FuseInv (l : List Bool) (many k : Nat) (d : DS) : Prop where
  on : k ≤ many → d.off = false ∧ d.fuse = (many : Int) - (k : Int) ∧ FJ l (syF l k) k d
  over : many < k → d.off = true ∧ FJ l (syF l many) (many + 1) d
  len : d.loose.length ≤ k
theorem fuse_start (l : List Bool) (many : Nat) : FuseInv l many 0 (fuseD ds0 many) :=
  ⟨fun _ => ⟨rfl, by show max (many : Int) (-1) = _; omega, FJ.start l many⟩, fun h => by omega, (FJ.start l many).len⟩
theorem fuse_step {l : List Bool} {many k : Nat} {d : DS} (h : FuseInv l many k d) (hk : k < 100) :
    (l.getD k true = true → FuseInv l many (k + 1) (syncAll d) ∧ syncE d = (if k < many then 0 else 8)) ∧
    (l.getD k true = false → FuseInv l many (k + 1) (writeD d k (rep (nb k))) ∧ writeE d k = (if k < many then 0 else 8)) ∧
    (k ≤ many → readE d k = 0) ∧ (many < k → readE d k = 8) := by
  have hs := syF_lt l k
  have hs1 := syF_is l k
  have hrd : readyE false (k : Int) = 0 := readyE_ok (by omega)
  refine ⟨fun hl => ?_, fun hl => ?_, fun hm => ?_, fun hm => ?_⟩
  · have hsy : syF l (k + 1) = k := by rw [syF, if_pos hl]
    by_cases h1 : k < many
    · obtain ⟨ho, hf, hJ⟩ := h.on (by omega)
      have hb : burnB d = false := by rw [burnB, decide_eq_false_iff_not]; omega
      have hd : burnD d = { d with fuse := d.fuse - 1 } := by rw [burnD, if_neg (by omega), if_pos (by omega)]
      have he : syncAll d = syncD (burnD d) := by simp [syncAll, ho, hb]
      have hJ2 : FJ l (syF l k) k (burnD d) := hJ.of (by rw [hd]) (by rw [hd]) (by rw [hd])
      have hJ3 := hJ2.sync hl hs1
      rw [he, if_pos h1]
      refine ⟨⟨fun _ => ⟨?_, ?_, by rw [hsy]; exact hJ3⟩, fun h => by omega, hJ3.len⟩, by simp [syncE, ho, hb]⟩
      · show (burnD d).off = false
        rw [hd]; exact ho
      · show (burnD d).fuse = _
        rw [hd]
        show d.fuse - 1 = _
        omega
    · rw [if_neg h1]
      by_cases h2 : k = many
      · subst h2
        obtain ⟨ho, hf, hJ⟩ := h.on (by omega)
        have hb : burnB d = true := by rw [burnB, decide_eq_true_eq]; omega
        have hd : burnD d = offD d := by rw [burnD, if_pos (by omega)]
        have he : syncAll d = offD d := by simp [syncAll, ho, hb, hd]
        rw [he]
        have hJ2 : FJ l (syF l k) (k + 1) (offD d) := (hJ.of (d' := offD d) rfl rfl rfl).skip hl
        exact ⟨⟨fun h => by omega, fun _ => ⟨rfl, hJ2⟩, hJ2.len⟩, by simp [syncE, ho, hb]⟩
      · obtain ⟨ho, hJ⟩ := h.over (by omega)
        have he : syncAll d = d := by simp [syncAll, ho]
        rw [he]
        exact ⟨⟨fun h => by omega, fun _ => ⟨ho, hJ⟩, by have := h.len; omega⟩, by simp [syncE, ho]⟩
  · have hsy : syF l (k + 1) = syF l k := by rw [syF, if_neg (by rw [hl]; decide)]
    by_cases h1 : k < many
    · obtain ⟨ho, hf, hJ⟩ := h.on (by omega)
      have hr : readyE d.off (k : Int) = 0 := by rw [ho]; exact hrd
      have hfp : (putD d k (rep (nb k))).fuse = d.fuse := rfl
      have hb : burnB (putD d k (rep (nb k))) = false := by rw [burnB, decide_eq_false_iff_not]; omega
      have hd : burnD (putD d k (rep (nb k))) = { putD d k (rep (nb k)) with fuse := d.fuse - 1 } := by rw [burnD, if_neg (by omega), if_pos (by omega), hfp]
      have he : writeD d k (rep (nb k)) = burnD (putD d k (rep (nb k))) := by rw [writeD, if_pos hr]
      have hE : writeE d k = 0 := by
        rw [writeE, if_pos hr, if_neg]
        rw [burnB, decide_eq_true_eq]; omega
      have hJ3 := hJ.put hl hs.2
      rw [if_pos h1, he]
      refine ⟨⟨fun _ => ⟨?_, ?_, ?_⟩, fun h => by omega, ?_⟩, hE⟩
      · rw [hd]; exact ho
      · rw [hd]
        show d.fuse - 1 = _
        omega
      · rw [hsy]
        exact hJ3.of (by rw [hd]) (by rw [hd]) (by rw [hd])
      · rw [hd]; exact hJ3.len
    · rw [if_neg h1]
      by_cases h2 : k = many
      · subst h2
        obtain ⟨ho, hf, hJ⟩ := h.on (by omega)
        have hr : readyE d.off (k : Int) = 0 := by rw [ho]; exact hrd
        have hfp : (putD d k (rep (nb k))).fuse = d.fuse := rfl
        have hd : burnD (putD d k (rep (nb k))) = offD (putD d k (rep (nb k))) := by rw [burnD, if_pos (by omega)]
        have he : writeD d k (rep (nb k)) = offD (putD d k (rep (nb k))) := by rw [writeD, if_pos hr, hd]
        have hE : writeE d k = 8 := by
          rw [writeE, if_pos hr, if_pos]
          rw [burnB, decide_eq_true_eq]; omega
        have hJ3 : FJ l (syF l k) (k + 1) (offD (putD d k (rep (nb k)))) := (hJ.put hl hs.2).of rfl rfl rfl
        rw [he]
        exact ⟨⟨fun h => by omega, fun _ => ⟨rfl, hJ3⟩, hJ3.len⟩, hE⟩
      · obtain ⟨ho, hJ⟩ := h.over (by omega)
        have hr : readyE d.off (k : Int) = 8 := by rw [ho]; rfl
        have he : writeD d k (rep (nb k)) = d := by rw [writeD, if_neg (by rw [hr]; decide)]
        rw [he]
        exact ⟨⟨fun h => by omega, fun _ => ⟨ho, hJ⟩, by have := h.len; omega⟩, by rw [writeE, if_neg (by rw [hr]; decide)]; exact hr⟩
  · obtain ⟨ho, hf, hJ⟩ := h.on hm
    have hr : readyE d.off (k : Int) = 0 := by rw [ho]; exact hrd
    have hz : d.now (k : Int) = zsec := by rw [hJ.now, if_neg (fun q => absurd q.1 (Nat.lt_irrefl k))]
    rw [readE, if_pos hr, hz]
    rfl
  · obtain ⟨ho, hJ⟩ := h.over hm
    have hr : readyE d.off (k : Int) = 8 := by rw [ho]; rfl
    rw [readE, if_neg (by rw [hr]; decide), hr]
theorem picksF_same (ps : List UInt8) (p : UInt8) (a : Int) : ∀ (l : List (Int × List UInt8)) i (f : Int → Sec), (∀ x ∈ l, x.2 = rep (nb x.1.toNat)) → (∀ j, i ≤ j → j < i + l.length → ps.getD j 0 = p) →
    (p = 0 → picksF l i ps f a = f a) ∧ (p = 1 → picksF l i ps f a = if (l.any fun x => decide (x.1 = a)) = true then ⟨rep (nb a.toNat), false⟩ else f a)
  | [], _, _, _, _ => ⟨fun _ => rfl, fun _ => by simp [picksF]⟩
  | x :: r, i, f, hv, hp => by
    have ih := picksF_same ps p a r (i + 1) (pickF f x (ps.getD i 0).toNat) (fun y hy => hv y (by simp [hy])) (fun j h1 h2 => hp j (by omega) (by simp only [List.length_cons]; omega))
    have hpi := hp i (Nat.le_refl _) (by simp only [List.length_cons]; omega)
    refine ⟨fun h0 => ?_, fun h1 => ?_⟩
    · rw [picksF, ih.1 h0, hpi, h0]
      rfl
    · rw [picksF, ih.2 h1, hpi, h1, List.any_cons]
      have hx := hv x (by simp)
      by_cases hc : (r.any fun x => decide (x.1 = a)) = true
      · rw [if_pos hc, if_pos (by simp [hc])]
      · rw [if_neg hc]
        show (pickF f x 1) a = _
        rw [pickF_1 _ _ _ (.inl rfl)]
        by_cases e : x.1 = a
        · rw [if_pos (by simp [e])]
          simp [upd, e, hx]
        · rw [if_neg (by simp [e, hc])]
          simp [upd, Ne.symm e]
theorem fuse_end {l : List Bool} {many : Nat} {d : DS} (hm : many < l.length) (hl : l.length ≤ 100) (h : FuseInv l many l.length d) (p : UInt8) (hp : p = 0 ∨ p = 1) (ps : List UInt8) (hps : ps = List.replicate d.loose.length p) :
    onE d = 0 ∧ ∀ a : Nat, a ≤ many → readE (onAll d ps) a = 0 ∧ readB (onAll d ps) a = if l.getD a true = false ∧ ((a : Int) < syF l many ∨ p = 1) then rep (nb a) else rep 0 := by
  obtain ⟨ho, hJ⟩ := h.over hm
  have hon : onAll d ps = onD d ps := by unfold onAll; exact if_pos ho
  refine ⟨by unfold onE; exact if_pos ho, ?_⟩
  intro a ha
  rw [hon]
  have hr : readyE (onD d ps).off (a : Int) = 0 := readyE_ok (by omega)
  have hP := picksF_same ps p (a : Int) d.loose 0 d.sure hJ.val (fun j _ h2 => by
    rw [hps, List.getD_eq_getElem?_getD, List.getElem?_replicate, if_pos (by omega)]; rfl)
  have hs1 := syF_is l many
  have hnow : (onD d ps).now a = ⟨if l.getD a true = false ∧ ((a : Int) < syF l many ∨ p = 1) then rep (nb a) else rep 0, false⟩ := by
    show syncF (picksF d.loose 0 ps d.sure) d.loose d.now a = _
    rw [syncF_at]
    by_cases hc : (d.loose.any fun x => decide (x.1 = (a : Int))) = true
    · rw [if_pos hc]
      have hc' := hc
      rw [hJ.loose] at hc'
      rcases hp with rfl | rfl
      · rw [hP.1 rfl, hJ.sure, if_neg (by omega), if_neg (by rintro ⟨_, h | h⟩; omega; cases h)]
        rfl
      · rw [hP.2 rfl, if_pos hc, if_pos ⟨hc'.2.1, .inr rfl⟩, Int.toNat_natCast]
    · rw [if_neg hc, hJ.now]
      rw [hJ.loose] at hc
      by_cases hk : l.getD a true = false
      · have : (a : Int) < syF l many := by
          by_cases e : syF l many = (a : Int)
          · have := hs1 (by omega)
            rw [e, Int.toNat_natCast, hk] at this
            cases this
          · by_cases e2 : syF l many < (a : Int)
            · exact absurd ⟨by omega, hk, e2⟩ hc
            · omega
        rw [if_pos ⟨by omega, hk⟩, if_pos ⟨hk, .inl this⟩]
      · rw [if_neg (fun q => hk q.2), if_neg (fun q => hk q.1)]
        rfl
  exact ⟨by rw [readE, if_pos hr, hnow]; rfl, by rw [readB, hnow, if_pos ⟨hr, rfl⟩]⟩
end Go.Proofs.Ytekpohchikbnnaa
