/- The document's disk, in plain words, and that it goes with the program's. -/
import Derived.Test.YtmjdfajdompkeaaDl
namespace Go.Proofs.Ytmjdfajdompkeaa
open Go.RowKit Go.Rat
/-- A write of the document's disk: of a sector, its bytes, or that it is lost. -/
structure RW where
  at_ : Int
  b : List UInt8
  lost : Bool
structure RS where
  sure : List RW
  soft : List RW
  off : Bool
  fuse : Int
def lastL (l : List RW) (a : Int) : Option RW := (l.reverse.find? fun x => decide (x.at_ = a))
/-- A write in place of the one ahead. -/
def putL : List RW → RW → List RW
  | [], x => [x]
  | y :: l, x => if y.at_ = x.at_ then x :: l else y :: putL l x
def secW (x : RW) : Sec := ⟨x.b, x.lost⟩
/-- One write for a sector at most. -/
def OneL (l : List RW) : Prop := ∀ x ∈ l, ∀ y ∈ l, x.at_ = y.at_ → x = y
def sureL (l : List RW) (a : Int) : Sec := match lastL l a with
  | some x => secW x
  | none => zsec
def nowRL (r : RS) (a : Int) : Sec := match lastL r.soft a with
  | some x => secW x
  | none => sureL r.sure a
theorem lastL_snoc (l : List RW) (x : RW) (a : Int) : lastL (l ++ [x]) a = if x.at_ = a then some x else lastL l a := by
  unfold lastL
  rw [List.reverse_append, List.reverse_cons, List.reverse_nil, List.nil_append, List.singleton_append, List.find?_cons]
  by_cases h : x.at_ = a
  · simp [h]
  · simp [h]
theorem lastL_cons (y : RW) (l : List RW) (a : Int) : lastL (y :: l) a = match lastL l a with
    | some x => some x
    | none => if y.at_ = a then some y else none := by
  unfold lastL
  rw [List.reverse_cons, List.find?_append]
  cases h : l.reverse.find? fun x => decide (x.at_ = a) with
  | some x => rfl
  | none =>
    by_cases h2 : y.at_ = a
    · simp [h2]
    · simp [h2]
/-- The sectors' places in a row are all unlike. -/
def Nod (l : List RW) : Prop := l.Pairwise fun x y => x.at_ ≠ y.at_
theorem lastL_none {l : List RW} {a : Int} (h : ∀ x ∈ l, x.at_ ≠ a) : lastL l a = none := by
  unfold lastL
  rw [List.find?_eq_none]
  intro x hx
  simpa using h x (by simpa using hx)
theorem putL_mem {l : List RW} {x y : RW} (h : y ∈ putL l x) : y = x ∨ y ∈ l := by
  induction l with
  | nil => exact .inl (by simpa [putL] using h)
  | cons z l ih =>
    rw [putL] at h
    split at h
    · rcases List.mem_cons.1 h with h1 | h1
      · exact .inl h1
      · exact .inr (List.mem_cons_of_mem _ h1)
    · rcases List.mem_cons.1 h with h1 | h1
      · exact .inr (by rw [h1]; exact List.mem_cons_self)
      · rcases ih h1 with h2 | h2
        · exact .inl h2
        · exact .inr (List.mem_cons_of_mem _ h2)
theorem putL_nod {l : List RW} (x : RW) (h : Nod l) : Nod (putL l x) := by
  induction l with
  | nil => simp [putL, Nod]
  | cons y l ih =>
    unfold Nod at h ih ⊢
    rw [List.pairwise_cons] at h
    rw [putL]
    split
    · next e =>
      rw [List.pairwise_cons]
      exact ⟨fun z hz => by rw [← e]; exact h.1 z hz, h.2⟩
    · next e =>
      rw [List.pairwise_cons]
      refine ⟨fun z hz => ?_, ih h.2⟩
      rcases putL_mem hz with rfl | h1
      · exact e
      · exact h.1 z h1
theorem lastL_put {l : List RW} (x : RW) (a : Int) (h : Nod l) : lastL (putL l x) a = if x.at_ = a then some x else lastL l a := by
  induction l with
  | nil => exact lastL_snoc [] x a
  | cons y l ih =>
    unfold Nod at h
    rw [List.pairwise_cons] at h
    rw [putL]
    by_cases e : y.at_ = x.at_
    · rw [if_pos e, lastL_cons, lastL_cons]
      by_cases hx : x.at_ = a
      · rw [if_pos hx, if_pos hx, lastL_none (fun z hz => by have := h.1 z hz; omega)]
      · rw [if_neg hx, if_neg hx, if_neg (by omega)]
    · rw [if_neg e, lastL_cons, lastL_cons, ih h.2]
      by_cases hx : x.at_ = a
      · rw [if_pos hx, if_pos hx]
      · rw [if_neg hx, if_neg hx]
/-- The document's disk goes with the program's. -/
structure RefD (d : DS) (r : RS) : Prop where
  off : r.off = d.off
  fuse : r.fuse = d.fuse
  soft : r.soft = d.loose.map fun x => ⟨x.1, x.2, false⟩
  sure : ∀ a, d.sure a = sureL r.sure a
  now : ∀ a, d.now a = nowRL r a
  nod : Nod r.sure
theorem lastL_fold (a : Int) : ∀ (s l : List RW), Nod l → lastL (s.foldl putL l) a = match lastL s a with
    | some x => some x
    | none => lastL l a
  | [], _, _ => rfl
  | x :: s, l, h => by
    rw [List.foldl_cons, lastL_fold a s _ (putL_nod x h), lastL_put x a h, lastL_cons]
    cases lastL s a with
    | some y => rfl
    | none =>
      by_cases hx : x.at_ = a
      · simp [hx]
      · simp [hx]
theorem fold_nod : ∀ (s l : List RW), Nod l → Nod (s.foldl putL l)
  | [], _, h => h
  | x :: s, l, h => by rw [List.foldl_cons]; exact fold_nod s _ (putL_nod x h)
theorem refD0 : RefD ds0 ⟨[], [], false, -1⟩ := ⟨rfl, rfl, rfl, fun _ => rfl, fun _ => rfl, List.Pairwise.nil⟩
theorem RefD.put {d : DS} {r : RS} (h : RefD d r) (a : Int) (b : List UInt8) : RefD (putD d a b) { r with soft := r.soft ++ [⟨a, b, false⟩] } := by
  refine ⟨h.off, h.fuse, ?_, h.sure, fun x => ?_, h.nod⟩
  · show _ = (d.loose ++ [(a, b)]).map _
    rw [List.map_append, h.soft]
    rfl
  · show (if x = a then (⟨b, false⟩ : Sec) else d.now x) = _
    rw [nowRL, lastL_snoc]
    by_cases hx : x = a
    · subst hx; simp [secW]
    · rw [if_neg hx, if_neg (fun e => hx e.symm), h.now]
      rfl
theorem lastL_any {d : DS} {r : RS} (h : RefD d r) (a : Int) : (d.loose.any fun x => decide (x.1 = a)) = (lastL r.soft a).isSome := by
  rw [h.soft]
  induction d.loose with
  | nil => rfl
  | cons x l ih =>
    rw [List.any_cons, List.map_cons, lastL_cons, ih]
    by_cases hx : x.1 = a
    · simp only [hx]
      cases lastL _ a <;> simp
    · simp only [hx]
      cases lastL _ a <;> simp
theorem RefD.sync {d : DS} {r : RS} (h : RefD d r) : RefD (syncD d) { r with sure := r.soft.foldl putL r.sure, soft := [] } := by
  have hs : ∀ a, sureL (r.soft.foldl putL r.sure) a = nowRL r a := fun a => by
    rw [sureL, lastL_fold a _ _ h.nod, nowRL]
    cases lastL r.soft a <;> rfl
  refine ⟨h.off, h.fuse, rfl, fun a => ?_, fun a => ?_, fold_nod _ _ h.nod⟩
  · show syncF d.now d.loose d.sure a = sureL (r.soft.foldl putL r.sure) a
    rw [syncF_at, hs, lastL_any h]
    have hn := h.now a
    rw [nowRL] at hn ⊢
    cases hl : lastL r.soft a with
    | some x => rw [hl] at hn; simpa using hn
    | none => simpa using h.sure a
  · show d.now a = sureL (r.soft.foldl putL r.sure) a
    rw [hs, h.now]
/-- On: what is picked. -/
def onL : List RW → Nat → List UInt8 → List RW → List RW
  | [], _, _, l => l
  | x :: s, i, ps, l => onL s (i + 1) ps (if (ps.getD i 0).toNat % 4 = 0 then l else if (ps.getD i 0).toNat % 4 = 2 then putL l ⟨x.at_, zs, true⟩ else putL l x)
theorem sureL_put {l : List RW} (x : RW) (h : Nod l) (f : Int → Sec) (hf : ∀ a, f a = sureL l a) (a : Int) : upd f x.at_ (secW x) a = sureL (putL l x) a := by
  unfold upd
  rw [sureL, lastL_put x a h]
  by_cases hx : a = x.at_
  · subst hx; simp
  · rw [if_neg hx, if_neg (fun e => hx e.symm), hf, sureL]
theorem onL_is (ps : List UInt8) : ∀ (s : List (Int × List UInt8)) (i : Nat) (l : List RW) (f : Int → Sec), Nod l → (∀ a, f a = sureL l a) →
    (∀ a, picksF s i ps f a = sureL (onL (s.map fun x => ⟨x.1, x.2, false⟩) i ps l) a) ∧ Nod (onL (s.map fun x => ⟨x.1, x.2, false⟩) i ps l)
  | [], _, _, _, h, hf => ⟨hf, h⟩
  | x :: s, i, l, f, h, hf => by
    rw [picksF, List.map_cons, onL]
    unfold pickF
    split
    · exact onL_is ps s (i + 1) l f h hf
    · split
      · exact onL_is ps s (i + 1) _ _ (putL_nod _ h) (fun a => sureL_put ⟨x.1, zs, true⟩ h f hf a)
      · exact onL_is ps s (i + 1) _ _ (putL_nod _ h) (fun a => sureL_put ⟨x.1, x.2, false⟩ h f hf a)
theorem picksF_out (ps : List UInt8) (a : Int) : ∀ (s : List (Int × List UInt8)) (i : Nat) (f : Int → Sec), (s.any fun x => decide (x.1 = a)) = false → picksF s i ps f a = f a
  | [], _, _, _ => rfl
  | x :: s, i, f, h => by
    rw [List.any_cons, Bool.or_eq_false_iff] at h
    have hx : ¬ x.1 = a := by simpa using h.1
    rw [picksF, picksF_out ps a s (i + 1) _ h.2]
    unfold pickF upd
    split
    · rfl
    · split
      · exact if_neg (fun e => hx e.symm)
      · exact if_neg (fun e => hx e.symm)
theorem RefD.on {d : DS} {r : RS} (h : RefD d r) (ps : List UInt8) : RefD (onD d ps) ⟨onL r.soft 0 ps r.sure, [], false, -1⟩ := by
  obtain ⟨h1, h2⟩ := onL_is ps d.loose 0 r.sure d.sure h.nod h.sure
  rw [← h.soft] at h1 h2
  refine ⟨rfl, rfl, rfl, h1, fun a => ?_, h2⟩
  show syncF (picksF d.loose 0 ps d.sure) d.loose d.now a = sureL (onL r.soft 0 ps r.sure) a
  rw [syncF_at, ← h1]
  by_cases hc : (d.loose.any fun x => decide (x.1 = a)) = true
  · rw [if_pos hc]
  · rw [if_neg hc]
    have hc' : (d.loose.any fun x => decide (x.1 = a)) = false := by rw [Bool.not_eq_true] at hc; exact hc
    rw [picksF_out ps a _ _ _ hc', h.sure, h.now, nowRL]
    have hn := lastL_any h a
    rw [hc'] at hn
    cases hl : lastL r.soft a with
    | some x => rw [hl] at hn; cases hn
    | none => rfl
/-- The document's fuse burns. -/
def burnR (r : RS) : RS := if r.fuse = 0 then { r with off := true, fuse := -1 } else if 0 < r.fuse then { r with fuse := r.fuse - 1 } else r
theorem RefD.burn {d : DS} {r : RS} (h : RefD d r) : RefD (burnD d) (burnR r) := by
  have hf := h.fuse
  unfold burnD burnR
  rw [hf]
  split
  · exact ⟨rfl, rfl, h.soft, h.sure, h.now, h.nod⟩
  · split
    · exact ⟨h.off, rfl, h.soft, h.sure, h.now, h.nod⟩
    · exact ⟨h.off, h.fuse, h.soft, h.sure, h.now, h.nod⟩
theorem RefD.offs {d : DS} {r : RS} (h : RefD d r) : RefD (offD d) { r with off := true, fuse := -1 } := ⟨rfl, rfl, h.soft, h.sure, h.now, h.nod⟩
theorem RefD.fuses {d : DS} {r : RS} (h : RefD d r) (n : Int) : RefD (fuseD d n) { r with fuse := max n (-1) } := ⟨h.off, rfl, h.soft, h.sure, h.now, h.nod⟩
/-- What the document's disk tells of a sector. -/
def readRE (r : RS) (a : Int) : Int := if readyE r.off a = 0 then (if (nowRL r a).lost = true then 9 else 0) else readyE r.off a
def readRB (r : RS) (a : Int) : List UInt8 := if readyE r.off a = 0 ∧ (nowRL r a).lost = false then (nowRL r a).b else zs
theorem RefD.reads {d : DS} {r : RS} (h : RefD d r) (a : Int) : readE d a = readRE r a ∧ readB d a = readRB r a := by
  unfold readE readRE readB readRB
  rw [h.off, h.now]
  exact ⟨rfl, rfl⟩
end Go.Proofs.Ytmjdfajdompkeaa
