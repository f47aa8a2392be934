/- The document's disk, in plain words, and that it goes with the program's. -/
import Derived.Test.YtmjdfajdompkeaaGreatDoorZd
namespace Go.Proofs.YtmjdfajdompkeaaGreatDoor
open Go.RowKit Go.Rat
/-- A write of the document's disk: of a sector, its bytes, or that it is lost. -/
structure RW where
  at_ : Int
  b : List UInt8
  lost : Bool
structure RS where
  sure : List RW
  soft : List RW
  off : Bool
  fuse : Int
def lastL (l : List RW) (a : Int) : Option RW := (l.reverse.find? fun x => decide (x.at_ = a))
/-- A write in place of the one ahead. -/
def putL : List RW → RW → List RW
  | [], x => [x]
  | y :: l, x => if y.at_ = x.at_ then x :: l else y :: putL l x
def secW (x : RW) : Sec := ⟨x.b, x.lost⟩
/-- One write for a sector at most. -/
def OneL (l : List RW) : Prop := ∀ x ∈ l, ∀ y ∈ l, x.at_ = y.at_ → x = y
def sureL (l : List RW) (a : Int) : Sec := match lastL l a with
  | some x => secW x
  | none => zsec
def nowRL (r : RS) (a : Int) : Sec := match lastL r.soft a with
  | some x => secW x
  | none => sureL r.sure a
theorem lastL_snoc (l : List RW) (x : RW) (a : Int) : lastL (l ++ [x]) a = if x.at_ = a then some x else lastL l a := by
  unfold lastL
  rw [List.reverse_append, List.reverse_cons, List.reverse_nil, List.nil_append, List.singleton_append, List.find?_cons]
  by_cases h : x.at_ = a
  · simp [h]
  · simp [h]
theorem lastL_cons (y : RW) (l : List RW) (a : Int) : lastL (y :: l) a = match lastL l a with
    | some x => some x
    | none => if y.at_ = a then some y else none := by
  unfold lastL
  rw [List.reverse_cons, List.find?_append]
  cases h : l.reverse.find? fun x => decide (x.at_ = a) with
  | some x => rfl
  | none =>
    by_cases h2 : y.at_ = a
    · simp [h2]
    · simp [h2]
/-- The sectors' places in a row are all unlike. -/
def Nod (l : List RW) : Prop := l.Pairwise fun x y => x.at_ ≠ y.at_
theorem lastL_none {l : List RW} {a : Int} (h : ∀ x ∈ l, x.at_ ≠ a) : lastL l a = none := by
  unfold lastL
  rw [List.find?_eq_none]
  intro x hx
  simpa using h x (by simpa using hx)
theorem putL_mem {l : List RW} {x y : RW} (h : y ∈ putL l x) : y = x ∨ y ∈ l := by
  induction l with
  | nil => exact .inl (by simpa [putL] using h)
  | cons z l ih =>
    rw [putL] at h
    split at h
    · rcases List.mem_cons.1 h with h1 | h1
      · exact .inl h1
      · exact .inr (List.mem_cons_of_mem _ h1)
    · rcases List.mem_cons.1 h with h1 | h1
      · exact .inr (by rw [h1]; exact List.mem_cons_self)
      · rcases ih h1 with h2 | h2
        · exact .inl h2
        · exact .inr (List.mem_cons_of_mem _ h2)
theorem putL_nod {l : List RW} (x : RW) (h : Nod l) : Nod (putL l x) := by
  induction l with
  | nil => simp [putL, Nod]
  | cons y l ih =>
    unfold Nod at h ih ⊢
    rw [List.pairwise_cons] at h
    rw [putL]
    split
    · next e =>
      rw [List.pairwise_cons]
      exact ⟨fun z hz => by rw [← e]; exact h.1 z hz, h.2⟩
    · next e =>
      rw [List.pairwise_cons]
      refine ⟨fun z hz => ?_, ih h.2⟩
      rcases putL_mem hz with rfl | h1
      · exact e
      · exact h.1 z h1
theorem lastL_put {l : List RW} (x : RW) (a : Int) (h : Nod l) : lastL (putL l x) a = if x.at_ = a then some x else lastL l a := by
  induction l with
  | nil => exact lastL_snoc [] x a
  | cons y l ih =>
    unfold Nod at h
    rw [List.pairwise_cons] at h
    rw [putL]
    by_cases e : y.at_ = x.at_
    · rw [if_pos e, lastL_cons, lastL_cons]
      by_cases hx : x.at_ = a
      · rw [if_pos hx, if_pos hx, lastL_none (fun z hz => by have := h.1 z hz; omega)]
      · rw [if_neg hx, if_neg hx, if_neg (by omega)]
    · rw [if_neg e, lastL_cons, lastL_cons, ih h.2]
      by_cases hx : x.at_ = a
      · rw [if_pos hx, if_pos hx]
      · rw [if_neg hx, if_neg hx]
/-- The document's disk goes with the program's. -/
structure RefD (d : DS) (r : RS) : Prop where
  off : r.off = d.off
  fuse : r.fuse = d.fuse
  soft : r.soft = d.loose.map fun x => ⟨x.1, x.2, false⟩
  sure : ∀ a, d.sure a = sureL r.sure a
  now : ∀ a, d.now a = nowRL r a
  nod : Nod r.sure
theorem lastL_fold (a : Int) : ∀ (s l : List RW), Nod l → lastL (s.foldl putL l) a = match lastL s a with
    | some x => some x
    | none => lastL l a
  | [], _, _ => rfl
  | x :: s, l, h => by
    rw [List.foldl_cons, lastL_fold a s _ (putL_nod x h), lastL_put x a h, lastL_cons]
    cases lastL s a with
    | some y => rfl
    | none =>
      by_cases hx : x.at_ = a
      · simp [hx]
      · simp [hx]
theorem fold_nod : ∀ (s l : List RW), Nod l → Nod (s.foldl putL l)
  | [], _, h => h
  | x :: s, l, h => by rw [List.foldl_cons]; exact fold_nod s _ (putL_nod x h)
theorem refD0 : RefD ds0 ⟨[], [], false, -1⟩ := ⟨rfl, rfl, rfl, fun _ => rfl, fun _ => rfl, List.Pairwise.nil⟩
theorem RefD.put {d : DS} {r : RS} (h : RefD d r) (a : Int) (b : List UInt8) : RefD (putD d a b) { r with soft := r.soft ++ [⟨a, b, false⟩] } := by
  refine ⟨h.off, h.fuse, ?_, h.sure, fun x => ?_, h.nod⟩
  · show _ = (d.loose ++ [(a, b)]).map _
    rw [List.map_append, h.soft]
    rfl
  · show (if x = a then (⟨b, false⟩ : Sec) else d.now x) = _
    rw [nowRL, lastL_snoc]
    by_cases hx : x = a
    · subst hx; simp [secW]
    · rw [if_neg hx, if_neg (fun e => hx e.symm), h.now]
      rfl
theorem lastL_any {d : DS} {r : RS} (h : RefD d r) (a : Int) : (d.loose.any fun x => decide (x.1 = a)) = (lastL r.soft a).isSome := by
  rw [h.soft]
  induction d.loose with
  | nil => rfl
  | cons x l ih =>
    rw [List.any_cons, List.map_cons, lastL_cons, ih]
    by_cases hx : x.1 = a
    · simp only [hx]
      cases lastL _ a <;> simp
    · simp only [hx]
      cases lastL _ a <;> simp
theorem RefD.sync {d : DS} {r : RS} (h : RefD d r) : RefD (syncD d) { r with sure := r.soft.foldl putL r.sure, soft := [] } := by
  have hs : ∀ a, sureL (r.soft.foldl putL r.sure) a = nowRL r a := fun a => by
    rw [sureL, lastL_fold a _ _ h.nod, nowRL]
    cases lastL r.soft a <;> rfl
  refine ⟨h.off, h.fuse, rfl, fun a => ?_, fun a => ?_, fold_nod _ _ h.nod⟩
  · show syncF d.now d.loose d.sure a = sureL (r.soft.foldl putL r.sure) a
    rw [syncF_at, hs, lastL_any h]
    have hn := h.now a
    rw [nowRL] at hn ⊢
    cases hl : lastL r.soft a with
    | some x => rw [hl] at hn; simpa using hn
    | none => simpa using h.sure a
  · show d.now a = sureL (r.soft.foldl putL r.sure) a
    rw [hs, h.now]
/-- On: what is picked. -/
def onL : List RW → Nat → List UInt8 → List RW → List RW
  | [], _, _, l => l
  | x :: s, i, ps, l => onL s (i + 1) ps (if (ps.getD i 0).toNat % 4 = 0 then l else if (ps.getD i 0).toNat % 4 = 2 then putL l ⟨x.at_, zs, true⟩ else putL l x)
theorem sureL_put {l : List RW} (x : RW) (h : Nod l) (f : Int → Sec) (hf : ∀ a, f a = sureL l a) (a : Int) : upd f x.at_ (secW x) a = sureL (putL l x) a := by
  unfold upd
  rw [sureL, lastL_put x a h]
  by_cases hx : a = x.at_
  · subst hx; simp
  · rw [if_neg hx, if_neg (fun e => hx e.symm), hf, sureL]
theorem onL_is (ps : List UInt8) : ∀ (s : List (Int × List UInt8)) (i : Nat) (l : List RW) (f : Int → Sec), Nod l → (∀ a, f a = sureL l a) →
    (∀ a, picksF s i ps f a = sureL (onL (s.map fun x => ⟨x.1, x.2, false⟩) i ps l) a) ∧ Nod (onL (s.map fun x => ⟨x.1, x.2, false⟩) i ps l)
  | [], _, _, _, h, hf => ⟨hf, h⟩
  | x :: s, i, l, f, h, hf => by
    rw [picksF, List.map_cons, onL]
    unfold pickF
    split
    · exact onL_is ps s (i + 1) l f h hf
    · split
      · exact onL_is ps s (i + 1) _ _ (putL_nod _ h) (fun a => sureL_put ⟨x.1, zs, true⟩ h f hf a)
      · exact onL_is ps s (i + 1) _ _ (putL_nod _ h) (fun a => sureL_put ⟨x.1, x.2, false⟩ h f hf a)
theorem picksF_out (ps : List UInt8) (a : Int) : ∀ (s : List (Int × List UInt8)) (i : Nat) (f : Int → Sec), (s.any fun x => decide (x.1 = a)) = false → picksF s i ps f a = f a
  | [], _, _, _ => rfl
  | x :: s, i, f, h => by
    rw [List.any_cons, Bool.or_eq_false_iff] at h
    have hx : ¬ x.1 = a := by simpa using h.1
    rw [picksF, picksF_out ps a s (i + 1) _ h.2]
    unfold pickF upd
    split
    · rfl
    · split
      · exact if_neg (fun e => hx e.symm)
      · exact if_neg (fun e => hx e.symm)
theorem RefD.on {d : DS} {r : RS} (h : RefD d r) (ps : List UInt8) : RefD (onD d ps) ⟨onL r.soft 0 ps r.sure, [], false, -1⟩ := by
  obtain ⟨h1, h2⟩ := onL_is ps d.loose 0 r.sure d.sure h.nod h.sure
  rw [← h.soft] at h1 h2
  refine ⟨rfl, rfl, rfl, h1, fun a => ?_, h2⟩
  show syncF (picksF d.loose 0 ps d.sure) d.loose d.now a = sureL (onL r.soft 0 ps r.sure) a
  rw [syncF_at, ← h1]
  by_cases hc : (d.loose.any fun x => decide (x.1 = a)) = true
  · rw [if_pos hc]
  · rw [if_neg hc]
    have hc' : (d.loose.any fun x => decide (x.1 = a)) = false := by rw [Bool.not_eq_true] at hc; exact hc
    rw [picksF_out ps a _ _ _ hc', h.sure, h.now, nowRL]
    have hn := lastL_any h a
    rw [hc'] at hn
    cases hl : lastL r.soft a with
    | some x => rw [hl] at hn; cases hn
    | none => rfl
/-- The document's fuse burns. -/
def burnR (r : RS) : RS := if r.fuse = 0 then { r with off := true, fuse := -1 } else if 0 < r.fuse then { r with fuse := r.fuse - 1 } else r
theorem RefD.burn {d : DS} {r : RS} (h : RefD d r) : RefD (burnD d) (burnR r) := by
  have hf := h.fuse
  unfold burnD burnR
  rw [hf]
  split
  · exact ⟨rfl, rfl, h.soft, h.sure, h.now, h.nod⟩
  · split
    · exact ⟨h.off, rfl, h.soft, h.sure, h.now, h.nod⟩
    · exact ⟨h.off, h.fuse, h.soft, h.sure, h.now, h.nod⟩
theorem RefD.offs {d : DS} {r : RS} (h : RefD d r) : RefD (offD d) { r with off := true, fuse := -1 } := ⟨rfl, rfl, h.soft, h.sure, h.now, h.nod⟩
theorem RefD.fuses {d : DS} {r : RS} (h : RefD d r) (n : Int) : RefD (fuseD d n) { r with fuse := max n (-1) } := ⟨h.off, rfl, h.soft, h.sure, h.now, h.nod⟩
/-- What the document's disk tells of a sector. -/
def readRE (r : RS) (a : Int) : Int := if readyE r.off a = 0 then (if (nowRL r a).lost = true then 9 else 0) else readyE r.off a
def readRB (r : RS) (a : Int) : List UInt8 := if readyE r.off a = 0 ∧ (nowRL r a).lost = false then (nowRL r a).b else zs
theorem RefD.reads {d : DS} {r : RS} (h : RefD d r) (a : Int) : readE d a = readRE r a ∧ readB d a = readRB r a := by
  unfold readE readRE readB readRB
  rw [h.off, h.now]
  exact ⟨rfl, rfl⟩
end Go.Proofs.YtmjdfajdompkeaaGreatDoor
namespace Go.Proofs.YtmjdfajdompkeaaGreatDoor
open Go.RowKit Go.Rat
def rwC (x : RW) : List Value := .int .i64 x.at_ :: (bvs x.b ++ [.bool x.lost])
def rwsC (l : List RW) : List Value := l.flatMap rwC
def RWok (x : RW) : Prop := (0 ≤ x.at_ ∧ x.at_ < 32768) ∧ x.b.length = 128
theorem rwC_length {x : RW} (h : x.b.length = 128) : (rwC x).length = 130 := by
  rw [rwC, List.length_cons, List.length_append, bvs_length, h]; rfl
theorem rwC_one (x : RW) : ∀ v ∈ rwC x, v.oneCell' = true := by
  intro v hv
  rw [rwC] at hv
  rcases List.mem_cons.1 hv with rfl | hv
  · rfl
  · rcases List.mem_append.1 hv with hv | hv
    · exact bvs_one _ v hv
    · rw [List.mem_singleton] at hv
      subst hv
      rfl
theorem rwsC_length : ∀ {l : List RW}, (∀ x ∈ l, x.b.length = 128) → (rwsC l).length = l.length * 130
  | [], _ => rfl
  | x :: l, h => by
    have h1 : rwsC (x :: l) = rwC x ++ rwsC l := by simp [rwsC]
    rw [h1, List.length_append, rwC_length (h x (by simp)), rwsC_length (fun y hy => h y (by simp [hy])), List.length_cons]
    omega
theorem rwsC_snoc (l : List RW) (x : RW) : rwsC (l ++ [x]) = rwsC l ++ rwC x := by simp [rwsC]
theorem rwsC_at (l : List RW) (hl : ∀ x ∈ l, x.b.length = 128) : ∀ k, (hk : k < l.length) → ((rwsC l).drop (k * 130)).take 130 = rwC l[k] := by
  induction l with
  | nil => intro k hk; simp at hk
  | cons x l ih =>
    intro k hk
    have hx : (rwC x).length = 130 := rwC_length (hl x (by simp))
    have hc : rwsC (x :: l) = rwC x ++ rwsC l := by simp [rwsC]
    cases k with
    | zero => rw [hc, Nat.zero_mul, List.drop_zero, ← hx, List.take_left]; rfl
    | succ k =>
      rw [hc, show (k + 1) * 130 = (rwC x).length + k * 130 by rw [hx]; omega, List.drop_append]
      rw [List.drop_of_length_le (by omega), List.nil_append, Nat.add_sub_cancel_left]
      exact ih (fun x hx => hl x (by simp [hx])) k (by simpa using hk)
/-- Where the document's disk lies. -/
structure RL where
  g : Nat
  A1 : Option Addr
  c1 : Nat
  A2 : Option Addr
  c2 : Nat
def RL.fp (l : RL) (x : Nat) : Prop := x = l.g ∨ l.A1.map (·.block) = some x ∨ l.A2.map (·.block) = some x
structure ROk (r : RS) : Prop where
  sure : ∀ x ∈ r.sure, RWok x
  soft : ∀ x ∈ r.soft, RWok x
  fuse : -1 ≤ r.fuse ∧ r.fuse ≤ 9223372036854775807
  nod : Nod r.sure
/-- A row of writes of the document's disk. -/
def RWs (w : World) (base : Nat) (A : Option Addr) (c : Nat) (l : List RW) : Prop := w.ownsRow base 95 130 (.slice A l.length c) l.length (rwsC l)
/-- No more places than sectors. -/
theorem pig : ∀ (n : Nat) (l : List Int), l.Pairwise (fun x y => x ≠ y) → (∀ x ∈ l, 0 ≤ x ∧ x < (n : Int)) → l.length ≤ n
  | 0, l, _, h => by
    cases l with
    | nil => exact Nat.le_refl _
    | cons x l => have := h x (by simp); omega
  | n + 1, l, hp, h => by
    have h1 := pig n (l.filter (fun x => decide (x ≠ (n : Int)))) (hp.filter _) (fun x hx => by
      rw [List.mem_filter] at hx
      have := h x hx.1
      have h2 : x ≠ (n : Int) := by simpa using hx.2
      omega)
    have h2 : l.length ≤ (l.filter (fun x => decide (x ≠ (n : Int)))).length + 1 := by
      clear h h1
      induction l with
      | nil => simp
      | cons x l ih =>
        rw [List.pairwise_cons] at hp
        by_cases hx : x = (n : Int)
        · have h3 : l.filter (fun x => decide (x ≠ (n : Int))) = l := by
            rw [List.filter_eq_self]
            intro y hy
            have := hp.1 y hy
            simp; omega
          rw [List.filter_cons, h3]
          simp [hx]
        · rw [List.filter_cons]
          simp only [hx, ne_eq, not_false_eq_true, decide_true, if_true, List.length_cons]
          have := ih hp.2
          simp only [ne_eq] at this
          omega
    omega
theorem ROk.sure_len {r : RS} (h : ROk r) : r.sure.length ≤ 32768 := by
  have := pig 32768 (r.sure.map (·.at_)) (by rw [List.pairwise_map]; exact h.nod) (fun x hx => by
    obtain ⟨y, hy, rfl⟩ := List.mem_map.1 hx
    exact (h.sure y hy).1)
  rwa [List.length_map] at this
theorem lastL_app (l1 l2 : List RW) (a : Int) : lastL (l1 ++ l2) a = match lastL l2 a with
    | some x => some x
    | none => lastL l1 a := by
  unfold lastL
  rw [List.reverse_append, List.find?_append]
  cases l2.reverse.find? fun x => decide (x.at_ = a) <;> rfl
theorem lastL_at {l : List RW} {k : Nat} (hk : k < l.length) {a : Int} (hn : ∀ x ∈ l.drop (k + 1), x.at_ ≠ a) (h : l[k].at_ = a) : lastL l a = some l[k] := by
  have h1 : l = l.take k ++ (l[k] :: l.drop (k + 1)) := by rw [← List.drop_eq_getElem_cons hk, List.take_append_drop]
  have h2 : lastL (l.take k ++ (l[k] :: l.drop (k + 1))) a = some l[k] := by
    rw [lastL_app, lastL_cons, lastL_none hn]
    simp [h]
  rw [← h1] at h2
  exact h2
theorem lastL_mem {l : List RW} {a : Int} {x : RW} (h : lastL l a = some x) : x ∈ l ∧ x.at_ = a := by
  unfold lastL at h
  have h1 := List.mem_of_find?_eq_some h
  have h2 := List.find?_some h
  exact ⟨by simpa using h1, by simpa using h2⟩
def zrw : RW := ⟨0, zs, false⟩
def lastV (l : List RW) (a : Int) : RW := (lastL l a).getD zrw
structure RefAt (w : World) (base : Nat) (l : RL) (r : RS) : Prop where
  blk : Blk w l.g 50 #[.slice l.A1 r.sure.length l.c1, .slice l.A2 r.soft.length l.c2, .bool r.off, .int .i64 r.fuse]
  row1 : RWs w base l.A1 l.c1 r.sure
  row2 : RWs w base l.A2 l.c2 r.soft
  n1 : l.A1.map (·.block) ≠ some l.g
  n2 : l.A2.map (·.block) ≠ some l.g
  n12 : ∀ x, l.A1.map (·.block) = some x → l.A2.map (·.block) ≠ some x
  bg : base ≤ l.g
  ok : ROk r
theorem RWs.lt {w : World} {base c : Nat} {A : Option Addr} {l : List RW} (h : RWs w base A c l) : ∀ x, A.map (·.block) = some x → base ≤ x ∧ x < w.heap.size := fun x hx =>
  World.ownsRow.lt h x (by cases hA : A <;> simp_all [Value.ownBlock])
section
variable {w w' : World} {base : Nat} {l l' : RL} {r : RS} {F : Nat → Prop}
theorem RefAt.fp_lt (h : RefAt w base l r) {x : Nat} (hx : l.fp x) : base ≤ x ∧ x < w.heap.size := by
  rcases hx with rfl | hx | hx
  · exact ⟨h.bg, h.blk.lt⟩
  · exact h.row1.lt x hx
  · exact h.row2.lt x hx
theorem RefAt.kept (h : RefAt w base l r) (hc : Chg F w w') (hF : ∀ x, l.fp x → ¬ F x) : RefAt w' base l r :=
  ⟨hc.blk h.blk (hF _ (.inl rfl)), hc.own h.row1 (fun x hx => hF x (.inr (.inl hx))), hc.own h.row2 (fun x hx => hF x (.inr (.inr hx))), h.n1, h.n2, h.n12, h.bg, h.ok⟩
theorem RefAt.below (h : RefAt w base l r) (hb : Below w.heap.size w w') : RefAt w' base l r :=
  h.kept (Chg.of_below (fun _ => False) hb) (fun _ _ hf => hf)
end
/-- The document's disk has moved on: its own blocks alone have turned, others of its own may have come. -/
structure RMoved (w w' : World) (l l' : RL) : Prop where
  g : l'.g = l.g
  chg : Chg l.fp w w'
  fp : ∀ x, l'.fp x → l.fp x ∨ w.heap.size ≤ x
theorem RMoved.refl (w : World) (l : RL) : RMoved w w l l := ⟨rfl, Chg.refl _ _, fun _ h => .inl h⟩
theorem RMoved.trans {a b c : World} {l m n : RL} (h : RMoved a b l m) (k : RMoved b c m n) : RMoved a c l n :=
  ⟨k.g.trans h.g, h.chg.trans k.chg h.fp, fun x hx => by
    rcases k.fp x hx with h1 | h1
    · exact h.fp x h1
    · exact .inr (Nat.le_trans h.chg.size h1)⟩
theorem RMoved.of_below {w w' : World} {l : RL} (h : Below w.heap.size w w') : RMoved w w' l l := ⟨rfl, Chg.of_below _ h, fun _ h => .inl h⟩
theorem RMoved.of_grown {w w' : World} {l : RL} (h : w.grownBy w' (some l.g)) : RMoved w w' l l := ⟨rfl, Chg.of_grown h (.inl rfl), fun _ h => .inl h⟩
theorem r130 : (Tryz.prog.info? 95).map (·.size) = some 130 := by kernel_rfl
theorem zr130 : Tryz.zeroCells95 = (rwC ⟨0, zs, false⟩).toArray := by kernel_rfl
/-- The block of a row of writes, and where the k-th lies. -/
theorem RWs.at_ {w : World} {base c : Nat} {A : Option Addr} {l : List RW} (h : RWs w base A c l) (ok : ∀ x ∈ l, RWok x) {k : Nat} (hk : k < l.length) :
    ∃ (g : Nat) (L : List Value), A = some ⟨g, 0, none⟩ ∧ Blk w g 95 L.toArray ∧ (L.drop (k * 130)).take 130 = rwC l[k] ∧ l.length * 130 ≤ L.length := by
  have hlen := rwsC_length (l := l) (fun x hx => (ok x hx).2)
  rcases h.2 with ⟨h1, h2⟩ | ⟨g, cap, cur, hv, hb, hg, hnc, hm, hcs, ht⟩
  · omega
  · injection hv with h3 h4 h5
    have hle : (k + 1) * 130 ≤ l.length * 130 := Nat.mul_le_mul_right _ hk
    refine ⟨g, cur.toList, h3, hg, ?_, ?_⟩
    · have := rwsC_at l (fun x hx => (ok x hx).2) k hk
      rw [← ht, List.drop_take, List.take_take, Nat.min_eq_left (by omega)] at this
      exact this
    · have := congrArg List.length ht
      rw [hlen, List.length_take] at this
      omega
end Go.Proofs.YtmjdfajdompkeaaGreatDoor
namespace Go.Proofs.YtmjdfajdompkeaaGreatDoor
open Go.RowKit Go.Rat
def rs0 : RS := ⟨[], [], false, -1⟩
theorem rs0_ok : ROk rs0 := ⟨by simp [rs0], by simp [rs0], by simp [rs0], List.Pairwise.nil⟩
def offR (r : RS) : RS := { r with off := true, fuse := -1 }
set_option maxHeartbeats 400000 in
theorem rnew_any (w : World) : Calls Tryz.prog 7 #[] w fun e w' => ∃ l : RL, e = .returned (.pointer (some ⟨l.g, 0, none⟩)) ∧ RefAt w' w.heap.size l rs0 ∧ l.g = w.heap.size ∧ Below w.heap.size w w' := by
  go_enter Tryz.func7, Tryz.ntmps7
  go_wp2_with fail
  go_ret
  refine ⟨⟨w.heap.size, none, 0, none, 0⟩, rfl, ?_, rfl, below_alloc w _⟩
  exact ⟨Blk.new w 50 #[.slice none 0 0, .slice none 0 0, .bool false, .int .i64 (-1)], World.ownsRow_nil _ _ _ _, World.ownsRow_nil _ _ _ _, by simp, by simp, by simp, Nat.le_refl _, rs0_ok⟩
/-- The disk's block alone has turned, in the power and the fuse. -/
theorem RefAt.turn {w w' : World} {base : Nat} {l : RL} {r : RS} (h : RefAt w base l r) (off : Bool) (fuse : Int) (hf : -1 ≤ fuse ∧ fuse ≤ 9223372036854775807) (hg : w.grownBy w' (some l.g))
    (hB : Blk w' l.g 50 #[.slice l.A1 r.sure.length l.c1, .slice l.A2 r.soft.length l.c2, .bool off, .int .i64 fuse]) : RefAt w' base l { r with off := off, fuse := fuse } :=
  have hc := Chg.of_grown (F := fun x => x = l.g) hg rfl
  ⟨hB, hc.own h.row1 (fun x hx e => h.n1 (by rw [hx, e])), hc.own h.row2 (fun x hx e => h.n2 (by rw [hx, e])), h.n1, h.n2, h.n12, h.bg, ⟨h.ok.sure, h.ok.soft, hf, h.ok.nod⟩⟩
set_option maxHeartbeats 400000 in
theorem roff_any (w : World) (base : Nat) (l : RL) (r : RS) (h : RefAt w base l r) :
    Calls Tryz.prog 17 #[.pointer (some ⟨l.g, 0, none⟩)] w fun e w' => e = .returned (.tuple #[]) ∧ RefAt w' base l (offR r) ∧ w.grownBy w' (some l.g) := by
  have f0 := h.blk.frozen 2
  have f1 := h.blk.frozen 3
  have c3 := h.blk.cell 2
  have c4 := h.blk.cell 3
  simp only [List.getElem?_toArray, List.getElem?_cons_zero, List.getElem?_cons_succ] at c3 c4
  have hB := (h.blk.set_ 2 (.bool true)).set_ 3 (.int .i64 (-1))
  simp only [List.setIfInBounds_toArray, List.set_cons_zero, List.set_cons_succ] at hB
  have hg := (grownBy_set w l.g 2 (.bool true)).trans (grownBy_set (w.setCell ⟨l.g, 2, none⟩ (.bool true)) l.g 3 (.int .i64 (-1)))
  have hD := h.turn true (-1) (by omega) hg hB
  clear h hB
  go_enter Tryz.func17, Tryz.ntmps17
  go_wp2_with fail
  go_end0
  exact ⟨rfl, hD, hg⟩
set_option maxHeartbeats 400000 in
theorem rburns_any (w : World) (base : Nat) (l : RL) (r : RS) (h : RefAt w base l r) :
    Calls Tryz.prog 58 #[.pointer (some ⟨l.g, 0, none⟩)] w fun e w' => e = .returned (.bool (decide (r.fuse = 0))) ∧ RefAt w' base l (burnR r) ∧ w.grownBy w' (some l.g) := by
  have hf := h.ok.fuse
  have c4 := h.blk.cell 3
  have f1 := h.blk.frozen 3
  simp only [List.getElem?_toArray, List.getElem?_cons_zero, List.getElem?_cons_succ] at c4
  by_cases h0 : r.fuse = 0
  · rw [burnR, if_pos h0, decide_eq_true h0]
    rw [h0] at c4
    have H0 := Lib.hid h0
    clear h0
    go_enter Tryz.func58, Tryz.ntmps58
    go_wp2_with (go_at_call 17; refine (roff_any w base l r h).mono ?_; rintro e w2 ⟨rfl, hD, hg⟩)
    go_ret
    exact ⟨rfl, hD, hg⟩
  · rw [burnR, if_neg h0, decide_eq_false h0]
    have h0' : (r.fuse == 0) = false := by simpa using h0
    by_cases h1 : 0 < r.fuse
    · rw [if_pos h1]
      have hB := h.blk.set_ 3 (.int .i64 (r.fuse - 1))
      simp only [List.setIfInBounds_toArray, List.set_cons_zero, List.set_cons_succ] at hB
      have hg := grownBy_set w l.g 3 (.int .i64 (r.fuse - 1))
      have hD := h.turn r.off (r.fuse - 1) (by omega) hg hB
      clear hB h h0
      go_enter Tryz.func58, Tryz.ntmps58
      go_wp2_with fail
      go_ret
      exact ⟨rfl, hD, hg⟩
    · rw [if_neg h1]
      go_enter Tryz.func58, Tryz.ntmps58
      go_wp2_with fail
      go_ret
      exact ⟨rfl, h, World.grownBy.refl _ _⟩
end Go.Proofs.YtmjdfajdompkeaaGreatDoor
namespace Go.Proofs.YtmjdfajdompkeaaGreatDoor
open Go.RowKit Go.Rat
set_option maxRecDepth 20000 in
set_option maxHeartbeats 4000000 in
theorem rlast_any (w : World) (base c : Nat) (A : Option Addr) (l : List RW) (h : RWs w base A c l) (ok : ∀ x ∈ l, RWok x) (n : Nat) (hn : l.length = n) (a : Int) :
    Calls Tryz.prog 77 #[.slice A n c, .int .i64 a] w fun e w' => e = .returned (.tuple #[.agg (rwC (lastV l a)).toArray, .bool (lastL l a).isSome]) ∧ Below w.heap.size w w' := by
  have hcap := own_cap (show w.ownsRow base 95 130 (.slice A n c) n (rwsC l) from hn ▸ h)
  have hlen : n ≤ 9223372036854775807 := Nat.le_trans hcap.1 hcap.2
  have hZ := Blk.new w 95 (rwC zrw).toArray
  have hb1 := below_alloc w (.cells (rwC zrw).toArray 95)
  have hz1 : (rwC zrw).toArray.all (·.oneCell') = true := by
    rw [List.all_toArray, List.all_eq_true]
    exact rwC_one _
  have hzs : (rwC zrw).toArray.size = 130 := by
    have := rwC_length (x := zrw) zs_length
    simpa using this
  have hfz : l ≠ [] ∨ True := .inr trivial
  obtain ⟨z, hz⟩ : ∃ z : Array Value, (rwC zrw).toArray = z := ⟨_, rfl⟩
  have hzc : Tryz.zeroCells95 = z := by rw [← hz]; exact zr130
  rw [hz] at hZ hb1 hz1 hzs
  have HZ := Lib.hid hz
  clear hz hfz hcap
  have h1 : RWs (w.alloc (.cells z 95)) base A c l := World.ownsRow.alloc h _
  go_enter Tryz.func77, Tryz.ntmps77
  go_upto_region 1 with (fail)
  generalize w.alloc (.cells z 95) = w1 at *
  go_wp2_with fail
  go_loopw [6] (fun i wr => ∃ k : Nat, k ≤ n ∧ i = .int .i64 ((k : Int) - 1) ∧ wr = w1 ∧ ∀ x ∈ l.drop k, x.at_ ≠ a) (fun i _ => (intOf i + 1).toNat)
  case atStart => exact ⟨n, Nat.le_refl _, rfl, rfl, by rw [← hn, List.drop_length]; simp⟩
  case round =>
    obtain ⟨k, hk, rfl, rfl, hnone⟩ := hrel
    have HNONE := Lib.hid hnone
    clear hnone
    cases k with
    | zero =>
      have hfin : lastV l a = zrw ∧ (lastL l a).isSome = false := by
        have := lastL_none (l := l) (a := a) (by simpa using HNONE.out)
        rw [lastV, this]
        exact ⟨rfl, rfl⟩
      have HFIN := Lib.hid hfin
      clear hfin
      have e0 : ((0 : Nat) : Int) - 1 = -1 := rfl
      rw [e0]
      repeat (first
        | ((with_reducible refine wpl_store w.heap.size _ _ z r130 hZ hzs hzs hz1 ?_ ?_ ?_); (focus rfl); (focus rfl))
        | go_values | go_skip | go_guarded | go_step | go_upon | go_back)
      refine bodyPost_ret (results_cell_tmp rfl _ _ w.heap.size _ _ (0, 0) _ _ rfl rfl (hZ.setRow _) Tryz.underlying95 rfl (by rw [hzs]; exact r130)) rfl ?_
      exact ⟨by rw [HFIN.out.1, HFIN.out.2, HZ.out]; rfl, hb1.grown (grownBy_setRow _ _ _) hb1.size (fun p hp => by cases hp; exact Nat.le_refl _)⟩
    | succ k =>
      have hkl : k < l.length := by omega
      obtain ⟨g, L, rfl, hgB, hgL, hLl⟩ := h1.at_ ok hkl
      have hx := ok _ (List.getElem_mem hkl)
      have hlast : ∀ (hh : l[k].at_ = a), lastL l a = some l[k] := fun hh => lastL_at hkl HNONE.out hh
      have hdrop : l.drop k = l[k] :: l.drop (k + 1) := List.drop_eq_getElem_cons hkl
      generalize l[k] = x at *
      have hcl := rwC_length hx.2
      have hcs : (rwC x).toArray.size = 130 := by simpa using hcl
      have hc1 : (rwC x).toArray.all (·.oneCell') = true := by
        rw [List.all_toArray, List.all_eq_true]
        exact rwC_one _
      have hc0 := hgB.cell (k * 130)
      have h0 : L[k * 130]? = some (.int .i64 x.at_) := by
        have := congrArg (fun q => q[0]?) hgL
        simp only [List.getElem?_take, List.getElem?_drop, Nat.add_zero] at this
        simpa [rwC] using this
      rw [List.getElem?_toArray, h0] at hc0
      have e1 : ((k + 1 : Nat) : Int) - 1 = (k : Int) := by omega
      rw [e1]
      have g1 : (0 : Int) ≤ (k : Int) := by omega
      have g2 : (k : Int) < (n : Int) := by omega
      have HGL := Lib.hid hgL
      have HDROP := Lib.hid hdrop
      have HLAST := Lib.hid hlast
      clear hgL hdrop hlast h0 h1
      by_cases hxa : x.at_ = a
      · have hfin : lastV l a = x ∧ (lastL l a).isSome = true := by
          rw [lastV, HLAST.out hxa]
          exact ⟨rfl, rfl⟩
        have HFIN := Lib.hid hfin
        clear hfin
        rw [hxa] at hc0
        obtain ⟨cx, hcx⟩ : ∃ cx, rwC x = cx := ⟨_, rfl⟩
        rw [hcx] at HGL hcl hcs hc1
        have HCX := Lib.hid hcx
        clear hcx
        repeat (first
          | ((with_reducible refine wpl_load_mid g (k * 130) L cx Tryz.underlying95 rfl r130 hgB HGL.out hcl ?_ ?_); (focus rfl); simp only [Act.put, List.setIfInBounds_toArray, List.set_cons_zero, List.set_cons_succ])
          | ((with_reducible refine wpl_store w.heap.size _ _ cx.toArray r130 hZ hzs hcs hc1 ?_ ?_ ?_); (focus rfl); (focus rfl))
          | go_values | go_skip | go_guarded | go_step | go_upon | go_back)
        refine bodyPost_ret (results_cell_tmp rfl _ _ w.heap.size _ _ (0, 0) _ _ rfl rfl (hZ.setRow _) Tryz.underlying95 rfl (by rw [hcs]; exact r130)) rfl ?_
        exact ⟨by rw [HFIN.out.1, HFIN.out.2, HCX.out]; rfl, hb1.grown (grownBy_setRow _ _ _) hb1.size (fun p hp => by cases hp; exact Nat.le_refl _)⟩
      · go_wp2_with fail
        exact ⟨⟨k, by omega, by first | rfl | trivial, by first | rfl | trivial, fun y hy => by
          rw [HDROP.out] at hy
          rcases List.mem_cons.1 hy with rfl | hy
          · exact hxa
          · exact HNONE.out y hy⟩, by simp only [intOf]; omega⟩
end Go.Proofs.YtmjdfajdompkeaaGreatDoor
namespace Go.Proofs.YtmjdfajdompkeaaGreatDoor
open Go.RowKit Go.Rat
theorem splice_take {α : Type} (L : List α) (o m : Nat) (cs : List α) (h : o + cs.length ≤ m) (ho : o + cs.length ≤ L.length) : (Go.splice L o cs).take m = Go.splice (L.take m) o cs := by
  unfold Go.splice
  rw [List.take_append, List.length_take, Nat.min_eq_left (by omega), List.take_take, Nat.min_eq_right (by omega), List.take_append, List.take_of_length_le (by omega : cs.length ≤ m - o), List.take_take, Nat.min_eq_left (by omega), List.drop_take]
  congr 3
  omega
theorem splice_len {α : Type} (L : List α) (o : Nat) (cs : List α) (ho : o + cs.length ≤ L.length) : (Go.splice L o cs).length = L.length := by
  unfold Go.splice
  simp only [List.length_append, List.length_take, List.length_drop]
  omega
theorem rwsC_cons (y : RW) (l : List RW) : rwsC (y :: l) = rwC y ++ rwsC l := by simp [rwsC]
theorem rwsC_set : ∀ (l : List RW) (k : Nat) (x : RW), (∀ y ∈ l, y.b.length = 128) → x.b.length = 128 → k < l.length → rwsC (l.set k x) = Go.splice (rwsC l) (k * 130) (rwC x)
  | [], _, _, _, _, h => by simp at h
  | y :: l, 0, x, hl, hx, _ => by
    have h1 := rwC_length (hl y (by simp))
    have h2 := rwC_length hx
    rw [List.set_cons_zero, rwsC_cons, rwsC_cons, Go.splice, Nat.zero_mul, List.take_zero, List.nil_append, Nat.zero_add, h2, ← h1, List.drop_left]
  | y :: l, k + 1, x, hl, hx, hk => by
    have h1 := rwC_length (hl y (by simp))
    have h2 := rwC_length hx
    rw [List.set_cons_succ, rwsC_cons, rwsC_set l k x (fun z hz => hl z (by simp [hz])) hx (by simpa using hk), rwsC_cons, Go.splice, Go.splice, h2]
    have e1 : (k + 1) * 130 = (rwC y).length + k * 130 := by omega
    have e2 : (k + 1) * 130 + 130 = (rwC y).length + (k * 130 + 130) := by omega
    rw [e2, e1, List.take_length_add_append, List.drop_length_add_append, List.append_assoc]
theorem RWs.store {w : World} {base c : Nat} {A : Option Addr} {l : List RW} (h : RWs w base A c l) {g : Nat} {L : List Value} (hA : A = some ⟨g, 0, none⟩) (hB : Blk w g 95 L.toArray) (ok : ∀ x ∈ l, RWok x) {k : Nat} (hk : k < l.length) (x : RW) (hx : x.b.length = 128) :
    RWs (w.setRow g (Go.splice L (k * 130) (rwC x)).toArray) base A c (l.set k x) := by
  have hl128 : ∀ y ∈ l, y.b.length = 128 := fun y hy => (ok y hy).2
  have h2 := rwC_length hx
  have hle : (k + 1) * 130 ≤ l.length * 130 := Nat.mul_le_mul_right _ hk
  rcases h.2 with ⟨h1, h3⟩ | ⟨g', cap, cur, hv, hb, hg, hnc, hm, hcs, ht⟩
  · omega
  · injection hv with e1 e2 e3
    rw [hA] at e1
    injection e1 with e1
    injection e1 with e1
    subst e1
    subst e3
    have hcur : cur = L.toArray := by
      have := hg.symm.trans hB
      injection this with this
      injection this
    subst hcur
    rw [List.size_toArray] at hcs
    have hLl : l.length * 130 ≤ L.length := by rw [hcs]; exact Nat.mul_le_mul_right _ hnc
    refine ⟨by rw [rwsC_set l k x hl128 hx hk, splice_len _ _ _ (by rw [rwsC_length hl128, h2]; omega), rwsC_length hl128, List.length_set], .inr ⟨g, c, (Go.splice L (k * 130) (rwC x)).toArray, by rw [hA], hb, hB.setRow _, by rw [List.length_set]; exact hnc, hm, ?_, ?_⟩⟩
    · rw [List.size_toArray, splice_len _ _ _ (by rw [h2]; omega)]; exact hcs
    · rw [List.length_set, rwsC_set l k x hl128 hx hk, ← ht]
      exact splice_take L (k * 130) (l.length * 130) (rwC x) (by rw [h2]; omega) (by rw [h2]; omega)
theorem putL_set : ∀ {l : List RW} {k : Nat} {x : RW} (hk : k < l.length), (∀ y ∈ l.take k, y.at_ ≠ x.at_) → l[k].at_ = x.at_ → putL l x = l.set k x
  | [], _, _, hk, _, _ => by simp at hk
  | y :: l, 0, x, _, _, h => if_pos (show y.at_ = x.at_ from h)
  | y :: l, k + 1, x, hk, hn, h => by
    rw [putL, if_neg (hn y (by simp)), putL_set (k := k) (by simpa using hk) (fun z hz => hn z (by simp [hz])) h]
    rfl
theorem putL_none : ∀ {l : List RW} {x : RW}, (∀ y ∈ l, y.at_ ≠ x.at_) → putL l x = l ++ [x]
  | [], _, _ => rfl
  | y :: l, x, h => by
    rw [putL, if_neg (h y (by simp)), putL_none (fun z hz => h z (by simp [hz]))]
    rfl
theorem rwinfo : (Tryz.prog.info? 95).map (fun i => (i.zero, i.size, i.bytes)) = some (some (.agg Tryz.zeroCells95), 130, 144) := by kernel_rfl
theorem build_r {w : World} {ρ : Operand → Value} {d : Option Tmp} {x y : Operand} {t : TypeId} {p : String} {af : Array Edge} {gd : Option (Nat × Bool)} (i : Int) (b : List UInt8) (hb : b.length = 128) (hx : ρ x = .int .i64 i) (hy : ρ y = .agg (bvs b).toArray) :
    (execOp ρ { dst := d, op := .build 95 #[(0, x), (1, y)], type := t, pos := p, after := af, guard := gd }).run Tryz.prog w = .ok (.value (.agg (rwC ⟨i, b, false⟩).toArray)) w := by
  have hl : (bvs b).length = 128 := by rw [bvs_length, hb]
  have hz : Tryz.zeroCells95 = (.int .i64 0 :: (bvs zs ++ [.bool false])).toArray := zr130
  have hlz : (bvs zs).length = 128 := by rw [bvs_length, zs_length]
  have hf : List.foldl (fun (cs : Array Value) (x : Value × Nat) => cs.setIfInBounds (1 + x.2) x.1) (.int .i64 i :: (bvs zs ++ [.bool false])).toArray (bvs b).zipIdx = (rwC ⟨i, b, false⟩).toArray := by
    rw [show (bvs b).zipIdx = (bvs b).zipIdx 0 from rfl, foldl_put _ 1 0 _ (by rw [List.length_cons, List.length_append, hlz, hl]; simp)]
    congr 1
    rw [hl, show 1 + 0 + 128 = 128 + 1 by rfl, List.drop_succ_cons, ← hlz, List.drop_left]
    simp [rwC]
  go_simp
theorem build_rlost {w : World} {ρ : Operand → Value} {d : Option Tmp} {x y : Operand} {t : TypeId} {p : String} {af : Array Edge} {gd : Option (Nat × Bool)} (i : Int) (hx : ρ x = .int .i64 i) (hy : ρ y = .bool true) :
    (execOp ρ { dst := d, op := .build 95 #[(0, x), (2, y)], type := t, pos := p, after := af, guard := gd }).run Tryz.prog w = .ok (.value (.agg (rwC ⟨i, zs, true⟩).toArray)) w := by
  have hz : Tryz.zeroCells95 = (.int .i64 0 :: (bvs zs ++ [.bool false])).toArray := zr130
  have hlz : (bvs zs).length = 128 := by rw [bvs_length, zs_length]
  have hs : ∀ (v u : Value), ((v :: (bvs zs ++ [u])).set 129 (.bool true)) = v :: (bvs zs ++ [.bool true]) := fun v u => by
    rw [List.set_cons_succ, List.set_append_right _ _ (by rw [hlz]; omega), hlz]; rfl
  have hq : (rwC ⟨i, zs, true⟩).toArray = (.int .i64 i :: (bvs zs ++ [.bool true])).toArray := rfl
  rw [hq]
  generalize bvs zs = Z at *
  go_simp
theorem buildS_r {w : World} {ρ : Operand → Value} {d : Option Tmp} {x : Operand} {t : TypeId} {p : String} {af : Array Edge} {gd : Option (Nat × Bool)} (L : List Value) (hLl : L.length = 130) (hx : ρ x = .agg L.toArray) :
    (execOp ρ { dst := d, op := .buildSlice 48 1 #[(0, x)], type := t, pos := p, after := af, guard := gd }).run Tryz.prog w = .ok (.value (.slice (some ⟨w.heap.size, 0, none⟩) 1 1)) (w.alloc (.cells L.toArray 95)) := by
  go_simp
  exact congrArg (fun c => w.alloc (.cells c 95)) (foldl_full L _ (by rw [hLl]; rfl))
theorem wp_appR {w : World} {o : Oper} {a : Act} {K : Act → World → Prop} {Q : Exit → Act → World → Prop} (s x : Operand)
    (ho : o.op = .call { callee := .builtin .append, args := #[s, x], argTypes := #[48, 48] })
    (base : Nat) (A : Option Addr) (c : Nat) (l : List RW) (n : Nat) (hl : l.length = n) (hs : a.eval s = .slice A n c) (hown : RWs w base A c l)
    (y : RW) (hb : y.b.length = 128) (g : Nat) (hx : a.eval x = .slice (some ⟨g, 0, none⟩) 1 1) (hB : Blk w g 95 (rwC y).toArray) (hn : n < 1000000000) (hbase : base ≤ w.heap.size)
    (h : ∀ A2 c2 w2, RWs w2 base A2 c2 (l ++ [y]) → Grew w w2 A A2 → K (a.put o.dst (.slice A2 (n + 1) c2)) w2) :
    o.wp Tryz.prog a w K Q := by
  obtain ⟨i0, hi, hz0, hz1, hz2⟩ := info_parts rwinfo
  subst hl
  have hr : Reads w w.heap.size 130 (some ⟨g, 0, none⟩) 1 (rwC y) := by
    refine ⟨by rw [rwC_length hb], fun _ => ⟨_, rfl, hB.lt, fun j u hu => ?_⟩⟩
    have := hB.cell j
    rw [show (⟨g, 0, none⟩ : Addr).add j = ⟨g, j, none⟩ by unfold Addr.add; split <;> simp_all, this, List.getElem?_toArray]
    exact hu
  obtain ⟨A2, c2, w2, hrun, h2, h3, h4⟩ := run_append_reads (P := Tryz.prog) w base 48 o.type 95 i0 _ 130 144 Tryz.underlying48 hi hz0 hz1 hz2 (by kernel_rfl) (by omega) A l.length c (rwsC l) hown w.heap.size _ 1 1 (rwC y) hr (rwC_one y) (by simp only [maxLen]; omega) (by omega) hbase
  unfold Oper.wp
  simp only [execOp, ho, resolve, invoke, builtin, Sem.run_bind, Sem.run_pure, Result.andThen_ok, List.map_toArray, List.map_cons, List.map_nil, hs, hx, hrun]
  refine h _ _ _ ?_ ⟨h3, h4.imp id fun h => ⟨_, h, Nat.le_refl _, (h2.lt _ (by cases A2 <;> simp_all [Value.ownBlock])).2⟩⟩
  rw [RWs, rwsC_snoc, List.length_append]
  exact h2
end Go.Proofs.YtmjdfajdompkeaaGreatDoor
namespace Go.Proofs.YtmjdfajdompkeaaGreatDoor
open Go.RowKit Go.Rat
theorem putL_ok {l : List RW} {x : RW} (h : ∀ y ∈ l, RWok y) (hx : RWok x) : ∀ y ∈ putL l x, RWok y := fun y hy => by
  rcases putL_mem hy with rfl | h1
  · exact hx
  · exact h y h1
theorem putL_ne {l : List RW} {x : RW} : putL l x ≠ [] := by
  cases l with
  | nil => simp [putL]
  | cons y l => rw [putL]; split <;> simp
/-- The row of sure writes has turned. -/
theorem RefAt.setSure {w w' : World} {base : Nat} {l : RL} {r : RS} (h : RefAt w base l r) {x : RW} (hx : RWok x) {A : Option Addr} {c : Nat} (hrow : RWs w' base A c (putL r.sure x))
    (hB : Blk w' l.g 50 #[.slice A (putL r.sure x).length c, .slice l.A2 r.soft.length l.c2, .bool r.off, .int .i64 r.fuse])
    (h2 : RWs w' base l.A2 l.c2 r.soft) (hA : ∀ q, A.map (·.block) = some q → l.A1.map (·.block) = some q ∨ w.heap.size ≤ q) : RefAt w' base { l with A1 := A, c1 := c } { r with sure := putL r.sure x } :=
  ⟨hB, hrow, h2, fun e => by
    rcases hA l.g e with h1 | h1
    · exact h.n1 h1
    · have := h.blk.lt
      omega, h.n2, fun q hq e => by
    rcases hA q hq with h1 | h1
    · exact h.n12 q h1 e
    · have := (h.row2.lt q e).2
      omega, h.bg, ⟨putL_ok h.ok.sure hx, h.ok.soft, h.ok.fuse, putL_nod x h.ok.nod⟩⟩
theorem rmoved_sure {w w' : World} {l : RL} {A : Option Addr} {c : Nat} (hc : Chg l.fp w w') (hA : ∀ q, A.map (·.block) = some q → l.A1.map (·.block) = some q ∨ w.heap.size ≤ q) : RMoved w w' l { l with A1 := A, c1 := c } :=
  ⟨rfl, hc, fun x hx => by
    rcases hx with hx | hx | hx
    · exact .inl (.inl hx)
    · rcases hA x hx with h1 | h1
      · exact .inl (.inr (.inl h1))
      · exact .inr h1
    · exact .inl (.inr (.inr hx))⟩
set_option maxRecDepth 20000 in
set_option maxHeartbeats 4000000 in
theorem rdput_any (w : World) (base : Nat) (l : RL) (r : RS) (h : RefAt w base l r) (hbase : base ≤ w.heap.size) (x : RW) (hx : RWok x) :
    Calls Tryz.prog 44 #[.pointer (some ⟨l.g, 0, none⟩), .agg (rwC x).toArray] w fun e w' => ∃ l', e = .returned (.tuple #[]) ∧ RefAt w' base l' { r with sure := putL r.sure x } ∧ RMoved w w' l l' := by
  have hX := Blk.new w 95 (rwC x).toArray
  have hb1 := below_alloc w (.cells (rwC x).toArray 95)
  have hxl := rwC_length hx.2
  have hxs : (rwC x).toArray.size = 130 := by simpa using hxl
  have hsl := h.ok.sure_len
  have hxc : (rwC x)[0]? = some (.int .i64 x.at_) := rfl
  have hgx : ¬ l.fp w.heap.size := fun hf => by have := (h.fp_lt hf).2; omega
  have hxo : ∀ v ∈ rwC x, v.oneCell' = true := rwC_one x
  obtain ⟨cx, hcx⟩ : ∃ cx, rwC x = cx := ⟨_, rfl⟩
  have HCX := Lib.hid hcx
  rw [hcx] at hX hb1 hxl hxs hxc hxo ⊢
  clear hcx
  go_enter Tryz.func44, Tryz.ntmps44
  go_upto_region 1 with (fail)
  generalize w.alloc (.cells cx.toArray 95) = w1 at *
  have h1 := h.below hb1
  have hb1 := Lib.hid hb1
  obtain ⟨G, hG⟩ : ∃ G, w.heap.size = G := ⟨_, rfl⟩
  rw [hG] at hX hgx ⊢
  have HG := Lib.hid hG
  clear hG
  obtain ⟨n, hn⟩ : ∃ n, r.sure.length = n := ⟨_, rfl⟩
  rw [hn] at hsl
  have HN := Lib.hid hn
  clear hn
  go_wp2_with fail
  go_loopw [4] (fun i wr => ∃ k : Nat, k ≤ n ∧ i = .int .i64 (k : Int) ∧ Hid (Below w.heap.size w wr) ∧ RefAt wr base l r ∧ Blk wr G 95 cx.toArray ∧ ∀ y ∈ r.sure.take k, y.at_ ≠ x.at_) (fun i _ => n - (intOf i).toNat)
  case atStart => exact ⟨0, Nat.zero_le _, rfl, hb1, h1, hX, by simp⟩
  case round =>
    clear hb1 h1 hX
    obtain ⟨k, hk, rfl, hb1, h1, hX, hnone⟩ := hrel
    have HNONE := Lib.hid hnone
    have xc := hX.cell 0
    have c0 := h1.blk.cell 0
    simp only [List.getElem?_toArray, List.getElem?_cons_zero, hxc, HN.out] at c0 xc
    clear hnone
    by_cases hkn : k < n
    · have hkl : k < r.sure.length := by have := HN.out; omega
      obtain ⟨g, L, hA, hgB, hgL, hLl⟩ := h1.row1.at_ h1.ok.sure hkl
      have hset := putL_set hkl HNONE.out
      have htake : r.sure.take (k + 1) = r.sure.take k ++ [r.sure[k]] := by rw [List.take_add_one, List.getElem?_eq_getElem hkl]; rfl
      have h0 : L[k * 130]? = some (.int .i64 r.sure[k].at_) := by
        have := congrArg (fun q => q[0]?) hgL
        simp only [List.getElem?_take, List.getElem?_drop, Nat.add_zero] at this
        simpa [rwC] using this
      have hc0 := hgB.cell (k * 130)
      rw [List.getElem?_toArray, h0] at hc0
      have hgG : g ≠ G := fun e => hgx (.inr (.inl (by rw [hA, e]; rfl)))
      generalize r.sure[k] = y at *
      have HSET := Lib.hid hset
      have HTAKE := Lib.hid htake
      have HA := Lib.hid hA
      rw [hA] at c0
      have g1 : (k : Int) < (n : Int) := by omega
      have g0 : (0 : Int) ≤ (k : Int) := by omega
      clear hset htake h0 hgL hA
      by_cases hxa : y.at_ = x.at_
      · rw [hxa] at hc0
        go_wp2_with fail
        refine wp_region_plan [(0, true), (1, true), (2, true), (3, true), (4, true), (5, true), (6, true), (7, true), (8, true), (9, true), (10, true)]
          (fun z => z.cell? ⟨l.g, 0, none⟩ = some (.slice (some ⟨g, 0, none⟩) n l.c1) ∧ z.cell? ⟨g, k * 130, none⟩ = some (.int .i64 x.at_) ∧ z.cell? ⟨G, 0, none⟩ = some (.int .i64 x.at_)) (by kernel_rfl) (by kernel_rfl) (by kernel_rfl) (by kernel_rfl) (fun _ _ d _ _ h => by cases d <;> exact h) ⟨c0, hc0, xc⟩ ?_
        simp only [planOps, List.getElem?_toArray, List.getElem?_cons_zero, List.getElem?_cons_succ]
        iterate 11 (refine wpS_q ?_ (by rfl) ?_ ?_; rotate_left; (focus (intro z hz; (try dsimp only at hz); go_simp; rfl)); simp only [Act.put, List.setIfInBounds_toArray, List.set_cons_zero, List.set_cons_succ])
        refine wpS_nil ?_
        go_wp2_with fail
        have hXd : Blk wr.drew G 95 cx.toArray := hX
        refine wp_region_plan [(0, true), (1, true), (2, true), (3, true), (4, true), (5, true), (6, true), (7, false)]
          (fun z => z.cell? ⟨l.g, 0, none⟩ = some (.slice (some ⟨g, 0, none⟩) n l.c1) ∧ Blk z G 95 cx.toArray) (by kernel_rfl) (by kernel_rfl) (by kernel_rfl) (by kernel_rfl) (fun _ _ d _ _ h => by cases d <;> exact h) ⟨c0, hXd⟩ ?_
        simp only [planOps, List.getElem?_toArray, List.getElem?_cons_zero, List.getElem?_cons_succ]
        iterate 5 (refine wpS_q ?_ (by rfl) ?_ ?_; rotate_left; (focus (intro z hz; (try dsimp only at hz); go_simp; rfl)); simp only [Act.put, List.setIfInBounds_toArray, List.set_cons_zero, List.set_cons_succ])
        refine wpS_q (.agg cx.toArray) (by rfl) (fun z hz => load_row_run rfl G cx.toArray Tryz.underlying95 rfl r130 hz.2 hxs rfl) ?_
        simp only [Act.put, List.setIfInBounds_toArray, List.set_cons_zero, List.set_cons_succ]
        iterate 1 (refine wpS_q ?_ (by rfl) ?_ ?_; rotate_left; (focus (intro z hz; (try dsimp only at hz); go_simp; rfl)); simp only [Act.put, List.setIfInBounds_toArray, List.set_cons_zero, List.set_cons_succ])
        refine wpS_l (by rfl) (fun K hK => ?_)
        have h2 : RefAt wr.drew.drew base l r := (h1.below drew_below).below drew_below
        have hgBd : Blk wr.drew.drew g 95 L.toArray := hgB
        have hXdd : Blk wr.drew.drew G 95 cx.toArray := hX
        have hst := h2.row1.store HA.out hgBd h2.ok.sure hkl x hx.2
        have hbd : Below w.heap.size w wr.drew.drew := below_next' (below_next' hb1.out drew_below) drew_below
        rw [HCX.out, ← HSET.out hxa] at hst
        refine wp_store_midR rfl g (k * 130) L cx (by rw [hxl]; exact r130) hgBd (by rw [hxl]; omega) hxo rfl rfl ?_
        have hgs := grownBy_setRow wr.drew.drew g (Go.splice L (k * 130) cx).toArray
        obtain ⟨w5, hw5⟩ : ∃ x, wr.drew.drew.setRow g (Go.splice L (k * 130) cx).toArray = x := ⟨_, rfl⟩
        rw [hw5] at hst hgs ⊢
        have hgl : g ≠ l.g := fun e => h.n1 (by rw [HA.out, e]; rfl)
        have hX5 := hXdd.grown hgs (by intro e; injection e with e; exact hgG e.symm)
        have hB5 := h2.blk.grown hgs (by intro e; injection e with e; exact hgl e.symm)
        have c05 := hB5.cell 0
        simp only [List.getElem?_toArray, List.getElem?_cons_zero, HN.out, HA.out] at c05
        have hc5 : Chg l.fp wr.drew.drew w5 := Chg.of_grown hgs (.inr (.inl (by rw [HA.out]; rfl)))
        have hR25 := (Chg.of_grown (F := fun q => q = g) hgs rfl).own h2.row2 (fun q hq e => h.n12 g (by rw [HA.out]; rfl) (by rw [hq, e]))
        have hfin := h2.setSure hx (A := l.A1) (c := l.c1) hst (by rw [HSET.out hxa, List.length_set]; exact hB5) hR25 (fun q hq => .inl hq)
        have hmv : RMoved w w5 l l := ⟨rfl, (Chg.of_below l.fp hbd).trans hc5 (fun x hx => .inl hx), fun x hx => .inl hx⟩
        refine hK _ _ (fun z => z.cell? ⟨l.g, 0, none⟩ = some (.slice (some ⟨g, 0, none⟩) n l.c1) ∧ Blk z G 95 cx.toArray) ⟨c05, hX5⟩ (fun _ h => h) ?_
        clear hK hw5 hB5 hc5 hR25 hst hgs h2 hgBd hXdd hXd
        refine wpS_nil ?_
        go_wp2_with fail
        refine bodyPost_ret (results_none rfl _ _ _) rfl ?_
        exact ⟨l, rfl, hfin, hmv⟩
      · go_wp2_with fail
        refine wp_region_plan [(0, true), (1, true), (2, true), (3, true), (4, true), (5, true), (6, true), (7, true), (8, true), (9, true), (10, true)]
          (fun z => z.cell? ⟨l.g, 0, none⟩ = some (.slice (some ⟨g, 0, none⟩) n l.c1) ∧ z.cell? ⟨g, k * 130, none⟩ = some (.int .i64 y.at_) ∧ z.cell? ⟨G, 0, none⟩ = some (.int .i64 x.at_)) (by kernel_rfl) (by kernel_rfl) (by kernel_rfl) (by kernel_rfl) (fun _ _ d _ _ h => by cases d <;> exact h) ⟨c0, hc0, xc⟩ ?_
        simp only [planOps, List.getElem?_toArray, List.getElem?_cons_zero, List.getElem?_cons_succ]
        iterate 11 (refine wpS_q ?_ (by rfl) ?_ ?_; rotate_left; (focus (intro z hz; (try dsimp only at hz); go_simp; rfl)); simp only [Act.put, List.setIfInBounds_toArray, List.set_cons_zero, List.set_cons_succ])
        refine wpS_nil ?_
        have h2 : RefAt wr.drew base l r := h1.below drew_below
        have hX2 : Blk wr.drew G 95 cx.toArray := hX
        have hb2 := Lib.hid (below_next' hb1.out drew_below)
        go_wp2_with fail
        exact ⟨⟨k + 1, by omega, by first | omega | exact congrArg (Value.int .i64) (by omega), hb2, h2, hX2, fun z hz => by
          rw [HTAKE.out] at hz
          rcases List.mem_append.1 hz with hz | hz
          · exact HNONE.out z hz
          · rw [List.mem_singleton.1 hz]; exact hxa⟩, by simp only [intOf]; omega⟩
    · obtain rfl : k = n := by omega
      go_wp2_with fail
      have hbw : base ≤ wr.heap.size := Nat.le_trans hbase hb1.out.size
      have hXd : Blk wr.drew G 95 cx.toArray := hX
      refine wp_region_barb [(0, 0), (1, 0), (2, 0), (3, 0), (4, 1), (5, 0), (6, 2)] 7 [(8, true), (9, true), (10, false)] (fun z => Blk z G 95 cx.toArray) (fun z => z.cell? ⟨l.g, 0, none⟩ = some (.slice l.A1 k l.c1)) _ (by rfl) (by kernel_rfl) (by kernel_rfl) (by kernel_rfl) (by kernel_rfl) (fun _ _ d _ _ h => by cases d <;> exact h) hXd c0 ?_
      simp only [planOpsN, List.getElem?_toArray, List.getElem?_cons_zero, List.getElem?_cons_succ]
      iterate 4 (refine wpC_0 ?_ (by rfl) ?_ ?_; rotate_left; (focus (intro z hz; (try dsimp only at hz); go_simp; rfl)); simp only [Act.put, List.setIfInBounds_toArray, List.set_cons_zero, List.set_cons_succ])
      refine wpC_1 (.slice l.A1 k l.c1) (by rfl) (fun z hz => by go_simp) ?_
      simp only [Act.put, List.setIfInBounds_toArray, List.set_cons_zero, List.set_cons_succ]
      refine wpC_0 (.agg cx.toArray) (by rfl) (fun z hz => load_row_run rfl G cx.toArray Tryz.underlying95 rfl r130 hz hxs rfl) ?_
      simp only [Act.put, List.setIfInBounds_toArray, List.set_cons_zero, List.set_cons_succ]
      refine wpC_2 (by rfl) (fun K hK => ?_)
      refine wp_runO _ (buildS_r cx hxl rfl) ?_
      simp only [Act.put, List.setIfInBounds_toArray, List.set_cons_zero, List.set_cons_succ]
      have h4 : RefAt (wr.drew.alloc (.cells cx.toArray 95)) base l r := (h1.below drew_below).below (below_alloc wr.drew _)
      have hX4 : Blk (wr.drew.alloc (.cells cx.toArray 95)) G 95 cx.toArray := Blk.alloc (w := wr.drew) hXd _
      have hW4 := Blk.new wr.drew 95 cx.toArray
      have hb4 : Below w.heap.size w (wr.drew.alloc (.cells cx.toArray 95)) := below_next' (below_next' hb1.out drew_below) (below_alloc wr.drew _)
      have hs4 : wr.heap.size < (wr.drew.alloc (.cells cx.toArray 95)).heap.size := hW4.lt
      have hg4 : wr.drew.heap.size = wr.heap.size := rfl
      have c04 := h4.blk.cell 0
      simp only [List.getElem?_toArray, List.getElem?_cons_zero, HN.out] at c04
      refine hK _ _ hX4 c04 ?_
      clear hK hX hXd c0 xc
      obtain ⟨w4, hw4⟩ : ∃ x, wr.drew.alloc (.cells cx.toArray 95) = x := ⟨_, rfl⟩
      rw [hw4] at h4 hX4 hW4 hb4 hs4 c04 ⊢
      rw [hg4] at hW4 ⊢
      clear hw4
      obtain ⟨g4, hg4'⟩ : ∃ x, wr.heap.size = x := ⟨_, rfl⟩
      rw [hg4'] at hW4 hs4 ⊢
      have HG4 := Lib.hid hg4'
      clear hg4 hg4'
      refine wpC_nil ⟨by rfl, ?_⟩
      refine wp_appR _ _ (by rfl) base l.A1 l.c1 r.sure k HN.out (by rfl) h4.row1 x hx.2 g4 (by rfl) (by rw [HCX.out]; exact hW4) (by omega) (by have := HG4.out; omega) ?_
      intro A2 c2 w5 hR5 hG5
      have hA2 : ∀ g, A2.map (·.block) = some g → l.A1.map (·.block) = some g ∨ w.heap.size ≤ g := fun g hg => by
        rcases hG5.lies with h1 | ⟨g', h1, h2, _⟩
        · exact .inl (h1 ▸ hg)
        · rw [h1] at hg
          cases hg
          have := hb4.size
          exact .inr (by omega)
      have hX5 := hX4.grown hG5.grown (fun e => hgx (.inr (.inl e.symm)))
      have hD5 := h4.blk.grown hG5.grown (fun e => h.n1 e.symm)
      have hc5 : Chg l.fp w w5 := (Chg.of_below l.fp hb4).trans (Chg.of_grown' (F := l.fp) hG5.grown (fun g hg => .inr (.inl hg))) (fun x hx => .inl hx)
      have hR25 := (Chg.of_grown' (F := fun q => l.A1.map (·.block) = some q) hG5.grown (fun g hg => hg)).own h4.row2 (fun q hq e => h.n12 q e hq)
      have c05 := hD5.cell 0
      have f05 := hD5.frozen 0
      simp only [List.getElem?_toArray, List.getElem?_cons_zero, HN.out] at c05
      refine ⟨fun z => Blk z G 95 cx.toArray, hX5, fun _ h => h, ?_⟩
      clear hX4 hW4 hG5 hb4 c04 h4
      simp only [planOps, List.getElem?_toArray, List.getElem?_cons_zero, List.getElem?_cons_succ]
      iterate 2 (refine wpS_q ?_ (by rfl) ?_ ?_; rotate_left; (focus (intro z hz; (try dsimp only at hz); go_simp; rfl)))
      simp only [Act.put, List.setIfInBounds_toArray]
      refine wpS_l (by rfl) (fun K hK => ?_)
      go_wp2_with fail
      have hg6 := grownBy_set w5 l.g 0 (.slice A2 (k + 1) c2)
      have hX6 := hX5.grown hg6 (by intro e; injection e with e; exact hgx (.inl e))
      have hD6 := hD5.set_ 0 (.slice A2 (k + 1) c2)
      simp only [List.setIfInBounds_toArray, List.set_cons_zero] at hD6
      have hrg : A2.map (·.block) ≠ some l.g := fun e => by
        rcases hA2 _ e with h2 | h2
        · exact h.n1 h2
        · have := h.blk.lt
          omega
      have hR6 := (Chg.of_grown (F := fun x => x = l.g) hg6 rfl).own hR5 (fun x hx e => hrg (by rw [hx, e]))
      have hR26 := (Chg.of_grown (F := fun x => x = l.g) hg6 rfl).own hR25 (fun x hx e => h.n2 (by rw [hx, e]))
      have hc6 : Chg l.fp w (w5.setCell ⟨l.g, 0, none⟩ (.slice A2 (k + 1) c2)) := hc5.trans (Chg.of_grown (F := l.fp) hg6 (.inl rfl)) (fun x hx => .inl hx)
      have hput : putL r.sure x = r.sure ++ [x] := putL_none (by
        have := HNONE.out
        rwa [← HN.out, List.take_length] at this)
      have hfin := h.setSure hx (A := A2) (c := c2) (by rw [hput]; exact hR6) (by rw [hput, List.length_append, HN.out]; exact hD6) hR26 hA2
      have hmv := rmoved_sure hc6 (c := c2) hA2
      refine hK _ _ (fun z => Blk z G 95 cx.toArray) hX6 (fun _ h => h) ?_
      clear hK hX5 hD5 hR5 hR25 hc5 c05 f05 hg6 hD6 hR6 hR26
      refine wpS_nil ?_
      generalize w5.setCell ⟨l.g, 0, none⟩ (.slice A2 (k + 1) c2) = w6 at *
      go_end0
      exact ⟨_, rfl, hfin, hmv⟩
end Go.Proofs.YtmjdfajdompkeaaGreatDoor
namespace Go.Proofs.YtmjdfajdompkeaaGreatDoor
open Go.RowKit Go.Rat
theorem sureL_is (l : List RW) (a : Int) : sureL l a = secW (lastV l a) := by
  rw [sureL, lastV]
  cases lastL l a <;> rfl
theorem nowRL_is (r : RS) (a : Int) : nowRL r a = secW (if (lastL r.soft a).isSome = true then lastV r.soft a else lastV r.sure a) := by
  rw [nowRL, lastV]
  cases lastL r.soft a with
  | some x => rfl
  | none => exact sureL_is _ _
theorem lastV_ok {l : List RW} (h : ∀ x ∈ l, RWok x) (a : Int) : (lastV l a).b.length = 128 := by
  rw [lastV]
  cases hl : lastL l a with
  | some x => exact (h x (lastL_mem hl).1).2
  | none => exact zs_length
theorem rwC_all (x : RW) : (rwC x).toArray.all (·.oneCell') = true := by
  rw [List.all_toArray, List.all_eq_true]
  exact rwC_one _
set_option maxRecDepth 20000 in
set_option maxHeartbeats 4000000 in
theorem rread_any (w : World) (base : Nat) (l : RL) (r : RS) (h : RefAt w base l r) (a : Int) :
    Calls Tryz.prog 53 #[.pointer (some ⟨l.g, 0, none⟩), .int .i64 a] w fun e w' => e = .returned (.tuple #[.agg (bvs (readRB r a)).toArray, .int .i64 (readRE r a)]) ∧ Below w.heap.size w w' := by
  have hZ := Blk.new w 89 (bvs zs).toArray
  have hb1 := below_alloc w (.cells (bvs zs).toArray 89)
  obtain ⟨z, hz⟩ : ∃ z : Array Value, (bvs zs).toArray = z := ⟨_, rfl⟩
  have hzc : Tryz.zeroCells89 = z := by rw [← hz]; exact zc128
  have hzs : z.size = 128 := by rw [← hz]; exact zsA_size
  have hz1 : z.all (·.oneCell') = true := by rw [← hz]; exact bvs_all _
  rw [hz] at hZ hb1
  have HZ := Lib.hid hz
  clear hz
  have h1 := h.below hb1
  have hzi : (Tryz.prog.info? 89).map (·.size) = some z.size := by rw [hzs]; exact i128
  go_enter Tryz.func53, Tryz.ntmps53
  go_upto_region 1 with (fail)
  generalize w.alloc (.cells z 89) = w1 at *
  have c0 := h1.blk.cell 0
  have c1 := h1.blk.cell 1
  have c2 := h1.blk.cell 2
  simp only [List.getElem?_toArray, List.getElem?_cons_zero, List.getElem?_cons_succ] at c0 c1 c2
  have hbad : ∀ E : Int, readyE r.off a = E → E ≠ 0 → Ending.returned (.tuple #[.agg z, .int .i64 E]) = Ending.returned (.tuple #[.agg (bvs (readRB r a)).toArray, .int .i64 (readRE r a)]) := fun E hE hne => by
    rw [readRB, readRE, hE, if_neg (fun q => hne q.1), if_neg hne, HZ.out]
  have HBAD := Lib.hid hbad
  clear hbad
  cases hoff : r.off
  · rw [hoff] at c2 HBAD
    by_cases hr : 0 ≤ a ∧ a < 32768
    · have hx1 := lastV_ok h.ok.soft a
      have hx2 := lastV_ok h.ok.sure a
      have hnow := nowRL_is r a
      have hl1 := fun w' (hh : RWs w' base l.A2 l.c2 r.soft) => rlast_any w' base l.c2 l.A2 r.soft hh h.ok.soft _ rfl a
      have hl2 := fun w' (hh : RWs w' base l.A1 l.c1 r.sure) => rlast_any w' base l.c1 l.A1 r.sure hh h.ok.sure _ rfl a
      generalize lastV r.soft a = x1 at *
      generalize lastV r.sure a = x2 at *
      generalize (lastL r.sure a).isSome = v2 at *
      have HL1 := Lib.hid hl1
      have HL2 := Lib.hid hl2
      have hs1 : (rwC x1).toArray.size = 130 := by simpa using rwC_length hx1
      have hs2 : (rwC x2).toArray.size = 130 := by simpa using rwC_length hx2
      have ho1 := rwC_all x1
      have ho2 := rwC_all x2
      have hrR : readyE r.off a = 0 := by rw [hoff]; exact readyE_ok hr
      have hrE : readRE r a = if (nowRL r a).lost = true then 9 else 0 := by rw [readRE, if_pos hrR]
      have hrB : readRB r a = if (nowRL r a).lost = false then (nowRL r a).b else zs := by
        rw [readRB]
        by_cases hl : (nowRL r a).lost = false
        · rw [if_pos ⟨hrR, hl⟩, if_pos hl]
        · rw [if_neg (fun h => hl h.2), if_neg hl]
      have HRE := Lib.hid hrE
      have HRB := Lib.hid hrB
      have HNOW := Lib.hid hnow
      obtain ⟨v, hv⟩ : ∃ v, (lastL r.soft a).isSome = v := ⟨_, rfl⟩
      have HV := Lib.hid hv
      have g1 : ¬ a < 0 := by omega
      have g2 : ¬ 32768 ≤ a := by omega
      clear hl1 hl2 hrR hrE hrB hnow hv HBAD hoff
      obtain ⟨C1, hC1⟩ : ∃ C, (rwC x1).toArray = C := ⟨_, rfl⟩
      obtain ⟨C2, hC2⟩ : ∃ C, (rwC x2).toArray = C := ⟨_, rfl⟩
      rw [hC1] at hs1 ho1 HL1
      rw [hC2] at hs2 ho2 HL2
      have HC1 := Lib.hid hC1
      have HC2 := Lib.hid hC2
      clear hC1 hC2
      obtain ⟨N1, hN1⟩ : ∃ N, r.soft.length = N := ⟨_, rfl⟩
      obtain ⟨N2, hN2⟩ : ∃ N, r.sure.length = N := ⟨_, rfl⟩
      rw [hN1] at c1 HL1
      rw [hN2] at c0 HL2
      have HN2 := Lib.hid hN2
      clear hN1 hN2
      repeat (first
        | (go_at_call 77; refine (HL1.out _ h1.row2).mono ?_; rw [HV.out]; rintro e w2 ⟨rfl, hb2⟩; simp only [])
        | ((with_reducible refine wpl_store_fresh C1 r130 ?_ hs1 ho1 ?_ ?_ ?_); (focus kernel_rfl); (focus rfl); (focus rfl); intro w3 hW3 hl3 hb3; simp only [Act.put]; refine Hid.out ?_)
        | go_values | go_skip | go_guarded | go_step | go_upon | go_back)
      refine Lib.hid ?_
      have hZ3 := (hZ.below hb2 hZ.lt).below hb3 (Nat.lt_of_lt_of_le hZ.lt hb2.size)
      have hbb3 := below_next' (below_next' hb1 hb2) hb3
      have h3 := (h1.below hb2).below hb3
      have hlt6 : w.heap.size < w2.heap.size := by have := hZ.lt; have := hb2.size; omega
      have c03 := h3.blk.cell 0
      simp only [List.getElem?_toArray, List.getElem?_cons_zero] at c03
      rw [HN2.out] at c03
      clear hZ hb1 h1 hb2 hb3 c0 c1 c2 HL1 hl3
      obtain ⟨G6, hG6⟩ : ∃ x, w2.heap.size = x := ⟨_, rfl⟩
      rw [hG6] at hW3 hlt6 ⊢
      clear hG6
      obtain ⟨X, hX⟩ : ∃ X, (if v = true then x1 else x2) = X := ⟨_, rfl⟩
      have hnowX : nowRL r a = secW X := by rw [HNOW.out, HV.out, hX]
      have hXl : X.b.length = 128 := by
        rw [← hX]
        cases v
        · exact hx2
        · exact hx1
      have HNX := Lib.hid hnowX
      have HX := Lib.hid hX
      clear hX hnowX HNOW
      go_upto_if 30 with (fail)
      go_cut [] (fun wx => Blk wx G6 95 (rwC X).toArray ∧ Blk wx w.heap.size 89 z ∧ Below w.heap.size w wx)
      case first =>
        cases v
        · repeat (first
            | (go_at_call 77; refine (HL2.out _ h3.row1).mono ?_; rintro e w4 ⟨rfl, hb4⟩; simp only []; have hW4 := hW3.below hb4 hW3.lt; have hZ4 := hZ3.below hb4 hZ3.lt; have hbb4 := below_next' hbb3 hb4; clear hW3 hZ3)
            | ((with_reducible refine wpl_store G6 _ _ C2 r130 hW4 hs1 hs2 ho2 ?_ ?_ ?_); (focus rfl); (focus rfl); simp only [Act.put])
            | go_values | go_skip | go_guarded | go_step | go_upon | go_back)
          go_meet
          have hx : x2 = X := by have := HX.out; simpa using this
          exact ⟨by rw [← hx, HC2.out]; exact hW4.setRow _, hZ4.grown (grownBy_setRow _ _ _) (by intro e; injection e with e; omega), hbb4.grown (grownBy_setRow _ _ _) hbb4.size (fun q hq => by cases hq; omega)⟩
        · go_wp2_with fail
          go_meet
          have hx : x1 = X := by have := HX.out; simpa using this
          exact ⟨by rw [← hx, HC1.out]; exact hW3, hZ3, hbb3⟩
      case rest =>
        obtain ⟨hW5, hZ5, hb5⟩ := hcut
        clear hZ3 hbb3 h3 hW3 c03 HL2 HC1 HC2 ho1 ho2 hs1 hs2
        have hbl : (bvs X.b).length = 128 := by rw [bvs_length, hXl]
        have hbs : (bvs X.b).toArray.size = 128 := by simpa using hbl
        have hXc : (rwC X)[129]? = some (.bool X.lost) := by
          rw [rwC, List.getElem?_cons_succ, List.getElem?_append_right (by omega), hbl]; rfl
        have hmid : ((rwC X).drop 1).take 128 = bvs X.b := by
          rw [rwC, List.drop_succ_cons, List.drop_zero, ← hbl, List.take_left]
        have hfin : Ending.returned (.tuple #[.agg (if X.lost = true then z else (bvs X.b).toArray), .int .i64 (if X.lost = true then 9 else 0)]) = Ending.returned (.tuple #[.agg (bvs (readRB r a)).toArray, .int .i64 (readRE r a)]) := by
          rw [HRE.out, HRB.out, HNX.out, secW]
          cases hl : X.lost
          · rfl
          · simp [HZ.out]
        have HFIN := Lib.hid hfin
        have c129 := hW5.cell 129
        rw [List.getElem?_toArray, hXc] at c129
        have HMID := Lib.hid hmid
        clear hXc hfin hmid HNX HRE HRB HX
        generalize hL : rwC X = L at *
        clear hL
        cases hl : X.lost
        · rw [hl] at HFIN c129
          repeat (first
            | ((with_reducible refine wpl_load_mid G6 1 L (bvs X.b) Tryz.underlying89 rfl i128 hW5 HMID.out hbl ?_ ?_); (focus rfl); simp only [Act.put, List.setIfInBounds_toArray, List.set_cons_zero, List.set_cons_succ])
            | ((with_reducible refine wpl_store w.heap.size _ _ (bvs X.b).toArray i128 hZ5 hzs hbs (bvs_all _) ?_ ?_ ?_); (focus rfl); (focus rfl))
            | go_values | go_skip | go_guarded | go_step | go_upon | go_back)
          refine bodyPost_ret (results_cell_tmp rfl _ _ w.heap.size _ _ (0, 0) _ _ rfl rfl (hZ5.setRow _) Tryz.underlying89 rfl (by rw [hbs]; exact i128)) rfl ?_
          exact ⟨HFIN.out, hb5.grown (grownBy_setRow _ _ _) hb5.size (fun p hp => by cases hp; exact Nat.le_refl _)⟩
        · rw [hl] at HFIN c129
          repeat (first
            | ((with_reducible refine wpl_store w.heap.size _ _ z i128 hZ5 hzs hzs hz1 ?_ ?_ ?_); (focus rfl); (focus rfl))
            | go_values | go_skip | go_guarded | go_step | go_upon | go_back)
          refine bodyPost_ret (results_cell_tmp rfl _ _ w.heap.size _ _ (0, 0) _ _ rfl rfl (hZ5.setRow _) Tryz.underlying89 rfl hzi) rfl ?_
          exact ⟨HFIN.out, hb5.grown (grownBy_setRow _ _ _) hb5.size (fun p hp => by cases hp; exact Nat.le_refl _)⟩
    · have hrE : readyE false a = 1 := readyE_bad hr
      have hfin := HBAD.out 1 hrE (by decide)
      have HFIN := Lib.hid hfin
      clear hfin HBAD
      by_cases hlt : a < 0
      · repeat (first
          | ((with_reducible refine wpl_store w.heap.size _ _ z i128 hZ hzs hzs hz1 ?_ ?_ ?_); (focus rfl); (focus rfl))
          | go_values | go_skip | go_guarded | go_step | go_upon | go_back)
        refine bodyPost_ret (results_cell_tmp rfl _ _ w.heap.size _ _ (0, 0) _ _ rfl rfl (hZ.setRow _) Tryz.underlying89 rfl hzi) rfl ?_
        exact ⟨HFIN.out, hb1.grown (grownBy_setRow _ _ _) hb1.size (fun p hp => by cases hp; exact Nat.le_refl _)⟩
      · have g2 : 32768 ≤ a := by omega
        repeat (first
          | ((with_reducible refine wpl_store w.heap.size _ _ z i128 hZ hzs hzs hz1 ?_ ?_ ?_); (focus rfl); (focus rfl))
          | go_values | go_skip | go_guarded | go_step | go_upon | go_back)
        refine bodyPost_ret (results_cell_tmp rfl _ _ w.heap.size _ _ (0, 0) _ _ rfl rfl (hZ.setRow _) Tryz.underlying89 rfl hzi) rfl ?_
        exact ⟨HFIN.out, hb1.grown (grownBy_setRow _ _ _) hb1.size (fun p hp => by cases hp; exact Nat.le_refl _)⟩
  · rw [hoff] at c2
    have hfin := HBAD.out 8 (by rw [hoff]; rfl) (by decide)
    have HFIN := Lib.hid hfin
    clear hfin HBAD
    repeat (first
      | ((with_reducible refine wpl_store w.heap.size _ _ z i128 hZ hzs hzs hz1 ?_ ?_ ?_); (focus rfl); (focus rfl))
      | go_values | go_skip | go_guarded | go_step | go_upon | go_back)
    refine bodyPost_ret (results_cell_tmp rfl _ _ w.heap.size _ _ (0, 0) _ _ rfl rfl (hZ.setRow _) Tryz.underlying89 rfl hzi) rfl ?_
    exact ⟨HFIN.out, hb1.grown (grownBy_setRow _ _ _) hb1.size (fun p hp => by cases hp; exact Nat.le_refl _)⟩
end Go.Proofs.YtmjdfajdompkeaaGreatDoor
namespace Go.Proofs.YtmjdfajdompkeaaGreatDoor
open Go.RowKit Go.Rat
def softR (r : RS) (x : RW) : RS := { r with soft := r.soft ++ [x] }
def writeR (r : RS) (a : Int) (b : List UInt8) : RS := if readyE r.off a = 0 then burnR (softR r ⟨a, b, false⟩) else r
def writeRE (r : RS) (a : Int) : Int := if readyE r.off a = 0 then (if r.fuse = 0 then 8 else 0) else readyE r.off a
def syncR (r : RS) : RS := if r.off = true then r else if r.fuse = 0 then burnR r else { burnR r with sure := r.soft.foldl putL r.sure, soft := [] }
def syncRE (r : RS) : Int := if r.off = true then 8 else if r.fuse = 0 then 8 else 0
theorem burnR_soft (r : RS) : (burnR r).soft = r.soft ∧ (burnR r).sure = r.sure := by
  unfold burnR
  split
  · exact ⟨rfl, rfl⟩
  · split <;> exact ⟨rfl, rfl⟩
theorem rburns_g (w : World) (base g : Nat) (l : RL) (r : RS) (h : RefAt w base l r) (hg : l.g = g) :
    Calls Tryz.prog 58 #[.pointer (some ⟨g, 0, none⟩)] w fun e w' => e = .returned (.bool (decide (r.fuse = 0))) ∧ RefAt w' base l (burnR r) ∧ w.grownBy w' (some l.g) := by
  subst hg
  exact rburns_any w base l r h
theorem rput_g (w : World) (base g : Nat) (l : RL) (r : RS) (h : RefAt w base l r) (hg : l.g = g) (hbase : base ≤ w.heap.size) (x : RW) (hx : RWok x) (L : List Value) (hL : rwC x = L) :
    Calls Tryz.prog 44 #[.pointer (some ⟨g, 0, none⟩), .agg L.toArray] w fun e w' => ∃ l', e = .returned (.tuple #[]) ∧ l'.g = g ∧ RefAt w' base l' { r with sure := putL r.sure x } ∧ RMoved w w' l l' := by
  subst hg hL
  refine (rdput_any w base l r h hbase x hx).mono ?_
  rintro e w' ⟨l', h1, h2, h3⟩
  exact ⟨l', h1, h3.g, h2, h3⟩
/-- The row of loose writes has grown. -/
theorem RefAt.setSoft {w w' : World} {base : Nat} {l : RL} {r : RS} (h : RefAt w base l r) {x : RW} (hx : RWok x) {A : Option Addr} {c : Nat} (hrow : RWs w' base A c (r.soft ++ [x]))
    (hB : Blk w' l.g 50 #[.slice l.A1 r.sure.length l.c1, .slice A (r.soft ++ [x]).length c, .bool r.off, .int .i64 r.fuse])
    (h1 : RWs w' base l.A1 l.c1 r.sure) (hA : ∀ q, A.map (·.block) = some q → l.A2.map (·.block) = some q ∨ w.heap.size ≤ q) : RefAt w' base { l with A2 := A, c2 := c } (softR r x) :=
  ⟨hB, h1, hrow, h.n1, fun e => by
    rcases hA l.g e with h1 | h1
    · exact h.n2 h1
    · have := h.blk.lt
      omega, fun q hq e => by
    rcases hA q e with h1 | h1
    · exact h.n12 q hq h1
    · have := (h.row1.lt q hq).2
      omega, h.bg, ⟨h.ok.sure, fun y hy => by
    rcases List.mem_append.1 hy with h1 | h1
    · exact h.ok.soft y h1
    · rw [List.mem_singleton.1 h1]; exact hx, h.ok.fuse, h.ok.nod⟩⟩
theorem rmoved_soft {w w' : World} {l : RL} {A : Option Addr} {c : Nat} (hc : Chg l.fp w w') (hA : ∀ q, A.map (·.block) = some q → l.A2.map (·.block) = some q ∨ w.heap.size ≤ q) : RMoved w w' l { l with A2 := A, c2 := c } :=
  ⟨rfl, hc, fun x hx => by
    rcases hx with hx | hx | hx
    · exact .inl (.inl hx)
    · exact .inl (.inr (.inl hx))
    · rcases hA x hx with h1 | h1
      · exact .inl (.inr (.inr h1))
      · exact .inr h1⟩
set_option maxRecDepth 20000 in
set_option maxHeartbeats 4000000 in
theorem rwrite_any (w : World) (base : Nat) (l : RL) (r : RS) (h : RefAt w base l r) (hbase : base ≤ w.heap.size) (a : Int) (b : List UInt8) (hb : b.length = 128) (hlo : r.soft.length < 1000000000) :
    Calls Tryz.prog 57 #[.pointer (some ⟨l.g, 0, none⟩), .int .i64 a, .agg (bvs b).toArray] w fun e w' => ∃ l', e = .returned (.int .i64 (writeRE r a)) ∧ RefAt w' base l' (writeR r a b) ∧ RMoved w w' l l' := by
  have hX := Blk.new w 89 (bvs b).toArray
  have hb1 := below_alloc w (.cells (bvs b).toArray 89)
  have hbs : (bvs b).toArray.size = 128 := by rw [bvs_size, hb]
  have h1 := h.below hb1
  have hgx : ¬ l.fp w.heap.size := fun hf => by have := (h.fp_lt hf).2; omega
  go_enter Tryz.func57, Tryz.ntmps57
  go_upto_region 1 with (fail)
  generalize w.alloc (.cells (bvs b).toArray 89) = w1 at *
  obtain ⟨G, hG⟩ : ∃ G, w.heap.size = G := ⟨_, rfl⟩
  rw [hG] at hX hgx ⊢
  have HG := Lib.hid hG
  clear hG
  obtain ⟨k, hn⟩ : ∃ n, r.soft.length = n := ⟨_, rfl⟩
  have HN := Lib.hid hn
  rw [hn] at hlo
  have c1 := h1.blk.cell 1
  have c2 := h1.blk.cell 2
  simp only [List.getElem?_toArray, List.getElem?_cons_zero, List.getElem?_cons_succ, hn] at c1 c2
  clear hn
  have hbad : ∀ E : Int, readyE r.off a = E → E ≠ 0 → writeRE r a = E ∧ writeR r a b = r := fun E hE hne => by
    rw [writeRE, writeR, hE, if_neg hne, if_neg hne]
    exact ⟨rfl, rfl⟩
  have HBAD := Lib.hid hbad
  clear hbad
  cases hoff : r.off
  · by_cases hra : 0 ≤ a ∧ a < 32768
    · have hr : readyE r.off a = 0 := by rw [hoff]; exact readyE_ok hra
      have hwE : writeRE r a = if r.fuse = 0 then 8 else 0 := by rw [writeRE, if_pos hr]
      have hwR : writeR r a b = burnR (softR r ⟨a, b, false⟩) := by rw [writeR, if_pos hr]
      have HWE := Lib.hid hwE
      have HWR := Lib.hid hwR
      rw [hoff] at c2
      have g1 : ¬ a < 0 := by omega
      have g2 : ¬ 32768 ≤ a := by omega
      have hx : RWok ⟨a, b, false⟩ := ⟨hra, hb⟩
      have hxl := rwC_length hx.2
      clear hr hwE hwR HBAD hoff
      go_wp2_with fail
      have hbw : base ≤ w1.heap.size := Nat.le_trans hbase hb1.size
      have hXd : Blk w1.drew G 89 (bvs b).toArray := hX
      refine wp_region_barb [(0, 0), (1, 0), (2, 0), (3, 0), (4, 1), (5, 0), (6, 0), (7, 0), (8, 2)] 9 [(10, true), (11, true), (12, false)] (fun z => Blk z G 89 (bvs b).toArray) (fun z => z.cell? ⟨l.g, 1, none⟩ = some (.slice l.A2 k l.c2)) _ (by rfl) (by kernel_rfl) (by kernel_rfl) (by kernel_rfl) (by kernel_rfl) (fun _ _ d _ _ h => by cases d <;> exact h) hXd c1 ?_
      simp only [planOpsN, List.getElem?_toArray, List.getElem?_cons_zero, List.getElem?_cons_succ]
      iterate 4 (refine wpC_0 ?_ (by rfl) ?_ ?_; rotate_left; (focus (intro z hz; (try dsimp only at hz); go_simp; rfl)); simp only [Act.put, List.setIfInBounds_toArray, List.set_cons_zero, List.set_cons_succ])
      refine wpC_1 (.slice l.A2 k l.c2) (by rfl) (fun z hz => by go_simp) ?_
      simp only [Act.put, List.setIfInBounds_toArray, List.set_cons_zero, List.set_cons_succ]
      iterate 1 (refine wpC_0 ?_ (by rfl) ?_ ?_; rotate_left; (focus (intro z hz; (try dsimp only at hz); go_simp; rfl)); simp only [Act.put, List.setIfInBounds_toArray, List.set_cons_zero, List.set_cons_succ])
      refine wpC_0 (.agg (bvs b).toArray) (by rfl) (fun z hz => load_row_run rfl G (bvs b).toArray Tryz.underlying89 rfl i128 hz hbs rfl) ?_
      simp only [Act.put, List.setIfInBounds_toArray, List.set_cons_zero, List.set_cons_succ]
      refine wpC_0 (.agg (rwC ⟨a, b, false⟩).toArray) (by rfl) (fun z _ => build_r a b hb rfl rfl) ?_
      simp only [Act.put, List.setIfInBounds_toArray, List.set_cons_zero, List.set_cons_succ]
      refine wpC_2 (by rfl) (fun K hK => ?_)
      refine wp_runO _ (buildS_r (rwC ⟨a, b, false⟩) hxl rfl) ?_
      simp only [Act.put, List.setIfInBounds_toArray, List.set_cons_zero, List.set_cons_succ]
      obtain ⟨x, hxe⟩ : ∃ x : RW, (⟨a, b, false⟩ : RW) = x := ⟨_, rfl⟩
      rw [hxe] at hx HWR hxl ⊢
      clear hxe
      have h4 : RefAt (w1.drew.alloc (.cells (rwC x).toArray 95)) base l r := (h1.below drew_below).below (below_alloc w1.drew _)
      have hX4 : Blk (w1.drew.alloc (.cells (rwC x).toArray 95)) G 89 (bvs b).toArray := Blk.alloc (w := w1.drew) hXd _
      have hW4 := Blk.new w1.drew 95 (rwC x).toArray
      have hb4 : Below w.heap.size w (w1.drew.alloc (.cells (rwC x).toArray 95)) := below_next' (below_next' hb1 drew_below) (below_alloc w1.drew _)
      have hs4 : w1.heap.size < (w1.drew.alloc (.cells (rwC x).toArray 95)).heap.size := hW4.lt
      have hg4 : w1.drew.heap.size = w1.heap.size := rfl
      have c14 := h4.blk.cell 1
      simp only [List.getElem?_toArray, List.getElem?_cons_zero, List.getElem?_cons_succ, HN.out] at c14
      refine hK _ _ hX4 c14 ?_
      clear hK hX hXd c1 c2
      obtain ⟨w4, hw4⟩ : ∃ q, w1.drew.alloc (.cells (rwC x).toArray 95) = q := ⟨_, rfl⟩
      rw [hw4] at h4 hX4 hW4 hb4 hs4 c14 ⊢
      rw [hg4] at hW4 ⊢
      clear hw4
      obtain ⟨g4, hg4'⟩ : ∃ x, w1.heap.size = x := ⟨_, rfl⟩
      rw [hg4'] at hW4 hs4 ⊢
      have HG4 := Lib.hid hg4'
      clear hg4 hg4'
      refine wpC_nil ⟨by rfl, ?_⟩
      refine wp_appR _ _ (by rfl) base l.A2 l.c2 r.soft k HN.out (by rfl) h4.row2 x hx.2 g4 (by rfl) hW4 (by omega) (by have := HG4.out; omega) ?_
      intro A2 c2 w5 hR5 hG5
      have hA2 : ∀ g, A2.map (·.block) = some g → l.A2.map (·.block) = some g ∨ w.heap.size ≤ g := fun g hg => by
        rcases hG5.lies with h1 | ⟨g', h1, h2, _⟩
        · exact .inl (h1 ▸ hg)
        · rw [h1] at hg
          cases hg
          have := hb4.size
          exact .inr (by omega)
      have hX5 := hX4.grown hG5.grown (fun e => hgx (.inr (.inr e.symm)))
      have hD5 := h4.blk.grown hG5.grown (fun e => h.n2 e.symm)
      have hc5 : Chg l.fp w w5 := (Chg.of_below l.fp hb4).trans (Chg.of_grown' (F := l.fp) hG5.grown (fun g hg => .inr (.inr hg))) (fun x hx => .inl hx)
      have hR15 := (Chg.of_grown' (F := fun q => l.A2.map (·.block) = some q) hG5.grown (fun g hg => hg)).own h4.row1 (fun q hq e => h.n12 q hq e)
      have c15 := hD5.cell 1
      have f15 := hD5.frozen 1
      simp only [List.getElem?_toArray, List.getElem?_cons_zero, List.getElem?_cons_succ, HN.out] at c15
      refine ⟨fun z => Blk z G 89 (bvs b).toArray, hX5, fun _ h => h, ?_⟩
      clear hX4 hW4 hG5 hb4 c14 h4
      simp only [planOps, List.getElem?_toArray, List.getElem?_cons_zero, List.getElem?_cons_succ]
      iterate 2 (refine wpS_q ?_ (by rfl) ?_ ?_; rotate_left; (focus (intro z hz; (try dsimp only at hz); go_simp; rfl)))
      simp only [Act.put, List.setIfInBounds_toArray]
      refine wpS_l (by rfl) (fun K hK => ?_)
      go_wp2_with fail
      have hg6 := grownBy_set w5 l.g 1 (.slice A2 (k + 1) c2)
      have hX6 := hX5.grown hg6 (by intro e; injection e with e; exact hgx (.inl e))
      have hD6 := hD5.set_ 1 (.slice A2 (k + 1) c2)
      simp only [List.setIfInBounds_toArray, List.set_cons_zero, List.set_cons_succ] at hD6
      have hrg : A2.map (·.block) ≠ some l.g := fun e => by
        rcases hA2 _ e with h2 | h2
        · exact h.n2 h2
        · have := h.blk.lt
          omega
      have hR6 := (Chg.of_grown (F := fun x => x = l.g) hg6 rfl).own hR5 (fun x hx e => hrg (by rw [hx, e]))
      have hR16 := (Chg.of_grown (F := fun x => x = l.g) hg6 rfl).own hR15 (fun x hx e => h.n1 (by rw [hx, e]))
      have hc6 : Chg l.fp w (w5.setCell ⟨l.g, 1, none⟩ (.slice A2 (k + 1) c2)) := hc5.trans (Chg.of_grown (F := l.fp) hg6 (.inl rfl)) (fun x hx => .inl hx)
      have hfin := h.setSoft hx (A := A2) (c := c2) hR6 (by rw [List.length_append, HN.out]; exact hD6) hR16 hA2
      have hmv := rmoved_soft hc6 (c := c2) hA2
      refine hK _ _ (fun z => Blk z G 89 (bvs b).toArray) hX6 (fun _ h => h) ?_
      clear hK hX5 hD5 hR5 hR15 hc5 c15 f15 hg6 hD6 hR6 hR16
      refine wpS_nil ?_
      generalize w5.setCell ⟨l.g, 1, none⟩ (.slice A2 (k + 1) c2) = w6 at *
      have hfu : (softR r x).fuse = r.fuse := rfl
      obtain ⟨v, hv⟩ : ∃ v, decide (r.fuse = 0) = v := ⟨_, rfl⟩
      have HV := Lib.hid hv
      have hwE2 : writeRE r a = if v = true then 8 else 0 := by
        rw [HWE.out, ← hv]
        by_cases hf : r.fuse = 0
        · simp [hf]
        · simp [hf]
      have HWE2 := Lib.hid hwE2
      clear hv hwE2 HWE hX6 hrg hc6 hA2
      cases v
      all_goals
        go_wp2_with (go_at_call 58; refine (rburns_g w6 base l.g { l with A2 := A2, c2 := c2 } (softR r x) hfin rfl).mono ?_; rw [hfu, HV.out]; rintro e w7 ⟨rfl, hD7, hg7⟩)
        go_ret
        first
          | exact ⟨_, by rw [HWE2.out]; rfl, by rw [HWR.out]; exact hD7, hmv.trans (RMoved.of_grown hg7)⟩
          | exact ⟨by rw [HWE2.out]; rfl, _, by rw [HWR.out]; exact hD7, hmv.trans (RMoved.of_grown hg7)⟩
    · have hfin := HBAD.out 1 (by rw [hoff]; exact readyE_bad hra) (by decide)
      have HFIN := Lib.hid hfin
      rw [hoff] at c2
      clear hfin HBAD hoff
      by_cases hlt : a < 0
      · go_wp2_with fail
        go_ret
        first
          | exact ⟨l, by rw [HFIN.out.1]; rfl, by rw [HFIN.out.2]; exact h1, RMoved.of_below hb1⟩
          | exact ⟨by rw [HFIN.out.1]; rfl, l, by rw [HFIN.out.2]; exact h1, RMoved.of_below hb1⟩
      · have g2 : 32768 ≤ a := by omega
        go_wp2_with fail
        go_ret
        first
          | exact ⟨l, by rw [HFIN.out.1]; rfl, by rw [HFIN.out.2]; exact h1, RMoved.of_below hb1⟩
          | exact ⟨by rw [HFIN.out.1]; rfl, l, by rw [HFIN.out.2]; exact h1, RMoved.of_below hb1⟩
  · have hfin := HBAD.out 8 (by rw [hoff]; rfl) (by decide)
    have HFIN := Lib.hid hfin
    rw [hoff] at c2
    clear hfin HBAD hoff
    go_wp2_with fail
    go_ret
    first
          | exact ⟨l, by rw [HFIN.out.1]; rfl, by rw [HFIN.out.2]; exact h1, RMoved.of_below hb1⟩
          | exact ⟨by rw [HFIN.out.1]; rfl, l, by rw [HFIN.out.2]; exact h1, RMoved.of_below hb1⟩
end Go.Proofs.YtmjdfajdompkeaaGreatDoor
namespace Go.Proofs.YtmjdfajdompkeaaGreatDoor
open Go.RowKit Go.Rat
/-- The loose writes are gone. -/
theorem RefAt.clear {w w' : World} {base : Nat} {l : RL} {r : RS} (h : RefAt w base l r) (off : Bool) (fuse : Int) (hf : -1 ≤ fuse ∧ fuse ≤ 9223372036854775807) (hg : w.grownBy w' (some l.g))
    (hB : Blk w' l.g 50 #[.slice l.A1 r.sure.length l.c1, .slice none 0 0, .bool off, .int .i64 fuse]) : RefAt w' base { l with A2 := none, c2 := 0 } { r with soft := [], off := off, fuse := fuse } :=
  have hc := Chg.of_grown (F := fun x => x = l.g) hg rfl
  ⟨hB, hc.own h.row1 (fun x hx e => h.n1 (by rw [hx, e])), World.ownsRow_nil _ _ _ _, h.n1, by simp, by simp, h.bg, ⟨h.ok.sure, by simp, hf, h.ok.nod⟩⟩
theorem rmoved_clear {w w' wr : World} {l l1 : RL} (hm : RMoved w wr l l1) (hg : wr.grownBy w' (some l1.g)) : RMoved w w' l { l1 with A2 := none, c2 := 0 } :=
  ⟨hm.g, hm.chg.trans (Chg.of_grown (F := l1.fp) hg (.inl rfl)) hm.fp, fun x hx => by
    rcases hx with hx | hx | hx
    · exact hm.fp x (.inl hx)
    · exact hm.fp x (.inr (.inl hx))
    · cases hx⟩
theorem putL_foldl (l : List RW) (k : Nat) (hk : k < l.length) (s : List RW) : (l.take (k + 1)).foldl putL s = putL ((l.take k).foldl putL s) l[k] := by
  rw [List.take_add_one, List.getElem?_eq_getElem hk, Option.toList_some, List.foldl_append]
  rfl
set_option maxRecDepth 20000 in
set_option maxHeartbeats 4000000 in
theorem rsync_any (w : World) (base : Nat) (l : RL) (r : RS) (h : RefAt w base l r) (hbase : base ≤ w.heap.size) :
    Calls Tryz.prog 29 #[.pointer (some ⟨l.g, 0, none⟩)] w fun e w' => ∃ l', e = .returned (.int .i64 (syncRE r)) ∧ RefAt w' base l' (syncR r) ∧ RMoved w w' l l' := by
  have c2 := h.blk.cell 2
  simp only [List.getElem?_toArray, List.getElem?_cons_zero, List.getElem?_cons_succ] at c2
  cases hoff : r.off
  · rw [hoff] at c2
    obtain ⟨v, hv⟩ : ∃ v, decide (r.fuse = 0) = v := ⟨_, rfl⟩
    have HV := Lib.hid hv
    cases v
    · have hf0 : ¬ r.fuse = 0 := by simpa using hv
      have hfin : syncRE r = 0 ∧ syncR r = { burnR r with sure := r.soft.foldl putL r.sure, soft := [] } := by
        simp [syncRE, syncR, hoff, hf0]
      have HFIN := Lib.hid hfin
      have hbu := burnR_soft r
      have HBU := Lib.hid hbu
      obtain ⟨g, hg⟩ : ∃ g, l.g = g := ⟨_, rfl⟩
      rw [hg] at c2 ⊢
      have HG := Lib.hid hg
      clear hfin hoff hf0 hv hbu hg
      go_enter Tryz.func29, Tryz.ntmps29
      go_upto_region 3 with (go_at_call 58; refine (rburns_g w base g l r h HG.out).mono ?_; rw [HV.out]; rintro e w1 ⟨rfl, h1, hg1⟩; simp only [])
      have hbw : base ≤ w1.heap.size := Nat.le_trans hbase hg1.size
      have hmv1 := RMoved.of_grown hg1
      obtain ⟨r1, hr1⟩ : ∃ r1, burnR r = r1 := ⟨_, rfl⟩
      rw [hr1] at h1 HBU HFIN
      obtain ⟨n, hn⟩ : ∃ n, r1.soft.length = n := ⟨_, rfl⟩
      have HN := Lib.hid hn
      clear h hg1 HV hr1 c2 hn
      go_wp2_with fail
      go_loopw [3] (fun i wr => ∃ (k : Nat) (l1 : RL), k ≤ n ∧ i = .int .i64 (k : Int) ∧ l1.g = g ∧ RefAt wr base l1 { r1 with sure := (r1.soft.take k).foldl putL r1.sure } ∧ base ≤ wr.heap.size ∧ RMoved w wr l l1) (fun i _ => n - (intOf i).toNat)
      case atStart => exact ⟨0, l, Nat.zero_le _, rfl, HG.out, h1, hbw, hmv1⟩
      case round =>
        clear h1 hbw hmv1
        obtain ⟨k, l1, hk, rfl, hg1, h1, hbw, hmv1⟩ := hrel
        have c1 := h1.blk.cell 1
        simp only [List.getElem?_toArray, List.getElem?_cons_zero, List.getElem?_cons_succ, HN.out, hg1] at c1
        by_cases hkn : k < n
        · have hkl : k < r1.soft.length := by have := HN.out; omega
          obtain ⟨g2, L, hA, hgB, hgL, hLl⟩ := h1.row2.at_ h1.ok.soft hkl
          have hx := h1.ok.soft _ (List.getElem_mem hkl)
          have hstep := putL_foldl r1.soft k hkl r1.sure
          have hgL' : (L.drop (k * 130)).take 130 = rwC r1.soft[k] := hgL
          generalize r1.soft[k] = x at *
          have hcl := rwC_length hx.2
          obtain ⟨cx, hcx⟩ : ∃ cx, rwC x = cx := ⟨_, rfl⟩
          rw [hcx] at hgL' hcl
          have HCX := Lib.hid hcx
          have HGL := Lib.hid hgL'
          have HSTEP := Lib.hid hstep
          rw [hA] at c1
          have g1 : (k : Int) < (n : Int) := by omega
          have g0 : (0 : Int) ≤ (k : Int) := by omega
          have hnl : n ≤ 9223372036854775807 := by
            have := own_cap h1.row2
            have e : ({ r1 with sure := (r1.soft.take k).foldl putL r1.sure } : RS).soft.length = n := HN.out
            rw [e] at this
            omega
          clear hgL hgL' hstep hcx hA
          repeat (first
            | ((with_reducible refine wpl_load_mid g2 (k * 130) L cx Tryz.underlying95 rfl r130 hgB HGL.out hcl ?_ ?_); (focus rfl); simp only [Act.put, List.setIfInBounds_toArray, List.set_cons_zero, List.set_cons_succ])
            | (go_at_call 44; refine (rput_g _ base g l1 _ h1 hg1 hbw x hx cx HCX.out).mono ?_; rintro e w3 ⟨l3, rfl, hg3, h3, hm3⟩; simp only []; refine Hid.out ?_)
            | go_values | go_skip | go_guarded | go_step | go_upon | go_back)
          refine Lib.hid ?_
          have h3 : RefAt w3 base l3 { r1 with sure := (r1.soft.take (k + 1)).foldl putL r1.sure } := by rw [HSTEP.out]; exact h3
          have hbw3 := Nat.le_trans hbw hm3.chg.size
          have hmv3 := hmv1.trans hm3
          clear h1 hbw hmv1 c1 hgB hm3 hg1
          go_wp2_with fail
          exact ⟨⟨k + 1, l3, by omega, by first | omega | exact congrArg (Value.int .i64) (by omega), hg3, h3, hbw3, hmv3⟩, by simp only [intOf]; omega⟩
        · obtain rfl : k = n := by omega
          have g1 : ¬ (k : Int) < (k : Int) := by omega
          have hfull : (r1.soft.take k).foldl putL r1.sure = r.soft.foldl putL r.sure := by rw [← HN.out, List.take_length, HBU.out.1, HBU.out.2]
          rw [hfull] at h1
          have f1 := h1.blk.frozen 1
          have hgr := grownBy_set wr l1.g 1 (.slice none 0 0)
          have hB := h1.blk.set_ 1 (.slice none 0 0)
          simp only [List.setIfInBounds_toArray, List.set_cons_zero, List.set_cons_succ] at hB
          have hfin := h1.clear r1.off r1.fuse h1.ok.fuse hgr hB
          have hmf := rmoved_clear hmv1 hgr
          rw [hg1] at hgr f1 hfin hmf
          have HFI := Lib.hid hfin
          clear hB h1 hfull
          go_wp2_with fail
          go_ret
          first
            | exact ⟨by rw [HFIN.out.1]; rfl, _, by rw [HFIN.out.2]; exact HFI.out, hmf⟩
            | exact ⟨_, by rw [HFIN.out.1]; rfl, by rw [HFIN.out.2]; exact HFI.out, hmf⟩
    · have hf0 : r.fuse = 0 := by simpa using hv
      have hfin : syncRE r = 8 ∧ syncR r = burnR r := by
        simp [syncRE, syncR, hoff, hf0]
      have HFIN := Lib.hid hfin
      clear hfin hoff hf0 hv
      go_enter Tryz.func29, Tryz.ntmps29
      go_wp2_with (go_at_call 58; refine (rburns_any w base l r h).mono ?_; rw [HV.out]; rintro e w1 ⟨rfl, h1, hg1⟩; simp only [])
      go_ret
      first
        | exact ⟨l, by rw [HFIN.out.1]; rfl, by rw [HFIN.out.2]; exact h1, RMoved.of_grown hg1⟩
        | exact ⟨by rw [HFIN.out.1]; rfl, l, by rw [HFIN.out.2]; exact h1, RMoved.of_grown hg1⟩
  · rw [hoff] at c2
    have hfin : syncRE r = 8 ∧ syncR r = r := by simp [syncRE, syncR, hoff]
    have HFIN := Lib.hid hfin
    clear hfin hoff
    go_enter Tryz.func29, Tryz.ntmps29
    go_wp2_with fail
    go_ret
    first
      | exact ⟨l, by rw [HFIN.out.1]; rfl, by rw [HFIN.out.2]; exact h, RMoved.refl _ _⟩
      | exact ⟨by rw [HFIN.out.1]; rfl, l, by rw [HFIN.out.2]; exact h, RMoved.refl _ _⟩
end Go.Proofs.YtmjdfajdompkeaaGreatDoor
namespace Go.Proofs.YtmjdfajdompkeaaGreatDoor
open Go.RowKit Go.Rat
def onR (r : RS) (ps : List UInt8) : RS := if r.off = true then ⟨onL r.soft 0 ps r.sure, [], false, -1⟩ else r
def onRE (r : RS) : Int := if r.off = true then 0 else 3
def stepL (l : List RW) (x : RW) (p : Nat) : List RW := if p % 4 = 0 then l else if p % 4 = 2 then putL l ⟨x.at_, zs, true⟩ else putL l x
theorem onL_snoc (ps : List UInt8) (x : RW) : ∀ (s : List RW) (i : Nat) (l : List RW), onL (s ++ [x]) i ps l = stepL (onL s i ps l) x (ps.getD (i + s.length) 0).toNat
  | [], i, l => rfl
  | y :: s, i, l => by
    rw [List.cons_append, onL, onL, onL_snoc ps x s, List.length_cons, show i + 1 + s.length = i + (s.length + 1) by omega]
set_option maxRecDepth 20000 in
set_option maxHeartbeats 4000000 in
theorem ron_any (w : World) (base : Nat) (l : RL) (r : RS) (h : RefAt w base l r) (hbase : base ≤ w.heap.size) (A' : Option Addr) (m c' : Nat) (ps : List UInt8) (hr : RB w A' m ps) (hap : m ≠ 0 → ∀ x, A'.map (·.block) = some x → ¬ l.fp x) :
    Calls Tryz.prog 19 #[.pointer (some ⟨l.g, 0, none⟩), .slice A' m c'] w fun e w' => ∃ l', e = .returned (.int .i64 (onRE r)) ∧ RefAt w' base l' (onR r ps) ∧ RMoved w w' l l' := by
  have c2 := h.blk.cell 2
  simp only [List.getElem?_toArray, List.getElem?_cons_zero, List.getElem?_cons_succ] at c2
  cases hoff : r.off
  · rw [hoff] at c2
    have hfin : onRE r = 3 ∧ onR r ps = r := by simp [onRE, onR, hoff]
    have HFIN := Lib.hid hfin
    clear hfin hoff
    go_enter Tryz.func19, Tryz.ntmps19
    go_wp2_with fail
    go_ret
    first
      | exact ⟨l, by rw [HFIN.out.1]; rfl, by rw [HFIN.out.2]; exact h, RMoved.refl _ _⟩
      | exact ⟨by rw [HFIN.out.1]; rfl, l, by rw [HFIN.out.2]; exact h, RMoved.refl _ _⟩
  · rw [hoff] at c2
    have hfin : onRE r = 0 ∧ onR r ps = ⟨onL r.soft 0 ps r.sure, [], false, -1⟩ := by simp [onRE, onR, hoff]
    have HFIN := Lib.hid hfin
    have hml := hr.len
    have HR := Lib.hid hr
    obtain ⟨n, hn⟩ : ∃ n, r.soft.length = n := ⟨_, rfl⟩
    have HN := Lib.hid hn
    obtain ⟨g, hg⟩ : ∃ g, l.g = g := ⟨_, rfl⟩
    rw [hg] at c2 ⊢
    have HG := Lib.hid hg
    clear hfin hoff hr hn hg
    go_enter Tryz.func19, Tryz.ntmps19
    go_wp2_with fail
    go_loopw [5] (fun i wr => ∃ (k : Nat) (l1 : RL), k ≤ n ∧ i = .int .i64 (k : Int) ∧ l1.g = g ∧ RefAt wr base l1 { r with sure := onL (r.soft.take k) 0 ps r.sure } ∧ base ≤ wr.heap.size ∧ RMoved w wr l l1) (fun i _ => n - (intOf i).toNat)
    case atStart => exact ⟨0, l, Nat.zero_le _, rfl, HG.out, h, hbase, RMoved.refl _ _⟩
    case round =>
      clear c2
      obtain ⟨k, l1, hk, rfl, hg1, h1, hbw, hmv1⟩ := hrel
      have c1 := h1.blk.cell 1
      simp only [List.getElem?_toArray, List.getElem?_cons_zero, List.getElem?_cons_succ, HN.out, hg1] at c1
      by_cases hkn : k < n
      · have hkl : k < r.soft.length := by have := HN.out; omega
        obtain ⟨g2, L, hA, hgB, hgL, hLl⟩ := h1.row2.at_ h1.ok.soft hkl
        have hx := h1.ok.soft _ (List.getElem_mem hkl)
        have hstep : onL (r.soft.take (k + 1)) 0 ps r.sure = stepL (onL (r.soft.take k) 0 ps r.sure) r.soft[k] (ps.getD k 0).toNat := by
          rw [List.take_add_one, List.getElem?_eq_getElem hkl, Option.toList_some, onL_snoc, List.length_take, Nat.zero_add, Nat.min_eq_left (by omega)]
        have hgL' : (L.drop (k * 130)).take 130 = rwC r.soft[k] := hgL
        generalize r.soft[k] = x at *
        have hcl := rwC_length hx.2
        have hxo := rwC_all x
        have hcs : (rwC x).toArray.size = 130 := by simpa using hcl
        have hx0 : (rwC x)[0]? = some (.int .i64 x.at_) := rfl
        obtain ⟨cx, hcx⟩ : ∃ cx, rwC x = cx := ⟨_, rfl⟩
        rw [hcx] at hgL' hcl hxo hcs hx0
        have HCX := Lib.hid hcx
        have HGL := Lib.hid hgL'
        have HSTEP := Lib.hid hstep
        rw [hA] at c1
        have g1 : (k : Int) < (n : Int) := by omega
        have g0 : (0 : Int) ≤ (k : Int) := by omega
        have hnl : n ≤ 9223372036854775807 := by
          have := own_cap h1.row2
          have e : ({ r with sure := onL (r.soft.take k) 0 ps r.sure } : RS).soft.length = n := HN.out
          rw [e] at this
          omega
        have hrr : RB wr A' m ps := hmv1.chg.rbN HR.out hap
        obtain ⟨q, hq⟩ : ∃ q, (ps.getD k 0).toNat % 4 = q := ⟨_, rfl⟩
        clear hgL hgL' hstep hcx hA
        go_upto_if 25 with (fail)
        go_cut [6] (fun p wx => p = .int .u8 (q : Int) ∧ wx = wr)
        case first =>
          have HQ := Lib.hid hq
          clear hq
          by_cases hkm : k < m
          · obtain ⟨ad, rfl, _, hc⟩ := hrr.at_ hkm
            have hq := HQ.out
            have hb := (ps.getD k 0).toNat_lt
            generalize (ps.getD k 0).toNat = p at *
            have hpq : (p : Int) % 4 = (q : Int) := by omega
            have g2 : (k : Int) < (m : Int) := by omega
            clear hq HQ
            go_wp2_with fail
            go_meet
            first | exact ⟨congrArg (Value.int .u8) hpq, rfl⟩ | exact ⟨rfl, rfl⟩
          · have hq0 : q = 0 := by rw [← HQ.out, List.getD_eq_getElem?_getD, List.getElem?_eq_none (by omega)]; rfl
            subst hq0
            have g2 : ¬ (k : Int) < (m : Int) := by omega
            go_wp2_with fail
            go_meet
            exact ⟨rfl, rfl⟩
        case rest =>
          obtain ⟨rfl, rfl⟩ := hcut
          clear hrr
          repeat (first
            | ((with_reducible refine wpl_load_mid g2 (k * 130) L cx Tryz.underlying95 rfl r130 hgB HGL.out hcl ?_ ?_); (focus rfl); simp only [Act.put, List.setIfInBounds_toArray, List.set_cons_zero, List.set_cons_succ])
            | ((with_reducible refine wpl_store_fresh cx.toArray r130 ?_ hcs hxo ?_ ?_ ?_); (focus kernel_rfl); (focus rfl); (focus rfl); intro w3 hW3 hl3 hb3; simp only [Act.put]; refine Hid.out ?_)
            | go_values | go_skip | go_guarded | go_step | go_upon | go_back)
          refine Lib.hid ?_
          have h3 := h1.below hb3
          have hbw3 := Nat.le_trans hbw hb3.size
          have hm3 := hmv1.trans (RMoved.of_below hb3)
          have hw0 := hW3.cell 0
          rw [List.getElem?_toArray, hx0] at hw0
          have hGl : ¬ l1.fp wc.heap.size := fun hf => by have := (h1.fp_lt hf).2; omega
          have hGw : w.heap.size ≤ wc.heap.size := hmv1.chg.size
          clear h1 hbw hmv1 c1 hgB hb3 hl3
          obtain ⟨G, hG⟩ : ∃ x, wc.heap.size = x := ⟨_, rfl⟩
          rw [hG] at hW3 hw0 hGl hGw ⊢
          clear hG
          have hq3 : q = 0 ∨ q = 2 ∨ q = 1 ∨ q = 3 := by omega
          have HTK : Hid ((cx.drop 0).take 130 = cx) := Lib.hid (by rw [List.drop_zero, ← hcl, List.take_length])
          have HQ := Lib.hid hq
          clear hq
          rcases hq3 with rfl | rfl | rfl | rfl
          · have h4 : RefAt w3 base l1 { r with sure := onL (r.soft.take (k + 1)) 0 ps r.sure } := by rw [HSTEP.out, stepL, if_pos HQ.out]; exact h3
            clear h3 hW3 hw0
            go_wp2_with fail
            exact ⟨⟨k + 1, l1, by omega, by first | omega | exact congrArg (Value.int .i64) (by omega), hg1, h4, hbw3, hm3⟩, by simp only [intOf]; omega⟩
          · have hy : RWok ⟨x.at_, zs, true⟩ := ⟨hx.1, zs_length⟩
            have hyl := rwC_length hy.2
            have hyo := rwC_all ⟨x.at_, zs, true⟩
            have hys : (rwC ⟨x.at_, zs, true⟩).toArray.size = 130 := by simpa using hyl
            have hst : stepL (onL (r.soft.take k) 0 ps r.sure) x (ps.getD k 0).toNat = putL (onL (r.soft.take k) 0 ps r.sure) ⟨x.at_, zs, true⟩ := by rw [stepL, HQ.out]; rfl
            rw [hst] at HSTEP
            clear hst HQ
            have hzl : (Tryz.zeroCells95.setIfInBounds 0 (.int .i64 x.at_)).setIfInBounds 129 (.bool true) = (rwC ⟨x.at_, zs, true⟩).toArray := by
              rw [zr130, List.setIfInBounds_toArray, List.setIfInBounds_toArray, rwC, rwC, List.set_cons_zero, List.set_cons_succ, List.set_append_right _ _ (by rw [bvs_length, zs_length]; omega), bvs_length, zs_length]
              rfl
            obtain ⟨cy, hcy⟩ : ∃ cy, rwC ⟨x.at_, zs, true⟩ = cy := ⟨_, rfl⟩
            rw [hcy] at hyl hyo hys hzl
            have HCY := Lib.hid hcy
            clear hcy
            repeat (first
              | ((with_reducible refine wpl_store G _ _ cy.toArray r130 hW3 hcs hys hyo ?_ ?_ ?_); (focus rfl); (focus rfl); simp only [Act.put]; refine Hid.out ?_)
              | go_values | go_skip | go_guarded | go_step | go_upon | go_back)
            refine Lib.hid ?_
            have hgs := grownBy_setRow w3 G cy.toArray
            have hW5 := hW3.setRow cy.toArray
            have h5 := h3.kept (Chg.of_grown (F := fun x => x = G) hgs rfl) (fun x hx e => hGl (e ▸ hx))
            have hbw5 := Nat.le_trans hbw3 hgs.size
            have hm5 : RMoved w (w3.setRow G cy.toArray) l l1 := ⟨hm3.g, hm3.chg.trans (Chg.of_grown (F := fun x => x = G) hgs rfl) (fun x e => .inr (e ▸ hGw)), hm3.fp⟩
            have HTY : Hid ((cy.drop 0).take 130 = cy) := Lib.hid (by rw [List.drop_zero, ← hyl, List.take_length])
            clear h3 hbw3 hm3 hW3 hw0 hgs hzl
            generalize w3.setRow G cy.toArray = w5 at *
            repeat (first
              | ((with_reducible refine wpl_load_mid G 0 cy cy Tryz.underlying95 rfl r130 hW5 HTY.out hyl ?_ ?_); (focus rfl); simp only [Act.put, List.setIfInBounds_toArray, List.set_cons_zero, List.set_cons_succ])
              | (go_at_call 44; refine (rput_g _ base g l1 _ h5 hg1 hbw5 _ hy cy HCY.out).mono ?_; rintro e w4 ⟨l4, rfl, hg4, h4, hm4⟩; simp only []; refine Hid.out ?_)
              | go_values | go_skip | go_guarded | go_step | go_upon | go_back)
            refine Lib.hid ?_
            have h4 : RefAt w4 base l4 { r with sure := onL (r.soft.take (k + 1)) 0 ps r.sure } := by rw [HSTEP.out]; exact h4
            have hbw4 := Nat.le_trans hbw5 hm4.chg.size
            have hmv4 := hm5.trans hm4
            clear h5 hbw5 hm5 hm4 hW5
            go_wp2_with fail
            exact ⟨⟨k + 1, l4, by omega, by first | omega | exact congrArg (Value.int .i64) (by omega), hg4, h4, hbw4, hmv4⟩, by simp only [intOf]; omega⟩
          all_goals
            have hst : stepL (onL (r.soft.take k) 0 ps r.sure) x (ps.getD k 0).toNat = putL (onL (r.soft.take k) 0 ps r.sure) x := by rw [stepL, HQ.out]; rfl
            rw [hst] at HSTEP
            clear hst HQ
            repeat (first
              | ((with_reducible refine wpl_load_mid G 0 cx cx Tryz.underlying95 rfl r130 hW3 HTK.out hcl ?_ ?_); (focus rfl); simp only [Act.put, List.setIfInBounds_toArray, List.set_cons_zero, List.set_cons_succ])
              | (go_at_call 44; refine (rput_g _ base g l1 _ h3 hg1 hbw3 x hx cx HCX.out).mono ?_; rintro e w4 ⟨l4, rfl, hg4, h4, hm4⟩; simp only []; refine Hid.out ?_)
              | go_values | go_skip | go_guarded | go_step | go_upon | go_back)
            refine Lib.hid ?_
            have h4 : RefAt w4 base l4 { r with sure := onL (r.soft.take (k + 1)) 0 ps r.sure } := by rw [HSTEP.out]; exact h4
            have hbw4 := Nat.le_trans hbw3 hm4.chg.size
            have hmv4 := hm3.trans hm4
            clear h3 hbw3 hm3 hm4 hW3 hw0
            go_wp2_with fail
            exact ⟨⟨k + 1, l4, by omega, by first | omega | exact congrArg (Value.int .i64) (by omega), hg4, h4, hbw4, hmv4⟩, by simp only [intOf]; omega⟩
      · obtain rfl : k = n := by omega
        have g1 : ¬ (k : Int) < (k : Int) := by omega
        have hfull : onL (r.soft.take k) 0 ps r.sure = onL r.soft 0 ps r.sure := by rw [← HN.out, List.take_length]
        rw [hfull] at h1
        have f1 := h1.blk.frozen 1
        have f2 := h1.blk.frozen 2
        have f3 := h1.blk.frozen 3
        have c2 := h1.blk.cell 2
        have c3 := h1.blk.cell 3
        simp only [List.getElem?_toArray, List.getElem?_cons_zero, List.getElem?_cons_succ] at c2 c3
        have hgr := ((grownBy_set wr l1.g 1 (.slice none 0 0)).trans (grownBy_set (wr.setCell ⟨l1.g, 1, none⟩ (.slice none 0 0)) l1.g 2 (.bool false))).trans (grownBy_set ((wr.setCell ⟨l1.g, 1, none⟩ (.slice none 0 0)).setCell ⟨l1.g, 2, none⟩ (.bool false)) l1.g 3 (.int .i64 (-1)))
        have hB := ((h1.blk.set_ 1 (.slice none 0 0)).set_ 2 (.bool false)).set_ 3 (.int .i64 (-1))
        simp only [List.setIfInBounds_toArray, List.set_cons_zero, List.set_cons_succ] at hB
        have hfin := h1.clear false (-1) (by omega) hgr hB
        have hmf := rmoved_clear hmv1 hgr
        rw [hg1] at hgr f1 f2 f3 c2 c3 hfin hmf
        have HFI := Lib.hid hfin
        clear hB h1 hfull
        go_wp2_with fail
        go_ret
        first
          | exact ⟨by rw [HFIN.out.1]; rfl, _, by rw [HFIN.out.2]; exact HFI.out, hmf⟩
          | exact ⟨_, by rw [HFIN.out.1]; rfl, by rw [HFIN.out.2]; exact HFI.out, hmf⟩
end Go.Proofs.YtmjdfajdompkeaaGreatDoor
namespace Go.Proofs.YtmjdfajdompkeaaGreatDoor
open Go.RowKit Go.Rat
/-- A disk of the document's that goes with d. -/
def RDk (w : World) (base : Nat) (l : RL) (d : DS) : Prop := ∃ r, RefAt w base l r ∧ RefD d r
section
variable {w w' : World} {base : Nat} {l l' : RL} {d : DS} {r : RS} {F : Nat → Prop}
theorem RDk.fp_lt (h : RDk w base l d) {x : Nat} (hx : l.fp x) : base ≤ x ∧ x < w.heap.size := by
  obtain ⟨r, h1, _⟩ := h
  exact h1.fp_lt hx
theorem RDk.kept (h : RDk w base l d) (hc : Chg F w w') (hF : ∀ x, l.fp x → ¬ F x) : RDk w' base l d := by
  obtain ⟨r, h1, h2⟩ := h
  exact ⟨r, h1.kept hc hF, h2⟩
theorem RDk.below (h : RDk w base l d) (hb : Below w.heap.size w w') : RDk w' base l d := by
  obtain ⟨r, h1, h2⟩ := h
  exact ⟨r, h1.below hb, h2⟩
theorem RefD.len (h : RefD d r) : r.soft.length = d.loose.length := by rw [h.soft, List.length_map]
theorem RDk.cells (h : RDk w base l d) : ∃ A c, w.cell? ⟨l.g, 1, none⟩ = some (.slice A d.loose.length c) ∧ w.cell? ⟨l.g, 2, none⟩ = some (.bool d.off) ∧ w.frozen? ⟨l.g, 3, none⟩ = false ∧ ∃ u, w.cell? ⟨l.g, 3, none⟩ = some u := by
  obtain ⟨r, h1, h2⟩ := h
  have c1 := h1.blk.cell 1
  have c2 := h1.blk.cell 2
  have c3 := h1.blk.cell 3
  simp only [List.getElem?_toArray, List.getElem?_cons_zero, List.getElem?_cons_succ] at c1 c2 c3
  rw [h2.len] at c1
  rw [h2.off] at c2
  exact ⟨_, _, c1, c2, h1.blk.frozen 3, _, c3⟩
theorem RDk.fuses (h : RDk w base l d) (n : Int) (hn : n ≤ 9223372036854775807) : RDk (w.setCell ⟨l.g, 3, none⟩ (.int .i64 (max n (-1)))) base l (fuseD d n) := by
  obtain ⟨r, h1, h2⟩ := h
  have hB := h1.blk.set_ 3 (.int .i64 (max n (-1)))
  simp only [List.setIfInBounds_toArray, List.set_cons_zero, List.set_cons_succ] at hB
  exact ⟨_, h1.turn r.off (max n (-1)) (by omega) (grownBy_set w l.g 3 _) hB, h2.fuses n⟩
theorem RefD.writes (h : RefD d r) (a : Int) (b : List UInt8) : RefD (writeD d a b) (writeR r a b) ∧ writeRE r a = writeE d a := by
  unfold writeD writeR writeRE writeE burnB
  rw [h.off, h.fuse]
  by_cases hr : readyE d.off a = 0
  · rw [if_pos hr, if_pos hr, if_pos hr, if_pos hr]
    refine ⟨(h.put a b).burn, ?_⟩
    by_cases hf : d.fuse = 0
    · simp [hf]
    · simp [hf]
  · rw [if_neg hr, if_neg hr, if_neg hr, if_neg hr]
    exact ⟨h, rfl⟩
theorem RefD.syncs (h : RefD d r) : RefD (syncAll d) (syncR r) ∧ syncRE r = syncE d := by
  unfold syncAll syncR syncRE syncE burnB
  rw [h.off, h.fuse]
  by_cases ho : d.off = true
  · simp only [ho, if_true]
    exact ⟨h, trivial⟩
  · simp only [ho]
    by_cases hf : d.fuse = 0
    · simp only [hf, decide_true, if_true]
      exact ⟨h.burn, trivial⟩
    · simp only [hf, decide_false]
      have h1 := h.burn.sync
      rw [(burnR_soft r).1, (burnR_soft r).2] at h1
      exact ⟨h1, rfl⟩
theorem RefD.ons (h : RefD d r) (ps : List UInt8) : RefD (onAll d ps) (onR r ps) ∧ onRE r = onE d := by
  unfold onAll onR onRE onE
  rw [h.off]
  by_cases ho : d.off = true
  · simp only [ho, if_true]
    exact ⟨h.on ps, trivial⟩
  · simp only [ho]
    exact ⟨h, trivial⟩
end
theorem rgnew (w : World) : Calls Tryz.prog 7 #[] w fun e w' => ∃ l : RL, e = .returned (.pointer (some ⟨l.g, 0, none⟩)) ∧ RDk w' w.heap.size l ds0 ∧ l.g = w.heap.size ∧ Below w.heap.size w w' := by
  refine (rnew_any w).mono ?_
  rintro e w' ⟨l, h1, h2, h3, h4⟩
  exact ⟨l, h1, ⟨rs0, h2, refD0⟩, h3, h4⟩
section
variable (w : World) (base : Nat) (g : Nat) (l : RL) (d : DS) (h : RDk w base l d) (hg : l.g = g)
include h hg
theorem rgread (a : Int) : Calls Tryz.prog 53 #[.pointer (some ⟨g, 0, none⟩), .int .i64 a] w fun e w' => e = .returned (.tuple #[.agg (bvs (readB d a)).toArray, .int .i64 (readE d a)]) ∧ Below w.heap.size w w' := by
  subst hg
  obtain ⟨r, h1, h2⟩ := h
  rw [(h2.reads a).1, (h2.reads a).2]
  exact rread_any w base l r h1 a
theorem rgoff : Calls Tryz.prog 17 #[.pointer (some ⟨g, 0, none⟩)] w fun e w' => ∃ l', e = .returned (.tuple #[]) ∧ l'.g = g ∧ RDk w' base l' (offD d) ∧ RMoved w w' l l' := by
  subst hg
  obtain ⟨r, h1, h2⟩ := h
  refine (roff_any w base l r h1).mono ?_
  rintro e w' ⟨k1, k2, k3⟩
  exact ⟨l, k1, rfl, ⟨_, k2, h2.offs⟩, RMoved.of_grown k3⟩
theorem rgwrite (hbase : base ≤ w.heap.size) (a : Int) (b : List UInt8) (hb : b.length = 128) (hlo : d.loose.length < 1000000000) : Calls Tryz.prog 57 #[.pointer (some ⟨g, 0, none⟩), .int .i64 a, .agg (bvs b).toArray] w fun e w' => ∃ l', e = .returned (.int .i64 (writeE d a)) ∧ l'.g = g ∧ RDk w' base l' (writeD d a b) ∧ RMoved w w' l l' := by
  subst hg
  obtain ⟨r, h1, h2⟩ := h
  obtain ⟨h3, h4⟩ := h2.writes a b
  rw [← h4]
  refine (rwrite_any w base l r h1 hbase a b hb (by rw [h2.len]; exact hlo)).mono ?_
  rintro e w' ⟨l', k1, k2, k3⟩
  exact ⟨l', k1, k3.g, ⟨_, k2, h3⟩, k3⟩
theorem rgsync (hbase : base ≤ w.heap.size) : Calls Tryz.prog 29 #[.pointer (some ⟨g, 0, none⟩)] w fun e w' => ∃ l', e = .returned (.int .i64 (syncE d)) ∧ l'.g = g ∧ RDk w' base l' (syncAll d) ∧ RMoved w w' l l' := by
  subst hg
  obtain ⟨r, h1, h2⟩ := h
  obtain ⟨h3, h4⟩ := h2.syncs
  rw [← h4]
  refine (rsync_any w base l r h1 hbase).mono ?_
  rintro e w' ⟨l', k1, k2, k3⟩
  exact ⟨l', k1, k3.g, ⟨_, k2, h3⟩, k3⟩
theorem rgon (hbase : base ≤ w.heap.size) (A' : Option Addr) (m c' : Nat) (ps : List UInt8) (hr : RB w A' m ps) (hap : m ≠ 0 → ∀ x, A'.map (·.block) = some x → ¬ l.fp x) : Calls Tryz.prog 19 #[.pointer (some ⟨g, 0, none⟩), .slice A' m c'] w fun e w' => ∃ l', e = .returned (.int .i64 (onE d)) ∧ l'.g = g ∧ RDk w' base l' (onAll d ps) ∧ RMoved w w' l l' := by
  subst hg
  obtain ⟨r, h1, h2⟩ := h
  obtain ⟨h3, h4⟩ := h2.ons ps
  rw [← h4]
  refine (ron_any w base l r h1 hbase A' m c' ps hr hap).mono ?_
  rintro e w' ⟨l', k1, k2, k3⟩
  exact ⟨l', k1, k3.g, ⟨_, k2, h3⟩, k3⟩
end
/-- Both disks, side by side, that go with one d. -/
structure Two (w : World) (base : Nat) (l : DL) (L : RL) (d : DS) : Prop where
  p : DiskAt w base l d
  r : RDk w base L d
  x : ∀ x, l.fp x → ¬ L.fp x
section
variable {w w' : World} {base : Nat} {l l' : DL} {L L' : RL} {d d' : DS}
theorem Two.below (h : Two w base l L d) (hb : Below w.heap.size w w') : Two w' base l L d := ⟨h.p.below hb, h.r.below hb, h.x⟩
/-- The program's has moved. -/
theorem Two.left (h : Two w base l L d) (hm : Moved w w' l l') (hD : DiskAt w' base l' d') : DiskAt w' base l' d' ∧ RDk w' base L d ∧ ∀ x, l'.fp x → ¬ L.fp x :=
  ⟨hD, h.r.kept hm.chg (fun x hx hf => h.x x hf hx), fun x hx hf => by
    rcases hm.fp x hx with h1 | h1
    · exact h.x x h1 hf
    · have := (h.r.fp_lt hf).2
      omega⟩
/-- The document's has moved behind it. -/
theorem Two.right (h : DiskAt w base l d' ∧ RDk w base L d ∧ ∀ x, l.fp x → ¬ L.fp x) (hm : RMoved w w' L L') (hR : RDk w' base L' d') : Two w' base l L' d' :=
  ⟨h.1.kept hm.chg (fun x hx hf => h.2.2 x hx hf), hR, fun x hx hf => by
    rcases hm.fp x hf with h1 | h1
    · exact h.2.2 x hx h1
    · have := (h.1.fp_lt hx).2
      omega⟩
end
end Go.Proofs.YtmjdfajdompkeaaGreatDoor
