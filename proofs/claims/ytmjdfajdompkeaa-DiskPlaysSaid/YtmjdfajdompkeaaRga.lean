/- The document's disk in memory. -/
import Derived.Test.YtmjdfajdompkeaaRfa
namespace Go.Proofs.Ytmjdfajdompkeaa
open Go.RowKit Go.Rat
def rwC (x : RW) : List Value := .int .i64 x.at_ :: (bvs x.b ++ [.bool x.lost])
def rwsC (l : List RW) : List Value := l.flatMap rwC
def RWok (x : RW) : Prop := (0 ≤ x.at_ ∧ x.at_ < 32768) ∧ x.b.length = 128
theorem rwC_length {x : RW} (h : x.b.length = 128) : (rwC x).length = 130 := by
  rw [rwC, List.length_cons, List.length_append, bvs_length, h]; rfl
theorem rwC_one (x : RW) : ∀ v ∈ rwC x, v.oneCell' = true := by
  intro v hv
  rw [rwC] at hv
  rcases List.mem_cons.1 hv with rfl | hv
  · rfl
  · rcases List.mem_append.1 hv with hv | hv
    · exact bvs_one _ v hv
    · rw [List.mem_singleton] at hv
      subst hv
      rfl
theorem rwsC_length : ∀ {l : List RW}, (∀ x ∈ l, x.b.length = 128) → (rwsC l).length = l.length * 130
  | [], _ => rfl
  | x :: l, h => by
    have h1 : rwsC (x :: l) = rwC x ++ rwsC l := by simp [rwsC]
    rw [h1, List.length_append, rwC_length (h x (by simp)), rwsC_length (fun y hy => h y (by simp [hy])), List.length_cons]
    omega
theorem rwsC_snoc (l : List RW) (x : RW) : rwsC (l ++ [x]) = rwsC l ++ rwC x := by simp [rwsC]
theorem rwsC_at (l : List RW) (hl : ∀ x ∈ l, x.b.length = 128) : ∀ k, (hk : k < l.length) → ((rwsC l).drop (k * 130)).take 130 = rwC l[k] := by
  induction l with
  | nil => intro k hk; simp at hk
  | cons x l ih =>
    intro k hk
    have hx : (rwC x).length = 130 := rwC_length (hl x (by simp))
    have hc : rwsC (x :: l) = rwC x ++ rwsC l := by simp [rwsC]
    cases k with
    | zero => rw [hc, Nat.zero_mul, List.drop_zero, ← hx, List.take_left]; rfl
    | succ k =>
      rw [hc, show (k + 1) * 130 = (rwC x).length + k * 130 by rw [hx]; omega, List.drop_append]
      rw [List.drop_of_length_le (by omega), List.nil_append, Nat.add_sub_cancel_left]
      exact ih (fun x hx => hl x (by simp [hx])) k (by simpa using hk)
/-- Where the document's disk lies. -/
structure RL where
  g : Nat
  A1 : Option Addr
  c1 : Nat
  A2 : Option Addr
  c2 : Nat
def RL.fp (l : RL) (x : Nat) : Prop := x = l.g ∨ l.A1.map (·.block) = some x ∨ l.A2.map (·.block) = some x
structure ROk (r : RS) : Prop where
  sure : ∀ x ∈ r.sure, RWok x
  soft : ∀ x ∈ r.soft, RWok x
  fuse : -1 ≤ r.fuse ∧ r.fuse ≤ 9223372036854775807
  nod : Nod r.sure
/-- A row of writes of the document's disk. -/
def RWs (w : World) (base : Nat) (A : Option Addr) (c : Nat) (l : List RW) : Prop := w.ownsRow base 114 130 (.slice A l.length c) l.length (rwsC l)
/-- No more places than sectors. -/
theorem pig : ∀ (n : Nat) (l : List Int), l.Pairwise (fun x y => x ≠ y) → (∀ x ∈ l, 0 ≤ x ∧ x < (n : Int)) → l.length ≤ n
  | 0, l, _, h => by
    cases l with
    | nil => exact Nat.le_refl _
    | cons x l => have := h x (by simp); omega
  | n + 1, l, hp, h => by
    have h1 := pig n (l.filter (fun x => decide (x ≠ (n : Int)))) (hp.filter _) (fun x hx => by
      rw [List.mem_filter] at hx
      have := h x hx.1
      have h2 : x ≠ (n : Int) := by simpa using hx.2
      omega)
    have h2 : l.length ≤ (l.filter (fun x => decide (x ≠ (n : Int)))).length + 1 := by
      clear h h1
      induction l with
      | nil => simp
      | cons x l ih =>
        rw [List.pairwise_cons] at hp
        by_cases hx : x = (n : Int)
        · have h3 : l.filter (fun x => decide (x ≠ (n : Int))) = l := by
            rw [List.filter_eq_self]
            intro y hy
            have := hp.1 y hy
            simp; omega
          rw [List.filter_cons, h3]
          simp [hx]
        · rw [List.filter_cons]
          simp only [hx, ne_eq, not_false_eq_true, decide_true, if_true, List.length_cons]
          have := ih hp.2
          simp only [ne_eq] at this
          omega
    omega
theorem ROk.sure_len {r : RS} (h : ROk r) : r.sure.length ≤ 32768 := by
  have := pig 32768 (r.sure.map (·.at_)) (by rw [List.pairwise_map]; exact h.nod) (fun x hx => by
    obtain ⟨y, hy, rfl⟩ := List.mem_map.1 hx
    exact (h.sure y hy).1)
  rwa [List.length_map] at this
theorem lastL_app (l1 l2 : List RW) (a : Int) : lastL (l1 ++ l2) a = match lastL l2 a with
    | some x => some x
    | none => lastL l1 a := by
  unfold lastL
  rw [List.reverse_append, List.find?_append]
  cases l2.reverse.find? fun x => decide (x.at_ = a) <;> rfl
theorem lastL_at {l : List RW} {k : Nat} (hk : k < l.length) {a : Int} (hn : ∀ x ∈ l.drop (k + 1), x.at_ ≠ a) (h : l[k].at_ = a) : lastL l a = some l[k] := by
  have h1 : l = l.take k ++ (l[k] :: l.drop (k + 1)) := by rw [← List.drop_eq_getElem_cons hk, List.take_append_drop]
  have h2 : lastL (l.take k ++ (l[k] :: l.drop (k + 1))) a = some l[k] := by
    rw [lastL_app, lastL_cons, lastL_none hn]
    simp [h]
  rw [← h1] at h2
  exact h2
theorem lastL_mem {l : List RW} {a : Int} {x : RW} (h : lastL l a = some x) : x ∈ l ∧ x.at_ = a := by
  unfold lastL at h
  have h1 := List.mem_of_find?_eq_some h
  have h2 := List.find?_some h
  exact ⟨by simpa using h1, by simpa using h2⟩
def zrw : RW := ⟨0, zs, false⟩
def lastV (l : List RW) (a : Int) : RW := (lastL l a).getD zrw
structure RefAt (w : World) (base : Nat) (l : RL) (r : RS) : Prop where
  blk : Blk w l.g 51 #[.slice l.A1 r.sure.length l.c1, .slice l.A2 r.soft.length l.c2, .bool r.off, .int .i64 r.fuse]
  row1 : RWs w base l.A1 l.c1 r.sure
  row2 : RWs w base l.A2 l.c2 r.soft
  n1 : l.A1.map (·.block) ≠ some l.g
  n2 : l.A2.map (·.block) ≠ some l.g
  n12 : ∀ x, l.A1.map (·.block) = some x → l.A2.map (·.block) ≠ some x
  bg : base ≤ l.g
  ok : ROk r
theorem RWs.lt {w : World} {base c : Nat} {A : Option Addr} {l : List RW} (h : RWs w base A c l) : ∀ x, A.map (·.block) = some x → base ≤ x ∧ x < w.heap.size := fun x hx =>
  World.ownsRow.lt h x (by cases hA : A <;> simp_all [Value.ownBlock])
section
variable {w w' : World} {base : Nat} {l l' : RL} {r : RS} {F : Nat → Prop}
theorem RefAt.fp_lt (h : RefAt w base l r) {x : Nat} (hx : l.fp x) : base ≤ x ∧ x < w.heap.size := by
  rcases hx with rfl | hx | hx
  · exact ⟨h.bg, h.blk.lt⟩
  · exact h.row1.lt x hx
  · exact h.row2.lt x hx
theorem RefAt.kept (h : RefAt w base l r) (hc : Chg F w w') (hF : ∀ x, l.fp x → ¬ F x) : RefAt w' base l r :=
  ⟨hc.blk h.blk (hF _ (.inl rfl)), hc.own h.row1 (fun x hx => hF x (.inr (.inl hx))), hc.own h.row2 (fun x hx => hF x (.inr (.inr hx))), h.n1, h.n2, h.n12, h.bg, h.ok⟩
theorem RefAt.below (h : RefAt w base l r) (hb : Below w.heap.size w w') : RefAt w' base l r :=
  h.kept (Chg.of_below (fun _ => False) hb) (fun _ _ hf => hf)
end
/-- The document's disk has moved on: its own blocks alone have turned, others of its own may have come. -/
structure RMoved (w w' : World) (l l' : RL) : Prop where
  g : l'.g = l.g
  chg : Chg l.fp w w'
  fp : ∀ x, l'.fp x → l.fp x ∨ w.heap.size ≤ x
theorem RMoved.refl (w : World) (l : RL) : RMoved w w l l := ⟨rfl, Chg.refl _ _, fun _ h => .inl h⟩
theorem RMoved.trans {a b c : World} {l m n : RL} (h : RMoved a b l m) (k : RMoved b c m n) : RMoved a c l n :=
  ⟨k.g.trans h.g, h.chg.trans k.chg h.fp, fun x hx => by
    rcases k.fp x hx with h1 | h1
    · exact h.fp x h1
    · exact .inr (Nat.le_trans h.chg.size h1)⟩
theorem RMoved.of_below {w w' : World} {l : RL} (h : Below w.heap.size w w') : RMoved w w' l l := ⟨rfl, Chg.of_below _ h, fun _ h => .inl h⟩
theorem RMoved.of_grown {w w' : World} {l : RL} (h : w.grownBy w' (some l.g)) : RMoved w w' l l := ⟨rfl, Chg.of_grown h (.inl rfl), fun _ h => .inl h⟩
theorem r130 : (Try.prog.info? 114).map (·.size) = some 130 := by kernel_rfl
theorem zr130 : Try.zeroCells114 = (rwC ⟨0, zs, false⟩).toArray := by kernel_rfl
/-- The block of a row of writes, and where the k-th lies. -/
theorem RWs.at_ {w : World} {base c : Nat} {A : Option Addr} {l : List RW} (h : RWs w base A c l) (ok : ∀ x ∈ l, RWok x) {k : Nat} (hk : k < l.length) :
    ∃ (g : Nat) (L : List Value), A = some ⟨g, 0, none⟩ ∧ Blk w g 114 L.toArray ∧ (L.drop (k * 130)).take 130 = rwC l[k] ∧ l.length * 130 ≤ L.length := by
  have hlen := rwsC_length (l := l) (fun x hx => (ok x hx).2)
  rcases h.2 with ⟨h1, h2⟩ | ⟨g, cap, cur, hv, hb, hg, hnc, hm, hcs, ht⟩
  · omega
  · injection hv with h3 h4 h5
    have hle : (k + 1) * 130 ≤ l.length * 130 := Nat.mul_le_mul_right _ hk
    refine ⟨g, cur.toList, h3, hg, ?_, ?_⟩
    · have := rwsC_at l (fun x hx => (ok x hx).2) k hk
      rw [← ht, List.drop_take, List.take_take, Nat.min_eq_left (by omega)] at this
      exact this
    · have := congrArg List.length ht
      rw [hlen, List.length_take] at this
      omega
end Go.Proofs.Ytmjdfajdompkeaa
