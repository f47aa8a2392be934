/- usig: what a counter is; replica, numbered. -/
import Derived.Test.YtmjdfajdompkeaaDoorUc
import Derived.Test.YtmjdfajdompkeaaDoorUh
namespace Go.Proofs.YtmjdfajdompkeaaDoor
open Go.RowKit Go.Rat
/-- A counter: its replica, its last number and bytes, its cell. -/
structure US where
  i : Int
  n : Nat
  b : List UInt8
  c : CS
/-- A counter beside its disk; its cell's place. -/
structure UsigAt (w : World) (base : Nat) (l : DL) (k kc : Nat) (s : US) : Prop where
  blk : ∃ A N c, Blk w k 85 #[.pointer (some ⟨kc, 0, none⟩), .int .i64 s.i, .int .u64 (s.n : Int), .slice A N c] ∧ OB 5 w base A N c s.b ∧ (∀ x, A.map (·.block) = some x → ¬ l.fp x)
  cell : CellAt w base l kc s.c
  ne : k ≠ kc
  out : ¬ l.fp k
  bk : base ≤ k
  n_ : s.n ≤ 65536
  b_ : s.b.length ≤ 1024
theorem usig_ne8 : (85 : TypeId) ≠ 5 := by decide
theorem usig_neC : (85 : TypeId) ≠ 76 := by decide
theorem blk_type_ne {w : World} {g k : Nat} {T U : TypeId} {cs ds : Array Value} (h : Blk w g T cs) (q : Blk w k U ds) (hne : T ≠ U) : g ≠ k := by
  rintro rfl
  have : some (Obj.cells cs T (0, 0)) = some (Obj.cells ds U (0, 0)) := (show w.heap[g]? = _ from h).symm.trans q
  injection this with this
  injection this with _ e
  exact hne e
section
variable {w w' : World} {base : Nat} {l l' : DL} {k kc : Nat} {s : US}
theorem UsigAt.lt (h : UsigAt w base l k kc s) : k < w.heap.size := by
  obtain ⟨_, _, _, h1, _⟩ := h.blk
  exact h1.lt
/-- Others' blocks have turned: the disk's own, and such of other types. -/
theorem UsigAt.kept {F : Nat → Prop} (h : UsigAt w base l k kc s) (hc : Chg F w w') (hk : ¬ F k) (hkc : ¬ F kc) (hF : ∀ x, F x → l.fp x ∨ ∃ T cs, Blk w x T cs ∧ T ≠ 5) (hg : l'.g = l.g) (hfp : ∀ x, l'.fp x → l.fp x ∨ w.heap.size ≤ x) : UsigAt w' base l' k kc s := by
  obtain ⟨A, N, c, h1, h2, h3⟩ := h.blk
  have hA : ∀ x, A.map (·.block) = some x → ¬ F x := fun x hx hf => by
    rcases hF x hf with h4 | ⟨T, cs, h4, h5⟩
    · exact h3 x hx h4
    · exact OB_ne h2 h4 h5 hx
  refine ⟨⟨A, N, c, hc.blk h1 hk, hc.own h2 hA, fun x hx hf => ?_⟩, h.cell.kept hc hkc hF hg hfp, h.ne, fun hf => ?_, h.bk, h.n_, h.b_⟩
  · rcases hfp x hf with h6 | h6
    · exact h3 x hx h6
    · have := (h2.ge x hx).2
      omega
  · rcases hfp k hf with h6 | h6
    · exact h.out h6
    · have := h1.lt
      omega
/-- The disk alone has moved. -/
theorem UsigAt.moved (h : UsigAt w base l k kc s) (hm : Moved w w' l l') : UsigAt w' base l' k kc s :=
  h.kept hm.chg h.out h.cell.out (fun _ hx => .inl hx) (congrArg Prod.fst hm.g) hm.fp
theorem UsigAt.below (h : UsigAt w base l k kc s) (hb : Below w.heap.size w w') : UsigAt w' base l k kc s := h.moved (Moved.of_below hb)
/-- A disk, a counter and its cell have moved on. -/
structure UMoved (w w' : World) (l l' : DL) (k kc : Nat) : Prop where
  g : (l'.g, l'.gs, l'.gn) = (l.g, l.gs, l.gn)
  chg : Chg (fun x => l.fp x ∨ x = k ∨ x = kc) w w'
  fp : ∀ x, l'.fp x → l.fp x ∨ w.heap.size ≤ x
/-- Another counter beside it. -/
theorem UsigAt.beside {k2 kc2 : Nat} {s2 : US} (h : UsigAt w base l k2 kc2 s2) (q : UsigAt w base l k kc s) (hm : UMoved w w' l l' k kc) (hk : k2 ≠ k) (hkc : kc2 ≠ kc) : UsigAt w' base l' k2 kc2 s2 := by
  obtain ⟨_, _, _, b1, _⟩ := q.blk
  obtain ⟨_, _, _, b2, _⟩ := q.cell.blk
  obtain ⟨_, _, _, c1, _⟩ := h.blk
  obtain ⟨_, _, _, c2, _⟩ := h.cell.blk
  refine h.kept hm.chg ?_ ?_ (fun x hx => ?_) (congrArg Prod.fst hm.g) hm.fp
  · rintro (e | e | e)
    · exact h.out e
    · exact hk e
    · exact (blk_type_ne c1 b2 usig_neC) e
  · rintro (e | e | e)
    · exact h.cell.out e
    · exact (blk_type_ne b1 c2 usig_neC) e.symm
    · exact hkc e
  · rcases hx with hx | rfl | rfl
    · exact .inl hx
    · exact .inr ⟨_, _, b1, usig_ne8⟩
    · exact .inr ⟨_, _, b2, cell_ne8⟩
theorem base_umoved {w0 a b : World} {d : DS} (h : Below w0.heap.size w0 a ∧ base ≤ a.heap.size) (hw : w0.heap.size ≤ base) (hD : DiskAt a base l d) (hU : UsigAt a base l k kc s) (hm : UMoved a b l l' k kc) : Below w0.heap.size w0 b ∧ base ≤ b.heap.size := by
  refine ⟨h.1.trans (hm.chg.below (fun x hx => ?_) h.1.size), Nat.le_trans h.2 hm.chg.size⟩
  rcases hx with hx | rfl | rfl
  · exact Nat.le_trans hw (hD.fp_lt hx).1
  · exact Nat.le_trans hw hU.bk
  · exact Nat.le_trans hw hU.cell.bk
end
/-- Is there a replica of that number? -/
def repB (i : Int) : Bool := decide (1 ≤ i ∧ i ≤ 11)
def numB (n : Nat) : Bool := decide (1 ≤ n ∧ n ≤ 65536)
theorem repK_len (n : Nat) (tb : List Int) (i : Int) : (H.repK n tb i).length = if repB i = true then 32 else 0 := by
  rw [H.repK, repB]
  by_cases h : 1 ≤ i ∧ i ≤ 11
  · rw [if_pos h, decide_eq_true h, if_pos rfl]
    exact H.digest_length _ _ _
  · rw [if_neg h, decide_eq_false h]
    rfl
theorem ureplica_any (n : Nat) (hn64 : n = 64) (w : World) (i : Int) (tb : List Int) (hT : H.Tab w tb) : Calls Tryd.prog 29 #[.int .i64 i] w fun e w' => e = .returned (.bool (repB i)) ∧ Below w.heap.size w w' := by
  have hl := repK_len n tb i
  obtain ⟨v, hv⟩ : ∃ v, repB i = v := ⟨_, rfl⟩
  rw [hv] at hl ⊢
  clear hv
  go_enter Tryd.func29, Tryd.ntmps29
  go_wp2_with fail
  refine (H.replica_any n hn64 w i tb hT).mono ?_
  rintro e w2 ⟨A, m, c, rfl, _, _, hlen, _, hb⟩
  rw [hl] at hlen
  simp only []
  cases v
  · obtain rfl : m = 0 := by simpa using hlen.symm
    go_wp2_with fail
    go_ret
    exact ⟨rfl, hb⟩
  · obtain rfl : m = 32 := by simpa using hlen.symm
    go_wp2_with fail
    go_ret
    exact ⟨rfl, hb⟩
theorem unumbered_any (w : World) (n : Nat) : Calls Tryd.prog 30 #[.int .u64 (n : Int)] w fun e w' => e = .returned (.bool (numB n)) ∧ w = w' := by
  rw [numB]
  by_cases h1 : 1 ≤ n
  · have g1 : (1 : Int) ≤ (n : Int) := by omega
    by_cases h2 : n ≤ 65536
    · have g2 : (n : Int) ≤ 65536 := by omega
      rw [decide_eq_true ⟨h1, h2⟩]
      clear h1 h2
      go_enter Tryd.func30, Tryd.ntmps30
      go_wp2_with fail
      go_ret
      exact ⟨rfl, rfl⟩
    · have g2 : ¬ (n : Int) ≤ 65536 := by omega
      rw [decide_eq_false (fun h => h2 h.2)]
      clear h1 h2
      go_enter Tryd.func30, Tryd.ntmps30
      go_wp2_with fail
      go_ret
      exact ⟨rfl, rfl⟩
  · have g1 : ¬ (1 : Int) ≤ (n : Int) := by omega
    rw [decide_eq_false (fun h => h1 h.1)]
    clear h1
    go_enter Tryd.func30, Tryd.ntmps30
    go_wp2_with fail
    go_ret
    exact ⟨rfl, rfl⟩
theorem uformat_any (w : World) (base : Nat) (l : DL) (d : DS) (hD : DiskAt w base l d) (g : Nat) (hg : l.g = g) (hbase : base ≤ w.heap.size) (hlo : d.loose.length < 800000000) (p : Int) (hp : 0 ≤ p ∧ p + 20 ≤ 32768) :
    Calls Tryd.prog 14 #[.pointer (some ⟨g, 0, none⟩), .int .i64 p] w fun e w' => ∃ l', e = .returned (.int .i64 (fmF d p).2) ∧ l'.g = g ∧ DiskAt w' base l' (fmF d p).1 ∧ Moved w w' l l' := by
  go_enter Tryd.func14, Tryd.ntmps14
  go_wp2_with fail
  refine (cformat_any w base l d hD g hg hbase hlo p hp).mono ?_
  rintro e w2 ⟨l', rfl, h1, h2, h3⟩
  simp only []
  go_wp2_with fail
  go_ret
  first | exact ⟨l', rfl, h1, h2, h3⟩ | exact ⟨rfl, l', h1, h2, h3⟩
theorem uformat_nil (w : World) (p : Int) : Calls Tryd.prog 14 #[.pointer none, .int .i64 p] w fun e w' => e = .returned (.int .i64 2) ∧ Below w.heap.size w w' := by
  go_enter Tryd.func14, Tryd.ntmps14
  go_wp2_with fail
  refine (cformat_nil w p).mono ?_
  rintro e w2 ⟨rfl, hb⟩
  simp only []
  go_wp2_with fail
  go_ret
  exact ⟨rfl, hb⟩
/-- What the bytes of a cell say: a number and bytes; none: they are spoilt. -/
def usigF (has : List UInt8) : Option (Nat × List UInt8) :=
  if has.length = 0 then some (0, []) else if has.length < 8 ∨ numB (num (has.take 8)) = false ∨ 1032 < has.length then none else some (num (has.take 8), has.drop 8)
def newE (i : Int) (d : DS) (p : Int) : Int := if repB i = false then 1 else if opE d p ≠ 0 then opE d p else if usigF (opF d p).2 = none then 9 else 0
end Go.Proofs.YtmjdfajdompkeaaDoor
