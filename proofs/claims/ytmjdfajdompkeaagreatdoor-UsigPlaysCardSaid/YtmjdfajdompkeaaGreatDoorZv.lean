/- usig: what a counter is; replica, numbered. -/
import Derived.Test.YtmjdfajdompkeaaGreatDoorZc
import Derived.Test.YtmjdfajdompkeaaGreatDoorZh
import Derived.Test.YtmjdfajdompkeaaGreatDoorZg
namespace Go.Proofs.YtmjdfajdompkeaaGreatDoor
open Go.RowKit Go.Rat
/-- A counter: its replica, its last number and bytes, its cell. -/
structure US where
  i : Int
  n : Nat
  b : List UInt8
  c : CS
/-- A counter beside its disk; its cell's place. -/
structure UsigAt (w : World) (base : Nat) (l : DL) (k kc : Nat) (s : US) : Prop where
  blk : ∃ A N c, Blk w k 72 #[.pointer (some ⟨kc, 0, none⟩), .int .i64 s.i, .int .u64 (s.n : Int), .slice A N c] ∧ OB 5 w base A N c s.b ∧ (∀ x, A.map (·.block) = some x → ¬ l.fp x)
  cell : CellAt w base l kc s.c
  ne : k ≠ kc
  out : ¬ l.fp k
  bk : base ≤ k
  n_ : s.n ≤ 65536
  b_ : s.b.length ≤ 1024
theorem usig_ne8 : (72 : TypeId) ≠ 5 := by decide
theorem usig_neC : (72 : TypeId) ≠ 101 := by decide
theorem blk_type_ne {w : World} {g k : Nat} {T U : TypeId} {cs ds : Array Value} (h : Blk w g T cs) (q : Blk w k U ds) (hne : T ≠ U) : g ≠ k := by
  rintro rfl
  have : some (Obj.cells cs T (0, 0)) = some (Obj.cells ds U (0, 0)) := (show w.heap[g]? = _ from h).symm.trans q
  injection this with this
  injection this with _ e
  exact hne e
section
variable {w w' : World} {base : Nat} {l l' : DL} {k kc : Nat} {s : US}
theorem UsigAt.lt (h : UsigAt w base l k kc s) : k < w.heap.size := by
  obtain ⟨_, _, _, h1, _⟩ := h.blk
  exact h1.lt
/-- Others' blocks have turned: the disk's own, and such of other types. -/
theorem UsigAt.kept {F : Nat → Prop} (h : UsigAt w base l k kc s) (hc : Chg F w w') (hk : ¬ F k) (hkc : ¬ F kc) (hF : ∀ x, F x → l.fp x ∨ ∃ T cs, Blk w x T cs ∧ T ≠ 5) (hg : l'.g = l.g) (hfp : ∀ x, l'.fp x → l.fp x ∨ w.heap.size ≤ x) : UsigAt w' base l' k kc s := by
  obtain ⟨A, N, c, h1, h2, h3⟩ := h.blk
  have hA : ∀ x, A.map (·.block) = some x → ¬ F x := fun x hx hf => by
    rcases hF x hf with h4 | ⟨T, cs, h4, h5⟩
    · exact h3 x hx h4
    · exact OB_ne h2 h4 h5 hx
  refine ⟨⟨A, N, c, hc.blk h1 hk, hc.own h2 hA, fun x hx hf => ?_⟩, h.cell.kept hc hkc hF hg hfp, h.ne, fun hf => ?_, h.bk, h.n_, h.b_⟩
  · rcases hfp x hf with h6 | h6
    · exact h3 x hx h6
    · have := (h2.ge x hx).2
      omega
  · rcases hfp k hf with h6 | h6
    · exact h.out h6
    · have := h1.lt
      omega
/-- The disk alone has moved. -/
theorem UsigAt.moved (h : UsigAt w base l k kc s) (hm : Moved w w' l l') : UsigAt w' base l' k kc s :=
  h.kept hm.chg h.out h.cell.out (fun _ hx => .inl hx) (congrArg Prod.fst hm.g) hm.fp
theorem UsigAt.below (h : UsigAt w base l k kc s) (hb : Below w.heap.size w w') : UsigAt w' base l k kc s := h.moved (Moved.of_below hb)
/-- A disk, a counter and its cell have moved on. -/
structure UMoved (w w' : World) (l l' : DL) (k kc : Nat) : Prop where
  g : (l'.g, l'.gs, l'.gn) = (l.g, l.gs, l.gn)
  chg : Chg (fun x => l.fp x ∨ x = k ∨ x = kc) w w'
  fp : ∀ x, l'.fp x → l.fp x ∨ w.heap.size ≤ x
/-- Another counter beside it. -/
theorem UsigAt.beside {k2 kc2 : Nat} {s2 : US} (h : UsigAt w base l k2 kc2 s2) (q : UsigAt w base l k kc s) (hm : UMoved w w' l l' k kc) (hk : k2 ≠ k) (hkc : kc2 ≠ kc) : UsigAt w' base l' k2 kc2 s2 := by
  obtain ⟨_, _, _, b1, _⟩ := q.blk
  obtain ⟨_, _, _, b2, _⟩ := q.cell.blk
  obtain ⟨_, _, _, c1, _⟩ := h.blk
  obtain ⟨_, _, _, c2, _⟩ := h.cell.blk
  refine h.kept hm.chg ?_ ?_ (fun x hx => ?_) (congrArg Prod.fst hm.g) hm.fp
  · rintro (e | e | e)
    · exact h.out e
    · exact hk e
    · exact (blk_type_ne c1 b2 usig_neC) e
  · rintro (e | e | e)
    · exact h.cell.out e
    · exact (blk_type_ne b1 c2 usig_neC) e.symm
    · exact hkc e
  · rcases hx with hx | rfl | rfl
    · exact .inl hx
    · exact .inr ⟨_, _, b1, usig_ne8⟩
    · exact .inr ⟨_, _, b2, cell_ne8⟩
theorem base_umoved {w0 a b : World} {d : DS} (h : Below w0.heap.size w0 a ∧ base ≤ a.heap.size) (hw : w0.heap.size ≤ base) (hD : DiskAt a base l d) (hU : UsigAt a base l k kc s) (hm : UMoved a b l l' k kc) : Below w0.heap.size w0 b ∧ base ≤ b.heap.size := by
  refine ⟨h.1.trans (hm.chg.below (fun x hx => ?_) h.1.size), Nat.le_trans h.2 hm.chg.size⟩
  rcases hx with hx | rfl | rfl
  · exact Nat.le_trans hw (hD.fp_lt hx).1
  · exact Nat.le_trans hw hU.bk
  · exact Nat.le_trans hw hU.cell.bk
end
/-- Is there a replica of that number? -/
def repB (i : Int) : Bool := decide (1 ≤ i ∧ i ≤ 11)
def numB (n : Nat) : Bool := decide (1 ≤ n ∧ n ≤ 65536)
theorem repK_len (n : Nat) (tb : List Int) (i : Int) : (H.repK n tb i).length = if repB i = true then 32 else 0 := by
  rw [H.repK, repB]
  by_cases h : 1 ≤ i ∧ i ≤ 11
  · rw [if_pos h, decide_eq_true h, if_pos rfl]
    exact H.digest_length _ _ _
  · rw [if_neg h, decide_eq_false h]
    rfl
theorem ureplica_any (n : Nat) (hn64 : n = 64) (w : World) (i : Int) (tb : List Int) (hT : H.Tab w tb) : Calls Tryz.prog 30 #[.int .i64 i] w fun e w' => e = .returned (.bool (repB i)) ∧ Below w.heap.size w w' := by
  have hl := repK_len n tb i
  obtain ⟨v, hv⟩ : ∃ v, repB i = v := ⟨_, rfl⟩
  rw [hv] at hl ⊢
  clear hv
  go_enter Tryz.func30, Tryz.ntmps30
  go_wp2_with fail
  refine (H.replica_any n hn64 w i tb hT).mono ?_
  rintro e w2 ⟨A, m, c, rfl, _, _, hlen, _, hb⟩
  rw [hl] at hlen
  simp only []
  cases v
  · obtain rfl : m = 0 := by simpa using hlen.symm
    go_wp2_with fail
    go_ret
    exact ⟨rfl, hb⟩
  · obtain rfl : m = 32 := by simpa using hlen.symm
    go_wp2_with fail
    go_ret
    exact ⟨rfl, hb⟩
theorem unumbered_any (w : World) (n : Nat) : Calls Tryz.prog 37 #[.int .u64 (n : Int)] w fun e w' => e = .returned (.bool (numB n)) ∧ w = w' := by
  rw [numB]
  by_cases h1 : 1 ≤ n
  · have g1 : (1 : Int) ≤ (n : Int) := by omega
    by_cases h2 : n ≤ 65536
    · have g2 : (n : Int) ≤ 65536 := by omega
      rw [decide_eq_true ⟨h1, h2⟩]
      clear h1 h2
      go_enter Tryz.func37, Tryz.ntmps37
      go_wp2_with fail
      go_ret
      exact ⟨rfl, rfl⟩
    · have g2 : ¬ (n : Int) ≤ 65536 := by omega
      rw [decide_eq_false (fun h => h2 h.2)]
      clear h1 h2
      go_enter Tryz.func37, Tryz.ntmps37
      go_wp2_with fail
      go_ret
      exact ⟨rfl, rfl⟩
  · have g1 : ¬ (1 : Int) ≤ (n : Int) := by omega
    rw [decide_eq_false (fun h => h1 h.1)]
    clear h1
    go_enter Tryz.func37, Tryz.ntmps37
    go_wp2_with fail
    go_ret
    exact ⟨rfl, rfl⟩
theorem uformat_any (w : World) (base : Nat) (l : DL) (d : DS) (hD : DiskAt w base l d) (g : Nat) (hg : l.g = g) (hbase : base ≤ w.heap.size) (hlo : d.loose.length < 800000000) (p : Int) (hp : 0 ≤ p ∧ p + 20 ≤ 32768) :
    Calls Tryz.prog 8 #[.pointer (some ⟨g, 0, none⟩), .int .i64 p] w fun e w' => ∃ l', e = .returned (.int .i64 (fmF d p).2) ∧ l'.g = g ∧ DiskAt w' base l' (fmF d p).1 ∧ Moved w w' l l' := by
  go_enter Tryz.func8, Tryz.ntmps8
  go_wp2_with fail
  refine (cformat_any w base l d hD g hg hbase hlo p hp).mono ?_
  rintro e w2 ⟨l', rfl, h1, h2, h3⟩
  simp only []
  go_wp2_with fail
  go_ret
  first | exact ⟨l', rfl, h1, h2, h3⟩ | exact ⟨rfl, l', h1, h2, h3⟩
theorem uformat_nil (w : World) (p : Int) : Calls Tryz.prog 8 #[.pointer none, .int .i64 p] w fun e w' => e = .returned (.int .i64 2) ∧ Below w.heap.size w w' := by
  go_enter Tryz.func8, Tryz.ntmps8
  go_wp2_with fail
  refine (cformat_nil w p).mono ?_
  rintro e w2 ⟨rfl, hb⟩
  simp only []
  go_wp2_with fail
  go_ret
  exact ⟨rfl, hb⟩
/-- What the bytes of a cell say: a number and bytes; none: they are spoilt. -/
def usigF (has : List UInt8) : Option (Nat × List UInt8) :=
  if has.length = 0 then some (0, []) else if has.length < 8 ∨ numB (num (has.take 8)) = false ∨ 1032 < has.length then none else some (num (has.take 8), has.drop 8)
def newE (i : Int) (d : DS) (p : Int) : Int := if repB i = false then 1 else if opE d p ≠ 0 then opE d p else if usigF (opF d p).2 = none then 9 else 0
end Go.Proofs.YtmjdfajdompkeaaGreatDoor
namespace Go.Proofs.YtmjdfajdompkeaaGreatDoor
open Go.RowKit Go.Rat
theorem opE_may (d : DS) (p : Int) : opE d p = 0 ∨ opE d p = 8 ∨ opE d p = 9 := by
  unfold opE
  split
  · exact .inr (.inl rfl)
  · split
    · exact .inr (.inr rfl)
    · exact .inl rfl
/-- What New gives. -/
def NewRes (w w' : World) (base : Nat) (l : DL) (i : Int) (s : CS) (E : Int) (e : Ending) : Prop :=
  (E ≠ 0 ∧ e = .returned (.tuple #[.pointer none, .int .i64 E])) ∨
  (E = 0 ∧ ∃ k kc m b, e = .returned (.tuple #[.pointer (some ⟨k, 0, none⟩), .int .i64 0]) ∧ usigF s.b = some (m, b) ∧ UsigAt w' base l k kc ⟨i, m, b, s⟩ ∧ w.heap.size ≤ k ∧ w.heap.size ≤ kc)
set_option maxRecDepth 20000 in
set_option maxHeartbeats 8000000 in
theorem unew_any (n : Nat) (hn64 : n = 64) (w : World) (base : Nat) (l : DL) (d : DS) (hD : DiskAt w base l d) (g : Nat) (hg : l.g = g) (hbase : base ≤ w.heap.size) (i p : Int) (hp : 0 ≤ p ∧ p + 20 ≤ 32768) (tb : List Int) (hT : H.Tab w tb) :
    Calls Tryz.prog 10 #[.int .i64 i, .pointer (some ⟨g, 0, none⟩), .int .i64 p] w fun e w' => NewRes w w' base l i (openCell d p) (newE i d p) e ∧ Below w.heap.size w w' := by
  have hF : newE i d p = if repB i = false then 1 else if opE d p ≠ 0 then opE d p else if usigF (opF d p).2 = none then 9 else 0 := rfl
  obtain ⟨s, hs'⟩ : ∃ s, openCell d p = s := ⟨_, rfl⟩
  have hob : (opF d p).2 = s.b := by rw [← hs']; rfl
  rw [hs']
  rw [hob] at hF
  have HS := Lib.hid hs'
  obtain ⟨R, hR⟩ : ∃ R, newE i d p = R := ⟨_, rfl⟩
  rw [hR] at hF ⊢
  have hrep := ureplica_any n hn64 w i tb hT
  obtain ⟨E, hE⟩ : ∃ E, opE d p = E := ⟨_, rfl⟩
  have hop := copen_any
  rw [hE] at hF
  have HE := Lib.hid hE
  obtain ⟨v, hv⟩ : ∃ v, repB i = v := ⟨_, rfl⟩
  rw [hv] at hF hrep
  have HF := Lib.hid hF
  clear hF hR hv hE hop hs' hob
  go_enter Tryz.func10, Tryz.ntmps10
  go_wp2_with fail
  refine hrep.mono ?_
  rintro e w1 ⟨rfl, hb⟩
  have hD := hD.below hb
  have hs := hb.size
  simp only []
  cases v
  · obtain rfl : R = 1 := by have := HF.out; simpa using this
    go_wp2_with fail
    go_ret2
    exact ⟨Or.inl ⟨by decide, rfl⟩, hb⟩
  · go_wp2_with fail
    refine (copen_any w1 base l d hD g hg (by omega) p hp).mono ?_
    rw [HE.out, HS.out]
    rintro e w2 ⟨(⟨hne, rfl⟩ | ⟨he, kc, rfl, hC, hkc⟩), hb2⟩
    · have hne' : (E != 0) = true := by simpa using hne
      obtain rfl : R = E := by have := HF.out; simpa [hne] using this
      have hb := below_next' hb hb2
      simp only []
      go_wp2_with fail
      go_ret2
      exact ⟨Or.inl ⟨hne, rfl⟩, hb⟩
    · subst he
      have hb := below_next' hb hb2
      simp only []
      go_upto_region 9 with (fail)
      have hD2 := hD.below hb2
      have hU := Blk.new w2 72 #[.pointer (some ⟨kc, 0, none⟩), .int .i64 i, .int .u64 0, .slice none 0 0]
      have hb3 := below_alloc w2 (.cells #[.pointer (some ⟨kc, 0, none⟩), .int .i64 i, .int .u64 0, .slice none 0 0] 72)
      have hkf : ¬ l.fp w2.heap.size := fun hf => by have := (hD2.fp_lt hf).2; omega
      have hfpk : ∀ x, l.fp x → x < w2.heap.size := fun x hx => (hD2.fp_lt hx).2
      have hkc2 : w2.heap.size ≠ kc := by have := hC.lt; omega
      have hs2 : base ≤ w2.heap.size := by have := hb.size; omega
      have hws : w.heap.size ≤ w2.heap.size := hb.size
      have hC := hC.below hb3
      have hb := below_next' hb hb3
      obtain ⟨w3, hw3⟩ : ∃ x, w2.alloc (.cells #[.pointer (some ⟨kc, 0, none⟩), .int .i64 i, .int .u64 0, .slice none 0 0] 72) = x := ⟨_, rfl⟩
      rw [hw3] at hU hb3 hC hb ⊢
      obtain ⟨k, hk⟩ : ∃ x, w2.heap.size = x := ⟨_, rfl⟩
      rw [hk] at hU hkf hkc2 hs2 hws hfpk ⊢
      have hln := hC.len
      have HF2 : Hid (R = if usigF s.b = none then 9 else 0) := Lib.hid (by have := HF.out; simpa using this)
      clear hw3 hk HF hb2 hb3 hD2 hrep
      have c0 := hU.cell 0
      simp only [List.getElem?_toArray, List.getElem?_cons_zero] at c0
      go_wp2_with fail
      refine (cget_any w3 base l kc s hC).mono ?_
      rintro e w4 ⟨A, c, rfl, hO, hb4⟩
      have hU := hU.below hb4 hU.lt
      have hC := hC.below hb4
      have hb := below_next' hb hb4
      have hrd := hO.reads
      simp only []
      obtain ⟨has, hhas⟩ : ∃ x, s.b = x := ⟨_, rfl⟩
      rw [hhas] at hrd hO hln ⊢
      have HH := Lib.hid hhas
      clear hhas
      by_cases h0 : has.length = 0
      · have h0' : ((has.length : Nat) : Int) = 0 := by omega
        have hus : usigF has = some (0, []) := by rw [usigF, if_pos h0]
        obtain rfl : R = 0 := by have := HF2.out; rw [HH.out, hus] at this; simpa using this
        go_wp2_with fail
        go_ret2
        exact ⟨Or.inr ⟨rfl, k, kc, 0, [], rfl, by rw [HH.out]; exact hus, ⟨⟨none, 0, 0, hU, OB.nil_ _ _ _, by simp⟩, hC, hkc2, hkf, hs2, by simp, by simp⟩, hws, by omega⟩, hb⟩
      · have h0' : ¬ ((has.length : Nat) : Int) = 0 := by omega
        have hus : usigF has = if has.length < 8 ∨ numB (num (has.take 8)) = false ∨ 1032 < has.length then none else some (num (has.take 8), has.drop 8) := by rw [usigF, if_neg h0]
        have HUS := Lib.hid hus
        clear hus h0
        go_wp2_with fail
        refine (cnew_any w4 A _ c has hrd (by omega)).mono ?_
        rintro e w5 ⟨gc, gb, rfl, hCut, hg1, hg2, hg3, hb5⟩
        have hkw4 := hU.lt
        have hU4 := hU
        have hC4 := hC
        have hb4' := hb
        have hU := hU.below hb5 hU.lt
        have hkgc : k ≠ gc := by omega
        have hkgb : gb ≠ some k := fun e => by have := (hg3 k e).1; omega
        simp only []
        go_wp2_with fail
        refine (cword_any w5 gc gb has false hCut).mono ?_
        rintro e w6 ⟨rfl, hCut6, hg6⟩
        have hb6 : Below w4.heap.size w4 w6 := hb5.grown hg6 hb5.size (fun q hq => by cases hq; exact hg1)
        have hc6 : Chg (fun x => x = k) w4 w6 := Chg.of_below _ hb6
        have hU := hU.grown hg6 (by intro e; injection e with e; exact hkgc e)
        have c2 := hU.cell 2
        have f2 := hU.frozen 2
        simp only [List.getElem?_toArray, List.getElem?_cons_zero, List.getElem?_cons_succ] at c2
        obtain ⟨T, hTK⟩ : ∃ T, takeF has false 8 = T := ⟨_, rfl⟩
        rw [hTK] at hCut6 ⊢
        obtain ⟨t1, t2, bad⟩ := T
        simp only at hCut6 ⊢
        have HTK := Lib.hid hTK
        obtain ⟨m, hm⟩ : ∃ m, num t1 = m := ⟨_, rfl⟩
        rw [hm]
        have HM := Lib.hid hm
        have ht2 : t2.length ≤ 1100 := by
          have := (takeF_length has false 8).2
          rw [hTK] at this
          simp only at this
          omega
        clear hTK hm hCut hg6 hb5 hb6 hb hO hrd
        go_upto_region 14 with (fail)
        have hg7 := grownBy_set w6 k 2 (.int .u64 (m : Int))
        have hCut7 := hCut6.grown hg7 (by intro e; injection e with e; exact hkgc e.symm) (.inl hkgb)
        have hc7 := hc6.trans (Chg.of_grown (F := fun x => x = k) hg7 rfl) (fun x hx => .inl hx)
        have hU := hU.set_ 2 (.int .u64 (m : Int))
        simp only [List.setIfInBounds_toArray, List.set_cons_zero, List.set_cons_succ] at hU
        obtain ⟨w7, hw7⟩ : ∃ x, w6.setCell ⟨k, 2, none⟩ (.int .u64 (m : Int)) = x := ⟨_, rfl⟩
        rw [hw7] at hCut7 hc7 hU ⊢
        clear hw7 hg7 hc6 hCut6 c2 f2
        go_wp2_with fail
        refine (cleft_any w7 gc gb t2 bad hCut7).mono ?_
        rintro e w7' ⟨rfl, rfl⟩
        simp only []
        go_wp2_with fail
        refine (craw_any w7 gc gb t2 bad _ hCut7 (by omega)).mono ?_
        rintro e w8 ⟨A8, N8, c8, rfl, hO8, hCut8, hg8⟩
        have hU := hU.grown hg8 (by intro e; injection e with e; exact hkgc e)
        have hc8 := hc7.trans (Chg.of_grown (F := fun x => x = gc) hg8 rfl) (fun x hx => .inr (by rw [hx]; exact hg1))
        have hO8b := OB.mono hO8 (B := w4.heap.size) hc7.size
        clear hO8
        have c3 := hU.cell 3
        have f3 := hU.frozen 3
        simp only [List.getElem?_toArray, List.getElem?_cons_zero, List.getElem?_cons_succ] at c3
        simp only []
        obtain ⟨T, hTK⟩ : ∃ T, takeF t2 bad (t2.length : Int) = T := ⟨_, rfl⟩
        rw [hTK] at hCut8 hO8b
        obtain ⟨b8, t3, bad8⟩ := T
        simp only at hCut8 hO8b
        have hbb8 : bad8 = bad ∧ (bad = false → b8 = t2) := by
          cases bad
          · rw [takeF_ok (Nat.le_refl _)] at hTK
            injection hTK with e1 e2
            injection e2 with e2 e3
            exact ⟨e3.symm, fun _ => by rw [← e1, List.take_length]⟩
          · rw [takeF_bad (.inl rfl)] at hTK
            injection hTK with e1 e2
            injection e2 with e2 e3
            exact ⟨e3.symm, fun h => by cases h⟩
        obtain ⟨rfl, hb82⟩ := hbb8
        have HB8 := Lib.hid hb82
        have hN8 : b8.length = N8 := hO8b.len
        have hb8l : b8.length ≤ 1100 := by
          have := (takeF_length t2 bad8 (t2.length : Int)).1
          rw [hTK] at this
          simp only at this
          omega
        clear hTK hc7 hCut7 hg8 hb82
        go_upto_region 15 with (fail)
        have hg9 := grownBy_set w8 k 3 (.slice A8 N8 c8)
        have hCut9 := hCut8.grown hg9 (by intro e; injection e with e; exact hkgc e.symm) (.inl hkgb)
        have hc9 := hc8.trans (Chg.of_grown (F := fun x => x = k) hg9 rfl) (fun x hx => .inl hx)
        have hO9 := OB.grown hO8b hg9 (.inl (fun e => by have := (hO8b.ge k e).1; omega))
        have hU := hU.set_ 3 (.slice A8 N8 c8)
        simp only [List.setIfInBounds_toArray, List.set_cons_zero, List.set_cons_succ] at hU
        obtain ⟨w9, hw9⟩ : ∃ x, w8.setCell ⟨k, 3, none⟩ (.slice A8 N8 c8) = x := ⟨_, rfl⟩
        rw [hw9] at hCut9 hc9 hU hO9 ⊢
        have hbF : Below w.heap.size w w9 := hb4'.trans (hc9.below (fun x e => by rw [e]; exact hws) hb4'.size)
        have hCF := hC4.kept (l' := l) hc9 (fun e => hkc2 e.symm) (fun x e => .inr ⟨_, _, e ▸ hU4, usig_ne8⟩) rfl (fun x h => .inl h)
        have c2 := hU.cell 2
        have c3 := hU.cell 3
        simp only [List.getElem?_toArray, List.getElem?_cons_zero, List.getElem?_cons_succ] at c2 c3
        have hfO : ∀ x, A8.map (·.block) = some x → ¬ l.fp x := fun x hx hf => by
          have := (hO9.ge x hx).1
          have := hfpk x hf
          omega
        have hOF := OB.mono hO9 (B := base) (by omega)
        clear hw9 hg9 hc9 hc8 hCut8 hO8b c3 f3 hU4 hC4 hb4' hO9
        have c3 := hU.cell 3
        simp only [List.getElem?_toArray, List.getElem?_cons_zero, List.getElem?_cons_succ] at c3
        go_wp2_with fail
        refine (cok_any w9 gc gb t3 bad8 hCut9).mono ?_
        rintro e w9' ⟨rfl, rfl⟩
        simp only []
        cases bad8
        · by_cases h8 : has.length < 8
          · have := HTK.out
            rw [takeF_bad (.inr (.inr (by omega)))] at this
            cases this
          have htk : t1 = has.take 8 ∧ t2 = has.drop 8 := by
            have := HTK.out
            rw [show (8 : Int) = ((8 : Nat) : Int) from rfl, takeF_ok (by omega)] at this
            injection this with e1 e2
            injection e2 with e2 e3
            exact ⟨e1.symm, e2.symm⟩
          have hb8 : b8 = has.drop 8 := by rw [HB8.out rfl, htk.2]
          have hm : num (has.take 8) = m := by rw [← htk.1]; exact HM.out
          obtain ⟨v, hv⟩ : ∃ v, numB m = v := ⟨_, rfl⟩
          have hus : usigF has = if v = false ∨ 1032 < has.length then none else some (m, b8) := by
            rw [HUS.out, hm, hv, hb8]
            congr 1
            simp only [h8, false_or]
          have hlen8 : N8 + 8 = has.length := by rw [← hN8, hb8, List.length_drop]; omega
          have HU2 := Lib.hid hus
          have HV := Lib.hid hv
          have hnum := unumbered_any w9 m
          rw [hv] at hnum
          clear hus hm htk hv HUS HTK HM HB8 hb8
          cases v
          · obtain rfl : R = 9 := by have := HF2.out; rw [HH.out, HU2.out] at this; simpa using this
            go_wp2_with (refine hnum.mono ?_; rintro e w10 ⟨rfl, rfl⟩; simp only [])
            go_ret2
            exact ⟨Or.inl ⟨by decide, rfl⟩, hbF⟩
          · by_cases h1024 : 1024 < N8
            · obtain rfl : R = 9 := by have := HF2.out; rw [HH.out, HU2.out, if_pos (Or.inr (by omega))] at this; exact this
              have h1' : (1024 : Int) < (N8 : Int) := by omega
              go_wp2_with (refine hnum.mono ?_; rintro e w10 ⟨rfl, rfl⟩; simp only [])
              go_ret2
              exact ⟨Or.inl ⟨by decide, rfl⟩, hbF⟩
            · have hus2 : usigF has = some (m, b8) := by
                rw [HU2.out, if_neg]
                rintro (h | h)
                · cases h
                · omega
              obtain rfl : R = 0 := by have := HF2.out; rw [HH.out, hus2] at this; simpa using this
              have h1' : ¬ (1024 : Int) < (N8 : Int) := by omega
              have hm65 : m ≤ 65536 := by have := HV.out; rw [numB, decide_eq_true_eq] at this; exact this.2
              go_wp2_with (refine hnum.mono ?_; rintro e w10 ⟨rfl, rfl⟩; simp only [])
              go_ret2
              exact ⟨Or.inr ⟨rfl, k, kc, m, b8, rfl, by rw [HH.out]; exact hus2, ⟨⟨A8, N8, c8, hU, hOF, hfO⟩, hCF, hkc2, hkf, hs2, hm65, by simp only; omega⟩, hws, by omega⟩, hbF⟩
        · have h8 : has.length < 8 := by
            refine Nat.lt_of_not_le fun h => ?_
            have := HTK.out
            rw [show (8 : Int) = ((8 : Nat) : Int) from rfl, takeF_ok h] at this
            injection this with e1 e2
            injection e2 with e2 e3
            cases e3
          have hus2 : usigF has = none := by rw [HUS.out, if_pos (.inl h8)]
          obtain rfl : R = 9 := by have := HF2.out; rw [HH.out, hus2] at this; simpa using this
          go_wp2_with fail
          go_ret2
          exact ⟨Or.inl ⟨by decide, rfl⟩, hbF⟩
end Go.Proofs.YtmjdfajdompkeaaGreatDoor
namespace Go.Proofs.YtmjdfajdompkeaaGreatDoor
open Go.RowKit Go.Rat
def z32 : List UInt8 := List.replicate 32 0
theorem z32_length : z32.length = 32 := by rw [z32, List.length_replicate]
/-- Next: the disk, the counter, the number, its tag, the error. -/
def nextU (n : Nat) (tb : List Int) (d : DS) (s : US) (b : List UInt8) : DS × US × Nat × List UInt8 × Int :=
  if 1024 < b.length then (d, s, 0, z32, 6) else if 65536 ≤ s.n then (d, s, 0, z32, 10) else if s.c.dead = true then (d, s, 0, z32, 8) else
  if (ptF d s.c.p s.c.which (be 8 (s.n + 1) ++ b)).2 = 0 then ((ptF d s.c.p s.c.which (be 8 (s.n + 1) ++ b)).1, ⟨s.i, s.n + 1, b, putCell s.c (be 8 (s.n + 1) ++ b) 0⟩, s.n + 1, H.numF n tb s.i (s.n + 1) b, 0)
  else ((ptF d s.c.p s.c.which (be 8 (s.n + 1) ++ b)).1, { s with c := putCell s.c (be 8 (s.n + 1) ++ b) (ptF d s.c.p s.c.which (be 8 (s.n + 1) ++ b)).2 }, 0, z32, (ptF d s.c.p s.c.which (be 8 (s.n + 1) ++ b)).2)
/-- A slot, a block's row, a slot. -/
theorem results_tmp_cell_tmp {P : Program} {fn : Func} {p q r : Tmp} {ty : TypeId} (h : fn.results = #[.tmp r, .cell p ty, .tmp q]) (tmps : Array Value) (w : World) (g : Nat) (t : TypeId) (cs : Array Value) (fr : Nat × Nat) (d : TypeDesc) (v u : Value)
    (hp : tmps.getD p undef = .pointer (some ⟨g, 0, none⟩)) (hq : tmps.getD q undef = v) (hr : tmps.getD r undef = u) (hg : w.heap[g]? = some (.cells cs t fr))
    (hu : P.underlying ty = some d) (hd : (match d with | .struct _ | .array _ _ => true | _ => false) = true) (hi : (P.info? ty).map (·.size) = some cs.size) :
    (results fn tmps).run P w = .ok (.tuple #[u, .agg cs, v]) w := by
  have hp' : tmps[p]?.getD undef = .pointer (some ⟨g, 0, none⟩) := by simpa using hp
  have hq' : tmps[q]?.getD undef = v := by simpa using hq
  have hr' : tmps[r]?.getD undef = u := by simpa using hr
  simp [results, h, hp', hq', hr', asAddr, run_loadVar_row w g t ty cs fr d hg hu hd hi]
theorem i32 : (Tryz.prog.info? 44).map (·.size) = some 32 := by kernel_rfl
theorem UMoved.of_moved {w w' : World} {l l' : DL} (h : Moved w w' l l') (k kc : Nat) : UMoved w w' l l' k kc := ⟨h.g, h.chg.mono (fun _ hx => .inl hx), h.fp⟩
theorem UMoved.refl (w : World) (l : DL) (k kc : Nat) : UMoved w w l l k kc := UMoved.of_moved (Moved.refl w l) k kc
theorem UMoved.trans {a b c : World} {l m n : DL} {k kc : Nat} (h : UMoved a b l m k kc) (q : UMoved b c m n k kc) : UMoved a c l n k kc :=
  ⟨q.g.trans h.g, h.chg.trans q.chg (fun x hx => by
    rcases hx with hx | hx
    · rcases h.fp x hx with h1 | h1
      · exact .inl (.inl h1)
      · exact .inr h1
    · exact .inl (.inr hx)), fun x hx => by
    rcases q.fp x hx with h1 | h1
    · exact h.fp x h1
    · exact .inr (Nat.le_trans h.chg.size h1)⟩
theorem UMoved.of_cell {w w' : World} {l l' : DL} {kc : Nat} (h : CMoved w w' l l' kc) (k : Nat) : UMoved w w' l l' k kc :=
  ⟨h.g, h.chg.mono (fun _ hx => hx.imp id .inr), h.fp⟩
theorem UMoved.set {w w' : World} {l l' : DL} {k kc : Nat} (h : UMoved w w' l l' k kc) (i : Nat) (v : Value) : UMoved w (w'.setCell ⟨k, i, none⟩ v) l l' k kc :=
  ⟨h.g, h.chg.trans (Chg.of_grown (F := fun x => x = k) (grownBy_set w' k i v) rfl) (fun _ hx => .inl (.inr (.inl hx))), h.fp⟩
theorem UMoved.row {w w' : World} {l l' : DL} {k kc g : Nat} (h : UMoved w w' l l' k kc) (hg : w.heap.size ≤ g) (cs : Array Value) : UMoved w (w'.setRow g cs) l l' k kc :=
  ⟨h.g, h.chg.trans (Chg.of_grown (F := fun x => x = g) (grownBy_setRow w' g cs) rfl) (fun x hx => .inr (by rw [hx]; exact hg)), h.fp⟩
/-- Its own block has turned. -/
theorem UsigAt.turn {w w' : World} {base : Nat} {l : DL} {k kc : Nat} {s : US} (h : UsigAt w base l k kc s) (hc : Chg (fun x => x = k) w w') {n' : Nat} {b' : List UInt8} {A : Option Addr} {N cc : Nat} (hB : Blk w' k 72 #[.pointer (some ⟨kc, 0, none⟩), .int .i64 s.i, .int .u64 (n' : Int), .slice A N cc])
    (hO : OB 5 w' w.heap.size A N cc b') (hbase : base ≤ w.heap.size) (hlt : ∀ x, l.fp x → x < w.heap.size) (hn : n' ≤ 65536) (hb : b'.length ≤ 1024) : UsigAt w' base l k kc ⟨s.i, n', b', s.c⟩ := by
  obtain ⟨_, _, _, q, _⟩ := h.blk
  refine ⟨⟨A, N, cc, hB, OB.mono hO hbase, fun x hx hf => ?_⟩, h.cell.kept hc (fun e => h.ne e.symm) (fun _ hx => .inr ⟨_, _, hx ▸ q, usig_ne8⟩) rfl (fun _ h => .inl h), h.ne, h.out, h.bk, hn, hb⟩
  have := (hO.ge x hx).1
  have := hlt x hf
  omega
theorem z32_ne8 : (44 : TypeId) ≠ 5 := by decide
theorem UsigAt.row {w : World} {base : Nat} {l : DL} {k kc g : Nat} {s : US} {cs : Array Value} (h : UsigAt w base l k kc s) (hB : Blk w g 44 cs) (h1 : g ≠ k) (h2 : g ≠ kc) (cs' : Array Value) : UsigAt (w.setRow g cs') base l k kc s :=
  h.kept (Chg.of_grown (F := fun x => x = g) (grownBy_setRow w g cs') rfl) (fun e => h1 e.symm) (fun e => h2 e.symm) (fun _ hx => .inr ⟨_, _, hx ▸ hB, z32_ne8⟩) rfl (fun _ h => .inl h)
/-- A Put into its cell. -/
theorem UsigAt.put {w w' : World} {base : Nat} {l l' : DL} {k kc : Nat} {s : US} (h : UsigAt w base l k kc s) (hm : CMoved w w' l l' kc) {c' : CS} (hC : CellAt w' base l' kc c') : UsigAt w' base l' k kc { s with c := c' } := by
  obtain ⟨A, N, c, h1, h2, h3⟩ := h.blk
  obtain ⟨_, _, _, q1, _⟩ := h.cell.blk
  have hA : ∀ x, A.map (·.block) = some x → ¬ (l.fp x ∨ x = kc) := fun x hx hf => by
    rcases hf with hf | rfl
    · exact h3 x hx hf
    · exact OB_ne h2 q1 cell_ne8 hx
  refine ⟨⟨A, N, c, hm.chg.blk h1 (fun hf => ?_), hm.chg.own h2 hA, fun x hx hf => ?_⟩, hC, h.ne, fun hf => ?_, h.bk, h.n_, h.b_⟩
  · rcases hf with hf | hf
    · exact h.out hf
    · exact h.ne hf
  · rcases hm.fp x hf with h6 | h6
    · exact h3 x hx h6
    · have := (h2.ge x hx).2
      omega
  · rcases hm.fp k hf with h6 | h6
    · exact h.out h6
    · have := h1.lt
      omega
theorem zc32 : (#[.int .u8 0, .int .u8 0, .int .u8 0, .int .u8 0, .int .u8 0, .int .u8 0, .int .u8 0, .int .u8 0, .int .u8 0, .int .u8 0, .int .u8 0, .int .u8 0, .int .u8 0, .int .u8 0, .int .u8 0, .int .u8 0, .int .u8 0, .int .u8 0, .int .u8 0, .int .u8 0, .int .u8 0, .int .u8 0, .int .u8 0, .int .u8 0, .int .u8 0, .int .u8 0, .int .u8 0, .int .u8 0, .int .u8 0, .int .u8 0, .int .u8 0, .int .u8 0] : Array Value) = (bvs z32).toArray := rfl
set_option maxRecDepth 20000 in
set_option maxHeartbeats 8000000 in
theorem unext_any (n : Nat) (hn64 : n = 64) (w : World) (base : Nat) (l : DL) (d : DS) (hD : DiskAt w base l d) (g : Nat) (hg : l.g = g) (hbase : base ≤ w.heap.size) (hlo : d.loose.length < 900000000) (k kc : Nat) (s : US) (hU : UsigAt w base l k kc s) (hp : 0 ≤ s.c.p ∧ s.c.p + 20 ≤ 32768)
    (A : Option Addr) (m cap : Nat) (b : List UInt8) (hr : RB w A m b) (hmc : m ≤ cap) (hap : m ≠ 0 → ∀ x, A.map (·.block) = some x → ¬ l.fp x ∧ x ≠ k ∧ x ≠ kc) (tb : List Int) (w0 : World) (hT : H.Tab w0 tb) (hb0 : Below w0.heap.size w0 w) (hw0 : w0.heap.size ≤ base) :
    Calls Tryz.prog 13 #[.pointer (some ⟨k, 0, none⟩), .slice A m cap] w fun e w' => ∃ l', e = .returned (.tuple #[.int .u64 ((nextU n tb d s b).2.2.1 : Int), .agg (bvs (nextU n tb d s b).2.2.2.1).toArray, .int .i64 (nextU n tb d s b).2.2.2.2]) ∧ l'.g = g ∧ DiskAt w' base l' (nextU n tb d s b).1 ∧ UsigAt w' base l' k kc (nextU n tb d s b).2.1 ∧ UMoved w w' l l' k kc := by
  have HN := Lib.hid hn64
  clear hn64
  have hml : b.length = m := hr.len
  have hF : nextU n tb d s b = if 1024 < m then (d, s, 0, z32, 6) else if 65536 ≤ s.n then (d, s, 0, z32, 10) else if s.c.dead = true then (d, s, 0, z32, 8) else
      if (ptF d s.c.p s.c.which (be 8 (s.n + 1) ++ b)).2 = 0 then ((ptF d s.c.p s.c.which (be 8 (s.n + 1) ++ b)).1, ⟨s.i, s.n + 1, b, putCell s.c (be 8 (s.n + 1) ++ b) 0⟩, s.n + 1, H.numF n tb s.i (s.n + 1) b, 0)
      else ((ptF d s.c.p s.c.which (be 8 (s.n + 1) ++ b)).1, { s with c := putCell s.c (be 8 (s.n + 1) ++ b) (ptF d s.c.p s.c.which (be 8 (s.n + 1) ++ b)).2 }, 0, z32, (ptF d s.c.p s.c.which (be 8 (s.n + 1) ++ b)).2) := by rw [← hml]; rfl
  obtain ⟨R, hR⟩ : ∃ R, nextU n tb d s b = R := ⟨_, rfl⟩
  rw [hR] at hF ⊢
  have HF := Lib.hid hF
  clear hF hR
  have hZ := Blk.new w 44 (bvs z32).toArray
  have hb1 := below_alloc w (.cells (bvs z32).toArray 44)
  obtain ⟨z, hz⟩ : ∃ z : Array Value, (bvs z32).toArray = z := ⟨_, rfl⟩
  have hzc := zc32
  rw [hz] at hZ hb1 hzc
  have hzs : z.size = 32 := by rw [← hz]; rfl
  have hz1 : z.all (·.oneCell') = true := by rw [← hz]; exact bvs_all _
  have HZ := Lib.hid hz
  clear hz
  have hD1 := hD.below hb1
  have hU1 := hU.below hb1
  have hr1 := hr.below hb1
  have hGl : ¬ l.fp w.heap.size := fun hf => by have := (hD.fp_lt hf).2; omega
  have hGk : w.heap.size ≠ k ∧ w.heap.size ≠ kc := ⟨by have := hU.lt; omega, by have := hU.cell.lt; omega⟩
  go_enter Tryz.func13, Tryz.ntmps13
  go_upto_block 0 with (fail)
  generalize w.alloc (.cells z 44) = w1 at *
  have hm1 : UMoved w w1 l l k kc := UMoved.of_moved (Moved.of_below hb1) k kc
  obtain ⟨G, hG⟩ : ∃ G, w.heap.size = G := ⟨_, rfl⟩
  rw [hG] at hZ hGl hGk ⊢
  have HG := Lib.hid hG
  clear hG
  have hbw : base ≤ w1.heap.size := by have := hb1.size; omega
  have HB0 : Hid (∀ w' l', UMoved w w' l l' k kc → Below w0.heap.size w0 w') := Lib.hid fun w' l' hm => (base_umoved ⟨hb0, hbase⟩ hw0 hD hU hm).1
  clear hzc hD hU hr hb1
  have hz1l : ∀ v ∈ z.toList, v.oneCell' = true := by
    rw [← HZ.out]
    exact bvs_one _
  have hm11 : UMoved w1 w1 l l k kc := UMoved.refl _ _ _ _
  have hGw : G < w1.heap.size := hZ.lt
  have hfpz : ∀ (l2 : DL) (wx : World), UMoved w1 wx l l2 k kc → ¬ l2.fp G := fun l2 wx hm hf => by
    rcases hm.fp G hf with h1 | h1
    · exact hGl h1
    · omega
  have HFZ := Lib.hid hfpz
  clear hfpz
  by_cases h1 : 1024 < m
  · have h1' : (1024 : Int) < (m : Int) := by omega
    obtain rfl : R = (d, s, 0, z32, 6) := by have := HF.out; rwa [if_pos h1] at this
    go_wp2_with fail
    refine wp_region_plan [(0, true), (1, true), (2, false), (3, true)] (fun x => Blk x G 44 z) (by kernel_rfl) (by kernel_rfl) (by kernel_rfl) (by kernel_rfl) (fun _ _ d _ _ h => by cases d <;> exact h) hZ ?_
    simp only [planOps, List.getElem?_toArray, List.getElem?_cons_zero, List.getElem?_cons_succ]
    refine wpS_q (.agg z) (by rfl) (fun x hx => load_row_run rfl G z Tryz.underlying44 rfl i32 hx hzs rfl) ?_
    simp only [Act.put, List.setIfInBounds_toArray, List.set_cons_zero, List.set_cons_succ]
    iterate 1 (refine wpS_q ?_ (by rfl) ?_ ?_; rotate_left; (focus (intro z hz; (try dsimp only at hz); go_simp; rfl)); simp only [Act.put, List.setIfInBounds_toArray, List.set_cons_zero, List.set_cons_succ])
    refine wpS_l (by rfl) (fun K hK => ?_)
    have hZd : Blk w1.drew G 44 z := hZ
    refine wp_storeRow rfl G _ z z i32 hZd hzs hzs hz1l rfl rfl ?_
    have hgs := grownBy_setRow w1.drew G z
    have hDF := (DiskAt.below hD1 (drew_below (w := w1))).beside hgs (HFZ.out _ _ hm11)
    have hUF := (UsigAt.below hU1 (drew_below (w := w1))).row hZd hGk.1 hGk.2 z
    have hMF := (((hm1.trans hm11)).trans (UMoved.of_moved (Moved.of_below (drew_below (w := w1))) k kc)).row (Nat.le_of_eq HG.out) z
    have hZF := hZd.setRow z
    refine hK _ _ (fun x => Blk x G 44 z) hZF (fun _ h => h) ?_
    clear hK hgs hZd
    iterate 1 (refine wpS_q ?_ (by rfl) ?_ ?_; rotate_left; (focus (intro z hz; (try dsimp only at hz); go_simp; rfl)); simp only [Act.put, List.setIfInBounds_toArray, List.set_cons_zero, List.set_cons_succ])
    refine wpS_nil ?_
    generalize w1.drew.setRow G z = wF at *
    go_wp2_with fail
    refine bodyPost_ret (results_tmp_cell_tmp rfl _ _ G _ _ (0, 0) _ _ _ rfl rfl rfl hZF Tryz.underlying44 rfl (by rw [hzs]; exact i32)) rfl ?_
    first
      | exact ⟨l, by rw [HZ.out]; rfl, hg, hDF, hUF, hMF⟩
      | exact ⟨by rw [HZ.out]; rfl, l, hg, hDF, hUF, hMF⟩
  have h1' : ¬ (1024 : Int) < (m : Int) := by omega
  have hF1 := HF.out
  rw [if_neg h1] at hF1
  obtain ⟨A0, N0, c0', hB0, hO0, hA0⟩ := hU1.blk
  obtain ⟨N, hNe⟩ : ∃ N, s.n = N := ⟨_, rfl⟩
  rw [hNe] at hF1 hB0
  have c0 := hB0.cell 0
  have c2 := hB0.cell 2
  simp only [List.getElem?_toArray, List.getElem?_cons_zero, List.getElem?_cons_succ] at c0 c2
  clear HF h1
  by_cases h2 : 65536 ≤ N
  · have h2' : (65536 : Int) ≤ (N : Int) := by omega
    obtain rfl : R = (d, s, 0, z32, 10) := by rwa [if_pos h2] at hF1
    go_wp2_with fail
    refine wp_region_plan [(0, true), (1, true), (2, false), (3, true)] (fun x => Blk x G 44 z) (by kernel_rfl) (by kernel_rfl) (by kernel_rfl) (by kernel_rfl) (fun _ _ d _ _ h => by cases d <;> exact h) hZ ?_
    simp only [planOps, List.getElem?_toArray, List.getElem?_cons_zero, List.getElem?_cons_succ]
    refine wpS_q (.agg z) (by rfl) (fun x hx => load_row_run rfl G z Tryz.underlying44 rfl i32 hx hzs rfl) ?_
    simp only [Act.put, List.setIfInBounds_toArray, List.set_cons_zero, List.set_cons_succ]
    iterate 1 (refine wpS_q ?_ (by rfl) ?_ ?_; rotate_left; (focus (intro z hz; (try dsimp only at hz); go_simp; rfl)); simp only [Act.put, List.setIfInBounds_toArray, List.set_cons_zero, List.set_cons_succ])
    refine wpS_l (by rfl) (fun K hK => ?_)
    have hZd : Blk w1.drew G 44 z := hZ
    refine wp_storeRow rfl G _ z z i32 hZd hzs hzs hz1l rfl rfl ?_
    have hgs := grownBy_setRow w1.drew G z
    have hDF := (DiskAt.below hD1 (drew_below (w := w1))).beside hgs (HFZ.out _ _ hm11)
    have hUF := (UsigAt.below hU1 (drew_below (w := w1))).row hZd hGk.1 hGk.2 z
    have hMF := (((hm1.trans hm11)).trans (UMoved.of_moved (Moved.of_below (drew_below (w := w1))) k kc)).row (Nat.le_of_eq HG.out) z
    have hZF := hZd.setRow z
    refine hK _ _ (fun x => Blk x G 44 z) hZF (fun _ h => h) ?_
    clear hK hgs hZd
    iterate 1 (refine wpS_q ?_ (by rfl) ?_ ?_; rotate_left; (focus (intro z hz; (try dsimp only at hz); go_simp; rfl)); simp only [Act.put, List.setIfInBounds_toArray, List.set_cons_zero, List.set_cons_succ])
    refine wpS_nil ?_
    generalize w1.drew.setRow G z = wF at *
    go_wp2_with fail
    refine bodyPost_ret (results_tmp_cell_tmp rfl _ _ G _ _ (0, 0) _ _ _ rfl rfl rfl hZF Tryz.underlying44 rfl (by rw [hzs]; exact i32)) rfl ?_
    first
      | exact ⟨l, by rw [HZ.out]; rfl, hg, hDF, hUF, hMF⟩
      | exact ⟨by rw [HZ.out]; rfl, l, hg, hDF, hUF, hMF⟩
  have h2' : ¬ (65536 : Int) ≤ (N : Int) := by omega
  rw [if_neg h2] at hF1
  have HF := Lib.hid hF1
  have HNE := Lib.hid hNe
  have hwr : IntKind.u64.wrap ((N : Int) + 1) = ((N + 1 : Nat) : Int) := by
    simp [IntKind.wrap, IntKind.bits, IntKind.signed]; omega
  clear hF1 hNe hB0 hO0 hA0
  go_wp2_with fail
  refine wp_region_plan [(0, true), (1, true), (2, true), (3, true), (4, true), (5, true), (6, true), (7, true), (8, true), (10, true), (9, false), (11, false), (12, false), (13, true)] (fun z => z.cell? ⟨k, 0, none⟩ = some (.pointer (some ⟨kc, 0, none⟩)) ∧ z.cell? ⟨k, 2, none⟩ = some (.int .u64 (N : Int))) (by kernel_rfl) (by kernel_rfl) (by kernel_rfl) (by kernel_rfl) (fun _ _ d _ _ h => by cases d <;> exact h) ⟨c0, c2⟩ ?_
  simp only [planOps, List.getElem?_toArray, List.getElem?_cons_zero, List.getElem?_cons_succ]
  iterate 10 (refine wpS_q ?_ (by rfl) ?_ ?_; rotate_left; (focus (intro z hz; (try dsimp only at hz); go_simp; rfl)); simp only [Act.put, List.setIfInBounds_toArray, List.set_cons_zero, List.set_cons_succ])
  refine wpS_l (by rfl) (fun K hK => ?_)
  go_wp2_with fail
  refine (word_any w1.drew none 0 0 [] (N + 1) (RB.nil_ _ _) (by omega) (by omega)).mono ?_
  rintro e w2 ⟨A2, N2, c2', rfl, hO2, hb2⟩
  have hb12 : Below w1.heap.size w1 w2 := drew_below.trans hb2
  have hD2 := hD1.below hb12
  have hU2 := hU1.below hb12
  have hr2 := hr1.below hb12
  have hZ2 := hZ.below hb12 hZ.lt
  have hm2 := hm11.trans (UMoved.of_moved (Moved.of_below hb12) k kc)
  rw [List.nil_append] at hO2
  obtain rfl : N2 = 8 := hO2.len.symm.trans (be_length 8 _)
  have hOC : ∀ {w : World}, UsigAt w base l k kc s → w.cell? ⟨k, 0, none⟩ = some (.pointer (some ⟨kc, 0, none⟩)) ∧ w.cell? ⟨k, 2, none⟩ = some (.int .u64 (N : Int)) := fun {w} h => by
    obtain ⟨_, _, _, hB, _⟩ := h.blk
    have c0 := hB.cell 0
    have c2 := hB.cell 2
    simp only [List.getElem?_toArray, List.getElem?_cons_zero, List.getElem?_cons_succ, HNE.out] at c0 c2
    exact ⟨c0, c2⟩
  refine hK _ _ _ (hOC hU2) (fun _ h => h) ?_
  clear hK hb2
  refine wpS_l (by rfl) (fun K hK => ?_)
  refine wp_appB _ _ (by rfl) w1.heap.size A2 8 c2' (be 8 (N + 1)) rfl hO2 A m cap b rfl hr2 (by omega) hb12.size ?_
  intro A3 N3 c3 w3 hc3 hc3' hO3 hG3
  have hb13 : Below w1.heap.size w1 w3 := hG3.own hb12 (Nat.le_refl _) hO2
  have hD3 := hD1.below hb13
  have hU3 := hU1.below hb13
  have hr3 := hr1.below hb13
  have hZ3 := hZ.below hb13 hZ.lt
  have hm3 := hm11.trans (UMoved.of_moved (Moved.of_below hb13) k kc)
  refine hK _ _ _ (hOC hU3) (fun _ h => h) ?_
  obtain rfl : N3 = m + 8 := by have := hO3.len; rw [List.length_append, be_length, hml] at this; omega
  have hr3' := hO3.reads
  have hap3 : m + 8 ≠ 0 → ∀ x, A3.map (·.block) = some x → ¬ l.fp x ∧ x ≠ kc := fun _ x hx => by
    have h1 := (hO3.ge x hx).1
    exact ⟨fun hf => by have := (hD1.fp_lt hf).2; omega, by have := hU1.cell.lt; omega⟩
  have hbase3 : base ≤ w3.heap.size := Nat.le_trans hbw hb13.size
  clear hK hb12 hD2 hU2 hr2 hZ2 hm2 hO2 hG3 hb13 hD1 hU1 hr1 hZ c0 c2
  obtain ⟨bb, hbb⟩ : ∃ x, be 8 (N + 1) ++ b = x := ⟨_, rfl⟩
  rw [hbb] at hO3 hr3'
  have HF : Hid (R = if s.c.dead = true then (d, s, 0, z32, 8) else if (ptF d s.c.p s.c.which bb).2 = 0 then ((ptF d s.c.p s.c.which bb).1, ⟨s.i, N + 1, b, putCell s.c bb 0⟩, N + 1, H.numF n tb s.i (N + 1) b, 0)
      else ((ptF d s.c.p s.c.which bb).1, ⟨s.i, N, s.b, putCell s.c bb (ptF d s.c.p s.c.which bb).2⟩, 0, z32, (ptF d s.c.p s.c.which bb).2)) := by rw [← hbb]; exact HF
  clear hbb
  refine wpS_l (by rfl) (fun K hK => ?_)
  go_wp2_with fail
  cases hdead : s.c.dead
  · have hF1 := HF.out
    rw [hdead, if_neg (by decide)] at hF1
    refine (cput_any w3 base l d hD3 g hg hbase3 hlo kc s.c hU3.cell hp hdead A3 (m + 8) c3 bb hr3' (by omega) hap3).mono ?_
    obtain ⟨⟨dr, E⟩, hre⟩ : ∃ r, ptF d s.c.p s.c.which bb = r := ⟨_, rfl⟩
    rw [hre] at hF1 ⊢
    simp only at hF1 ⊢
    rintro e w4 ⟨l4, rfl, hlg4, hD4, hC4, hm4⟩
    have hU4 : UsigAt w4 base l4 k kc ⟨s.i, N, s.b, putCell s.c bb E⟩ := by
      have := hU3.put hm4 hC4
      rw [← HNE.out]
      exact this
    have hZ4 := hm4.chg.blk hZ3 (fun q => by
      rcases q with q | q
      · exact hGl q
      · exact hGk.2 q)
    have hr4 : RB w4 A m b := hm4.chg.rbN hr3 (fun hm0 x hx hf => by
      have := hap hm0 x hx
      rcases hf with hf | hf
      · exact this.1 hf
      · exact this.2.2 hf)
    have hm4 := hm3.trans (UMoved.of_cell hm4 k)
    obtain ⟨A5, N5, c5, hB5, hO5, hA5⟩ := hU4.blk
    have c0 := hB5.cell 0
    have c2 := hB5.cell 2
    simp only [List.getElem?_toArray, List.getElem?_cons_zero, List.getElem?_cons_succ] at c0 c2
    refine hK _ _ _ ⟨c0, c2⟩ (fun _ h => h) ?_
    clear hK hD3 hU3 hZ3 hr3 hm3 hO3 hr3' hap3
    iterate 1 (refine wpS_q ?_ (by rfl) ?_ ?_; rotate_left; (focus (intro z hz; (try dsimp only at hz); go_simp; rfl)); simp only [Act.put, List.setIfInBounds_toArray, List.set_cons_zero, List.set_cons_succ])
    refine wpS_nil ?_
    by_cases hE : E = 0
    · subst hE
      rw [if_pos rfl] at hF1
      subst hF1
      simp only at hB5 hO5
      have f2 := hB5.frozen 2
      go_upto_region 11 with (fail)
      have hg5 := grownBy_set w4 k 2 (.int .u64 ((N : Int) + 1))
      have hc5 : Chg (fun x => x = k) w4 (w4.setCell ⟨k, 2, none⟩ (.int .u64 ((N : Int) + 1))) := Chg.of_grown hg5 rfl
      have hB6 := hB5.set_ 2 (.int .u64 ((N : Int) + 1))
      simp only [List.setIfInBounds_toArray, List.set_cons_zero, List.set_cons_succ] at hB6
      have hr5 := hc5.rbN hr4 (fun hm0 x hx e => (hap hm0 x hx).2.1 e)
      have hZ5 := hZ4.grown hg5 (by intro e; injection e with e; exact hGk.1 e)
      obtain ⟨w5, hw5⟩ : ∃ x, w4.setCell ⟨k, 2, none⟩ (.int .u64 ((N : Int) + 1)) = x := ⟨_, rfl⟩
      rw [hw5] at hc5 hB6 hr5 hZ5 ⊢
      clear hw5 hg5 f2 c0 c2 hB5 hO5 hA5 hr4
      go_wp2_with fail
      refine (clone_any w5 A m cap b hr5 (by omega)).mono ?_
      rintro e w6 ⟨A6, c6, rfl, hO6, hb6⟩
      have hc6 := hc5.trans (Chg.of_below (fun x => x = k) hb6) (fun x hx => .inl hx)
      have hB6 := hB6.below hb6 hB6.lt
      have hZ6 := hZ5.below hb6 hZ5.lt
      have hr6 := hr5.below hb6
      have hO6 := OB.mono hO6 (B := w4.heap.size) hc5.size
      have f3 := hB6.frozen 3
      have c3' := hB6.cell 3
      simp only [List.getElem?_toArray, List.getElem?_cons_zero, List.getElem?_cons_succ] at c3'
      have hk4 := hU4.lt
      simp only []
      clear hb6 hr5 hZ5
      go_upto_region 12 with (fail)
      have hg7 := grownBy_set w6 k 3 (.slice A6 m c6)
      have hc7 := hc6.trans (Chg.of_grown (F := fun x => x = k) hg7 rfl) (fun x hx => .inl hx)
      have hB7 := hB6.set_ 3 (.slice A6 m c6)
      simp only [List.setIfInBounds_toArray, List.set_cons_zero, List.set_cons_succ] at hB7
      have hr7 := (Chg.of_grown (F := fun x => x = k) hg7 rfl).rbN hr6 (fun hm0 x hx e => (hap hm0 x hx).2.1 e)
      have hZ7 := hZ6.grown hg7 (by intro e; injection e with e; exact hGk.1 e)
      have hO7 := OB.grown hO6 hg7 (.inl (fun e => by have := (hO6.ge k e).1; omega))
      obtain ⟨w7, hw7⟩ : ∃ x, w6.setCell ⟨k, 3, none⟩ (.slice A6 m c6) = x := ⟨_, rfl⟩
      rw [hw7] at hc7 hB7 hr7 hZ7 hO7 ⊢
      have hbw4 : base ≤ w4.heap.size := by
        have := hm4.chg.size
        omega
      have hfl4 : ∀ x, l4.fp x → x < w4.heap.size := fun x hx => (hD4.fp_lt hx).2
      have hNc : ((N + 1 : Nat) : Int) = (N : Int) + 1 := by omega
      have hU7 := hU4.turn (n' := N + 1) hc7 (by rw [hNc]; exact hB7) hO7 hbw4 hfl4 (by omega) (by omega)
      have hD7 : DiskAt w7 base l4 dr := hD4.kept hc7 (fun x hx e => hU4.out (e ▸ hx))
      have hm7 : UMoved w1 w7 l l4 k kc := ⟨hm4.g, hm4.chg.trans hc7 (fun x hx => .inl (.inr (.inl hx))), hm4.fp⟩
      have hT7 := H.Tab.below hT (HB0.out _ _ (hm1.trans hm7))
      have c1 := hB7.cell 1
      have c2 := hB7.cell 2
      simp only [List.getElem?_toArray, List.getElem?_cons_zero, List.getElem?_cons_succ] at c1 c2
      clear hw7 hg7 f3 c3' hB6 hZ6 hr6 hO6 hc5 hc6 hc7 hU4 hD4 hm4 hC4 hZ4 hO7
      go_wp2_with fail
      refine wp_region_plan [(0, true), (1, true), (2, true), (3, true), (4, true), (5, true), (6, true), (7, true), (8, true), (9, true), (10, true), (11, true), (12, true), (13, false), (14, true), (15, false), (16, true)] (fun x => x.cell? ⟨k, 1, none⟩ = some (.int .i64 s.i) ∧ x.cell? ⟨k, 2, none⟩ = some (.int .u64 ((N : Int) + 1))) (by kernel_rfl) (by kernel_rfl) (by kernel_rfl) (by kernel_rfl) (fun _ _ d _ _ h => by cases d <;> exact h) ⟨c1, c2⟩ ?_
      simp only [planOps, List.getElem?_toArray, List.getElem?_cons_zero, List.getElem?_cons_succ]
      iterate 13 (refine wpS_q ?_ (by rfl) ?_ ?_; rotate_left; (focus (intro z hz; (try dsimp only at hz); go_simp; rfl)); simp only [Act.put, List.setIfInBounds_toArray, List.set_cons_zero, List.set_cons_succ])
      have hol := H.numF_length n tb s.i (N + 1) b
      refine wpS_l (by rfl) (fun K hK => ?_)
      go_wp2_with fail
      have hnum := H.numbered_any n HN.out w7.drew s.i (N + 1) (by omega) A m cap b hr7 hmc (by omega) tb (H.Tab.below hT7 drew_below)
      rw [hNc] at hnum
      refine hnum.mono ?_
      clear hnum
      obtain ⟨F, hF⟩ : ∃ F, H.numF n tb s.i (N + 1) b = F := ⟨_, rfl⟩
      rw [hF] at hol ⊢
      rintro e w8 ⟨rfl, hb8⟩
      have hb78 : Below w7.heap.size w7 w8 := drew_below.trans hb8
      have hZ8 := hZ7.below hb78 hZ7.lt
      have hU8 := hU7.below hb78
      have hD8 := hD7.below hb78
      have hm8 := hm7.trans (UMoved.of_moved (Moved.of_below hb78) k kc)
      have hB8 := hB7.below hb78 hB7.lt
      have c1 := hB8.cell 1
      have c2 := hB8.cell 2
      simp only [List.getElem?_toArray, List.getElem?_cons_zero, List.getElem?_cons_succ] at c1 c2
      refine hK _ _ _ ⟨c1, c2⟩ (fun _ h => h) ?_
      have hfs : (bvs F).toArray.size = 32 := by rw [bvs_size, hol]
      have HFE := Lib.hid hF
      clear hK hb78 hb8 hB7 hZ7 hU7 hD7 hm7 hr7 hT7 hF
      iterate 1 (refine wpS_q ?_ (by rfl) ?_ ?_; rotate_left; (focus (intro z hz; (try dsimp only at hz); go_simp; rfl)); simp only [Act.put, List.setIfInBounds_toArray, List.set_cons_zero, List.set_cons_succ])
      refine wpS_l (by rfl) (fun K hK => ?_)
      refine wp_storeRow rfl G _ z (bvs F).toArray i32 hZ8 hzs hfs (bvs_one _) rfl rfl ?_
      have hgs := grownBy_setRow w8 G (bvs F).toArray
      have hDF := hD8.beside hgs (HFZ.out _ _ hm8)
      have hUF := hU8.row hZ8 hGk.1 hGk.2 (bvs F).toArray
      have hMF := (hm1.trans hm8).row (Nat.le_of_eq HG.out) (bvs F).toArray
      have hZF := hZ8.setRow (bvs F).toArray
      have hBF := hB8.grown hgs (by intro e; injection e with e; exact hGk.1 e.symm)
      have c1 := hBF.cell 1
      have c2 := hBF.cell 2
      simp only [List.getElem?_toArray, List.getElem?_cons_zero, List.getElem?_cons_succ] at c1 c2
      refine hK _ _ _ ⟨c1, c2⟩ (fun _ h => h) ?_
      clear hK hgs hZ8 hU8 hD8 hm8 hB8 hBF
      iterate 1 (refine wpS_q ?_ (by rfl) ?_ ?_; rotate_left; (focus (intro z hz; (try dsimp only at hz); go_simp; rfl)); simp only [Act.put, List.setIfInBounds_toArray, List.set_cons_zero, List.set_cons_succ])
      refine wpS_nil ?_
      generalize w8.setRow G (bvs F).toArray = wF at *
      go_wp2_with fail
      refine bodyPost_ret (results_tmp_cell_tmp rfl _ _ G _ _ (0, 0) _ _ _ rfl rfl rfl hZF Tryz.underlying44 rfl (by rw [hfs]; exact i32)) rfl ?_
      first
        | exact ⟨l4, by rw [HFE.out]; rfl, hlg4, hDF, hUF, hMF⟩
        | exact ⟨by rw [HFE.out]; rfl, l4, hlg4, hDF, hUF, hMF⟩
    · have hE' : (E != 0) = true := by simpa using hE
      rw [if_neg hE] at hF1
      subst hF1
      have hZ := hZ4
      clear hB5 hO5 hA5 c0 c2
      go_wp2_with fail
      refine wp_region_plan [(0, true), (1, true), (2, true), (3, false), (4, true)] (fun x => Blk x G 44 z) (by kernel_rfl) (by kernel_rfl) (by kernel_rfl) (by kernel_rfl) (fun _ _ d _ _ h => by cases d <;> exact h) hZ ?_
      simp only [planOps, List.getElem?_toArray, List.getElem?_cons_zero, List.getElem?_cons_succ]
      refine wpS_q (.agg z) (by rfl) (fun x hx => load_row_run rfl G z Tryz.underlying44 rfl i32 hx hzs rfl) ?_
      simp only [Act.put, List.setIfInBounds_toArray, List.set_cons_zero, List.set_cons_succ]
      iterate 2 (refine wpS_q ?_ (by rfl) ?_ ?_; rotate_left; (focus (intro z hz; (try dsimp only at hz); go_simp; rfl)); simp only [Act.put, List.setIfInBounds_toArray, List.set_cons_zero, List.set_cons_succ])
      refine wpS_l (by rfl) (fun K hK => ?_)
      have hZd : Blk w4.drew G 44 z := hZ
      refine wp_storeRow rfl G _ z z i32 hZd hzs hzs hz1l rfl rfl ?_
      have hgs := grownBy_setRow w4.drew G z
      have hDF := (DiskAt.below hD4 (drew_below (w := w4))).beside hgs (HFZ.out _ _ hm4)
      have hUF := (UsigAt.below hU4 (drew_below (w := w4))).row hZd hGk.1 hGk.2 z
      have hMF := (((hm1.trans hm4)).trans (UMoved.of_moved (Moved.of_below (drew_below (w := w4))) k kc)).row (Nat.le_of_eq HG.out) z
      have hZF := hZd.setRow z
      refine hK _ _ (fun x => Blk x G 44 z) hZF (fun _ h => h) ?_
      clear hK hgs hZd
      iterate 1 (refine wpS_q ?_ (by rfl) ?_ ?_; rotate_left; (focus (intro z hz; (try dsimp only at hz); go_simp; rfl)); simp only [Act.put, List.setIfInBounds_toArray, List.set_cons_zero, List.set_cons_succ])
      refine wpS_nil ?_
      generalize w4.drew.setRow G z = wF at *
      go_wp2_with fail
      refine bodyPost_ret (results_tmp_cell_tmp rfl _ _ G _ _ (0, 0) _ _ _ rfl rfl rfl hZF Tryz.underlying44 rfl (by rw [hzs]; exact i32)) rfl ?_
      first
        | exact ⟨l4, by rw [HZ.out]; rfl, hlg4, hDF, hUF, hMF⟩
        | exact ⟨by rw [HZ.out]; rfl, l4, hlg4, hDF, hUF, hMF⟩
  · have hF1 := HF.out
    rw [hdead, if_pos rfl] at hF1
    subst hF1
    refine (cput_dead w3 base l kc s.c hU3.cell hdead A3 (m + 8) c3 (by omega)).mono ?_
    rintro e w4 ⟨rfl, rfl⟩
    refine hK _ _ _ (hOC hU3) (fun _ h => h) ?_
    have hZ := hZ3
    have c0 := (hOC hU3).1
    clear hK hr3 hO3 hr3' hap3 hZ3
    iterate 1 (refine wpS_q ?_ (by rfl) ?_ ?_; rotate_left; (focus (intro z hz; (try dsimp only at hz); go_simp; rfl)); simp only [Act.put, List.setIfInBounds_toArray, List.set_cons_zero, List.set_cons_succ])
    refine wpS_nil ?_
    go_wp2_with fail
    refine wp_region_plan [(0, true), (1, true), (2, true), (3, false), (4, true)] (fun x => Blk x G 44 z) (by kernel_rfl) (by kernel_rfl) (by kernel_rfl) (by kernel_rfl) (fun _ _ d _ _ h => by cases d <;> exact h) hZ ?_
    simp only [planOps, List.getElem?_toArray, List.getElem?_cons_zero, List.getElem?_cons_succ]
    refine wpS_q (.agg z) (by rfl) (fun x hx => load_row_run rfl G z Tryz.underlying44 rfl i32 hx hzs rfl) ?_
    simp only [Act.put, List.setIfInBounds_toArray, List.set_cons_zero, List.set_cons_succ]
    iterate 2 (refine wpS_q ?_ (by rfl) ?_ ?_; rotate_left; (focus (intro z hz; (try dsimp only at hz); go_simp; rfl)); simp only [Act.put, List.setIfInBounds_toArray, List.set_cons_zero, List.set_cons_succ])
    refine wpS_l (by rfl) (fun K hK => ?_)
    have hZd : Blk w3.drew G 44 z := hZ
    refine wp_storeRow rfl G _ z z i32 hZd hzs hzs hz1l rfl rfl ?_
    have hgs := grownBy_setRow w3.drew G z
    have hDF := (DiskAt.below hD3 (drew_below (w := w3))).beside hgs (HFZ.out _ _ hm3)
    have hUF := (UsigAt.below hU3 (drew_below (w := w3))).row hZd hGk.1 hGk.2 z
    have hMF := (((hm1.trans hm3)).trans (UMoved.of_moved (Moved.of_below (drew_below (w := w3))) k kc)).row (Nat.le_of_eq HG.out) z
    have hZF := hZd.setRow z
    refine hK _ _ (fun x => Blk x G 44 z) hZF (fun _ h => h) ?_
    clear hK hgs hZd
    iterate 1 (refine wpS_q ?_ (by rfl) ?_ ?_; rotate_left; (focus (intro z hz; (try dsimp only at hz); go_simp; rfl)); simp only [Act.put, List.setIfInBounds_toArray, List.set_cons_zero, List.set_cons_succ])
    refine wpS_nil ?_
    generalize w3.drew.setRow G z = wF at *
    go_wp2_with fail
    refine bodyPost_ret (results_tmp_cell_tmp rfl _ _ G _ _ (0, 0) _ _ _ rfl rfl rfl hZF Tryz.underlying44 rfl (by rw [hzs]; exact i32)) rfl ?_
    first
      | exact ⟨l, by rw [HZ.out]; rfl, hg, hDF, hUF, hMF⟩
      | exact ⟨by rw [HZ.out]; rfl, l, hg, hDF, hUF, hMF⟩
end Go.Proofs.YtmjdfajdompkeaaGreatDoor
namespace Go.Proofs.YtmjdfajdompkeaaGreatDoor
open Go.RowKit Go.Rat
def lastB (s : US) : List UInt8 := if s.n = 0 then [] else s.b
def lastT (n : Nat) (tb : List Int) (s : US) : List UInt8 := if s.n = 0 then z32 else H.numF n tb s.i s.n s.b
/-- Two slots, a block's row. -/
theorem results_tmp_tmp_cell {P : Program} {fn : Func} {p q r : Tmp} {ty : TypeId} (h : fn.results = #[.tmp r, .tmp q, .cell p ty]) (tmps : Array Value) (w : World) (g : Nat) (t : TypeId) (cs : Array Value) (fr : Nat × Nat) (d : TypeDesc) (v u : Value)
    (hp : tmps.getD p undef = .pointer (some ⟨g, 0, none⟩)) (hq : tmps.getD q undef = v) (hr : tmps.getD r undef = u) (hg : w.heap[g]? = some (.cells cs t fr))
    (hu : P.underlying ty = some d) (hd : (match d with | .struct _ | .array _ _ => true | _ => false) = true) (hi : (P.info? ty).map (·.size) = some cs.size) :
    (results fn tmps).run P w = .ok (.tuple #[u, v, .agg cs]) w := by
  have hp' : tmps[p]?.getD undef = .pointer (some ⟨g, 0, none⟩) := by simpa using hp
  have hq' : tmps[q]?.getD undef = v := by simpa using hq
  have hr' : tmps[r]?.getD undef = u := by simpa using hr
  simp [results, h, hp', hq', hr', asAddr, run_loadVar_row w g t ty cs fr d hg hu hd hi]
set_option maxRecDepth 20000 in
set_option maxHeartbeats 8000000 in
theorem ulast_any (n : Nat) (hn64 : n = 64) (w : World) (base : Nat) (l : DL) (k kc : Nat) (s : US) (hU : UsigAt w base l k kc s) (tb : List Int) (hT : H.Tab w tb) :
    Calls Tryz.prog 25 #[.pointer (some ⟨k, 0, none⟩)] w fun e w' => ∃ A N c, e = .returned (.tuple #[.int .u64 (s.n : Int), .slice A N c, .agg (bvs (lastT n tb s)).toArray]) ∧ OB 5 w' w.heap.size A N c (lastB s) ∧ Below w.heap.size w w' := by
  have HN := Lib.hid hn64
  obtain ⟨A, N, c, hB, hO, _⟩ := hU.blk
  have hn65 := hU.n_
  have hbl := hU.b_
  have hr := hO.reads
  have hcap := hO.cap.1
  have hNl : s.b.length = N := hO.len
  obtain ⟨i, m, b, cs⟩ := s
  simp only at hB hr hn65 hbl hNl ⊢
  have hlT : lastT n tb ⟨i, m, b, cs⟩ = if m = 0 then z32 else H.numF n tb i m b := rfl
  have hlB : lastB ⟨i, m, b, cs⟩ = if m = 0 then [] else b := rfl
  rw [hlT, hlB]
  clear hn64 hU hO hlT hlB
  have hZ := Blk.new w 44 (bvs z32).toArray
  have hb1 := below_alloc w (.cells (bvs z32).toArray 44)
  obtain ⟨z, hz⟩ : ∃ z : Array Value, (bvs z32).toArray = z := ⟨_, rfl⟩
  have hzc := zc32
  rw [hz] at hZ hb1 hzc
  have hzs : z.size = 32 := by rw [← hz]; rfl
  have hz1l : ∀ v ∈ z.toList, v.oneCell' = true := by rw [← hz]; exact bvs_one _
  have HZ := Lib.hid hz
  clear hz
  have hr := hr.below hb1
  have hT := H.Tab.below hT hb1
  have hkG : w.heap.size ≠ k := by have := hB.lt; omega
  have hB := hB.below hb1 hB.lt
  have c1 := hB.cell 1
  have c2 := hB.cell 2
  have c3 := hB.cell 3
  simp only [List.getElem?_toArray, List.getElem?_cons_zero, List.getElem?_cons_succ] at c1 c2 c3
  by_cases hm : m = 0
  · subst hm
    rw [if_pos rfl, if_pos rfl]
    go_enter Tryz.func25, Tryz.ntmps25
    go_upto_region 1 with (fail)
    generalize w.alloc (.cells z 44) = w1 at *
    obtain ⟨G, hG⟩ : ∃ G, w.heap.size = G := ⟨_, rfl⟩
    rw [hG] at hZ ⊢
    have HG := Lib.hid hG
    clear hG hzc
    go_wp2_with fail
    refine wp_region_plan [(0, true), (1, true), (2, true), (3, false)] (fun x => Blk x G 44 z) (by kernel_rfl) (by kernel_rfl) (by kernel_rfl) (by kernel_rfl) (fun _ _ d _ _ h => by cases d <;> exact h) hZ ?_
    simp only [planOps, List.getElem?_toArray, List.getElem?_cons_zero, List.getElem?_cons_succ]
    refine wpS_q (.agg z) (by rfl) (fun x hx => load_row_run rfl G z Tryz.underlying44 rfl i32 hx hzs rfl) ?_
    simp only [Act.put, List.setIfInBounds_toArray, List.set_cons_zero, List.set_cons_succ]
    iterate 2 (refine wpS_q ?_ (by rfl) ?_ ?_; rotate_left; (focus (intro z hz; (try dsimp only at hz); go_simp; rfl)); simp only [Act.put, List.setIfInBounds_toArray, List.set_cons_zero, List.set_cons_succ])
    refine wpS_l (by rfl) (fun K hK => ?_)
    have hZd : Blk w1.drew G 44 z := hZ
    refine wp_storeRow rfl G _ z z i32 hZd hzs hzs hz1l rfl rfl ?_
    have hgs := grownBy_setRow w1.drew G z
    have hbF : Below w.heap.size w (w1.drew.setRow G z) := (hb1.trans (drew_below.mono hb1.size)).grown hgs hb1.size (fun q hq => by cases hq; exact Nat.le_of_eq HG.out)
    have hZF := hZd.setRow z
    refine hK _ _ (fun x => Blk x G 44 z) hZF (fun _ h => h) ?_
    clear hK hgs hZd
    refine wpS_nil ?_
    generalize w1.drew.setRow G z = wF at *
    go_wp2_with fail
    refine bodyPost_ret (results_tmp_tmp_cell rfl _ _ G _ _ (0, 0) _ _ _ rfl rfl rfl hZF Tryz.underlying44 rfl (by rw [hzs]; exact i32)) rfl ?_
    exact ⟨none, 0, 0, by rw [HZ.out]; rfl, OB.nil_ _ _ _, hbF⟩
  · have hm0 : ¬ (m : Int) = 0 := by omega
    rw [if_neg hm, if_neg hm]
    have hol := H.numF_length n tb i m b
    obtain ⟨F, hF⟩ : ∃ F, H.numF n tb i m b = F := ⟨_, rfl⟩
    rw [hF] at hol ⊢
    have HF := Lib.hid hF
    have hfs : (bvs F).toArray.size = 32 := by rw [bvs_size, hol]
    clear hF
    go_enter Tryz.func25, Tryz.ntmps25
    go_upto_region 1 with (fail)
    generalize w.alloc (.cells z 44) = w1 at *
    obtain ⟨G, hG⟩ : ∃ G, w.heap.size = G := ⟨_, rfl⟩
    rw [hG] at hZ hkG ⊢
    have HG := Lib.hid hG
    clear hG hzc
    go_wp2_with fail
    refine wp_region_plan [(0, true), (1, true), (2, true), (3, true), (4, true), (5, true), (6, true), (7, true), (9, true), (10, true), (11, true), (12, true), (13, true), (14, true), (15, true), (16, true), (17, true), (18, true), (19, true), (20, true), (8, false), (21, false), (22, true), (23, true), (24, false)] (fun x => x.cell? ⟨k, 1, none⟩ = some (.int .i64 i) ∧ x.cell? ⟨k, 2, none⟩ = some (.int .u64 (m : Int)) ∧ x.cell? ⟨k, 3, none⟩ = some (.slice A N c)) (by kernel_rfl) (by kernel_rfl) (by kernel_rfl) (by kernel_rfl) (fun _ _ d _ _ h => by cases d <;> exact h) ⟨c1, c2, c3⟩ ?_
    simp only [planOps, List.getElem?_toArray, List.getElem?_cons_zero, List.getElem?_cons_succ]
    iterate 20 (refine wpS_q ?_ (by rfl) ?_ ?_; rotate_left; (focus (intro z hz; (try dsimp only at hz); go_simp; rfl)); simp only [Act.put, List.setIfInBounds_toArray, List.set_cons_zero, List.set_cons_succ])
    refine wpS_l (by rfl) (fun K hK => ?_)
    go_wp2_with fail
    refine (clone_any w1.drew A N c b (hr.below drew_below) (by omega)).mono ?_
    rintro e w2 ⟨A2, c2', rfl, hO2, hb2⟩
    have hb12 : Below w1.heap.size w1 w2 := drew_below.trans hb2
    have hB := hB.below hb12 hB.lt
    have hr := hr.below hb12
    have hT := H.Tab.below hT hb12
    have hZ := hZ.below hb12 hZ.lt
    have hbb := below_next' hb1 hb12
    have hO2 := OB.mono hO2 (B := w.heap.size) hb1.size
    have c1 := hB.cell 1
    have c2 := hB.cell 2
    have c3 := hB.cell 3
    simp only [List.getElem?_toArray, List.getElem?_cons_zero, List.getElem?_cons_succ] at c1 c2 c3
    refine hK _ _ _ ⟨c1, c2, c3⟩ (fun _ h => h) ?_
    clear hK hb2 hb12
    refine wpS_l (by rfl) (fun K hK => ?_)
    go_wp2_with fail
    refine (H.numbered_any n HN.out w2 i m (by omega) A N c b hr hcap (by omega) tb hT).mono ?_
    rw [HF.out]
    rintro e w3 ⟨rfl, hb3⟩
    have hB := hB.below hb3 hB.lt
    have hZ := hZ.below hb3 hZ.lt
    have hbb := below_next' hbb hb3
    have hO2 : OB 5 w3 w.heap.size A2 N c2' b := OB.grown hO2 (grownBy_of_below hb3 none) (.inr rfl)
    have c1 := hB.cell 1
    have c2 := hB.cell 2
    have c3 := hB.cell 3
    simp only [List.getElem?_toArray, List.getElem?_cons_zero, List.getElem?_cons_succ] at c1 c2 c3
    refine hK _ _ _ ⟨c1, c2, c3⟩ (fun _ h => h) ?_
    clear hK hb3
    iterate 2 (refine wpS_q ?_ (by rfl) ?_ ?_; rotate_left; (focus (intro z hz; (try dsimp only at hz); go_simp; rfl)); simp only [Act.put, List.setIfInBounds_toArray, List.set_cons_zero, List.set_cons_succ])
    refine wpS_l (by rfl) (fun K hK => ?_)
    refine wp_storeRow rfl G _ z (bvs F).toArray i32 hZ hzs hfs (bvs_one _) rfl rfl ?_
    have hgs := grownBy_setRow w3 G (bvs F).toArray
    have hbF := hbb.grown hgs hbb.size (fun q hq => by cases hq; exact Nat.le_of_eq HG.out)
    have hZF := hZ.setRow (bvs F).toArray
    have hBF := hB.grown hgs (by intro e; injection e with e; exact hkG e.symm)
    have hOF := OB.grown hO2 hgs (.inl (OB_ne hO2 hZ z32_ne8))
    have c1 := hBF.cell 1
    have c2 := hBF.cell 2
    have c3 := hBF.cell 3
    simp only [List.getElem?_toArray, List.getElem?_cons_zero, List.getElem?_cons_succ] at c1 c2 c3
    refine hK _ _ _ ⟨c1, c2, c3⟩ (fun _ h => h) ?_
    clear hK hgs
    refine wpS_nil ?_
    generalize w3.setRow G (bvs F).toArray = wF at *
    go_wp2_with fail
    refine bodyPost_ret (results_tmp_tmp_cell rfl _ _ G _ _ (0, 0) _ _ _ rfl rfl rfl hZF Tryz.underlying44 rfl (by rw [hfs]; exact i32)) rfl ?_
    exact ⟨A2, N, c2', rfl, hOF, hbF⟩
def checkU (n : Nat) (tb : List Int) (i : Int) (x : Nat) (b t : List UInt8) : Bool := repB i && (numB x && (decide (b.length ≤ 1024) && decide (t = H.numF n tb i x b)))
set_option maxRecDepth 20000 in
set_option maxHeartbeats 8000000 in
theorem ucheck_any (n : Nat) (hn64 : n = 64) (w : World) (i : Int) (x : Nat) (A : Option Addr) (m cap : Nat) (b : List UInt8) (hr : RB w A m b) (hmc : m ≤ cap) (t : List UInt8) (ht : t.length = 32) (tb : List Int) (hT : H.Tab w tb) :
    Calls Tryz.prog 26 #[.int .i64 i, .int .u64 (x : Int), .slice A m cap, .agg (bvs t).toArray] w fun e w' => e = .returned (.bool (checkU n tb i x b t)) ∧ Below w.heap.size w w' := by
  have hml : b.length = m := hr.len
  have hchk : checkU n tb i x b t = (repB i && (numB x && (decide (m ≤ 1024) && decide (t = H.numF n tb i x b)))) := by rw [checkU, hml]
  rw [hchk]
  have HN := Lib.hid hn64
  have hrep := fun (w : World) (hT : H.Tab w tb) => ureplica_any n hn64 w i tb hT
  have hnum := fun (w : World) => unumbered_any w x
  have hx65 : numB x = true → x ≤ 65536 := fun h => by rw [numB, decide_eq_true_eq] at h; exact h.2
  obtain ⟨v3, hv3⟩ : ∃ v, decide (m ≤ 1024) = v := ⟨_, rfl⟩
  rw [hv3]
  have HV3 := Lib.hid hv3
  obtain ⟨v1, hv1⟩ : ∃ v, repB i = v := ⟨_, rfl⟩
  obtain ⟨v2, hv2⟩ : ∃ v, numB x = v := ⟨_, rfl⟩
  rw [hv1] at hrep ⊢
  rw [hv2] at hnum hx65 ⊢
  have HR := Lib.hid hrep
  have HM := Lib.hid hnum
  have hts : (bvs t).toArray.size = 32 := by rw [bvs_size, ht]
  have hZ := Blk.new w 44 (bvs t).toArray
  have hb1 := below_alloc w (.cells (bvs t).toArray 44)
  have hol := H.numF_length n tb i x b
  obtain ⟨F, hF⟩ : ∃ F, H.numF n tb i x b = F := ⟨_, rfl⟩
  rw [hF] at hol ⊢
  have HF := Lib.hid hF
  have hsame := fun w => H.same_any w t F ht hol
  obtain ⟨v4, hv4⟩ : ∃ v, decide (t = F) = v := ⟨_, rfl⟩
  rw [hv4] at hsame ⊢
  have HS := Lib.hid hsame
  clear hn64 hrep hnum hv1 hv2 hF hsame hv4 hchk hv3
  have hr := hr.below hb1
  have hT := H.Tab.below hT hb1
  go_enter Tryz.func26, Tryz.ntmps26
  go_upto_region 1 with (fail)
  generalize w.alloc (.cells (bvs t).toArray 44) = w1 at *
  obtain ⟨G, hG⟩ : ∃ G, w.heap.size = G := ⟨_, rfl⟩
  rw [hG] at hZ ⊢
  clear hG
  refine wp_region_plan [(0, true), (1, false), (2, true), (3, true), (4, false), (5, true), (6, true), (7, true), (8, true), (9, true), (10, true), (11, true), (12, true), (13, true), (14, true), (15, true), (16, false), (17, false), (18, true), (19, true)] (fun z => Blk z G 44 (bvs t).toArray) (by kernel_rfl) (by kernel_rfl) (by kernel_rfl) (by kernel_rfl) (fun _ _ d _ _ h => by cases d <;> exact h) hZ ?_
  simp only [planOps, List.getElem?_toArray, List.getElem?_cons_zero, List.getElem?_cons_succ]
  iterate 1 (refine wpS_q ?_ (by rfl) ?_ ?_; rotate_left; (focus (intro z hz; (try dsimp only at hz); go_simp; rfl)); simp only [Act.put, List.setIfInBounds_toArray, List.set_cons_zero, List.set_cons_succ])
  refine wpS_l (by rfl) (fun K hK => ?_)
  go_wp2_with fail
  refine (HR.out w1.drew (H.Tab.below hT drew_below)).mono ?_
  rintro e w2 ⟨rfl, hb2⟩
  have hb12 : Below w1.heap.size w1 w2 := drew_below.trans hb2
  have hr := hr.below hb12
  have hT := H.Tab.below hT hb12
  have hZ := hZ.below hb12 hZ.lt
  have hbb := below_next' hb1 hb12
  refine hK _ _ _ hZ (fun _ h => h) ?_
  clear hK hb2 hb12
  cases v1
  · skip
    repeat (first
      | (refine wpS_skip (by rfl) ?_; simp only [Act.put, List.setIfInBounds_toArray, List.set_cons_zero, List.set_cons_succ])
      | (refine wpS_q ?_ (by rfl) ?_ ?_; rotate_left; (focus (intro z hz; (try dsimp only at hz); go_simp; rfl)); simp only [Act.put, List.setIfInBounds_toArray, List.set_cons_zero, List.set_cons_succ]))
    refine wpS_nil ?_
    go_wp2_with fail
    go_ret
    exact ⟨rfl, hbb⟩
  · skip
    iterate 2 (refine wpS_q ?_ (by rfl) ?_ ?_; rotate_left; (focus (intro z hz; (try dsimp only at hz); go_simp; rfl)); simp only [Act.put, List.setIfInBounds_toArray, List.set_cons_zero, List.set_cons_succ])
    refine wpS_l (by rfl) (fun K hK => ?_)
    go_wp2_with fail
    refine (HM.out w2).mono ?_
    rintro e w3 ⟨rfl, rfl⟩
    refine hK _ _ _ hZ (fun _ h => h) ?_
    clear hK
    cases v2
    · skip
      repeat (first
        | (refine wpS_skip (by rfl) ?_; simp only [Act.put, List.setIfInBounds_toArray, List.set_cons_zero, List.set_cons_succ])
        | (refine wpS_q ?_ (by rfl) ?_ ?_; rotate_left; (focus (intro z hz; (try dsimp only at hz); go_simp; rfl)); simp only [Act.put, List.setIfInBounds_toArray, List.set_cons_zero, List.set_cons_succ]))
      refine wpS_nil ?_
      go_wp2_with fail
      go_ret
      exact ⟨rfl, hbb⟩
    · cases v3
      rotate_left
      · have hm' : (m : Int) ≤ 1024 := by have := HV3.out; rw [decide_eq_true_eq] at this; omega
        have hx := hx65 rfl
        clear hx65
        iterate 7 (refine wpS_q ?_ (by rfl) ?_ ?_; rotate_left; (focus (intro z hz; (try dsimp only at hz); go_simp; rfl)); simp only [Act.put, List.setIfInBounds_toArray, List.set_cons_zero, List.set_cons_succ])
        refine wpS_q (.agg (bvs t).toArray) (by rfl) (fun z hz => load_row_run rfl G (bvs t).toArray Tryz.underlying44 rfl i32 hz hts rfl) ?_
        simp only [Act.put, List.setIfInBounds_toArray, List.set_cons_zero, List.set_cons_succ]
        iterate 3 (refine wpS_q ?_ (by rfl) ?_ ?_; rotate_left; (focus (intro z hz; (try dsimp only at hz); go_simp; rfl)); simp only [Act.put, List.setIfInBounds_toArray, List.set_cons_zero, List.set_cons_succ])
        refine wpS_l (by rfl) (fun K hK => ?_)
        go_wp2_with fail
        refine (H.numbered_any n HN.out w2 i x (by omega) A m cap b hr hmc (by omega) tb hT).mono ?_
        rw [HF.out]
        rintro e w3 ⟨rfl, hb3⟩
        have hZ := hZ.below hb3 hZ.lt
        have hbb := below_next' hbb hb3
        refine hK _ _ _ hZ (fun _ h => h) ?_
        clear hK
        refine wpS_l (by rfl) (fun K hK => ?_)
        go_wp2_with fail
        refine (HS.out w3).mono ?_
        rintro e w4 ⟨rfl, hb4⟩
        have hZ := hZ.below hb4 hZ.lt
        have hbb := below_next' hbb hb4
        refine hK _ _ _ hZ (fun _ h => h) ?_
        clear hK
        iterate 2 (refine wpS_q ?_ (by rfl) ?_ ?_; rotate_left; (focus (intro z hz; (try dsimp only at hz); go_simp; rfl)); simp only [Act.put, List.setIfInBounds_toArray, List.set_cons_zero, List.set_cons_succ])
        refine wpS_nil ?_
        go_wp2_with fail
        go_ret
        exact ⟨rfl, hbb⟩
      · have hm' : ¬ (m : Int) ≤ 1024 := by have := HV3.out; rw [decide_eq_false_iff_not] at this; omega
        clear hx65
        repeat (first
          | (refine wpS_skip (by rfl) ?_; simp only [Act.put, List.setIfInBounds_toArray, List.set_cons_zero, List.set_cons_succ])
          | (refine wpS_q ?_ (by rfl) ?_ ?_; rotate_left; (focus (intro z hz; (try dsimp only at hz); go_simp; rfl)); simp only [Act.put, List.setIfInBounds_toArray, List.set_cons_zero, List.set_cons_succ]))
        refine wpS_nil ?_
        go_wp2_with fail
        go_ret
        exact ⟨rfl, hbb⟩
theorem unew_nil (w : World) (i p : Int) : Calls Tryz.prog 10 #[.int .i64 i, .pointer none, .int .i64 p] w fun e w' => e = .returned (.tuple #[.pointer none, .int .i64 2]) ∧ w = w' := by
  go_enter Tryz.func10, Tryz.ntmps10
  go_wp2_with fail
  go_ret2
  exact ⟨rfl, rfl⟩
end Go.Proofs.YtmjdfajdompkeaaGreatDoor
namespace Go.Proofs.YtmjdfajdompkeaaGreatDoor
open Go.RowKit Go.Rat
set_option maxRecDepth 20000 in
set_option maxHeartbeats 4000000 in
theorem unext_nil (w : World) (A : Option Addr) (m cap : Nat) : Calls Tryz.prog 13 #[.pointer none, .slice A m cap] w fun e w' => e = .returned (.tuple #[.int .u64 0, .agg (bvs z32).toArray, .int .i64 2]) ∧ Below w.heap.size w w' := by
  have hZ := Blk.new w 44 (bvs z32).toArray
  have hb1 := below_alloc w (.cells (bvs z32).toArray 44)
  obtain ⟨z, hz⟩ : ∃ z : Array Value, (bvs z32).toArray = z := ⟨_, rfl⟩
  have hzc := zc32
  rw [hz] at hZ hb1 hzc
  have hzs : z.size = 32 := by rw [← hz]; rfl
  have hz1l : ∀ v ∈ z.toList, v.oneCell' = true := by rw [← hz]; exact bvs_one _
  have HZ := Lib.hid hz
  clear hz
  go_enter Tryz.func13, Tryz.ntmps13
  go_upto_block 0 with (fail)
  generalize w.alloc (.cells z 44) = w1 at *
  obtain ⟨G, hG⟩ : ∃ G, w.heap.size = G := ⟨_, rfl⟩
  rw [hG] at hZ ⊢
  have HG := Lib.hid hG
  clear hG hzc
  go_wp2_with fail
  refine wp_region_plan [(0, true), (1, true), (2, false), (3, true)] (fun x => Blk x G 44 z) (by kernel_rfl) (by kernel_rfl) (by kernel_rfl) (by kernel_rfl) (fun _ _ d _ _ h => by cases d <;> exact h) hZ ?_
  simp only [planOps, List.getElem?_toArray, List.getElem?_cons_zero, List.getElem?_cons_succ]
  refine wpS_q (.agg z) (by rfl) (fun x hx => load_row_run rfl G z Tryz.underlying44 rfl i32 hx hzs rfl) ?_
  simp only [Act.put, List.setIfInBounds_toArray, List.set_cons_zero, List.set_cons_succ]
  iterate 1 (refine wpS_q ?_ (by rfl) ?_ ?_; rotate_left; (focus (intro z hz; (try dsimp only at hz); go_simp; rfl)); simp only [Act.put, List.setIfInBounds_toArray, List.set_cons_zero, List.set_cons_succ])
  refine wpS_l (by rfl) (fun K hK => ?_)
  have hZd : Blk w1.drew G 44 z := hZ
  refine wp_storeRow rfl G _ z z i32 hZd hzs hzs hz1l rfl rfl ?_
  have hgs := grownBy_setRow w1.drew G z
  have hbF : Below w.heap.size w (w1.drew.setRow G z) := (hb1.trans (drew_below.mono hb1.size)).grown hgs hb1.size (fun q hq => by cases hq; exact Nat.le_of_eq HG.out)
  have hZF := hZd.setRow z
  refine hK _ _ (fun x => Blk x G 44 z) hZF (fun _ h => h) ?_
  clear hK hgs hZd
  iterate 1 (refine wpS_q ?_ (by rfl) ?_ ?_; rotate_left; (focus (intro z hz; (try dsimp only at hz); go_simp; rfl)); simp only [Act.put, List.setIfInBounds_toArray, List.set_cons_zero, List.set_cons_succ])
  refine wpS_nil ?_
  generalize w1.drew.setRow G z = wF at *
  go_wp2_with fail
  refine bodyPost_ret (results_tmp_cell_tmp rfl _ _ G _ _ (0, 0) _ _ _ rfl rfl rfl hZF Tryz.underlying44 rfl (by rw [hzs]; exact i32)) rfl ?_
  exact ⟨by rw [HZ.out]; rfl, hbF⟩
set_option maxRecDepth 20000 in
set_option maxHeartbeats 4000000 in
theorem ulast_nil (w : World) : Calls Tryz.prog 25 #[.pointer none] w fun e w' => e = .returned (.tuple #[.int .u64 0, .slice none 0 0, .agg (bvs z32).toArray]) ∧ Below w.heap.size w w' := by
  have hZ := Blk.new w 44 (bvs z32).toArray
  have hb1 := below_alloc w (.cells (bvs z32).toArray 44)
  obtain ⟨z, hz⟩ : ∃ z : Array Value, (bvs z32).toArray = z := ⟨_, rfl⟩
  have hzc := zc32
  rw [hz] at hZ hb1 hzc
  have hzs : z.size = 32 := by rw [← hz]; rfl
  have hz1l : ∀ v ∈ z.toList, v.oneCell' = true := by rw [← hz]; exact bvs_one _
  have HZ := Lib.hid hz
  clear hz
  go_enter Tryz.func25, Tryz.ntmps25
  go_upto_region 1 with (fail)
  generalize w.alloc (.cells z 44) = w1 at *
  obtain ⟨G, hG⟩ : ∃ G, w.heap.size = G := ⟨_, rfl⟩
  rw [hG] at hZ ⊢
  have HG := Lib.hid hG
  clear hG hzc
  go_wp2_with fail
  refine wp_region_plan [(0, true), (1, true), (2, true), (3, false)] (fun x => Blk x G 44 z) (by kernel_rfl) (by kernel_rfl) (by kernel_rfl) (by kernel_rfl) (fun _ _ d _ _ h => by cases d <;> exact h) hZ ?_
  simp only [planOps, List.getElem?_toArray, List.getElem?_cons_zero, List.getElem?_cons_succ]
  refine wpS_q (.agg z) (by rfl) (fun x hx => load_row_run rfl G z Tryz.underlying44 rfl i32 hx hzs rfl) ?_
  simp only [Act.put, List.setIfInBounds_toArray, List.set_cons_zero, List.set_cons_succ]
  iterate 2 (refine wpS_q ?_ (by rfl) ?_ ?_; rotate_left; (focus (intro z hz; (try dsimp only at hz); go_simp; rfl)); simp only [Act.put, List.setIfInBounds_toArray, List.set_cons_zero, List.set_cons_succ])
  refine wpS_l (by rfl) (fun K hK => ?_)
  have hZd : Blk w1.drew G 44 z := hZ
  refine wp_storeRow rfl G _ z z i32 hZd hzs hzs hz1l rfl rfl ?_
  have hgs := grownBy_setRow w1.drew G z
  have hbF : Below w.heap.size w (w1.drew.setRow G z) := (hb1.trans (drew_below.mono hb1.size)).grown hgs hb1.size (fun q hq => by cases hq; exact Nat.le_of_eq HG.out)
  have hZF := hZd.setRow z
  refine hK _ _ (fun x => Blk x G 44 z) hZF (fun _ h => h) ?_
  clear hK hgs hZd
  refine wpS_nil ?_
  generalize w1.drew.setRow G z = wF at *
  go_wp2_with fail
  refine bodyPost_ret (results_tmp_tmp_cell rfl _ _ G _ _ (0, 0) _ _ _ rfl rfl rfl hZF Tryz.underlying44 rfl (by rw [hzs]; exact i32)) rfl ?_
  exact ⟨by rw [HZ.out]; rfl, hbF⟩
theorem ev7 : H.numF 64 H.tblL 1 1 ab ≠ H.numF 64 H.tblL 2 1 ab := by decide +kernel
/-- A counter on a disk whose power stays. -/
structure UCalm (d : DS) (p : Int) (s : US) (K : Nat) : Prop where
  cell : ∃ N, CellSt d p s.c.which N s.c.b K
  p_ : s.c.p = p
  dead : s.c.dead = false
  fuse : d.fuse = -1
  has : usigF s.c.b = some (s.n, s.b)
theorem num_be8 (n : Nat) (h : n < 2 ^ 64) : num (be 8 n) = n := by
  rw [num_be, Nat.mod_eq_of_lt (by rw [show (256 : Nat) ^ 8 = 2 ^ 64 from by decide]; exact h)]
theorem usigF_put (n : Nat) (hn : 1 ≤ n ∧ n ≤ 65536) (b : List UInt8) (hb : b.length ≤ 1024) : usigF (be 8 n ++ b) = some (n, b) := by
  have hl : (be 8 n ++ b).length = b.length + 8 := by rw [List.length_append, be_length]; omega
  have ht : (be 8 n ++ b).take 8 = be 8 n := by
    have := List.take_left (l₁ := be 8 n) (l₂ := b)
    rwa [be_length] at this
  have hd : (be 8 n ++ b).drop 8 = b := by
    have := List.drop_left (l₁ := be 8 n) (l₂ := b)
    rwa [be_length] at this
  have hN : num (be 8 n) = n := num_be8 n (by omega)
  rw [usigF, hl, ht, hd, hN, if_neg (by omega), if_neg]
  rintro (h | h | h)
  · omega
  · rw [numB, decide_eq_false_iff_not] at h
    exact h hn
  · omega
section
variable {d : DS} {p : Int} {s : US} {K : Nat}
theorem UCalm.opens (h : UCalm d p s K) : opE d p = 0 ∧ openCell d p = s.c := by
  obtain ⟨N, hc⟩ := h.cell
  obtain ⟨h1, h2⟩ := hc.open_
  refine ⟨h1, ?_⟩
  rw [openCell, h2]
  have h3 := h.p_
  have h4 := h.dead
  obtain ⟨i, n, b, q, cb, cw, cd⟩ := s
  simp only at h3 h4 ⊢
  rw [h3, h4]
theorem UCalm.new (h : UCalm d p s K) {i : Int} (hi : repB i = true) : newE i d p = 0 ∧ usigF (opF d p).2 = some (s.n, s.b) := by
  obtain ⟨h1, h2⟩ := h.opens
  have h3 : (opF d p).2 = s.c.b := by rw [← h2]; rfl
  rw [newE, hi, if_neg (by decide), h1, if_neg (by decide), h3, h.has, if_neg (by simp)]
  exact ⟨rfl, rfl⟩
theorem UCalm.next (h : UCalm d p s K) (n : Nat) (tb : List Int) {b : List UInt8} (hb : b.length ≤ 1024) (hn : s.n < 65536) (hK : K + 2 < 2 ^ 64) :
    ∃ d' c', nextU n tb d s b = (d', ⟨s.i, s.n + 1, b, c'⟩, s.n + 1, H.numF n tb s.i (s.n + 1) b, 0) ∧ UCalm d' p ⟨s.i, s.n + 1, b, c'⟩ (K + 1) ∧ d'.loose = [] ∧ (∀ a, ¬ (p ≤ a ∧ a < p + 20) → d'.now a = d.now a) ∧ c'.which = 1 - s.c.which := by
  obtain ⟨N, hc⟩ := h.cell
  have hl : (be 8 (s.n + 1) ++ b).length ≤ 1100 := by rw [List.length_append, be_length]; omega
  obtain ⟨k1, k2, k3, k4, k5, k6⟩ := put_calm (b := be 8 (s.n + 1) ++ b) h.fuse hc hK hl
  have hw := hc.wh
  refine ⟨(ptF d p s.c.which (be 8 (s.n + 1) ++ b)).1, putCell s.c (be 8 (s.n + 1) ++ b) 0, ?_, ⟨⟨_, k5⟩, h.p_, rfl, k3, usigF_put _ (by omega) b hb⟩, k4, fun a ha => by rw [k6, nowW_out _ _ _ _ (by omega)], rfl⟩
  rw [nextU, if_neg (by omega), if_neg (by omega), h.dead, if_neg (by decide), h.p_, k1, if_pos rfl]
/-- What Format leaves, where no fuse burns. -/
theorem ucalm_format {d : DS} {p : Int} (hp : 0 ≤ p ∧ p + 20 ≤ 32768) (ho : d.off = false) (hf : d.fuse = -1) (i : Int) :
    (fmF d p).2 = 0 ∧ UCalm (fmF d p).1 p ⟨i, 0, [], ⟨p, [], 0, false⟩⟩ 2 ∧ (fmF d p).1.loose = [] ∧ (∀ a, ¬ (p ≤ a ∧ a < p + 20) → (fmF d p).1.now a = d.now a) ∧ (fmF d p).1.off = false := by
  obtain ⟨h1, h2, h3, h4, h5, h6, _⟩ := format_calm hp ho hf
  exact ⟨h1, ⟨⟨_, h5⟩, rfl, rfl, h3, rfl⟩, h4, h6, h2⟩
/-- Its cell's sectors are as they were. -/
theorem UCalm.keep (h : UCalm d p s K) {d' : DS} (ho : d'.off = false) (hf : d'.fuse = -1) (hn : ∀ a, p ≤ a → a < p + 20 → d'.now a = d.now a) : UCalm d' p s K := by
  obtain ⟨N, hc⟩ := h.cell
  exact ⟨⟨N, hc.keep ho hn⟩, h.p_, h.dead, hf, h.has⟩
theorem UCalm.off (h : UCalm d p s K) : d.off = false := by
  obtain ⟨N, hc⟩ := h.cell
  exact hc.off
theorem UCalm.who (h : UCalm d p s K) (i : Int) : UCalm d p ⟨i, s.n, s.b, s.c⟩ K := ⟨h.cell, h.p_, h.dead, h.fuse, h.has⟩
end
end Go.Proofs.YtmjdfajdompkeaaGreatDoor
namespace Go.Proofs.YtmjdfajdompkeaaGreatDoor
open Go.RowKit Go.Rat
theorem below_umoved {w0 a b : World} {base : Nat} {l l' : DL} {d : DS} {k kc : Nat} {s : US} (h : Below w0.heap.size w0 a ∧ base ≤ a.heap.size) (hw : w0.heap.size ≤ base) (hD : DiskAt a base l d) (hU : UsigAt a base l k kc s) (hm : UMoved a b l l' k kc) : Below w0.heap.size w0 b ∧ base ≤ b.heap.size := base_umoved h hw hD hU hm
set_option maxRecDepth 20000 in
set_option maxHeartbeats 8000000 in
theorem works7_any (n : Nat) (hn64 : n = 64) (w : World) (tb : List Int) (htb : H.tblL = tb) (hT : H.Tab w tb) : Calls Tryz.prog 5 #[] w fun e w' => e = .returned (.bool true) ∧ Below w.heap.size w w' := by
  obtain ⟨f1, f2, f3, f4, f5⟩ := ucalm_format (d := ds0) (p := 0) (by omega) rfl rfl 1
  obtain ⟨n1, n2⟩ := f2.new (i := 1) (by decide)
  obtain ⟨d2, c2, e2, q2, r2, _, _⟩ := f2.next n tb (b := ab) (by decide) (by decide) (by decide)
  obtain ⟨n3, n4⟩ := q2.new (i := 1) (by decide)
  obtain ⟨d3, c3, e3, q3, r3, _, _⟩ := q2.next n tb (b := []) (by decide) (by simp) (by decide)
  have o1 := f2.opens.2
  have o2 := q2.opens.2
  have hk1 : checkU n tb 1 1 ab (H.numF n tb 1 1 ab) = true := by
    unfold checkU
    simp [repB, numB, ab]
  have hk2 : checkU n tb 2 1 ab (H.numF n tb 1 1 ab) = false := by
    have := ev7
    subst hn64 htb
    unfold checkU
    simp only [decide_eq_false this, Bool.and_false]
  have e2 : nextU n tb (fmF ds0 0).1 ⟨1, 0, [], ⟨0, [], 0, false⟩⟩ ab = (d2, ⟨1, 1, ab, c2⟩, 1, H.numF n tb 1 1 ab, 0) := e2
  have e3 : nextU n tb d2 ⟨1, 1, ab, c2⟩ [] = (d3, ⟨1, 2, [], c3⟩, 2, H.numF n tb 1 2 [], 0) := e3
  have n4 : usigF (opF d2 0).2 = some (1, ab) := n4
  have n2b : usigF c2.b = some (1, ab) := by
    have : (opF d2 0).2 = c2.b := by rw [show c2 = openCell d2 0 from o2.symm]; rfl
    rw [← this]; exact n4
  have HN2B := Lib.hid n2b
  obtain ⟨F2, hFF2⟩ : ∃ F, H.numF n tb 1 2 [] = F := ⟨_, rfl⟩
  rw [hFF2] at e3
  have hF2 := H.numF_length n tb 1 2 []
  rw [hFF2] at hF2
  have hF := H.numF_length n tb 1 1 ab
  have hlt3 : lastT n tb ⟨1, 1, ab, c2⟩ = H.numF n tb 1 1 ab := if_neg (show ¬ ((1 : Nat) = 0) by omega)
  obtain ⟨F, hFF⟩ : ∃ F, H.numF n tb 1 1 ab = F := ⟨_, rfl⟩
  rw [hFF] at e2 hk1 hk2 hF hlt3
  have HLT3 := Lib.hid hlt3
  have hx : ∀ w, (Op.equalIn 10000 44 (.agg (bvs F).toArray) (.agg (bvs F).toArray)).run Tryz.prog w = .ok true w := fun w => by rw [H.eql32 F F hF hF w, decide_eq_true rfl]
  have HX := Lib.hid hx
  obtain ⟨d1, hd1⟩ : ∃ x, (fmF ds0 0).1 = x := ⟨_, rfl⟩
  rw [hd1] at f2 f3 n1 n2 o1 e2
  have HF1 := Lib.hid f1
  have HD1 := Lib.hid hd1
  have HL1 := Lib.hid f3
  have HN1 := Lib.hid n1
  have HN2 := Lib.hid n2
  have HO1 := Lib.hid o1
  have HE2 := Lib.hid e2
  have HN3 := Lib.hid n3
  have HN4 := Lib.hid n4
  have HO2 := Lib.hid o2
  have HE3 := Lib.hid e3
  have HR2 := Lib.hid r2
  have HK1 := Lib.hid hk1
  have HK2 := Lib.hid hk2
  have hq := q2.p_
  have hq' : (0 : Int) ≤ c2.p ∧ c2.p + 20 ≤ 32768 := by simp only at hq; omega
  have HQ2 := Lib.hid hq'
  obtain ⟨base, hbase⟩ : ∃ b, w.heap.size = b := ⟨_, rfl⟩
  have HBASE := Lib.hid hbase
  have HN64 := Lib.hid hn64
  clear f1 f2 f3 f4 f5 n1 n2 e2 q2 r2 n3 n4 e3 q3 r3 o1 o2 hk1 hk2 hd1 hq hq' htb hn64 n2b hFF2 hFF hlt3 hx
  go_enter Tryz.func5, Tryz.ntmps5
  go_wp2_with fail
  refine (dnew_any w).mono ?_
  rintro e w1 ⟨l0, rfl, hD, hb⟩
  have hbb : Below w.heap.size w w1 ∧ base ≤ w1.heap.size := ⟨hb, by rw [← hbase]; exact hb.size⟩
  rw [hbase] at hD
  clear hb hbase
  simp only []
  obtain ⟨g, hlg⟩ : ∃ g, l0.g = g := ⟨_, rfl⟩
  rw [hlg]
  go_wp2_with fail
  refine (uformat_any w1 base l0 ds0 hD g hlg hbb.2 (by decide) 0 (by omega)).mono ?_
  rw [HF1.out, HD1.out]
  rintro e w2 ⟨l1, rfl, hlg1, hD1, hm⟩
  have hbb := base_moved hbb (Nat.le_of_eq HBASE.out) hD hm
  simp only []
  clear hm hD hlg
  go_wp2_with fail
  refine (unew_any n HN64.out w2 base l1 d1 hD1 g hlg1 hbb.2 1 0 (by omega) tb (H.Tab.below hT hbb.1)).mono ?_
  rw [HN1.out, HO1.out]
  rintro e w3 ⟨(⟨h, _⟩ | ⟨_, k, kc, m, b, rfl, hus, hU, hk, hkc⟩), hb⟩
  · exact absurd rfl h
  obtain ⟨rfl, rfl⟩ : m = 0 ∧ b = [] := by
    have := hus.symm.trans (show usigF ([] : List UInt8) = some (0, []) from rfl)
    injection this with this
    injection this with e1 e2
    exact ⟨e1, e2⟩
  have hbb := below_base hbb hb
  have hD1 := hD1.below hb
  simp only []
  clear hb hk hkc hus
  go_wp2_with fail
  refine (ulast_any n HN64.out w3 base l1 k kc _ hU tb (H.Tab.below hT hbb.1)).mono ?_
  rintro e w4 ⟨A4, N4, c4, rfl, hO4, hb⟩
  have hbb := below_base hbb hb
  have hD1 := hD1.below hb
  have hU := hU.below hb
  have hlt : (lastT n tb ⟨1, 0, [], ⟨0, [], 0, false⟩⟩) = z32 := rfl
  simp only [hlt]
  clear hb hO4 hlt
  have hz32s : (bvs z32).toArray.size = 32 := by rw [bvs_size, z32_length]
  have hFs : (bvs F).toArray.size = 32 := by rw [bvs_size, hF]
  have hF2s : (bvs F2).toArray.size = 32 := by rw [bvs_size, hF2]
  repeat (first
    | ((with_reducible refine wpl_store_fresh (bvs z32).toArray i32 ?_ hz32s (bvs_all _) ?_ ?_ ?_); (focus kernel_rfl); (focus rfl); (focus rfl); intro w5 hS5 hl hb; simp only [Act.put]; refine Hid.out ?_)
    | go_values | go_skip | go_guarded | go_step | go_upon | go_back)
  refine Lib.hid ?_
  have hbb := below_base hbb hb
  have hD1 := hD1.below hb
  have hU := hU.below hb
  obtain ⟨g7, hg7⟩ : ∃ x, w4.heap.size = x := ⟨_, rfl⟩
  rw [hg7]
  clear hb hl hS5 hg7
  have kc' := fun (w : World) (C : Array Value) (n c : Nat) => Lib.run_convert_bytes_const (P := Tryz.prog) w 39 5 C n c Tryz.underlying39 Tryz.underlying5
  go_wp2_with fail
  have hrab := rb_lit w5 5 (2, 3) ab
  have hb := below_alloc w5 (.cells (bvs ab).toArray 5 (2, 3))
  have hab : (.cells #[.int .u8 97, .int .u8 98] 5 (2, 3) : Obj) = .cells (bvs ab).toArray 5 (2, 3) := rfl
  rw [hab]
  have hap : 2 ≠ 0 → ∀ x, (some (⟨w5.heap.size, 0, none⟩ : Addr)).map (·.block) = some x → ¬ l1.fp x ∧ x ≠ k ∧ x ≠ kc := fun _ x hx => by
    have hxe : w5.heap.size = x := Option.some.inj hx
    have h1 := hU.lt
    have h2 := hU.cell.lt
    refine ⟨fun hf => ?_, by omega, by omega⟩
    have := (hD1.fp_lt hf).2
    omega
  have hD1 := hD1.below hb
  have hU := hU.below hb
  have hbb := below_base hbb hb
  obtain ⟨w6, hw6⟩ : ∃ x, w5.alloc (.cells (bvs ab).toArray 5 (2, 3)) = x := ⟨_, rfl⟩
  rw [hw6] at hrab hD1 hU hbb ⊢
  clear hb hab hw6 kc'
  refine (unext_any n HN64.out w6 base l1 d1 hD1 g hlg1 hbb.2 (by rw [HL1.out]; decide) k kc _ hU (show (0 : Int) ≤ 0 ∧ (0 : Int) + 20 ≤ 32768 by omega) _ 2 2 ab hrab (Nat.le_refl _) hap tb w hT hbb.1 (Nat.le_of_eq HBASE.out)).mono ?_
  rw [HE2.out]
  rintro e w7 ⟨l2, rfl, hlg2, hD2, hU2, hm⟩
  have hbb := base_umoved hbb (Nat.le_of_eq HBASE.out) hD1 hU hm
  simp only [] at hD2 ⊢
  clear hm hD1 hU hrab hap hU2
  repeat (first
    | ((with_reducible refine wpl_store_fresh (bvs F).toArray i32 ?_ hFs (bvs_all _) ?_ ?_ ?_); (focus kernel_rfl); (focus rfl); (focus rfl); intro w8 hS8 hl hb; simp only [Act.put]; refine Hid.out ?_)
    | go_values | go_skip | go_guarded | go_step | go_upon | go_back)
  refine Lib.hid ?_
  have hbb := below_base hbb hb
  have hD2' := hD2
  have hD2 := hD2.below hb
  have hfp2 : ∀ x, l2.fp x → x < w7.heap.size := fun x hx => (hD2'.fp_lt hx).2
  obtain ⟨g9, hg9⟩ : ∃ x, w7.heap.size = x := ⟨_, rfl⟩
  rw [hg9] at hS8 hl hfp2 ⊢
  have hl9 := hl
  clear hb hl hg9 hD2'
  go_wp2_with fail
  refine (unew_any n HN64.out w8 base l2 d2 hD2 g hlg2 hbb.2 1 0 (by omega) tb (H.Tab.below hT hbb.1)).mono ?_
  rw [HN3.out, HO2.out]
  rintro e w9 ⟨(⟨h, _⟩ | ⟨_, k2, kc2, m, b, rfl, hus, hU, hk, hkc⟩), hb⟩
  · exact absurd rfl h
  obtain ⟨rfl, rfl⟩ : m = 1 ∧ b = ab := by
    have := hus.symm.trans HN2B.out
    injection this with this
    injection this with e1 e2
    exact ⟨e1, e2⟩
  have hbb := below_base hbb hb
  have hD2 := hD2.below hb
  have hS8 := hS8.below hb hS8.lt
  simp only []
  have hne9 : ¬ (l2.fp g9 ∨ g9 = k2 ∨ g9 = kc2) := by
    rintro (h | h | h)
    · have := hfp2 _ h
      omega
    · omega
    · omega
  have hk2l := hU.lt
  have hkc2l := hU.cell.lt
  have hs89 := hb.size
  clear hb hus
  go_wp2_with fail
  refine (ulast_any n HN64.out w9 base l2 k2 kc2 _ hU tb (H.Tab.below hT hbb.1)).mono ?_
  rw [HLT3.out]
  rintro e w10 ⟨A4, N4, c4, rfl, hO4, hb⟩
  have hbb := below_base hbb hb
  have hD2 := hD2.below hb
  have hU := hU.below hb
  have hS8 := hS8.below hb hS8.lt
  have hr4 : RB w10 A4 N4 ab := by
    have := hO4.reads
    rwa [show lastB ⟨1, 1, ab, c2⟩ = ab from if_neg (show ¬ ((1 : Nat) = 0) by omega)] at this
  obtain rfl : N4 = 2 := hr4.len.symm
  have hA4 : 2 ≠ 0 → ∀ x, A4.map (·.block) = some x → ¬ (l2.fp x ∨ x = k2 ∨ x = kc2) := fun _ x hx => by
    have h1 := (hO4.ge x hx).1
    rintro (h | h | h)
    · have := hfp2 _ h
      omega
    · omega
    · omega
  have hne15 : ¬ (l2.fp w10.heap.size ∨ w10.heap.size = k2 ∨ w10.heap.size = kc2) := by
    have h1 := hb.size
    rintro (h | h | h)
    · have := hfp2 _ h
      omega
    · omega
    · omega
  simp only []
  clear hb hO4 hk hkc hk2l hkc2l hs89 hfp2
  repeat (first
    | ((with_reducible refine wpl_store_fresh (bvs F).toArray i32 ?_ hFs (bvs_all _) ?_ ?_ ?_); (focus kernel_rfl); (focus rfl); (focus rfl); intro w11 hS11 hl hb; simp only [Act.put]; refine Hid.out ?_)
    | go_values | go_skip | go_guarded | go_step | go_upon | go_back)
  refine Lib.hid ?_
  have hbb := below_base hbb hb
  have hD2 := hD2.below hb
  have hU := hU.below hb
  have hS8 := hS8.below hb hS8.lt
  have hr4 := hr4.below hb
  obtain ⟨g15, hg15⟩ : ∃ x, w10.heap.size = x := ⟨_, rfl⟩
  rw [hg15] at hS11 hne15 ⊢
  clear hb hl hg15
  go_wp2_with fail
  refine (unext_any n HN64.out w11 base l2 d2 hD2 g hlg2 hbb.2 (by rw [HR2.out]; decide) k2 kc2 _ hU HQ2.out none 0 0 [] (RB.nil_ _ _) (Nat.le_refl _) (fun h => absurd rfl h) tb w hT hbb.1 (Nat.le_of_eq HBASE.out)).mono ?_
  rw [HE3.out]
  rintro e w12 ⟨l3, rfl, _, _, _, hm⟩
  have hbb := base_umoved hbb (Nat.le_of_eq HBASE.out) hD2 hU hm
  have hS8 := hm.chg.blk hS8 hne9
  have hS11 := hm.chg.blk hS11 hne15
  have hr4 := hm.chg.rbN hr4 hA4
  simp only []
  clear hm hD2 hU hne9 hne15 hA4
  repeat (first
    | ((with_reducible refine wpl_store_fresh (bvs F2).toArray i32 ?_ hF2s (bvs_all _) ?_ ?_ ?_); (focus kernel_rfl); (focus rfl); (focus rfl); intro w13 hS13 hl hb; simp only [Act.put]; refine Hid.out ?_)
    | go_values | go_skip | go_guarded | go_step | go_upon | go_back)
  refine Lib.hid ?_
  have hbb := below_base hbb hb
  have hS8 := hS8.below hb hS8.lt
  have hS11 := hS11.below hb hS11.lt
  have hr4 := hr4.below hb
  obtain ⟨g17, hg17⟩ : ∃ x, w12.heap.size = x := ⟨_, rfl⟩
  rw [hg17]
  clear hb hl hg17 hS13
  have hcv := conv_str hr4 c4
  have hbs : bstr ab = ⟨#[97, 98]⟩ := rfl
  rw [hbs] at hcv
  have hx := HX.out
  clear hbs hr4
  have kc' := fun (w : World) (C : Array Value) (n c : Nat) => Lib.run_convert_bytes_const (P := Tryz.prog) w 39 5 C n c Tryz.underlying39 Tryz.underlying5
  have hl14 := hS8.alloc (.cells #[.int .u8 97, .int .u8 98] 5 (2, 3))
  have hb14 := below_alloc w13 (.cells #[.int .u8 97, .int .u8 98] 5 (2, 3))
  have hab14 : RB (w13.alloc (.cells #[.int .u8 97, .int .u8 98] 5 (2, 3))) (some ⟨w13.heap.size, 0, none⟩) 2 ab := rb_lit w13 5 (2, 3) ab
  have hck14 : Calls Tryz.prog 26 #[.int .i64 1, .int .u64 1, .slice (some ⟨w13.heap.size, 0, none⟩) 2 2, .agg (bvs F).toArray] (w13.alloc (.cells #[.int .u8 97, .int .u8 98] 5 (2, 3))) fun e w' => e = .returned (.bool true) ∧ Below (w13.alloc (.cells #[.int .u8 97, .int .u8 98] 5 (2, 3))).heap.size (w13.alloc (.cells #[.int .u8 97, .int .u8 98] 5 (2, 3))) w' := by
    have := ucheck_any n HN64.out (w13.alloc (.cells #[.int .u8 97, .int .u8 98] 5 (2, 3))) 1 1 (some ⟨w13.heap.size, 0, none⟩) 2 2 ab hab14 (Nat.le_refl _) F hF tb (H.Tab.below hT (below_next' hbb.1 hb14))
    rw [HK1.out] at this
    exact this
  clear hab14
  repeat (first
    | ((with_reducible refine wpl_loadG g9 _ _ Tryz.underlying44 i32 hS8 hFs ?_ ?_ ?_); (focus rfl); (focus rfl); simp only [Act.put, List.setIfInBounds_toArray, List.set_cons_zero, List.set_cons_succ])
    | ((with_reducible refine wpl_loadG g15 _ _ Tryz.underlying44 i32 hS11 hFs ?_ ?_ ?_); (focus rfl); (focus rfl); simp only [Act.put, List.setIfInBounds_toArray, List.set_cons_zero, List.set_cons_succ])
    | ((with_reducible refine wpl_loadG g9 _ _ Tryz.underlying44 i32 hl14 hFs ?_ ?_ ?_); (focus rfl); (focus rfl); simp only [Act.put, List.setIfInBounds_toArray, List.set_cons_zero, List.set_cons_succ])
    | (go_at_call 26; refine hck14.mono ?_; rintro e w15 ⟨rfl, hb15⟩; simp only []; refine Hid.out ?_)
    | go_values | go_skip | go_guarded | go_step | go_upon | go_back)
  refine Lib.hid ?_
  have hbb := below_base hbb (below_next' hb14 hb15)
  have hS8 := hl14.below hb15 hl14.lt
  clear hl14 hb14 hb15 hck14 hS11 hcv hx
  have hl16 := hS8.alloc (.cells #[.int .u8 97, .int .u8 98] 5 (2, 3))
  have hb16 := below_alloc w15 (.cells #[.int .u8 97, .int .u8 98] 5 (2, 3))
  have hab16 : RB (w15.alloc (.cells #[.int .u8 97, .int .u8 98] 5 (2, 3))) (some ⟨w15.heap.size, 0, none⟩) 2 ab := rb_lit w15 5 (2, 3) ab
  have hck16 : Calls Tryz.prog 26 #[.int .i64 2, .int .u64 1, .slice (some ⟨w15.heap.size, 0, none⟩) 2 2, .agg (bvs F).toArray] (w15.alloc (.cells #[.int .u8 97, .int .u8 98] 5 (2, 3))) fun e w' => e = .returned (.bool false) ∧ Below (w15.alloc (.cells #[.int .u8 97, .int .u8 98] 5 (2, 3))).heap.size (w15.alloc (.cells #[.int .u8 97, .int .u8 98] 5 (2, 3))) w' := by
    have := ucheck_any n HN64.out (w15.alloc (.cells #[.int .u8 97, .int .u8 98] 5 (2, 3))) 2 1 (some ⟨w15.heap.size, 0, none⟩) 2 2 ab hab16 (Nat.le_refl _) F hF tb (H.Tab.below hT (below_next' hbb.1 hb16))
    rw [HK2.out] at this
    exact this
  clear hab16
  repeat (first
    | ((with_reducible refine wpl_loadG g9 _ _ Tryz.underlying44 i32 hl16 hFs ?_ ?_ ?_); (focus rfl); (focus rfl); simp only [Act.put, List.setIfInBounds_toArray, List.set_cons_zero, List.set_cons_succ])
    | (go_at_call 26; refine hck16.mono ?_; rintro e w17 ⟨rfl, hb17⟩; simp only [])
    | go_values | go_skip | go_guarded | go_step | go_upon | go_back)
  go_ret
  exact ⟨rfl, (below_base hbb (below_next' hb16 hb17)).1⟩
end Go.Proofs.YtmjdfajdompkeaaGreatDoor
