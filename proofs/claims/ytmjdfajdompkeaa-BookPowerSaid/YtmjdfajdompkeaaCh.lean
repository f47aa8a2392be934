/- cell: Open. -/
import Derived.Test.YtmjdfajdompkeaaCg
namespace Go.Proofs.Ytmjdfajdompkeaa
open Go.RowKit Go.Rat
structure CS where
  p : Int
  b : List UInt8
  which : Nat
  dead : Bool
theorem OB_ne {w : World} {base : Nat} {A : Option Addr} {n c : Nat} {xs : List UInt8} {k : Nat} {T : TypeId} {cs : Array Value} (h : OB 5 w base A n c xs) (hB : Blk w k T cs) (hT : T ≠ 5) : A.map (·.block) ≠ some k := by
  intro e
  obtain ⟨cur, hc⟩ := cells_row h e
  rw [show w.heap[k]? = _ from hB] at hc
  injection hc with hc
  injection hc with _ h2
  exact hT h2
/-- A cell beside its disk. -/
structure CellAt (w : World) (base : Nat) (l : DL) (k : Nat) (s : CS) : Prop where
  blk : ∃ A N c, Blk w k 121 #[.pointer (some ⟨l.g, 0, none⟩), .int .i64 s.p, .slice A N c, .int .i64 (s.which : Int), .bool s.dead] ∧ OB 5 w base A N c s.b ∧ (∀ x, A.map (·.block) = some x → ¬ l.fp x)
  out : ¬ l.fp k
  bk : base ≤ k
  wh : s.which ≤ 1
  len : s.b.length ≤ 1100
theorem cell_ne8 : (121 : TypeId) ≠ 5 := by decide
theorem CellAt.lt {w : World} {base : Nat} {l : DL} {k : Nat} {s : CS} (h : CellAt w base l k s) : k < w.heap.size := by
  obtain ⟨_, _, _, h1, _⟩ := h.blk
  exact h1.lt
theorem CellAt.kept {w w' : World} {base : Nat} {l l' : DL} {k : Nat} {s : CS} {F : Nat → Prop} (h : CellAt w base l k s) (hc : Chg F w w') (hk : ¬ F k) (hF : ∀ x, F x → l.fp x ∨ ∃ T cs, Blk w x T cs ∧ T ≠ 5) (hg : l'.g = l.g) (hfp : ∀ x, l'.fp x → l.fp x ∨ w.heap.size ≤ x) : CellAt w' base l' k s := by
  obtain ⟨A, N, c, h1, h2, h3⟩ := h.blk
  have hA : ∀ x, A.map (·.block) = some x → ¬ F x := fun x hx hf => by
    rcases hF x hf with h4 | ⟨T, cs, h4, h5⟩
    · exact h3 x hx h4
    · exact OB_ne h2 h4 h5 hx
  refine ⟨⟨A, N, c, by rw [hg]; exact hc.blk h1 hk, hc.own h2 hA, fun x hx hf => ?_⟩, fun hf => ?_, h.bk, h.wh, h.len⟩
  · rcases hfp x hf with h4 | h4
    · exact h3 x hx h4
    · have := (h2.ge x hx).2
      omega
  · rcases hfp k hf with h4 | h4
    · exact h.out h4
    · have := h1.lt
      omega
theorem CellAt.moved {w w' : World} {base : Nat} {l l' : DL} {k : Nat} {s : CS} (h : CellAt w base l k s) (hm : Moved w w' l l') : CellAt w' base l' k s :=
  h.kept hm.chg h.out (fun _ hx => .inl hx) (congrArg Prod.fst hm.g) hm.fp
theorem CellAt.below {w w' : World} {base : Nat} {l : DL} {k : Nat} {s : CS} (h : CellAt w base l k s) (hb : Below w.heap.size w w') : CellAt w' base l k s := h.moved (Moved.of_below hb)
theorem endF_len (n : Nat) (all : List UInt8) : (endF n all).2.length ≤ 1100 := by
  unfold endF
  split
  · next h => simp only [List.length_take]; omega
  · simp
theorem rdF_len (F : Nat → Option (List UInt8)) : (rdF F).2.length ≤ 1100 := by
  unfold rdF
  split
  · simp
  · exact endF_len _ _
def openCell (d : DS) (p : Int) : CS := ⟨p, (opF d p).2, (opF d p).1, false⟩
theorem opF_wh (d : DS) (p : Int) : (opF d p).1 ≤ 1 := by
  unfold opF
  split <;> simp
theorem opF_len (d : DS) (p : Int) : (opF d p).2.length ≤ 1100 := by
  unfold opF
  split <;> exact rdF_len _
set_option maxRecDepth 20000 in
set_option maxHeartbeats 8000000 in
theorem copen_any (w : World) (base : Nat) (l : DL) (d : DS) (hD : DiskAt w base l d) (g : Nat) (hg : l.g = g) (hbase : base ≤ w.heap.size) (p : Int) (hp : 0 ≤ p ∧ p + 20 ≤ 32768) :
    Calls Try.prog 38 #[.pointer (some ⟨g, 0, none⟩), .int .i64 p] w fun e w' => ((opE d p ≠ 0 ∧ e = .returned (.tuple #[.pointer none, .int .i64 (opE d p)])) ∨
      (opE d p = 0 ∧ ∃ k, e = .returned (.tuple #[.pointer (some ⟨k, 0, none⟩), .int .i64 0]) ∧ CellAt w' base l k (openCell d p) ∧ w.heap.size ≤ k)) ∧ Below w.heap.size w w' := by
  have hmay : mayE p = 0 := if_pos ⟨hp.1, by omega⟩
  have HMAY := Lib.hid hmay
  clear hmay
  go_enter Try.func38, Try.ntmps38
  go_upto_region 2 with (fail)
  have hC := Blk.new w 121 #[.pointer (some ⟨g, 0, none⟩), .int .i64 p, .slice none 0 0, .int .i64 0, .bool false]
  have hb1 := below_alloc w (.cells #[.pointer (some ⟨g, 0, none⟩), .int .i64 p, .slice none 0 0, .int .i64 0, .bool false] 121)
  obtain ⟨w1, hw1⟩ : ∃ x, w.alloc (.cells #[.pointer (some ⟨g, 0, none⟩), .int .i64 p, .slice none 0 0, .int .i64 0, .bool false] 121) = x := ⟨_, rfl⟩
  rw [hw1] at hC hb1 ⊢
  have hs1 : w.heap.size < w1.heap.size := hC.lt
  have hD1 := hD.below hb1
  have hkf : ¬ l.fp w.heap.size := fun hf => by have := (hD.fp_lt hf).2; omega
  clear hw1 hD
  obtain ⟨k, hk⟩ : ∃ x, w.heap.size = x := ⟨_, rfl⟩
  rw [hk] at hC hkf hs1 ⊢
  have HK := Lib.hid hk
  clear hk
  have c0 := hC.cell 0
  have c1 := hC.cell 1
  simp only [List.getElem?_toArray, List.getElem?_cons_zero, List.getElem?_cons_succ] at c0 c1
  go_wp2_with fail
  refine (may_any w1 g p).mono ?_
  rw [HMAY.out]
  rintro e w2 ⟨rfl, hb2⟩
  simp only []
  have hbb : Below w.heap.size w w2 := hb1.trans (hb2.mono (by have := hb1.size; omega))
  have hC := hC.below hb2 hC.lt
  have hD2 := hD1.below hb2
  clear hb1 hb2 c0 c1 hD1
  go_wp2_with fail
  refine (gpower w2 base g l d hD2 hg).mono ?_
  rintro e w2' ⟨rfl, rfl⟩
  cases hoff : d.off
  · have ho : opE d p = if (slotV d p 0).1 = 0 ∧ (slotV d p 1).1 = 0 then 9 else 0 := by rw [opE, hoff, if_neg (by decide)]
    have hof : opF d p = if (slotV d p 0).1 < (slotV d p 1).1 then (1, (slotV d p 1).2) else (0, (slotV d p 0).2) := rfl
    have hwh := opF_wh d p
    have hln := opF_len d p
    have HO := Lib.hid ho
    have HOF := Lib.hid hof
    have HWH := Lib.hid hwh
    have HLN := Lib.hid hln
    clear ho hof hoff hwh hln
    have c0 := hC.cell 0
    have c1 := hC.cell 1
    simp only [List.getElem?_toArray, List.getElem?_cons_zero, List.getElem?_cons_succ] at c0 c1
    have hfl : ∀ x, l.fp x → x < w2.heap.size := fun x hx => (hD2.fp_lt hx).2
    simp only []
    go_wp2_with fail
    refine (cread_any w2 base l d hD2 g hg p 0 (by omega) hp).mono ?_
    rintro e w3 ⟨A0, N0, z0, rfl, hO0, hb3⟩
    simp only []
    have hbb3 := hbb.trans (hb3.mono hbb.size)
    have hC3 := hC.below hb3 hC.lt
    have hD3 := hD2.below hb3
    clear c0 c1 hC hD2
    have c0 := hC3.cell 0
    have c1 := hC3.cell 1
    simp only [List.getElem?_toArray, List.getElem?_cons_zero, List.getElem?_cons_succ] at c0 c1
    go_wp2_with fail
    refine (cread_any w3 base l d hD3 g hg p 1 (by omega) hp).mono ?_
    rintro e w4 ⟨A1, N1, z1, rfl, hO1, hb4⟩
    simp only []
    have hbb4 := hbb3.trans (hb4.mono hbb3.size)
    have hC4 := hC3.below hb4 hC3.lt
    have hD4 := hD3.below hb4
    have hO0 := OB.grown hO0 (grownBy_of_below hb4 none) (.inr rfl)
    have hf0 : ∀ x, A0.map (·.block) = some x → ¬ l.fp x := fun x hx hf => by
      have h1 := (hO0.ge x hx).1
      have h2 := hfl x hf
      omega
    have hf1 : ∀ x, A1.map (·.block) = some x → ¬ l.fp x := fun x hx hf => by
      have h1 := (hO1.ge x hx).1
      have h2 := hfl x hf
      have := hb3.size
      omega
    have hs23 : w.heap.size ≤ w2.heap.size ∧ w2.heap.size ≤ w3.heap.size := ⟨hbb.size, hb3.size⟩
    clear c0 c1 hC3 hD3 hD4 hbb hbb3 hb3 hb4 hs1 hfl
    obtain ⟨⟨n, a⟩, h0⟩ : ∃ x, slotV d p 0 = x := ⟨_, rfl⟩
    rw [h0] at HO HOF hO0 ⊢
    obtain ⟨⟨m, b⟩, h1⟩ : ∃ x, slotV d p 1 = x := ⟨_, rfl⟩
    rw [h1] at HO HOF hO1 ⊢
    clear h0 h1
    simp only at HO HOF hO0 hO1 ⊢
    by_cases hlt : n < m
    · skip
      have hoe : opE d p = 0 := by rw [HO.out, if_neg (by omega)]
      have hff : opF d p = (1, b) := by rw [HOF.out, if_pos hlt]
      have HOE := Lib.hid hoe
      have HFF := Lib.hid hff
      have hlt' : (n : Int) < (m : Int) := by omega
      clear hoe hff
      have f3 := hC4.frozen 3
      have c3 := hC4.cell 3
      have f2 := hC4.frozen 2
      have c2 := hC4.cell 2
      simp only [List.getElem?_toArray, List.getElem?_cons_zero, List.getElem?_cons_succ] at c2 c3
      have hC5 := hC4.set_ 3 (.int .i64 1)
      have hC6 := hC5.set_ 2 (.slice A1 N1 z1)
      simp only [List.setIfInBounds_toArray, List.set_cons_zero, List.set_cons_succ] at hC6
      have hg5 := grownBy_set w4 k 3 (.int .i64 1)
      have hg6 := grownBy_set (w4.setCell ⟨k, 3, none⟩ (.int .i64 1)) k 2 (.slice A1 N1 z1)
      have hO16 := (OB.grown (OB.grown hO1 hg5 (.inl (OB_ne hO1 hC4 cell_ne8))) hg6 (.inl (OB_ne hO1 hC4 cell_ne8))).mono (B := base) (by omega)
      have hbb6 := (hbb4.grown hg5 hbb4.size (fun q hq => by cases hq; exact Nat.le_of_eq HK.out)).grown hg6 (by have := hbb4.size; have := hg5.size; omega) (fun q hq => by cases hq; exact Nat.le_of_eq HK.out)
      clear hC4 hC5 hg5 hg6 hbb4 hO1 hO0
      by_cases hn0 : n = 0
      · subst hn0
        have hm0 : ((m : Int) == 0) = false := by simp; omega
        go_wp2_with fail
        go_ret2
        exact ⟨.inr ⟨by rw [HOE.out], k, rfl, ⟨⟨A1, N1, z1, by rw [hg, openCell, HFF.out]; exact hC6, by rw [openCell, HFF.out]; exact hO16, hf1⟩, hkf, by have := HK.out; omega, HWH.out, HLN.out⟩, Nat.le_of_eq HK.out⟩, hbb6⟩
      · have hn0' : ((n : Int) == 0) = false := by simpa using hn0
        clear hn0
        go_wp2_with fail
        go_ret2
        exact ⟨.inr ⟨by rw [HOE.out], k, rfl, ⟨⟨A1, N1, z1, by rw [hg, openCell, HFF.out]; exact hC6, by rw [openCell, HFF.out]; exact hO16, hf1⟩, hkf, by have := HK.out; omega, HWH.out, HLN.out⟩, Nat.le_of_eq HK.out⟩, hbb6⟩
    · by_cases hm0 : m = 0 ∧ n = 0
      · obtain ⟨rfl, rfl⟩ := hm0
        have hoe : opE d p = 9 := by rw [HO.out, if_pos ⟨rfl, rfl⟩]
        have HOE := Lib.hid hoe
        clear hoe
        go_wp2_with fail
        go_ret2
        exact ⟨.inl ⟨by rw [HOE.out]; decide, by rw [HOE.out]; rfl⟩, hbb4⟩
      · skip
        have hn0 : n ≠ 0 := by omega
        have hoe : opE d p = 0 := by rw [HO.out, if_neg (by omega)]
        have hff : opF d p = (0, a) := by rw [HOF.out, if_neg hlt]
        have HOE := Lib.hid hoe
        have HFF := Lib.hid hff
        have hlt' : ¬ (n : Int) < (m : Int) := by omega
        have hn0' : ((n : Int) == 0) = false := by simpa using hn0
        clear hoe hff hn0
        have f2 := hC4.frozen 2
        have c2 := hC4.cell 2
        simp only [List.getElem?_toArray, List.getElem?_cons_zero, List.getElem?_cons_succ] at c2
        have hC6 := hC4.set_ 2 (.slice A0 N0 z0)
        simp only [List.setIfInBounds_toArray, List.set_cons_zero, List.set_cons_succ] at hC6
        have hg6 := grownBy_set w4 k 2 (.slice A0 N0 z0)
        have hO06 := (OB.grown hO0 hg6 (.inl (OB_ne hO0 hC4 cell_ne8))).mono (B := base) (by omega)
        have hbb6 := hbb4.grown hg6 hbb4.size (fun q hq => by cases hq; exact Nat.le_of_eq HK.out)
        clear hC4 hg6 hbb4 hO1 hO0
        go_wp2_with fail
        go_ret2
        exact ⟨.inr ⟨by rw [HOE.out], k, rfl, ⟨⟨A0, N0, z0, by rw [hg, openCell, HFF.out]; exact hC6, by rw [openCell, HFF.out]; exact hO06, hf0⟩, hkf, by have := HK.out; omega, HWH.out, HLN.out⟩, Nat.le_of_eq HK.out⟩, hbb6⟩
  · have ho : opE d p = 8 := by rw [opE, hoff, if_pos rfl]
    have HO := Lib.hid ho
    clear ho hoff
    simp only []
    go_wp2_with fail
    go_ret2
    exact ⟨.inl ⟨by rw [HO.out]; decide, by rw [HO.out]; rfl⟩, hbb⟩
end Go.Proofs.Ytmjdfajdompkeaa
