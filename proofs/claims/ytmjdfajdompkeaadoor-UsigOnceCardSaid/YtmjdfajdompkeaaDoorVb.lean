/- usig: New. -/
import Derived.Test.YtmjdfajdompkeaaDoorVa
namespace Go.Proofs.YtmjdfajdompkeaaDoor
open Go.RowKit Go.Rat
theorem opE_may (d : DS) (p : Int) : opE d p = 0 ∨ opE d p = 8 ∨ opE d p = 9 := by
  unfold opE
  split
  · exact .inr (.inl rfl)
  · split
    · exact .inr (.inr rfl)
    · exact .inl rfl
/-- What New gives. -/
def NewRes (w w' : World) (base : Nat) (l : DL) (i : Int) (s : CS) (E : Int) (e : Ending) : Prop :=
  (E ≠ 0 ∧ e = .returned (.tuple #[.pointer none, .int .i64 E])) ∨
  (E = 0 ∧ ∃ k kc m b, e = .returned (.tuple #[.pointer (some ⟨k, 0, none⟩), .int .i64 0]) ∧ usigF s.b = some (m, b) ∧ UsigAt w' base l k kc ⟨i, m, b, s⟩ ∧ w.heap.size ≤ k ∧ w.heap.size ≤ kc)
set_option maxRecDepth 20000 in
set_option maxHeartbeats 8000000 in
theorem unew_any (n : Nat) (hn64 : n = 64) (w : World) (base : Nat) (l : DL) (d : DS) (hD : DiskAt w base l d) (g : Nat) (hg : l.g = g) (hbase : base ≤ w.heap.size) (i p : Int) (hp : 0 ≤ p ∧ p + 20 ≤ 32768) (tb : List Int) (hT : H.Tab w tb) :
    Calls Tryd.prog 18 #[.int .i64 i, .pointer (some ⟨g, 0, none⟩), .int .i64 p] w fun e w' => NewRes w w' base l i (openCell d p) (newE i d p) e ∧ Below w.heap.size w w' := by
  have hF : newE i d p = if repB i = false then 1 else if opE d p ≠ 0 then opE d p else if usigF (opF d p).2 = none then 9 else 0 := rfl
  obtain ⟨s, hs'⟩ : ∃ s, openCell d p = s := ⟨_, rfl⟩
  have hob : (opF d p).2 = s.b := by rw [← hs']; rfl
  rw [hs']
  rw [hob] at hF
  have HS := Lib.hid hs'
  obtain ⟨R, hR⟩ : ∃ R, newE i d p = R := ⟨_, rfl⟩
  rw [hR] at hF ⊢
  have hrep := ureplica_any n hn64 w i tb hT
  obtain ⟨E, hE⟩ : ∃ E, opE d p = E := ⟨_, rfl⟩
  have hop := copen_any
  rw [hE] at hF
  have HE := Lib.hid hE
  obtain ⟨v, hv⟩ : ∃ v, repB i = v := ⟨_, rfl⟩
  rw [hv] at hF hrep
  have HF := Lib.hid hF
  clear hF hR hv hE hop hs' hob
  go_enter Tryd.func18, Tryd.ntmps18
  go_wp2_with fail
  refine hrep.mono ?_
  rintro e w1 ⟨rfl, hb⟩
  have hD := hD.below hb
  have hs := hb.size
  simp only []
  cases v
  · obtain rfl : R = 1 := by have := HF.out; simpa using this
    go_wp2_with fail
    go_ret2
    exact ⟨Or.inl ⟨by decide, rfl⟩, hb⟩
  · go_wp2_with fail
    refine (copen_any w1 base l d hD g hg (by omega) p hp).mono ?_
    rw [HE.out, HS.out]
    rintro e w2 ⟨(⟨hne, rfl⟩ | ⟨he, kc, rfl, hC, hkc⟩), hb2⟩
    · have hne' : (E != 0) = true := by simpa using hne
      obtain rfl : R = E := by have := HF.out; simpa [hne] using this
      have hb := below_next' hb hb2
      simp only []
      go_wp2_with fail
      go_ret2
      exact ⟨Or.inl ⟨hne, rfl⟩, hb⟩
    · subst he
      have hb := below_next' hb hb2
      simp only []
      go_upto_region 9 with (fail)
      have hD2 := hD.below hb2
      have hU := Blk.new w2 85 #[.pointer (some ⟨kc, 0, none⟩), .int .i64 i, .int .u64 0, .slice none 0 0]
      have hb3 := below_alloc w2 (.cells #[.pointer (some ⟨kc, 0, none⟩), .int .i64 i, .int .u64 0, .slice none 0 0] 85)
      have hkf : ¬ l.fp w2.heap.size := fun hf => by have := (hD2.fp_lt hf).2; omega
      have hfpk : ∀ x, l.fp x → x < w2.heap.size := fun x hx => (hD2.fp_lt hx).2
      have hkc2 : w2.heap.size ≠ kc := by have := hC.lt; omega
      have hs2 : base ≤ w2.heap.size := by have := hb.size; omega
      have hws : w.heap.size ≤ w2.heap.size := hb.size
      have hC := hC.below hb3
      have hb := below_next' hb hb3
      obtain ⟨w3, hw3⟩ : ∃ x, w2.alloc (.cells #[.pointer (some ⟨kc, 0, none⟩), .int .i64 i, .int .u64 0, .slice none 0 0] 85) = x := ⟨_, rfl⟩
      rw [hw3] at hU hb3 hC hb ⊢
      obtain ⟨k, hk⟩ : ∃ x, w2.heap.size = x := ⟨_, rfl⟩
      rw [hk] at hU hkf hkc2 hs2 hws hfpk ⊢
      have hln := hC.len
      have HF2 : Hid (R = if usigF s.b = none then 9 else 0) := Lib.hid (by have := HF.out; simpa using this)
      clear hw3 hk HF hb2 hb3 hD2 hrep
      have c0 := hU.cell 0
      simp only [List.getElem?_toArray, List.getElem?_cons_zero] at c0
      go_wp2_with fail
      refine (cget_any w3 base l kc s hC).mono ?_
      rintro e w4 ⟨A, c, rfl, hO, hb4⟩
      have hU := hU.below hb4 hU.lt
      have hC := hC.below hb4
      have hb := below_next' hb hb4
      have hrd := hO.reads
      simp only []
      obtain ⟨has, hhas⟩ : ∃ x, s.b = x := ⟨_, rfl⟩
      rw [hhas] at hrd hO hln ⊢
      have HH := Lib.hid hhas
      clear hhas
      by_cases h0 : has.length = 0
      · have h0' : ((has.length : Nat) : Int) = 0 := by omega
        have hus : usigF has = some (0, []) := by rw [usigF, if_pos h0]
        obtain rfl : R = 0 := by have := HF2.out; rw [HH.out, hus] at this; simpa using this
        go_wp2_with fail
        go_ret2
        exact ⟨Or.inr ⟨rfl, k, kc, 0, [], rfl, by rw [HH.out]; exact hus, ⟨⟨none, 0, 0, hU, OB.nil_ _ _ _, by simp⟩, hC, hkc2, hkf, hs2, by simp, by simp⟩, hws, by omega⟩, hb⟩
      · have h0' : ¬ ((has.length : Nat) : Int) = 0 := by omega
        have hus : usigF has = if has.length < 8 ∨ numB (num (has.take 8)) = false ∨ 1032 < has.length then none else some (num (has.take 8), has.drop 8) := by rw [usigF, if_neg h0]
        have HUS := Lib.hid hus
        clear hus h0
        go_wp2_with fail
        refine (cnew_any w4 A _ c has hrd (by omega)).mono ?_
        rintro e w5 ⟨gc, gb, rfl, hCut, hg1, hg2, hg3, hb5⟩
        have hkw4 := hU.lt
        have hU4 := hU
        have hC4 := hC
        have hb4' := hb
        have hU := hU.below hb5 hU.lt
        have hkgc : k ≠ gc := by omega
        have hkgb : gb ≠ some k := fun e => by have := (hg3 k e).1; omega
        simp only []
        go_wp2_with fail
        refine (cword_any w5 gc gb has false hCut).mono ?_
        rintro e w6 ⟨rfl, hCut6, hg6⟩
        have hb6 : Below w4.heap.size w4 w6 := hb5.grown hg6 hb5.size (fun q hq => by cases hq; exact hg1)
        have hc6 : Chg (fun x => x = k) w4 w6 := Chg.of_below _ hb6
        have hU := hU.grown hg6 (by intro e; injection e with e; exact hkgc e)
        have c2 := hU.cell 2
        have f2 := hU.frozen 2
        simp only [List.getElem?_toArray, List.getElem?_cons_zero, List.getElem?_cons_succ] at c2
        obtain ⟨T, hTK⟩ : ∃ T, takeF has false 8 = T := ⟨_, rfl⟩
        rw [hTK] at hCut6 ⊢
        obtain ⟨t1, t2, bad⟩ := T
        simp only at hCut6 ⊢
        have HTK := Lib.hid hTK
        obtain ⟨m, hm⟩ : ∃ m, num t1 = m := ⟨_, rfl⟩
        rw [hm]
        have HM := Lib.hid hm
        have ht2 : t2.length ≤ 1100 := by
          have := (takeF_length has false 8).2
          rw [hTK] at this
          simp only at this
          omega
        clear hTK hm hCut hg6 hb5 hb6 hb hO hrd
        go_upto_region 14 with (fail)
        have hg7 := grownBy_set w6 k 2 (.int .u64 (m : Int))
        have hCut7 := hCut6.grown hg7 (by intro e; injection e with e; exact hkgc e.symm) (.inl hkgb)
        have hc7 := hc6.trans (Chg.of_grown (F := fun x => x = k) hg7 rfl) (fun x hx => .inl hx)
        have hU := hU.set_ 2 (.int .u64 (m : Int))
        simp only [List.setIfInBounds_toArray, List.set_cons_zero, List.set_cons_succ] at hU
        obtain ⟨w7, hw7⟩ : ∃ x, w6.setCell ⟨k, 2, none⟩ (.int .u64 (m : Int)) = x := ⟨_, rfl⟩
        rw [hw7] at hCut7 hc7 hU ⊢
        clear hw7 hg7 hc6 hCut6 c2 f2
        go_wp2_with fail
        refine (cleft_any w7 gc gb t2 bad hCut7).mono ?_
        rintro e w7' ⟨rfl, rfl⟩
        simp only []
        go_wp2_with fail
        refine (craw_any w7 gc gb t2 bad _ hCut7 (by omega)).mono ?_
        rintro e w8 ⟨A8, N8, c8, rfl, hO8, hCut8, hg8⟩
        have hU := hU.grown hg8 (by intro e; injection e with e; exact hkgc e)
        have hc8 := hc7.trans (Chg.of_grown (F := fun x => x = gc) hg8 rfl) (fun x hx => .inr (by rw [hx]; exact hg1))
        have hO8b := OB.mono hO8 (B := w4.heap.size) hc7.size
        clear hO8
        have c3 := hU.cell 3
        have f3 := hU.frozen 3
        simp only [List.getElem?_toArray, List.getElem?_cons_zero, List.getElem?_cons_succ] at c3
        simp only []
        obtain ⟨T, hTK⟩ : ∃ T, takeF t2 bad (t2.length : Int) = T := ⟨_, rfl⟩
        rw [hTK] at hCut8 hO8b
        obtain ⟨b8, t3, bad8⟩ := T
        simp only at hCut8 hO8b
        have hbb8 : bad8 = bad ∧ (bad = false → b8 = t2) := by
          cases bad
          · rw [takeF_ok (Nat.le_refl _)] at hTK
            injection hTK with e1 e2
            injection e2 with e2 e3
            exact ⟨e3.symm, fun _ => by rw [← e1, List.take_length]⟩
          · rw [takeF_bad (.inl rfl)] at hTK
            injection hTK with e1 e2
            injection e2 with e2 e3
            exact ⟨e3.symm, fun h => by cases h⟩
        obtain ⟨rfl, hb82⟩ := hbb8
        have HB8 := Lib.hid hb82
        have hN8 : b8.length = N8 := hO8b.len
        have hb8l : b8.length ≤ 1100 := by
          have := (takeF_length t2 bad8 (t2.length : Int)).1
          rw [hTK] at this
          simp only at this
          omega
        clear hTK hc7 hCut7 hg8 hb82
        go_upto_region 15 with (fail)
        have hg9 := grownBy_set w8 k 3 (.slice A8 N8 c8)
        have hCut9 := hCut8.grown hg9 (by intro e; injection e with e; exact hkgc e.symm) (.inl hkgb)
        have hc9 := hc8.trans (Chg.of_grown (F := fun x => x = k) hg9 rfl) (fun x hx => .inl hx)
        have hO9 := OB.grown hO8b hg9 (.inl (fun e => by have := (hO8b.ge k e).1; omega))
        have hU := hU.set_ 3 (.slice A8 N8 c8)
        simp only [List.setIfInBounds_toArray, List.set_cons_zero, List.set_cons_succ] at hU
        obtain ⟨w9, hw9⟩ : ∃ x, w8.setCell ⟨k, 3, none⟩ (.slice A8 N8 c8) = x := ⟨_, rfl⟩
        rw [hw9] at hCut9 hc9 hU hO9 ⊢
        have hbF : Below w.heap.size w w9 := hb4'.trans (hc9.below (fun x e => by rw [e]; exact hws) hb4'.size)
        have hCF := hC4.kept (l' := l) hc9 (fun e => hkc2 e.symm) (fun x e => .inr ⟨_, _, e ▸ hU4, usig_ne8⟩) rfl (fun x h => .inl h)
        have c2 := hU.cell 2
        have c3 := hU.cell 3
        simp only [List.getElem?_toArray, List.getElem?_cons_zero, List.getElem?_cons_succ] at c2 c3
        have hfO : ∀ x, A8.map (·.block) = some x → ¬ l.fp x := fun x hx hf => by
          have := (hO9.ge x hx).1
          have := hfpk x hf
          omega
        have hOF := OB.mono hO9 (B := base) (by omega)
        clear hw9 hg9 hc9 hc8 hCut8 hO8b c3 f3 hU4 hC4 hb4' hO9
        have c3 := hU.cell 3
        simp only [List.getElem?_toArray, List.getElem?_cons_zero, List.getElem?_cons_succ] at c3
        go_wp2_with fail
        refine (cok_any w9 gc gb t3 bad8 hCut9).mono ?_
        rintro e w9' ⟨rfl, rfl⟩
        simp only []
        cases bad8
        · by_cases h8 : has.length < 8
          · have := HTK.out
            rw [takeF_bad (.inr (.inr (by omega)))] at this
            cases this
          have htk : t1 = has.take 8 ∧ t2 = has.drop 8 := by
            have := HTK.out
            rw [show (8 : Int) = ((8 : Nat) : Int) from rfl, takeF_ok (by omega)] at this
            injection this with e1 e2
            injection e2 with e2 e3
            exact ⟨e1.symm, e2.symm⟩
          have hb8 : b8 = has.drop 8 := by rw [HB8.out rfl, htk.2]
          have hm : num (has.take 8) = m := by rw [← htk.1]; exact HM.out
          obtain ⟨v, hv⟩ : ∃ v, numB m = v := ⟨_, rfl⟩
          have hus : usigF has = if v = false ∨ 1032 < has.length then none else some (m, b8) := by
            rw [HUS.out, hm, hv, hb8]
            congr 1
            simp only [h8, false_or]
          have hlen8 : N8 + 8 = has.length := by rw [← hN8, hb8, List.length_drop]; omega
          have HU2 := Lib.hid hus
          have HV := Lib.hid hv
          have hnum := unumbered_any w9 m
          rw [hv] at hnum
          clear hus hm htk hv HUS HTK HM HB8 hb8
          cases v
          · obtain rfl : R = 9 := by have := HF2.out; rw [HH.out, HU2.out] at this; simpa using this
            go_wp2_with (refine hnum.mono ?_; rintro e w10 ⟨rfl, rfl⟩; simp only [])
            go_ret2
            exact ⟨Or.inl ⟨by decide, rfl⟩, hbF⟩
          · by_cases h1024 : 1024 < N8
            · obtain rfl : R = 9 := by have := HF2.out; rw [HH.out, HU2.out, if_pos (Or.inr (by omega))] at this; exact this
              have h1' : (1024 : Int) < (N8 : Int) := by omega
              go_wp2_with (refine hnum.mono ?_; rintro e w10 ⟨rfl, rfl⟩; simp only [])
              go_ret2
              exact ⟨Or.inl ⟨by decide, rfl⟩, hbF⟩
            · have hus2 : usigF has = some (m, b8) := by
                rw [HU2.out, if_neg]
                rintro (h | h)
                · cases h
                · omega
              obtain rfl : R = 0 := by have := HF2.out; rw [HH.out, hus2] at this; simpa using this
              have h1' : ¬ (1024 : Int) < (N8 : Int) := by omega
              have hm65 : m ≤ 65536 := by have := HV.out; rw [numB, decide_eq_true_eq] at this; exact this.2
              go_wp2_with (refine hnum.mono ?_; rintro e w10 ⟨rfl, rfl⟩; simp only [])
              go_ret2
              exact ⟨Or.inr ⟨rfl, k, kc, m, b8, rfl, by rw [HH.out]; exact hus2, ⟨⟨A8, N8, c8, hU, hOF, hfO⟩, hCF, hkc2, hkf, hs2, hm65, by simp only; omega⟩, hws, by omega⟩, hbF⟩
        · have h8 : has.length < 8 := by
            refine Nat.lt_of_not_le fun h => ?_
            have := HTK.out
            rw [show (8 : Int) = ((8 : Nat) : Int) from rfl, takeF_ok h] at this
            injection this with e1 e2
            injection e2 with e2 e3
            cases e3
          have hus2 : usigF has = none := by rw [HUS.out, if_pos (.inl h8)]
          obtain rfl : R = 9 := by have := HF2.out; rw [HH.out, hus2] at this; simpa using this
          go_wp2_with fail
          go_ret2
          exact ⟨Or.inl ⟨by decide, rfl⟩, hbF⟩
end Go.Proofs.YtmjdfajdompkeaaDoor
