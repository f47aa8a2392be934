/- ratchetref07: the document's counter: New. -/
import Derived.Test.YtmjdfajdompkeaaGreatDoorZp
import Derived.Test.YtmjdfajdompkeaaGreatDoorZt
namespace Go.Proofs.YtmjdfajdompkeaaGreatDoor
open Go.RowKit Go.Rat
/-- No block of bytes. -/
def NB8 (w : World) (x : Nat) : Prop := ¬ ∃ cur, w.heap[x]? = some (.cells cur 5 (0, 0))
theorem Blk.nb8 {w : World} {g : Nat} {T : TypeId} {cs : Array Value} (h : Blk w g T cs) (hT : T ≠ 5) : NB8 w g := by
  rintro ⟨cur, hc⟩
  have := (show w.heap[g]? = _ from h).symm.trans hc
  injection this with this
  injection this with _ e
  exact hT e
theorem OB.not_nb8 {w : World} {base n c : Nat} {A : Option Addr} {xs : List UInt8} (h : OB 5 w base A n c xs) {x : Nat} (hx : A.map (·.block) = some x) (hn : NB8 w x) : False := hn (cells_row h hx)
/-- A counter of the document's, beside its disk. -/
structure RUsigAt (w : World) (base : Nat) (l : RL) (k kc : Nat) (s : US) : Prop where
  blk : ∃ A N c, Blk w k 81 #[.int .i64 s.i, .pointer (some ⟨kc, 0, none⟩), .int .u64 (s.n : Int), .slice A N c] ∧ OB 5 w base A N c s.b
  cell : RCellW w base l kc s.c
  ne : k ≠ kc
  out : ¬ l.fp k
  bk : base ≤ k
  n_ : s.n ≤ 65536
  b_ : s.b.length ≤ 1024
section
variable {w w' : World} {base : Nat} {l l' : RL} {k kc : Nat} {s : US}
theorem RUsigAt.lt (h : RUsigAt w base l k kc s) : k < w.heap.size := by
  obtain ⟨_, _, _, h1, _⟩ := h.blk
  exact h1.lt
theorem RUsigAt.kept {F : Nat → Prop} (h : RUsigAt w base l k kc s) (hc : Chg F w w') (hk : ¬ F k) (hkc : ¬ F kc) (hF : ∀ x, F x → NB8 w x) (hg : l'.g = l.g) (hfp : ∀ x, l'.fp x → l.fp x ∨ w.heap.size ≤ x) : RUsigAt w' base l' k kc s := by
  obtain ⟨A, N, c, h1, h2⟩ := h.blk
  refine ⟨⟨A, N, c, hc.blk h1 hk, hc.own h2 (fun x hx hf => OB.not_nb8 h2 hx (hF x hf))⟩, h.cell.kept hc hkc hg hfp, h.ne, fun hf => ?_, h.bk, h.n_, h.b_⟩
  rcases hfp k hf with h6 | h6
  · exact h.out h6
  · have := h1.lt
    omega
theorem RUsigAt.below (h : RUsigAt w base l k kc s) (hb : Below w.heap.size w w') : RUsigAt w' base l k kc s :=
  h.kept (Chg.of_below (fun _ => False) hb) (fun hf => hf) (fun hf => hf) (fun _ hf => hf.elim) rfl (fun _ hx => .inl hx)
end
/-- What New gives. -/
def RNewRes (w w' : World) (base : Nat) (l : RL) (i : Int) (s : CS) (E : Int) (e : Ending) : Prop :=
  (E ≠ 0 ∧ e = .returned (.tuple #[.pointer none, .int .i64 E])) ∨
  (E = 0 ∧ ∃ k kc m b, e = .returned (.tuple #[.pointer (some ⟨k, 0, none⟩), .int .i64 0]) ∧ usigF s.b = some (m, b) ∧ RUsigAt w' base l k kc ⟨i, m, b, s⟩ ∧ w.heap.size ≤ k ∧ w.heap.size ≤ kc)
theorem newE_one {i : Int} {d : DS} {p : Int} (h : repB i = false) : newE i d p = 1 := if_pos h
theorem newE_op {i : Int} {d : DS} {p : Int} (h : repB i = true) (h2 : opE d p ≠ 0) : newE i d p = opE d p := by
  rw [newE, if_neg (by rw [h]; decide), if_pos h2]
theorem newE_bad {i : Int} {d : DS} {p : Int} (h : repB i = true) (h2 : opE d p = 0) (h3 : usigF (opF d p).2 = none) : newE i d p = 9 := by
  rw [newE, if_neg (by rw [h]; decide), if_neg (fun q => q h2), if_pos h3]
theorem newE_ok {i : Int} {d : DS} {p : Int} (h : repB i = true) (h2 : opE d p = 0) {m : Nat} {b : List UInt8} (h3 : usigF (opF d p).2 = some (m, b)) : newE i d p = 0 := by
  rw [newE, if_neg (by rw [h]; decide), if_neg (fun q => q h2), if_neg (by rw [h3]; exact fun q => by cases q)]
theorem repB_cases (i : Int) : (repB i = false ∧ (i < 1 ∨ (¬ i < 1 ∧ 11 < i))) ∨ (repB i = true ∧ ¬ i < 1 ∧ ¬ 11 < i) := by
  unfold repB
  by_cases h : 1 ≤ i ∧ i ≤ 11
  · exact .inr ⟨decide_eq_true h, by omega, by omega⟩
  · exact .inl ⟨decide_eq_false h, by omega⟩
theorem ruse_ne8 : (81 : TypeId) ≠ 5 := by decide
theorem rcut_ne8 : (86 : TypeId) ≠ 5 := by decide
theorem rcut_neU : (86 : TypeId) ≠ 81 := by decide
set_option maxRecDepth 20000 in
set_option maxHeartbeats 8000000 in
theorem rnew7_any (w : World) (base : Nat) (l : RL) (d : DS) (hD : RDk w base l d) (g : Nat) (hg : l.g = g) (hbase : base ≤ w.heap.size) (i p : Int) (hp : 0 ≤ p ∧ p + 20 ≤ 32768) :
    Calls Tryz.prog 11 #[.int .i64 i, .pointer (some ⟨g, 0, none⟩), .int .i64 p] w fun e w' => RNewRes w w' base l i (openCell d p) (newE i d p) e ∧ Below w.heap.size w w' := by
  unfold RNewRes
  rcases repB_cases i with ⟨hr, hcs⟩ | ⟨hr, c1, c2⟩
  · rw [newE_one hr]
    rcases hcs with c1 | ⟨c1, c2⟩
    all_goals
      go_enter Tryz.func11, Tryz.ntmps11
      go_wp2_with fail
      go_ret2
      first | exact ⟨.inl ⟨by decide, rfl⟩, Below.refl _ _⟩ | exact ⟨rfl, Below.refl _ _⟩
  · have h1 := @newE_op i d p hr
    have h2 := @newE_bad i d p hr
    have h3 := @newE_ok i d p hr
    have hop : openCell d p = ⟨p, (opF d p).2, (opF d p).1, false⟩ := rfl
    obtain ⟨R, hR⟩ : ∃ R, newE i d p = R := ⟨_, rfl⟩
    obtain ⟨E, hE⟩ : ∃ E, opE d p = E := ⟨_, rfl⟩
    obtain ⟨⟨which, b⟩, hF⟩ : ∃ F, opF d p = F := ⟨_, rfl⟩
    rw [hR, hE] at h1 h2 h3
    rw [hF] at h2 h3 hop
    simp only at h2 h3 hop
    rw [hR, hop]
    have h3' : E = 0 → ∀ m c, usigF b = some (m, c) → R = 0 := fun a m c h => h3 a h
    have H1 := Lib.hid h1
    have H2 := Lib.hid h2
    have H3 := Lib.hid h3'
    have HE := Lib.hid hE
    have HOP := Lib.hid hop
    clear hR hE hF h1 h2 h3 h3' hop hr
    go_enter Tryz.func11, Tryz.ntmps11
    go_wp2_with fail
    refine (ropen5_any w base l d hD g hg hbase p hp).mono ?_
    rw [HE.out, HOP.out]
    rintro e w3 ⟨(⟨hne, rfl⟩ | ⟨he, kc, rfl, hC, hkc⟩), hb⟩
    · have hne' : (E != 0) = true := by simpa using hne
      have hr := H1.out hne
      subst hr
      simp only []
      clear H2 H3
      go_wp2_with fail
      go_ret2
      first | exact ⟨.inl ⟨hne, rfl⟩, hb⟩ | exact ⟨rfl, hb⟩ | exact ⟨⟨hne, rfl⟩, hb⟩
    · subst he
      simp only []
      obtain ⟨A', N, c', hB, hO, hA', hcc⟩ := hC.blk
      simp only at hB hO
      have hbl := hO.len
      have hbl2 := hC.len
      simp only at hbl2
      have hCW := hC.weak
      have hkl := hC.lt
      have hs3 := hb.size
      have hfl : ∀ x, l.fp x → x < w3.heap.size := fun x hf => by have := (hD.fp_lt hf).2; omega
      have hK := Blk.new w3 81 #[.int .i64 i, .pointer (some ⟨kc, 0, none⟩), .int .u64 0, .slice none 0 0]
      have hb4 := below_alloc w3 (.cells #[.int .i64 i, .pointer (some ⟨kc, 0, none⟩), .int .u64 0, .slice none 0 0] 81)
      go_upto_region 7 with (fail)
      obtain ⟨w4, hw4⟩ : ∃ x, w3.alloc (.cells #[.int .i64 i, .pointer (some ⟨kc, 0, none⟩), .int .u64 0, .slice none 0 0] 81) = x := ⟨_, rfl⟩
      rw [hw4] at hK hb4 ⊢
      have hB4 := hB.below hb4 hB.lt
      have hO4 := hO.below hb4
      have hCW := hCW.below hb4
      have hbb := below_next' hb hb4
      have hk4 := hK.lt
      obtain ⟨k, hk⟩ : ∃ x, w3.heap.size = x := ⟨_, rfl⟩
      rw [hk] at hK hk4 hkl hs3 hfl ⊢
      have hkf : ¬ l.fp k := fun hf => by have := hfl k hf; omega
      have c2 := hB4.cell 2
      simp only [List.getElem?_toArray, List.getElem?_cons_zero, List.getElem?_cons_succ] at c2
      clear hw4 hC hB hO hb hb4
      by_cases hN : N = 0
      · subst hN
        have hu : usigF b = some (0, []) := by rw [usigF, if_pos hbl]
        have hr := H3.out (by trivial) 0 [] hu
        subst hr
        have HU := Lib.hid hu
        clear hu H1 H2 H3
        go_wp2_with fail
        go_ret2
        first
        | exact ⟨.inr ⟨rfl, k, kc, 0, [], rfl, HU.out, ⟨⟨none, 0, 0, hK, OB.nil_ _ _ _⟩, hCW, by omega, hkf, by omega, by simp, by simp⟩, hs3, hkc⟩, hbb⟩
        | exact ⟨⟨k, rfl, kc, 0, [], HU.out, ⟨⟨none, 0, 0, hK, OB.nil_ _ _ _⟩, hCW, by omega, hkf, by omega, by simp, by simp⟩, hs3, hkc⟩, hbb⟩
      · have hgb0 : ∀ x, A'.map (·.block) = some x → x < k := fun x hx => by have := (hA' x hx).2.1; omega
        have hne0 : ((N : Int) == 0) = false := by simpa using hN
        have hgc := Blk.new w4 86 #[.slice A' N c', .bool false]
        have hb5 := below_alloc w4 (.cells #[.slice A' N c', .bool false] 86)
        go_upto_region 10 with (fail)
        obtain ⟨w5, hw5⟩ : ∃ x, w4.alloc (.cells #[.slice A' N c', .bool false] 86) = x := ⟨_, rfl⟩
        rw [hw5] at hgc hb5 ⊢
        have hK5 := hK.below hb5 hK.lt
        have hO5 := hO4.below hb5
        have hCW := hCW.below hb5
        have hbb := below_next' hbb hb5
        obtain ⟨gc, hgce⟩ : ∃ x, w4.heap.size = x := ⟨_, rfl⟩
        rw [hgce] at hgc hk4 ⊢
        have hCut : CutAt w5 gc 86 (A'.map (·.block)) b false := ⟨A', N, c', hgc, hO5, hcc.1, hcc.2, rfl, fun e => by have := hgb0 gc e; omega⟩
        have hkg : k ≠ gc := by omega
        have hgs : gc < w5.heap.size := hgc.lt
        clear hw5 hgce hgc hb5 hK hO4 hO5 hB4 c2
        go_wp2_with fail
        refine (rcword_any w5 gc _ b false hCut).mono ?_
        obtain ⟨⟨M0, xs1, bad1⟩, hTF⟩ : ∃ x, takeF b false 8 = x := ⟨_, rfl⟩
        rw [hTF]
        simp only []
        obtain ⟨M, hM⟩ : ∃ x, num M0 = x := ⟨_, rfl⟩
        rw [hM]
        rintro e w6 ⟨rfl, hCut6, hg6⟩
        have HTF := Lib.hid hTF
        have HM := Lib.hid hM
        have hK6 := hK5.grown hg6 (fun e => hkg (by injection e))
        have hCW6 := hCW.kept (Chg.of_grown (F := fun x => x = gc) hg6 rfl) (fun e => by omega) rfl (fun _ hx => .inl hx)
        have hbb := hbb.grown hg6 hbb.size (fun q hq => by cases hq; omega)
        have hs6 := hg6.size
        have f2 := hK6.frozen 2
        have c2 := hK6.cell 2
        simp only [List.getElem?_toArray, List.getElem?_cons_zero, List.getElem?_cons_succ] at c2
        have hK7 := hK6.set_ 2 (.int .u64 (M : Int))
        simp only [List.setIfInBounds_toArray, List.set_cons_zero, List.set_cons_succ] at hK7
        have hg7 := grownBy_set w6 k 2 (.int .u64 (M : Int))
        have hCut7 := hCut6.grown hg7 (fun e => hkg (by injection e with e; exact e.symm)) (.inl (fun e => by have := hgb0 k e; omega))
        have hCW7 := hCW6.kept (Chg.of_grown (F := fun x => x = k) hg7 rfl) (fun e => by omega) rfl (fun _ hx => .inl hx)
        have hbb := hbb.grown hg7 hbb.size (fun q hq => by cases hq; omega)
        have hs7 := hg7.size
        simp only []
        clear hCut hTF hM hCW hCW6 hCut6 hK5 hK6 hg6 hg7
        go_upto_region 11 with (fail)
        obtain ⟨w7, hw7⟩ : ∃ x, w6.setCell ⟨k, 2, none⟩ (.int .u64 (M : Int)) = x := ⟨_, rfl⟩
        rw [hw7] at hK7 hCut7 hCW7 hbb hs7 ⊢
        clear hw7 f2 c2
        obtain ⟨A5, n5, z5, hB5, hR5, _, _, hgb5, hne5, u0, u1, _, _⟩ := hCut7.open_
        have hl5 := hR5.len
        have k2 := hK7.cell 2
        have k3 := hK7.cell 3
        have f3 := hK7.frozen 3
        simp only [List.getElem?_toArray, List.getElem?_cons_zero, List.getElem?_cons_succ] at k2 k3
        by_cases h8 : b.length < 8
        · have hq := HTF.out.symm.trans (takeF_bad (xs := b) (bad := false) (k := 8) (.inr (.inr (by omega))))
          cases hq
          have hu : usigF b = none := by rw [usigF, if_neg (by omega), if_pos (.inl h8)]
          have hr := H2.out (by trivial) hu
          subst hr
          clear H1 H2 H3 hu
          go_wp2_with fail
          go_ret2
          first | exact ⟨.inl ⟨by decide, rfl⟩, hbb⟩ | exact ⟨rfl, hbb⟩
        · have hq := HTF.out.symm.trans (takeF_ok (xs := b) (k := 8) (by omega))
          cases hq
          have hl5' : n5 + 8 = b.length := by rw [← hl5, List.length_drop]; omega
          by_cases hbad : M < 1 ∨ (¬ M < 1 ∧ 65536 < M) ∨ (¬ M < 1 ∧ ¬ 65536 < M ∧ 1024 < n5)
          · have hu : usigF b = none := by
              rw [usigF, if_neg (by omega), if_pos]
              rcases hbad with h | ⟨h, h'⟩ | ⟨h, h', h''⟩
              · exact .inr (.inl (by rw [HM.out]; exact decide_eq_false (by omega)))
              · exact .inr (.inl (by rw [HM.out]; exact decide_eq_false (by omega)))
              · exact .inr (.inr (by omega))
            have hr := H2.out (by trivial) hu
            subst hr
            clear H1 H2 H3 hu hl5
            rcases hbad with h | ⟨h, h'⟩ | ⟨h, h', h''⟩
            all_goals
              go_wp2_with fail
              go_ret2
              first | exact ⟨.inl ⟨by decide, rfl⟩, hbb⟩ | exact ⟨rfl, hbb⟩
          · have hu : usigF b = some (M, b.drop 8) := by
              rw [usigF, if_neg (by omega), if_neg, HM.out]
              rintro (h | h | h)
              · exact h8 h
              · rw [HM.out] at h
                have := of_decide_eq_false h
                omega
              · omega
            have hr := H3.out (by trivial) _ _ hu
            subst hr
            have HU := Lib.hid hu
            have m1 : ¬ (M : Int) < 1 := by omega
            have m2 : ¬ (65536 : Int) < (M : Int) := by omega
            have m3 : ¬ (1024 : Int) < (n5 : Int) := by omega
            have hMb : M ≤ 65536 := by omega
            have hdl : (b.drop 8).length ≤ 1024 := by rw [List.length_drop]; omega
            clear H1 H2 H3 hu hl5 hbad
            go_upto_region 13 with (fail)
            have ua := (hB5.alloc (.cells #[] 5)).cell 0
            simp only [List.getElem?_toArray, List.getElem?_cons_zero] at ua
            go_wp2_with (at_builtin; refine app_bytes rfl _ _ rfl w7.heap.size _ _ _ [] rfl (OB.empty _ _) _ _ _ (b.drop 8) rfl (hR5.below (below_alloc _ _)) (by omega) (by simp) ?_; intro A8 N8 c8 w8 hc8 hc8' hO8 hG8; refine Hid.out ?_)
            refine Lib.hid ?_
            have hb8 : Below w7.heap.size w7 w8 := hG8.below (below_alloc _ _) (by simp) (by simp)
            have hK8 := hK7.below hb8 hK7.lt
            have hCW8 := hCW7.below hb8
            have hbb := below_next' hbb hb8
            have hs8 := hb8.size
            rw [List.nil_append] at hO8
            have f3 := hK8.frozen 3
            have c3 := hK8.cell 3
            simp only [List.getElem?_toArray, List.getElem?_cons_zero, List.getElem?_cons_succ] at c3
            have hK9 := hK8.set_ 3 (.slice A8 N8 c8)
            simp only [List.setIfInBounds_toArray, List.set_cons_zero, List.set_cons_succ] at hK9
            have hg9 := grownBy_set w8 k 3 (.slice A8 N8 c8)
            have hO9 := (Chg.of_grown (F := fun x => x = k) hg9 rfl).own hO8 (fun x hx e => by have := (OB.ge hO8 x hx).1; omega)
            have hO9 := OB.mono (B := base) hO9 (by omega)
            have hCW9 := hCW8.kept (Chg.of_grown (F := fun x => x = k) hg9 rfl) (fun e => by omega) rfl (fun _ hx => .inl hx)
            have hbb := hbb.grown hg9 hbb.size (fun q hq => by cases hq; omega)
            clear hK7 hCW7 hK8 hCW8 hG8 hb8 hO8 hCut7 hR5 hB5 u0 u1 k2 k3 hg9
            go_wp2_with fail
            go_ret2
            first
            | exact ⟨.inr ⟨rfl, k, kc, M, b.drop 8, rfl, HU.out, ⟨⟨A8, N8, c8, hK9, hO9⟩, hCW9, by omega, hkf, by omega, hMb, hdl⟩, by omega, hkc⟩, hbb⟩
            | exact ⟨⟨k, rfl, kc, M, b.drop 8, HU.out, ⟨⟨A8, N8, c8, hK9, hO9⟩, hCW9, by omega, hkf, by omega, hMb, hdl⟩, by omega, hkc⟩, hbb⟩
end Go.Proofs.YtmjdfajdompkeaaGreatDoor
