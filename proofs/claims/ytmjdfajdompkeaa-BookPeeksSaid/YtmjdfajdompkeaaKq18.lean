/- ratchetref06: lived, Open. -/
import Derived.Test.YtmjdfajdompkeaaKq17
namespace Go.Proofs.Ytmjdfajdompkeaa
open Go.RowKit Go.Rat
/-- A row of slices that is read; its blocks are newer than k and no disk's. -/
structure RowN (w : World) (P : Nat → Prop) (k : Nat) (A : Option Addr) (N : Nat) (ps : List Pt) : Prop where
  r : RowR w A N ps
  a : ∀ g, A.map (·.block) = some g → k < g ∧ g < w.heap.size ∧ ¬ P g
  o : ∀ p ∈ ps, ∀ g, p.A.map (·.block) = some g → k < g ∧ g < w.heap.size ∧ ¬ P g
section
variable {w w' : World} {P P' F : Nat → Prop} {k N : Nat} {A : Option Addr} {ps : List Pt}
theorem RowR.kept (h : RowR w A N ps) (hc : Chg F w w') (ha : ∀ g, A.map (·.block) = some g → g < w.heap.size ∧ ¬ F g) (ho : ∀ p ∈ ps, ∀ g, p.A.map (·.block) = some g → ¬ F g) : RowR w' A N ps := by
  refine ⟨h.len, fun hN => ?_, fun p hp => ⟨hc.rb (h.ok p hp).r (ho p hp), (h.ok p hp).c⟩⟩
  obtain ⟨ad, rfl, hc2⟩ := h.cells hN
  refine ⟨ad, rfl, fun i p hp => ?_⟩
  have h1 := ha ad.block rfl
  rw [← hc2 i p hp]
  exact World.cell?_of_block (by rw [block_of_add]; exact hc.block _ h1.1 h1.2)
theorem RowN.kept (h : RowN w P k A N ps) (hc : Chg F w w') (hF : ∀ x, F x → P x ∨ x ≤ k) (hP : ∀ x, P' x → P x ∨ w.heap.size ≤ x) : RowN w' P' k A N ps := by
  have hnF : ∀ g, (k < g ∧ g < w.heap.size ∧ ¬ P g) → ¬ F g := fun g h1 hf => by
    rcases hF g hf with h2 | h2
    · exact h1.2.2 h2
    · omega
  have hnP : ∀ g, (k < g ∧ g < w.heap.size ∧ ¬ P g) → k < g ∧ g < w'.heap.size ∧ ¬ P' g := fun g h1 => ⟨h1.1, Nat.lt_of_lt_of_le h1.2.1 hc.size, fun hp => by
    rcases hP g hp with h2 | h2
    · exact h1.2.2 h2
    · omega⟩
  exact ⟨h.r.kept hc (fun g hg => ⟨(h.a g hg).2.1, hnF g (h.a g hg)⟩) (fun p hp g hg => hnF g (h.o p hp g hg)), fun g hg => hnP g (h.a g hg), fun p hp g hg => hnP g (h.o p hp g hg)⟩
theorem RowN.below (h : RowN w P k A N ps) (hb : Below w.heap.size w w') : RowN w' P k A N ps := h.kept (Chg.of_below (fun _ => False) hb) (fun _ hf => hf.elim) (fun _ hx => .inl hx)
theorem RowN.nil (w : World) (P : Nat → Prop) (k : Nat) : RowN w P k none 0 [] := ⟨⟨rfl, fun h => absurd h (by omega), by simp⟩, by simp, by simp⟩
theorem RowN.of_row {l : DL} {b c : Nat} (h : Row w l b A N c ps) (hk : k < b) (hge : ∀ q ∈ ps, ∀ g, q.A.map (·.block) = some g → b ≤ g) (hP : ∀ g, b ≤ g → ¬ l.fp g → ¬ P g) : RowN w P k A N ps :=
  ⟨h.reads, fun g hg => ⟨by have := (h.ltA g hg).1; omega, (h.ltA g hg).2, hP g (h.ltA g hg).1 (h.outA g hg)⟩, fun p hp g hg => ⟨by have := hge p hp g hg; omega, h.lt p hp g hg, hP g (hge p hp g hg) (h.out p hp g hg)⟩⟩
end
section
variable {d : DS} {p : Int}
theorem lived_bad1 (h : opE d p ≠ 0) : livedF d p = (opE d p, 0) := if_pos h
theorem lived_bad2 (h : opE d p = 0) (h1 : (opF d p).2.length ≠ 0) (h2 : (opF d p).2.length ≠ 8) : livedF d p = (9, 0) := by
  rw [livedF, if_neg (fun q => q h), if_neg h1, if_neg h2]
theorem lived_ok (h : opE d p = 0) (hl : (opF d p).2.length = 0 ∨ (opF d p).2.length = 8) : livedF d p = (0, num (opF d p).2) := by
  rw [livedF, if_neg (fun q => q h)]
  by_cases h0 : (opF d p).2.length = 0
  · rw [if_pos h0, List.length_eq_zero_iff.1 h0]
    rfl
  · rw [if_neg h0, if_pos (by omega)]
theorem live_bad {E : Int} (h : livedF d p = (E, 0)) (hE : E ≠ 0) : liveF d p = (d, E, 0) := by
  rw [liveF, h, if_pos hE]
theorem live_ok {v : Nat} (h : livedF d p = (0, v)) : liveF d p = ((ptF d p (opF d p).1 (be 8 ((v + 1) % 2 ^ 64))).1, (ptF d p (opF d p).1 (be 8 ((v + 1) % 2 ^ 64))).2, (v + 1) % 2 ^ 64) := by
  have hl : lifeF d p = (v + 1) % 2 ^ 64 := by rw [lifeF, h]
  rw [liveF, h, if_neg (by simp), hl]
end
theorem rlived_any (w : World) (A : Option Addr) (n c : Nat) (xs : List UInt8) (hR : RB w A n xs) (hn : n ≤ 8) : Calls Try.prog 76 #[.slice A n c] w fun e w' => e = .returned (.int .u64 (num xs : Int)) ∧ w = w' := by
  have hl := hR.len
  go_enter Try.func76, Try.ntmps76
  go_wp2_with fail
  go_loop [3, 4] (fun v i => ∃ j : Nat, j ≤ n ∧ i = .int .i64 j ∧ v = .int .u64 (num (xs.take j))) (fun _ i => n - (intOf i).toNat)
  case atStart => exact ⟨0, Nat.zero_le _, rfl, rfl⟩
  case round =>
    obtain ⟨j, hj, rfl, rfl⟩ := hrel
    by_cases hlt : j < n
    · obtain ⟨ad, rfl, hb, hc⟩ := hR.at_ (k := j) (by omega)
      have HN := Lib.hid (num_next (ys := xs) (j := j) (by omega) (by omega))
      have g1 : (j : Int) < (n : Int) := by omega
      have g0 : (0 : Int) ≤ (j : Int) := by omega
      go_wp2_with fail
      exact ⟨⟨j + 1, by omega, congrArg (Value.int .i64) (by omega), by rw [← HN.out]; simp [List.getD_eq_getElem?_getD, List.getElem?_eq_getElem (show j < xs.length by omega)]⟩, by simp [intOf]; omega⟩
    · obtain rfl : j = n := by omega
      have g1 : ¬ (j : Int) < (j : Int) := by omega
      have hx : xs.take j = xs := List.take_of_length_le (by omega)
      rw [hx]
      go_wp2_with fail
      go_ret
      exact ⟨rfl, rfl⟩
theorem bmay_cases (p size : Int) : (bmayE p size = 1 ∧ (size < 21 ∨ (¬ size < 21 ∧ 32768 < size) ∨ (¬ size < 21 ∧ ¬ 32768 < size ∧ p < 0) ∨ (¬ size < 21 ∧ ¬ 32768 < size ∧ ¬ p < 0 ∧ 32768 - size < p))) ∨ (bmayE p size = 0 ∧ ¬ size < 21 ∧ ¬ 32768 < size ∧ ¬ p < 0 ∧ ¬ 32768 - size < p) := by
  unfold bmayE
  split
  · exact .inl ⟨rfl, by omega⟩
  · exact .inr ⟨rfl, by omega⟩
set_option maxRecDepth 20000 in
set_option maxHeartbeats 8000000 in
theorem ropen6_any (w : World) (base : Nat) (l : RL) (d : DS) (hD : RDk w base l d) (g : Nat) (hg : l.g = g) (hbase : base ≤ w.heap.size) (hlo : d.loose.length < 800000000) (p size : Int) :
    Calls Try.prog 52 #[.pointer (some ⟨g, 0, none⟩), .int .i64 p, .int .i64 size] w fun e w' => ∃ l', l'.g = g ∧ RDk w' base l' (bopD d p size) ∧ RMoved w w' l l' ∧
      ((bopE d p size ≠ 0 ∧ e = .returned (.tuple #[.pointer none, .slice none 0 0, .int .i64 (bopE d p size)])) ∨
       (bopE d p size = 0 ∧ ∃ k A N c ps, e = .returned (.tuple #[.pointer (some ⟨k, 0, none⟩), .slice A N c, .int .i64 0]) ∧ w.heap.size ≤ k ∧ RBookAt w' base l' k (bopS d p size) ∧ RowN w' l'.fp k A N ps ∧ ps.map (·.xs) = (bopA d p size).1)) := by
  have hE : bopE d p size = if bmayE p size ≠ 0 then bmayE p size else (liveF d p).2.1 := rfl
  have hDD : bopD d p size = if bmayE p size ≠ 0 then d else (liveF d p).1 := rfl
  rcases bmay_cases p size with ⟨hm, hcs⟩ | ⟨hm, c1, c2, c3, c4⟩
  · rw [if_pos (by rw [hm]; decide), hm] at hE
    rw [if_pos (by rw [hm]; decide)] at hDD
    rw [hE, hDD]
    clear hE hDD hm
    rcases hcs with c1 | ⟨c1, c2⟩ | ⟨c1, c2, c3⟩ | ⟨c1, c2, c3, c4⟩
    all_goals
      go_enter Try.func52, Try.ntmps52
      go_wp2_with fail
      go_ret3
      first | exact ⟨l, hg, hD, RMoved.refl _ _, rfl⟩ | exact ⟨l, hg, hD, RMoved.refl _ _, .inl ⟨by decide, rfl⟩⟩
  · rw [if_neg (by rw [hm]; decide)] at hE hDD
    have hA : bopA d p size = allF (seeD (liveF d p).1) (p + size) (liveF d p).2.2 size.toNat (p + 20) 0 1 := rfl
    have hS : bopS d p size = ⟨(bopA d p size).2.1, p + size, (liveF d p).2.2, (bopA d p size).2.2, false⟩ := rfl
    rw [hE, hDD, hS, hA]
    clear hE hDD hA hS hm
    obtain ⟨R, hR⟩ : ∃ R, liveF d p = R := ⟨_, rfl⟩
    rw [hR]
    have HR := Lib.hid hR
    have hop : openCell d p = ⟨p, (opF d p).2, (opF d p).1, false⟩ := rfl
    have hl1 := @lived_bad1 d p
    have hl2 := @lived_bad2 d p
    have hl3 := @lived_ok d p
    have hl5 : ∀ v, livedF d p = (0, v) → liveF d p = ((ptF d p (opF d p).1 (be 8 ((v + 1) % 2 ^ 64))).1, (ptF d p (opF d p).1 (be 8 ((v + 1) % 2 ^ 64))).2, (v + 1) % 2 ^ 64) := fun v h => live_ok h
    obtain ⟨E, hE⟩ : ∃ E, opE d p = E := ⟨_, rfl⟩
    obtain ⟨⟨which, b⟩, hF⟩ : ∃ F, opF d p = F := ⟨_, rfl⟩
    rw [hE] at hl1 hl2 hl3
    rw [hF] at hl2 hl3 hl5 hop
    simp only at hl2 hl3 hl5 hop
    have HE := Lib.hid hE
    have HF := Lib.hid hF
    have HL1 := Lib.hid hl1
    have HL2 := Lib.hid hl2
    have HL3 := Lib.hid hl3
    have HL5 := Lib.hid hl5
    have HOP := Lib.hid hop
    clear hR hE hF hl1 hl2 hl3 hl5 hop
    go_enter Try.func52, Try.ntmps52
    go_wp2_with fail
    refine (ropen5_any w base l d hD g hg hbase p (by omega)).mono ?_
    rw [HE.out, HOP.out]
    rintro e w3 ⟨(⟨hne, rfl⟩ | ⟨he, k, rfl, hC, hk⟩), hb⟩
    · have hne' : (E != 0) = true := by simpa using hne
      have hr := HR.out.symm.trans (live_bad (HL1.out hne) hne)
      subst hr
      simp only []
      have hD := hD.below hb
      clear HL1 HL2 HL3 HL5 HR
      go_wp2_with fail
      go_ret3
      first | exact ⟨l, hg, hD, RMoved.of_below hb, rfl⟩ | exact ⟨l, hg, hD, RMoved.of_below hb, .inl ⟨hne, rfl⟩⟩ | exact ⟨l, hg, hD, RMoved.of_below hb, hne, rfl⟩
    · subst he
      simp only []
      have hD := hD.below hb
      obtain ⟨A', N, c', hB, hO, hA'⟩ := hC.blk
      simp only at hB hO
      have hbl := hO.len
      have k2 := hB.cell 2
      simp only [List.getElem?_toArray, List.getElem?_cons_zero, List.getElem?_cons_succ] at k2
      by_cases hln : N = 0 ∨ N = 8
      · have hlv := HL3.out rfl (by rw [hbl]; exact hln)
        have hlv5 := HL5.out _ hlv
        have hr := HR.out.symm.trans hlv5
        have HRR := Lib.hid hr
        have hlive := rlived_any w3 A' N c' b hO (by omega)
        have hwr := wrap64u (num b)
        obtain ⟨v, hv⟩ : ∃ v, num b = v := ⟨_, rfl⟩
        rw [hv] at hlive hwr HRR
        obtain ⟨y, hy⟩ : ∃ y, (v + 1) % 2 ^ 64 = y := ⟨_, rfl⟩
        have hy64 : y < 2 ^ 64 := by rw [← hy]; exact Nat.mod_lt _ (by decide)
        rw [hy] at hwr HRR
        have HY := Lib.hid hy
        have HWR := Lib.hid hwr
        have HLIVE := Lib.hid hlive
        have hcs : N = 0 ∨ (((N : Int) != 0) = true ∧ ((N : Int) != 8) = false) := by
          rcases hln with h | h
          · exact .inl h
          · subst h; exact .inr ⟨rfl, rfl⟩
        clear hlv hlv5 hr hln hv hy hlive hwr HL1 HL2 HL3 HL5 HR
        rcases hcs with rfl | ⟨n1, n2⟩
        all_goals
          go_wp2_with fail
          refine HLIVE.out.mono ?_
          rintro e w3' ⟨rfl, rfl⟩
          simp only []
          go_wp2_with fail
          rw [HWR.out]
          have hfl : ∀ x, l.fp x → x < w3.heap.size := fun x hf => (hD.fp_lt hf).2
          have hkl : k < w3.heap.size := hC.lt
          refine (rword_any w3 none 0 0 [] y (RB.nil_ _ _) (by omega) hy64).mono ?_
          rintro e w4 ⟨A1, N1, z1, rfl, hO1, hb1⟩
          rw [List.nil_append] at hO1
          have hl1 := hO1.len
          rw [be_length] at hl1
          subst hl1
          simp only []
          have hD := hD.below hb1
          have hC := hC.below hb1
          have hbb := below_next' hb hb1
          have hbs := hbb.size
          have hge1 := hO1.ge
          have hr1 := hO1.reads
          clear hO1 hb1 k2 hB hO hA' HLIVE HWR HY hbl
          go_wp2_with fail
          refine (rput5_any w4 base l d hD g hg (by omega) hlo k _ hC (by simp only; omega) rfl A1 8 z1 (be 8 y) hr1 (by omega) (fun _ x hx => ⟨fun hf => by have h1 := (hge1 x hx).1; have := hfl x hf; omega, by have h1 := (hge1 x hx).1; omega⟩)).mono ?_
          simp only []
          have hrr := HRR.out
          obtain ⟨⟨D2, E2⟩, hp2⟩ : ∃ x, ptF d p which (be 8 y) = x := ⟨_, rfl⟩
          rw [hp2] at hrr ⊢
          subst hrr
          rintro e w5 ⟨l5, rfl, hg5, hD5, _, hm⟩
          have hm := hm.fresh hbb hk
          simp only [] at hD5 ⊢
          clear hD hC hr1 hp2 HRR hge1 hfl hbb
          by_cases hE2 : E2 = 0
          · subst hE2
            have v1 : IntKind.i64.wrap (p + 20) = p + 20 := IntWalk.i64_in _ (by omega)
            have v2 : IntKind.i64.wrap (p + size) = p + size := IntWalk.i64_in _ (by omega)
            go_upto_region 13 with (fail)
            have hK := Blk.new w5 92 #[.pointer (some ⟨g, 0, none⟩), .int .i64 (p + 20), .int .i64 (p + size), .int .u64 (y : Int), .int .i64 0, .bool false]
            have hb6 := below_alloc w5 (.cells #[.pointer (some ⟨g, 0, none⟩), .int .i64 (p + 20), .int .i64 (p + size), .int .u64 (y : Int), .int .i64 0, .bool false] 92)
            have hfl5 : ∀ x, l5.fp x → x < w5.heap.size := fun x hf => (hD5.fp_lt hf).2
            have hs5 := hm.chg.size
            obtain ⟨w6, hw6⟩ : ∃ x, w5.alloc (.cells #[.pointer (some ⟨g, 0, none⟩), .int .i64 (p + 20), .int .i64 (p + size), .int .u64 (y : Int), .int .i64 0, .bool false] 92) = x := ⟨_, rfl⟩
            rw [hw6] at hK hb6 ⊢
            have hD6 := hD5.below hb6
            have hm6 := hm.trans (RMoved.of_below (l := l5) hb6)
            have hk6 : w5.heap.size < w6.heap.size := hK.lt
            obtain ⟨kb, hkb⟩ : ∃ x, w5.heap.size = x := ⟨_, rfl⟩
            rw [hkb] at hK hfl5 hs5 hk6 ⊢
            have hkf : ¬ l5.fp kb := fun hf => by have := hfl5 kb hf; omega
            have hB6 : RBookAt w6 base l5 kb ⟨p + 20, p + size, y, 0, false⟩ := ⟨by rw [hg5]; exact hK, hkf, by omega⟩
            clear hw6 hK hD5 hm hb6
            go_wp2_with fail
            refine (rall_any w6 base l5 D2 hD6 g hg5 kb _ hB6 ⟨by simp only; omega, by simp only; omega, by simp only; omega, by simp only; omega, hy64⟩ size.toNat (by simp only; omega)).mono ?_
            rintro e w7 ⟨A, N, c, ps, rfl, hR, hge, hxs, hB7, hg7⟩
            simp only [] at hR hxs hB7 ⊢
            have hD7 := hD6.kept (Chg.of_grown (F := fun x => x = kb) hg7 rfl) (fun x hx e => hkf (e ▸ hx))
            have hm7 : RMoved w w7 l l5 := ⟨hm6.g, hm6.chg.trans (Chg.of_grown (F := fun x => x = kb) hg7 rfl) (fun x hx => .inr (by omega)), hm6.fp⟩
            have hN : RowN w7 l5.fp kb A N ps := RowN.of_row hR hk6 hge (fun x h1 _ hf => by have := hfl5 x hf; omega)
            clear hB6 hD6 hm6 hR
            go_wp2_with fail
            go_ret3
            first | exact ⟨l5, hg5, hD7, hm7, kb, A, N, ⟨c, rfl⟩, hs5, hB7, ps, hN, hxs⟩ | exact ⟨l5, hg5, hD7, hm7, kb, A, N, ⟨c, rfl⟩, ps, hs5, hB7, hN, hxs⟩
          · have hne : (E2 != 0) = true := by simpa using hE2
            go_wp2_with fail
            go_ret3
            first | exact ⟨l5, hg5, hD5, hm, rfl⟩ | exact ⟨l5, hg5, hD5, hm, .inl ⟨hE2, rfl⟩⟩
      · have hlv := HL2.out rfl (by omega) (by omega)
        have hr := HR.out.symm.trans (live_bad hlv (by decide))
        subst hr
        have n1 : ((N : Int) != 0) = true := by simp; omega
        have n2 : ((N : Int) != 8) = true := by simp; omega
        clear HL1 HL2 HL3 HL5 HR hlv hln
        go_wp2_with fail
        go_ret3
        first | exact ⟨l, hg, hD, RMoved.of_below hb, rfl⟩ | exact ⟨l, hg, hD, RMoved.of_below hb, .inl ⟨by decide, rfl⟩⟩
end Go.Proofs.Ytmjdfajdompkeaa
namespace Go.Proofs.Ytmjdfajdompkeaa
open Go.RowKit Go.Rat
set_option maxRecDepth 20000 in
set_option maxHeartbeats 8000000 in
theorem rappend6_any (w : World) (base : Nat) (l : RL) (d : DS) (hD : RDk w base l d) (g : Nat) (hg : l.g = g) (hbase : base ≤ w.heap.size) (hlo : d.loose.length < 800000000) (k : Nat) (s : BS) (hB : RBookAt w base l k s) (hs : 0 ≤ s.next ∧ s.next ≤ 32768 ∧ s.lim ≤ 32768 ∧ s.n ≤ 32767 ∧ s.life < 2 ^ 64)
    (A : Option Addr) (n c : Nat) (r : List UInt8) (hr : RB w A n r) (hn : n ≤ 140737488000000) (hap : n ≠ 0 → ∀ x, A.map (·.block) = some x → ¬ l.fp x ∧ x ≠ k) :
    Calls Try.prog 53 #[.pointer (some ⟨k, 0, none⟩), .slice A n c] w fun e w' => ∃ l', e = .returned (.int .i64 (bapR d s r).2.2) ∧ l'.g = g ∧ RDk w' base l' (bapR d s r).1 ∧ RBookAt w' base l' k (bapR d s r).2.1 ∧ RCMoved w w' l l' k := by
  obtain ⟨R, hR⟩ : ∃ R, bapR d s r = R := ⟨_, rfl⟩
  rw [hR]
  rw [bapR] at hR
  have hlen := hr.len
  rw [hlen] at hR
  obtain ⟨m, hm⟩ : ∃ m, pagesN n = m := ⟨_, rfl⟩
  rw [hm] at hR
  by_cases hbig : 4096 < n
  · rw [if_pos hbig] at hR
    subst hR
    have e1 : (4096 : Int) < (n : Int) := by omega
    clear hm
    go_enter Try.func53, Try.ntmps53
    go_wp2_with fail
    go_ret
    first | exact ⟨l, rfl, hg, hD, hB, RCMoved.of_moved (RMoved.refl _ _) _⟩ | exact ⟨rfl, l, hg, hD, hB, RCMoved.of_moved (RMoved.refl _ _) _⟩ | exact ⟨l, hg, hD, hB, RCMoved.of_moved (RMoved.refl _ _) _⟩
  rw [if_neg hbig] at hR
  have e1 : ¬ (4096 : Int) < (n : Int) := by omega
  obtain ⟨next, lim, life, nn, dead⟩ := s
  simp only at hs hR
  have hK := hB.blk
  have hout := hB.out
  have hbk := hB.bk
  rw [hg] at hK
  simp only at hK
  have k5 := hK.cell 5
  simp only [List.getElem?_toArray, List.getElem?_cons_zero, List.getElem?_cons_succ] at k5
  cases dead
  case true =>
    rw [if_pos rfl] at hR
    subst hR
    clear hm hK
    go_enter Try.func53, Try.ntmps53
    go_wp2_with fail
    go_ret
    first | exact ⟨l, rfl, hg, hD, hB, RCMoved.of_moved (RMoved.refl _ _) _⟩ | exact ⟨rfl, l, hg, hD, hB, RCMoved.of_moved (RMoved.refl _ _) _⟩ | exact ⟨l, hg, hD, hB, RCMoved.of_moved (RMoved.refl _ _) _⟩
  case false =>
    rw [if_neg (by decide)] at hR
    have hpg := fun w => rpages_any w n (by omega)
    have hm1 := (pagesN_room n).2
    have hm38 : pagesN n ≤ 38 := by unfold pagesN; omega
    rw [hm] at hpg hm1 hm38
    have HPG := Lib.hid hpg
    have HM := Lib.hid hm
    have k0 := hK.cell 0
    have k1 := hK.cell 1
    have k2 := hK.cell 2
    have k3 := hK.cell 3
    have k4 := hK.cell 4
    simp only [List.getElem?_toArray, List.getElem?_cons_zero, List.getElem?_cons_succ] at k0 k1 k2 k3 k4
    have v1 : IntKind.i64.wrap (next + (m : Int)) = next + (m : Int) := IntWalk.i64_in _ (by omega)
    clear hpg hm
    by_cases hfull : lim < next + (m : Int)
    · rw [if_pos hfull] at hR
      subst hR
      go_enter Try.func53, Try.ntmps53
      go_wp2_with fail
      refine (HPG.out _).mono ?_
      rintro e w1 ⟨rfl, rfl⟩
      simp only []
      go_wp2_with fail
      refine wp_region_plan [(0, true), (1, true), (2, true), (3, true), (4, true), (5, true), (6, true), (7, true), (8, true), (9, true), (10, true)]
        (fun z => z.cell? ⟨k, 1, none⟩ = some (.int .i64 next) ∧ z.cell? ⟨k, 2, none⟩ = some (.int .i64 lim)) (by kernel_rfl) (by kernel_rfl) (by kernel_rfl) (by kernel_rfl) (fun _ _ d _ _ h => by cases d <;> exact h) ⟨k1, k2⟩ ?_
      simp only [planOps, List.getElem?_toArray, List.getElem?_cons_zero, List.getElem?_cons_succ]
      iterate 11 (refine wpS_q ?_ (by rfl) ?_ ?_; rotate_left; (focus (intro z hz; (try dsimp only at hz); go_simp; rfl)); simp only [Act.put, List.setIfInBounds_toArray, List.set_cons_zero, List.set_cons_succ])
      refine wpS_nil ?_
      go_wp2_with fail
      go_ret
      have hb := drew_below (w := w)
      first | exact ⟨l, rfl, hg, hD.below hb, hB.below hb, RCMoved.of_moved (RMoved.of_below hb) _⟩ | exact ⟨rfl, l, hg, hD.below hb, hB.below hb, RCMoved.of_moved (RMoved.of_below hb) _⟩ | exact ⟨l, hg, hD.below hb, hB.below hb, RCMoved.of_moved (RMoved.of_below hb) _⟩
    · rw [if_neg hfull] at hR
      obtain ⟨B, hBB⟩ : ∃ B, recP life (nn + 1) r = B := ⟨_, rfl⟩
      rw [hBB] at hR
      obtain ⟨F, hF⟩ : ∃ F : Nat → DS × Int, wrK d next B = F := ⟨_, rfl⟩
      have hF0 : F 0 = (d, 0) := by rw [← hF]; rfl
      have hFS : ∀ j, F (j + 1) = if (F j).2 = 0 then (writeD (F j).1 (next + (j : Int)) (B j), writeE (F j).1 (next + (j : Int))) else F j := fun j => by rw [← hF]; rfl
      have hFE : ∀ j, (F j).2 ≠ 0 → j ≤ m → F m = F j := fun j h1 h2 => by rw [← hF] at h1 ⊢; exact wrK_end h1 h2
      have hFL : ∀ j, (F j).1.loose.length ≤ d.loose.length + j := fun j => by rw [← hF]; exact wrK_loose d next B j
      have hap2 : apL d next B m = if (F m).2 = 0 then (syncAll (F m).1, syncE (F m).1) else F m := by rw [apL, hF]
      rw [hap2] at hR
      have HF0 := Lib.hid hF0
      have HFS := Lib.hid hFS
      have HFE := Lib.hid hFE
      have HFL := Lib.hid hFL
      have HR := Lib.hid hR
      have hpage := fun w (hr : RB w A n r) (j : Nat) (hj : j < m) => rpage_any w life (nn + 1) j hs.2.2.2.2 (by omega) A n c r hr (by omega) (by rw [HM.out]; exact hj)
      have hbl : ∀ j, j < m → (B j).length = 128 := fun j hj => by rw [← hBB]; exact recP_length _ _ _ (by rw [hlen, HM.out]; exact hj)
      rw [hBB] at hpage
      have HPAGE := Lib.hid hpage
      have HBL := Lib.hid hbl
      have v2 : IntKind.u64.wrap ((nn : Int) + 1) = (nn : Int) + 1 := IntWalk.u64_in _ (by omega)
      have v3 : IntKind.i64.wrap ((nn : Int) + 1) = (nn : Int) + 1 := IntWalk.i64_in _ (by omega)
      clear hF hF0 hFS hFE hFL hR hap2 hpage hbl hBB hB
      go_enter Try.func53, Try.ntmps53
      go_wp2_with fail
      refine (HPG.out _).mono ?_
      rintro e w1 ⟨rfl, rfl⟩
      simp only []
      go_wp2_with fail
      refine wp_region_plan [(0, true), (1, true), (2, true), (3, true), (4, true), (5, true), (6, true), (7, true), (8, true), (9, true), (10, true)]
        (fun z => z.cell? ⟨k, 1, none⟩ = some (.int .i64 next) ∧ z.cell? ⟨k, 2, none⟩ = some (.int .i64 lim)) (by kernel_rfl) (by kernel_rfl) (by kernel_rfl) (by kernel_rfl) (fun _ _ d _ _ h => by cases d <;> exact h) ⟨k1, k2⟩ ?_
      simp only [planOps, List.getElem?_toArray, List.getElem?_cons_zero, List.getElem?_cons_succ]
      iterate 11 (refine wpS_q ?_ (by rfl) ?_ ?_; rotate_left; (focus (intro z hz; (try dsimp only at hz); go_simp; rfl)); simp only [Act.put, List.setIfInBounds_toArray, List.set_cons_zero, List.set_cons_succ])
      refine wpS_nil ?_
      have hb0 := drew_below (w := w)
      have hK0 := hK.below hb0 hK.lt
      have hD0 := hD.below hb0
      have hr0 := hr.below hb0
      have hm0 : RMoved w w.drew l l := RMoved.of_below hb0
      clear k0 k1 k2 k3 k4 k5
      go_upto_block 0 with (fail)
      go_cut [6] (fun e wx => ∃ l', e = .int .i64 (F m).2 ∧ RDk wx base l' (F m).1 ∧ l'.g = g ∧ RMoved w wx l l')
      case first =>
        go_wp2_with fail
        go_loopw [6, 7] (fun e i wr => ∃ (j : Nat) (l' : RL), j ≤ m ∧ i = .int .i64 (j : Int) ∧ e = .int .i64 (F j).2 ∧ RDk wr base l' (F j).1 ∧ l'.g = g ∧ RMoved w wr l l') (fun _ i _ => m - (intOf i).toNat)
        case atStart => exact ⟨0, l, Nat.zero_le _, rfl, by rw [HF0.out], by rw [HF0.out]; exact hD0, hg, hm0⟩
        case round =>
          clear hm0 hD0 hr0 hK0 hb0
          obtain ⟨j, l', hj, rfl, rfl, hDj, hlj, hmj⟩ := hrel
          by_cases hjm : j < m
          · have g1 : (j : Int) < (m : Int) := by omega
            by_cases he : (F j).2 = 0
            · have hKj := hmj.chg.blk hK hout
              have hrj := hmj.chg.rbN hr (fun hn0 x hx => (hap hn0 x hx).1)
              have hsj := hmj.chg.size
              have k0 := hKj.cell 0
              have k1 := hKj.cell 1
              have k3 := hKj.cell 3
              have k4 := hKj.cell 4
              simp only [List.getElem?_toArray, List.getElem?_cons_zero, List.getElem?_cons_succ] at k0 k1 k3 k4
              have v4 : IntKind.i64.wrap (next + (j : Int)) = next + (j : Int) := IntWalk.i64_in _ (by omega)
              have hst := HFS.out j
              rw [if_pos he] at hst
              have HST := Lib.hid hst
              have hfl := HFL.out j
              rw [he]
              clear he hst
              go_wp2_with fail
              refine wp_region_plan [(0, true), (1, true), (2, true), (3, true), (4, true), (5, true), (6, true), (7, true), (8, true), (9, true), (10, true), (11, true), (12, true), (13, true), (14, true), (15, true), (16, true), (17, true), (18, true), (19, true), (20, true), (21, true), (22, false), (23, false), (24, true)]
                (fun z => z.cell? ⟨k, 0, none⟩ = some (.pointer (some ⟨g, 0, none⟩)) ∧ z.cell? ⟨k, 1, none⟩ = some (.int .i64 next) ∧ z.cell? ⟨k, 3, none⟩ = some (.int .u64 (life : Int)) ∧ z.cell? ⟨k, 4, none⟩ = some (.int .i64 (nn : Int))) (by kernel_rfl) (by kernel_rfl) (by kernel_rfl) (by kernel_rfl) (fun _ _ d _ _ h => by cases d <;> exact h) ⟨k0, k1, k3, k4⟩ ?_
              simp only [planOps, List.getElem?_toArray, List.getElem?_cons_zero, List.getElem?_cons_succ]
              iterate 22 (refine wpS_q ?_ (by rfl) ?_ ?_; rotate_left; (focus (intro z hz; (try dsimp only at hz); go_simp; rfl)); simp only [Act.put, List.setIfInBounds_toArray, List.set_cons_zero, List.set_cons_succ])
              refine wpS_l (by rfl) (fun K2 hK2 => ?_)
              go_wp2_with fail
              refine (HPAGE.out _ (hrj.below drew_below) j hjm).mono ?_
              rintro e w7 ⟨rfl, hb⟩
              have hb : Below wr.heap.size wr w7 := drew_below.trans hb
              have hK7 := hKj.below hb hKj.lt
              clear k0 k1 k3 k4
              have k0 := hK7.cell 0
              have k1 := hK7.cell 1
              have k3 := hK7.cell 3
              have k4 := hK7.cell 4
              simp only [List.getElem?_toArray, List.getElem?_cons_zero, List.getElem?_cons_succ] at k0 k1 k3 k4
              refine hK2 _ _ _ ⟨k0, k1, k3, k4⟩ (fun _ h => h) ?_
              clear hK2 hK7
              have hbs := hb.size
              refine wpS_l (by rfl) (fun K2 hK2 => ?_)
              go_wp2_with fail
              refine (rgwrite _ base g l' _ (hDj.below hb) hlj (by omega) (next + (j : Int)) (B j) (HBL.out j hjm) (by omega)).mono ?_
              rintro e w8 ⟨l2, rfl, hl2, hD2, hm2⟩
              have hMM : RMoved w w8 l l2 := hmj.trans ((RMoved.of_below hb).trans hm2)
              have hK8 := hMM.chg.blk hK hout
              clear k0 k1 k3 k4 hb hm2 hrj
              have k0 := hK8.cell 0
              have k1 := hK8.cell 1
              have k3 := hK8.cell 3
              have k4 := hK8.cell 4
              simp only [List.getElem?_toArray, List.getElem?_cons_zero, List.getElem?_cons_succ] at k0 k1 k3 k4
              refine hK2 _ _ _ ⟨k0, k1, k3, k4⟩ (fun _ h => h) ?_
              clear hK2 hK8 k0 k1 k3 k4
              iterate 1 (refine wpS_q ?_ (by rfl) ?_ ?_; rotate_left; (focus (intro z hz; (try dsimp only at hz); go_simp; rfl)); simp only [Act.put, List.setIfInBounds_toArray, List.set_cons_zero, List.set_cons_succ])
              refine wpS_nil ?_
              go_wp2_with fail
              exact ⟨⟨j + 1, l2, by omega, congrArg (Value.int .i64) (by omega), by rw [HST.out], by rw [HST.out]; exact hD2, hl2, hMM⟩, by simp only [intOf]; omega⟩
            · have hne : ((F j).2 == 0) = false := by simpa using he
              have hfe := HFE.out j he hj
              have HFE2 := Lib.hid hfe
              clear hfe he
              go_wp2_with fail
              go_meet
              exact ⟨l', by rw [HFE2.out], by rw [HFE2.out]; exact hDj, hlj, hmj⟩
          · obtain rfl : j = m := by omega
            have g1 : ¬ ((j : Nat) : Int) < (j : Int) := by omega
            go_wp2_with fail
            go_meet
            exact ⟨l', rfl, hDj, hlj, hmj⟩
      case rest =>
        clear hm0 hD0 hr0 hK0 hb0
        obtain ⟨l', rfl, hDm, hlm, hmm⟩ := hcut
        have hKm := hmm.chg.blk hK hout
        have hsm := hmm.chg.size
        obtain ⟨G, hG⟩ : ∃ G, F m = G := ⟨_, rfl⟩
        rw [hG] at hDm ⊢
        have hR := HR.out
        rw [hG] at hR
        clear HR HFS HFE HFL HF0 hG HPAGE HBL
        have hmc := RCMoved.of_moved hmm k
        have hout' : ¬ l'.fp k := fun hf => by
          rcases hmm.fp k hf with h | h
          · exact hout h
          · have := hK.lt
            omega
        by_cases he : G.2 = 0
        · rw [if_pos he] at hR
          simp only at hR
          have k0 := hKm.cell 0
          simp only [List.getElem?_toArray, List.getElem?_cons_zero] at k0
          have HR := Lib.hid hR
          rw [he]
          clear he hR
          go_wp2_with fail
          refine (rgsync _ base g _ _ hDm hlm (by omega)).mono ?_
          rintro e w5 ⟨l5, rfl, hl5, hD5, hm5⟩
          simp only []
          have hK5 := hm5.chg.blk hKm hout'
          have hmc5 := hmc.trans (RCMoved.of_moved hm5 k)
          have hout5 : ¬ l5.fp k := fun hf => by
            rcases hm5.fp k hf with h | h
            · exact hout' h
            · have := hKm.lt
              omega
          obtain ⟨E, hE⟩ : ∃ E, syncE G.1 = E := ⟨_, rfl⟩
          have hR := HR.out
          rw [hE] at hR ⊢
          clear k0 hKm HR hE hDm hmc
          by_cases hE0 : E = 0
          · subst hE0
            rw [if_pos rfl] at hR
            subst hR
            have c1 := hK5.cell 1
            have f1 := hK5.frozen 1
            simp only [List.getElem?_toArray, List.getElem?_cons_zero, List.getElem?_cons_succ] at c1
            have hB2 := hK5.set_ 1 (.int .i64 (next + (m : Int)))
            simp only [List.setIfInBounds_toArray, List.set_cons_zero, List.set_cons_succ] at hB2
            have c4 := hB2.cell 4
            have f4 := hB2.frozen 4
            simp only [List.getElem?_toArray, List.getElem?_cons_zero, List.getElem?_cons_succ] at c4
            have hB4 := hB2.set_ 4 (.int .i64 ((nn : Int) + 1))
            simp only [List.setIfInBounds_toArray, List.set_cons_zero, List.set_cons_succ] at hB4
            have hD6 : RDk ((w5.setCell ⟨k, 1, none⟩ (.int .i64 (next + (m : Int)))).setCell ⟨k, 4, none⟩ (.int .i64 ((nn : Int) + 1))) base l5 (syncAll G.1) := (hD5.beside hout5).beside hout5
            have hm6 := (hmc5.set 1 (.int .i64 (next + (m : Int)))).set 4 (.int .i64 ((nn : Int) + 1))
            go_wp2_with fail
            go_ret
            first | exact ⟨l5, rfl, hl5, hD6, ⟨by rw [hl5]; exact hB4, hout5, hbk⟩, hm6⟩ | exact ⟨l5, hl5, hD6, ⟨by rw [hl5]; exact hB4, hout5, hbk⟩, hm6⟩ | exact ⟨rfl, l5, hl5, hD6, ⟨by rw [hl5]; exact hB4, hout5, hbk⟩, hm6⟩
          · rw [if_neg hE0] at hR
            subst hR
            have hne : (E != 0) = true := by simpa using hE0
            have c5 := hK5.cell 5
            have f5 := hK5.frozen 5
            simp only [List.getElem?_toArray, List.getElem?_cons_zero, List.getElem?_cons_succ] at c5
            have hB4 := hK5.set_ 5 (.bool true)
            simp only [List.setIfInBounds_toArray, List.set_cons_zero, List.set_cons_succ] at hB4
            have hD6 : RDk (w5.setCell ⟨k, 5, none⟩ (.bool true)) base l5 (syncAll G.1) := hD5.beside hout5
            have hm6 := hmc5.set 5 (.bool true)
            clear hE0
            go_wp2_with fail
            go_ret
            first | exact ⟨l5, rfl, hl5, hD6, ⟨by rw [hl5]; exact hB4, hout5, hbk⟩, hm6⟩ | exact ⟨l5, hl5, hD6, ⟨by rw [hl5]; exact hB4, hout5, hbk⟩, hm6⟩ | exact ⟨rfl, l5, hl5, hD6, ⟨by rw [hl5]; exact hB4, hout5, hbk⟩, hm6⟩
        · rw [if_neg he, if_neg he] at hR
          subst hR
          have hne : (G.2 != 0) = true := by simpa using he
          have hne2 : (G.2 == 0) = false := by simpa using he
          have c5 := hKm.cell 5
          have f5 := hKm.frozen 5
          simp only [List.getElem?_toArray, List.getElem?_cons_zero, List.getElem?_cons_succ] at c5
          have hB4 := hKm.set_ 5 (.bool true)
          simp only [List.setIfInBounds_toArray, List.set_cons_zero, List.set_cons_succ] at hB4
          have hD6 : RDk (wc.setCell ⟨k, 5, none⟩ (.bool true)) base l' G.1 := hDm.beside hout'
          have hm6 := hmc.set 5 (.bool true)
          clear he
          go_wp2_with fail
          go_ret
          first | exact ⟨l', rfl, hlm, hD6, ⟨by rw [hlm]; exact hB4, hout', hbk⟩, hm6⟩ | exact ⟨l', hlm, hD6, ⟨by rw [hlm]; exact hB4, hout', hbk⟩, hm6⟩ | exact ⟨rfl, l', hlm, hD6, ⟨by rw [hlm]; exact hB4, hout', hbk⟩, hm6⟩
end Go.Proofs.Ytmjdfajdompkeaa
namespace Go.Proofs.Ytmjdfajdompkeaa
open Go.RowKit Go.Rat
theorem lpages_any (w : World) (n : Nat) (hn : n ≤ 140737488355328) : Calls Try.prog 48 #[.int .i64 (n : Int)] w fun e w' => e = .returned (.int .i64 (pagesN n : Int)) ∧ w = w' := by
  have h : ((n : Int) + 2 + 107) / 108 = ((pagesN n : Nat) : Int) := by unfold pagesN; omega
  have H := Lib.hid h
  clear h
  go_enter Try.func48, Try.ntmps48
  go_wp2_with fail
  go_ret
  exact ⟨congrArg (fun i => Ending.returned (.int .i64 i)) (by have := H.out; omega), rfl⟩
theorem lt_of_cell {w : World} {a : Addr} {v : Value} (h : w.cell? a = some v) : a.block < w.heap.size := by
  rcases Nat.lt_or_ge a.block w.heap.size with hl | hl
  · exact hl
  · simp [World.cell?, Array.getElem?_eq_none hl] at h
theorem RowR.below {w w' : World} {A : Option Addr} {N : Nat} {ps : List Pt} (h : RowR w A N ps) (hb : Below w.heap.size w w') : RowR w' A N ps :=
  ⟨h.len, fun hN => by
    obtain ⟨ad, e, hc⟩ := h.cells hN
    exact ⟨ad, e, fun k p hp => (hb.cell (lt_of_cell (hc k p hp))).trans (hc k p hp)⟩, fun p hp => (h.ok p hp).below hb⟩
theorem RowR.at_ {w : World} {A : Option Addr} {N : Nat} {ps : List Pt} (h : RowR w A N ps) {k : Nat} (hk : k < N) : ∃ ad p, A = some ad ∧ ps[k]? = some p ∧ w.cell? (ad.add k) = some p.v ∧ PtOk w p := by
  obtain ⟨ad, rfl, hc⟩ := h.cells (by omega)
  have hl := h.len
  have hk' : k < ps.length := by omega
  have hg : ps[k]? = some ps[k] := List.getElem?_eq_getElem hk'
  exact ⟨ad, ps[k], rfl, hg, hc k _ hg, h.ok _ (List.getElem_mem hk')⟩
theorem bstr_eqb (xs ys : List UInt8) : ((bstr xs).toList == (bstr ys).toList) = decide (xs = ys) := by
  rw [ByteArray.toList_eq, ByteArray.toList_eq, data_bstr, data_bstr]
  by_cases h : xs = ys
  · subst h; simp
  · simp [h]
set_option maxRecDepth 20000 in
set_option maxHeartbeats 4000000 in
theorem same_any (w : World) (A : Option Addr) (N c : Nat) (ps : List Pt) (h : RowR w A N ps) (A' : Option Addr) (N' c' : Nat) (qs : List Pt) (h' : RowR w A' N' qs) (hNb : N ≤ 100000) (e : ps.map (·.xs) = qs.map (·.xs)) :
    Calls Try.prog 49 #[.slice A N c, .slice A' N' c'] w fun e w' => e = .returned (.bool true) ∧ Below w.heap.size w w' := by
  have hN : N = N' := by
    have h1 := congrArg List.length e
    rw [List.length_map, List.length_map, h.len, h'.len] at h1
    exact h1
  subst hN
  have HE := Lib.hid e
  clear e
  go_enter Try.func49, Try.ntmps49
  go_wp2_with fail
  go_loopw [5] (fun iv wr => ∃ k : Nat, k ≤ N ∧ iv = .int .i64 (k : Int) ∧ Below w.heap.size w wr) (fun iv _ => N - (intOf iv).toNat)
  case atStart => exact ⟨0, Nat.zero_le _, rfl, Below.refl _ _⟩
  case round =>
    obtain ⟨k, hk, rfl, hbr⟩ := hrel
    have h := h.below hbr
    have h' := h'.below hbr
    by_cases hkN : k < N
    · obtain ⟨ad, ⟨A1, n1, c1, x⟩, rfl, hp1, hq1, ho1⟩ := h.at_ hkN
      obtain ⟨ad', ⟨A2, n2, c2, y⟩, rfl, hp2, hq2, ho2⟩ := h'.at_ hkN
      have hxy : x = y := by
        have h1 := congrArg (fun l => l[k]?) HE.out
        simp only [List.getElem?_map, hp1, hp2, Option.map_some] at h1
        exact Option.some.inj h1
      subst hxy
      simp only [Pt.v] at hq1 hq2
      have g1 : (k : Int) < (N : Int) := by omega
      have g0 : (0 : Int) ≤ (k : Int) := by omega
      have g2 : (k : Int) ≤ 100000 := by omega
      go_wp2_with fail
      refine wp_region_plan [(0, true), (1, true), (2, true), (3, true), (4, true), (5, true), (6, true), (7, true), (8, true), (9, true), (10, true)] (fun z => z.cell? (ad.add k) = some (.slice A1 n1 c1) ∧ z.cell? (ad'.add k) = some (.slice A2 n2 c2) ∧ RB z A1 n1 x ∧ RB z A2 n2 x) (by kernel_rfl) (by kernel_rfl) (by kernel_rfl) (by kernel_rfl) (fun _ _ d _ _ h => by cases d <;> exact h) ⟨hq1, hq2, ho1.r, ho2.r⟩ ?_
      simp only [planOps, List.getElem?_toArray, List.getElem?_cons_zero, List.getElem?_cons_succ]
      iterate 4 (refine wpS_q ?_ (by rfl) ?_ ?_; rotate_left; (focus (intro z hz; (try dsimp only at hz); go_simp; rfl)); simp only [Act.put, List.setIfInBounds_toArray, List.set_cons_zero, List.set_cons_succ])
      refine wpS_q (.string (bstr x)) (by rfl) (fun z hz => by have hcv := conv_str hz.2.2.1 c1; go_simp) ?_
      simp only [Act.put, List.setIfInBounds_toArray, List.set_cons_zero, List.set_cons_succ]
      iterate 4 (refine wpS_q ?_ (by rfl) ?_ ?_; rotate_left; (focus (intro z hz; (try dsimp only at hz); go_simp; rfl)); simp only [Act.put, List.setIfInBounds_toArray, List.set_cons_zero, List.set_cons_succ])
      refine wpS_q (.string (bstr x)) (by rfl) (fun z hz => by have hcv := conv_str hz.2.2.2 c2; go_simp) ?_
      simp only [Act.put, List.setIfInBounds_toArray, List.set_cons_zero, List.set_cons_succ]
      have hne : ((bstr x).toList != (bstr x).toList) = false := by simp
      iterate 1 (refine wpS_q ?_ (by rfl) ?_ ?_; rotate_left; (focus (intro z hz; (try dsimp only at hz); go_simp; rfl)); simp only [Act.put, List.setIfInBounds_toArray, List.set_cons_zero, List.set_cons_succ])
      refine wpS_nil ?_
      go_wp2_with fail
      exact ⟨⟨k + 1, by omega, congrArg (Value.int .i64) (by omega), below_next' hbr drew_below⟩, by simp only [intOf]; omega⟩
    · have g1 : ¬ (k : Int) < (N : Int) := by omega
      go_wp2_with fail
      go_ret
      exact ⟨rfl, hbr⟩
end Go.Proofs.Ytmjdfajdompkeaa
namespace Go.Proofs.Ytmjdfajdompkeaa
open Go.RowKit Go.Rat
set_option maxRecDepth 20000 in
set_option maxHeartbeats 8000000 in
theorem ball_any2 (w : World) (base : Nat) (l : DL) (d : DS) (hD : DiskAt w base l d) (k : Nat) (s : BS) (hB : BookAt w base l k s) (hs : 0 ≤ s.next ∧ s.next ≤ 32768 ∧ s.lim ≤ 32768 ∧ (s.n : Int) ≤ s.next ∧ s.life < 2 ^ 64) (f : Nat) (hf : (s.lim - s.next).toNat ≤ f) :
    Calls Try.prog 69 #[.pointer (some ⟨k, 0, none⟩)] w fun e w' => ∃ A N c ps, e = .returned (.slice A N c) ∧ Row w' l w.heap.size A N c ps ∧ ps.map (·.xs) = (allF (seeD d) s.lim s.life f s.next s.n 1).1 ∧
      BookAt w' base l k { s with next := (allF (seeD d) s.lim s.life f s.next s.n 1).2.1, n := (allF (seeD d) s.lim s.life f s.next s.n 1).2.2 } ∧ w.grownBy w' (some k) ∧ (∀ q ∈ ps, ∀ g, q.A.map (·.block) = some g → w.heap.size ≤ g) := by
  obtain ⟨TOT, hT⟩ : ∃ T, allF (seeD d) s.lim s.life f s.next s.n 1 = T := ⟨_, rfl⟩
  rw [hT]
  have HT := Lib.hid hT
  clear hT
  have hkf : ∀ x, l.fp x → ¬ x = k := fun x hx e => hB.out (e ▸ hx)
  have hlt : ∀ x, l.fp x → x < w.heap.size := fun x hx => (hD.fp_lt hx).2
  have hkw : k < w.heap.size := hB.blk.lt
  go_enter Try.func69, Try.ntmps69
  go_wp2_with fail
  go_loopw [2, 3] (fun rv fv wr => ∃ (p : Int) (n fr f' : Nat) (A : Option Addr) (N c : Nat) (ps : List Pt), rv = .slice A N c ∧ fv = .int .u64 (fr : Int) ∧ fr < 2 ^ 64 ∧ Row wr l w.heap.size A N c ps ∧ BookAt wr base l k { s with next := p, n := n } ∧ (s.lim - p).toNat ≤ f' ∧
    ps.map (·.xs) ++ (allF (seeD d) s.lim s.life f' p n fr).1 = TOT.1 ∧ (allF (seeD d) s.lim s.life f' p n fr).2 = TOT.2 ∧ w.grownBy wr (some k) ∧ 0 ≤ p ∧ p ≤ 32768 ∧ (n : Int) ≤ p ∧ N ≤ n ∧ ∀ q ∈ ps, ∀ g, q.A.map (·.block) = some g → w.heap.size ≤ g) (fun rv _ _ => 40000 - lenOf rv)
  case atStart => exact ⟨s.next, s.n, 1, f, none, 0, 0, [], rfl, rfl, by decide, Row.nil _ _ _, hB, hf, by rw [HT.out]; rfl, by rw [HT.out], World.grownBy.refl _ _, hs.1, hs.2.1, hs.2.2.2.1, Nat.zero_le _, by simp⟩
  case round =>
    obtain ⟨p, n, fr, f', A, N, c, ps, rfl, rfl, hfr, hR, hBr, hf', ht1, ht2, hg, hp0, hp1, hnp, hNn, hge⟩ := hrel
    have hDr : DiskAt wr base l d := hD.kept (Chg.of_grown (F := fun x => x = k) hg rfl) (fun x hx e => hkf x hx e)
    have HT1 := Lib.hid ht1
    have HT2 := Lib.hid ht2
    have hsz := hg.size
    have hR0 := hR
    clear ht1 ht2
    go_wp2_with fail
    refine (bread_any wr base l d hDr k _ hBr ⟨hp0, hp1, by simp only; omega, hs.2.2.2.2⟩ fr hfr).mono ?_
    rintro e wa ⟨(⟨hrf, h, rfl⟩ | ⟨r, h, A1, N1, c1, hrf, rfl, hO⟩), hba⟩
    · have hRF := allF_none hrf f'
      have hx1 := HT1.out
      have hx2 := HT2.out
      rw [hRF] at hx1 hx2
      rw [List.append_nil] at hx1
      have HX1 := Lib.hid hx1
      have HX2 := Lib.hid hx2
      have hR := hR.below hba
      have hBr := hBr.below hba
      have hg := hg.trans (grownBy_of_below hba (some k))
      simp only []
      clear hrf hRF hx1 hx2 hba hDr
      repeat (first | ((with_reducible refine wpl_store_fresh (headL h).toArray i4 ?_ rfl (headL_ones _) ?_ ?_ ?_); (focus rfl); (focus rfl); (focus rfl); intro wb hG hlb hbb; simp only [Act.put]; refine Hid.out ?_) | go_values | go_skip | go_guarded | go_step | go_upon | go_back)
      refine Lib.hid ?_
      have hR := hR.below hbb
      have hBr := hBr.below hbb
      have hg := hg.trans (grownBy_of_below hbb (some k))
      clear hbb hG hlb
      go_wp2_with fail
      go_ret
      exact ⟨A, N, c, rfl, ps, hR, HX1.out, by rw [← HX2.out]; exact hBr, hg, fun q hq a ha => hge q hq a.block (by rw [ha]; rfl)⟩
    · have hrf0 := hrf
      obtain ⟨b1, b2, b3, b4, b5, _, _, _⟩ := readF_pages hrf
      simp only at b2 b5
      obtain ⟨f2, rfl⟩ : ∃ f2, f' = f2 + 1 := ⟨f' - 1, by omega⟩
      have hRF := allF_some hrf f2
      have hx1 := HT1.out
      have hx2 := HT2.out
      rw [hRF] at hx1 hx2
      simp only at hx1 hx2
      have HX1 := Lib.hid hx1
      have HX2 := Lib.hid hx2
      have hhl : h.life < 2 ^ 64 := by have := hs.2.2.2.2; omega
      have hR := hR.below hba
      have hBr := hBr.below hba
      have hg := hg.trans (grownBy_of_below hba (some k))
      have hsa : wr.heap.size ≤ wa.heap.size := hba.size
      have hAA1 : Apart A A1 := fun x hx hx1 => by
        have h1 := (hR0.ltA x hx).2
        have h2 := (hO.ge x hx1).1
        omega
      have hA1l : ∀ x, A1.map (·.block) = some x → x < wa.heap.size ∧ wr.heap.size ≤ x := fun x hx => ⟨(hO.ge x hx).2, (hO.ge x hx).1⟩
      simp only []
      clear hrf hRF hx1 hx2 hba hDr HT1 HT2
      repeat (first | ((with_reducible refine wpl_store_fresh (headL h).toArray i4 ?_ rfl (headL_ones _) ?_ ?_ ?_); (focus rfl); (focus rfl); (focus rfl); intro wb hG hlb hbb; simp only [Act.put]; refine Hid.out ?_) | go_values | go_skip | go_guarded | go_step | go_upon | go_back)
      refine Lib.hid ?_
      have hR := hR.below hbb
      have hBr := hBr.below hbb
      have hO := OB.below hO hbb
      have hg := hg.trans (grownBy_of_below hbb (some k))
      have hsb : wa.heap.size ≤ wb.heap.size := hbb.size
      obtain ⟨gh, hgh⟩ : ∃ x, wa.heap.size = x := ⟨_, rfl⟩
      rw [hgh] at hG hlb hsa hA1l hsb ⊢
      clear hbb hgh
      have hltb : ∀ x, l.fp x → x < wb.heap.size := fun x hx => by have := hlt x hx; omega
      have hpt : PtOk wb ⟨A1, N1, c1, r⟩ := ⟨hO.reads, hO.cap.1⟩
      have hpn : ∀ g, A1.map (·.block) = some g → g < wb.heap.size ∧ ¬ l.fp g := fun x hx => ⟨by have := (hA1l x hx).1; omega, fun hf => by have h1 := hlt x hf; have h2 := (hA1l x hx).2; omega⟩
      have hAgh : A.map (·.block) ≠ some gh := fun e => by have := (hR0.ltA _ e).2; omega
      have hAk : A.map (·.block) ≠ some k := fun e => by have := (hR0.ltA _ e).1; omega
      have hNl : N < 1000000 := by omega
      have hwb : w.heap.size ≤ wb.heap.size := by omega
      have hhp := (readF_pages hrf0).2.2.2.1
      go_wp2_with (at_builtin; refine app_slice rfl _ _ rfl l hltb w.heap.size A N c ps rfl hR ⟨A1, N1, c1, r⟩ hpt hpn hAA1 22 _ rfl rfl hNl hwb ?_; intro A2 c2 wc hR2 hbc hgc; have hGc := (Blk.alloc hG _).grown hgc (Ne.symm hAgh); have hBc := (Blk.alloc hBr.blk _).grown hgc (Ne.symm hAk); have e0 := hGc.cell 0; simp only [headL, List.getElem?_toArray, List.getElem?_cons_zero] at e0)
      have e3 := hGc.cell 3
      have c1' := hBc.cell 1
      have f1 := hBc.frozen 1
      simp only [headL, List.getElem?_toArray, List.getElem?_cons_zero, List.getElem?_cons_succ] at e3 c1'
      have hw1 : IntKind.i64.wrap (h.pages : Int) = (h.pages : Int) := IntWalk.i64_in _ (by omega)
      have hw2 : IntKind.i64.wrap (p + (h.pages : Int)) = p + (h.pages : Int) := IntWalk.i64_in _ (by omega)
      refine wp_region_barrier [(0, false), (1, false), (2, false), (3, true), (4, false), (5, true), (6, false), (7, false), (8, false), (9, false)] 10 [] (fun z => z.cell? ⟨k, 1, none⟩ = some (.int .i64 p) ∧ z.cell? ⟨gh, 3, none⟩ = some (.int .u16 (h.pages : Int))) _ rfl (by kernel_rfl) (by kernel_rfl) (by kernel_rfl) (by kernel_rfl) (fun _ _ d _ _ h => by cases d <;> exact h) ⟨c1', e3⟩ ?_
      simp only [planOps, List.getElem?_toArray, List.getElem?_cons_zero, List.getElem?_cons_succ]
      iterate 3 (refine wpQ_q ?_ (by rfl) ?_ ?_; rotate_left; (focus (intro z hz; (try dsimp only at hz); go_simp; rfl)); simp only [Act.put, List.setIfInBounds_toArray, List.set_cons_zero, List.set_cons_succ])
      refine wpQ_q (.int .i64 p) (by rfl) (fun z hz => by have hz := (hz rfl).1; go_simp) ?_
      simp only [Act.put, List.setIfInBounds_toArray, List.set_cons_zero, List.set_cons_succ]
      iterate 1 (refine wpQ_q ?_ (by rfl) ?_ ?_; rotate_left; (focus (intro z hz; (try dsimp only at hz); go_simp; rfl)); simp only [Act.put, List.setIfInBounds_toArray, List.set_cons_zero, List.set_cons_succ])
      refine wpQ_q (.int .u16 (h.pages : Int)) (by rfl) (fun z hz => by have hz := (hz rfl).2; go_simp) ?_
      simp only [Act.put, List.setIfInBounds_toArray, List.set_cons_zero, List.set_cons_succ]
      iterate 4 (refine wpQ_q ?_ (by rfl) ?_ ?_; rotate_left; (focus (intro z hz; (try dsimp only at hz); go_simp; rfl)); simp only [Act.put, List.setIfInBounds_toArray, List.set_cons_zero, List.set_cons_succ])
      refine wpQ_nil ⟨by rfl, ?_⟩
      go_wp2_with fail
      have hB2 := hBc.set_ 1 (.int .i64 (p + (h.pages : Int)))
      have hg2 := grownBy_set wc k 1 (.int .i64 (p + (h.pages : Int)))
      obtain ⟨wd, hwd⟩ : ∃ x, wc.setCell ⟨k, 1, none⟩ (.int .i64 (p + (h.pages : Int))) = x := ⟨_, rfl⟩
      rw [hwd] at hB2 hg2 ⊢
      refine ⟨fun _ => True, trivial, ?_⟩
      refine wpS_nil ?_
      have hg3 : w.grownBy wd (some k) := andThen_grown (andThen_grown (hg.trans (grownBy_of_below (below_alloc wb _) (some k))) hgc (fun x hx => .inl (hR0.ltA x hx).1)) hg2 (fun x hx => .inr hx)
      have hge2 : ∀ q ∈ ps ++ [⟨A1, N1, c1, r⟩], ∀ g, q.A.map (·.block) = some g → w.heap.size ≤ g := by
        intro q hq x hx
        rcases List.mem_append.1 hq with h1 | h1
        · exact hge q h1 x hx
        · obtain rfl : q = ⟨A1, N1, c1, r⟩ := by simpa using h1
          have := (hA1l x hx).2
          omega
      have hR3 := hR2.chg (Chg.of_grown (F := fun x => x = k) hg2 rfl) (fun x hx e => by omega) hge2
      simp only [List.setIfInBounds_toArray, List.set_cons_zero, List.set_cons_succ] at hB2
      have c4 := hB2.cell 4
      have f4 := hB2.frozen 4
      simp only [List.getElem?_toArray, List.getElem?_cons_zero, List.getElem?_cons_succ] at c4
      clear hwd hR2 hGc hBc hbc hgc hg2 hg e0 e3 c1' f1 hR hBr hO hpt hpn
      go_wp2_with fail
      have hg4 := grownBy_set wd k 4 (.int .i64 ((n : Int) + 1))
      have hR4 := hR3.chg (Chg.of_grown (F := fun x => x = k) hg4 rfl) (fun x hx e => by omega) hge2
      have hB4 := hB2.set_ 4 (.int .i64 ((n : Int) + 1))
      simp only [List.setIfInBounds_toArray, List.set_cons_zero, List.set_cons_succ] at hB4
      refine ⟨⟨p + (h.pages : Int), n + 1, h.life, f2, A2, N + 1, c2, ps ++ [⟨A1, N1, c1, r⟩], rfl, rfl, hhl, hR4.below drew_below, ⟨hB4, hB.out, hB.bk⟩, by omega, ?_, HX2.out, (hg3.trans hg4).trans (grownBy_of_below drew_below (some k)), by omega, by omega, by omega, by omega, hge2⟩, by simp only [lenOf]; omega⟩
      rw [List.map_append, List.append_assoc]
      exact HX1.out
set_option maxRecDepth 20000 in
set_option maxHeartbeats 8000000 in
theorem bopen_any3 (w : World) (base : Nat) (l : DL) (d : DS) (hD : DiskAt w base l d) (g : Nat) (hg : l.g = g) (hbase : base ≤ w.heap.size) (hlo : d.loose.length < 900000000) (p size : Int) :
    Calls Try.prog 44 #[.pointer (some ⟨g, 0, none⟩), .int .i64 p, .int .i64 size] w fun e w' => ∃ l', l'.g = g ∧ DiskAt w' base l' (bopD d p size) ∧ Moved w w' l l' ∧
      ((bopE d p size ≠ 0 ∧ e = .returned (.tuple #[.pointer none, .slice none 0 0, .int .i64 (bopE d p size)])) ∨
       (bopE d p size = 0 ∧ ∃ k A N c ps, e = .returned (.tuple #[.pointer (some ⟨k, 0, none⟩), .slice A N c, .int .i64 0]) ∧ w.heap.size ≤ k ∧ BookAt w' base l' k (bopS d p size) ∧ RowN w' l'.fp k A N ps ∧ ps.map (·.xs) = (bopA d p size).1)) := by
  have hE : bopE d p size = if bmayE p size ≠ 0 then bmayE p size else (liveF d p).2.1 := rfl
  have hDD : bopD d p size = if bmayE p size ≠ 0 then d else (liveF d p).1 := rfl
  by_cases hm : bmayE p size = 0
  · rw [if_neg (by rw [hm]; decide)] at hE hDD
    rw [hE, hDD]
    have hpb : 21 ≤ size ∧ size ≤ 32768 ∧ 0 ≤ p ∧ p ≤ 32768 - size := by
      unfold bmayE at hm
      split at hm
      · cases hm
      · omega
    have hlt := liveF_lt d p
    have hA : bopA d p size = allF (seeD (liveF d p).1) (p + size) (liveF d p).2.2 size.toNat (p + 20) 0 1 := rfl
    have hS : bopS d p size = ⟨(bopA d p size).2.1, p + size, (liveF d p).2.2, (bopA d p size).2.2, false⟩ := rfl
    rw [hS, hA]
    obtain ⟨⟨d', E, life⟩, hR⟩ : ∃ R, liveF d p = R := ⟨_, rfl⟩
    rw [hR] at hlt ⊢
    have HR := Lib.hid hR
    have HM := Lib.hid hm
    clear hR hm hE hDD hA hS
    simp only at hlt ⊢
    go_enter Try.func44, Try.ntmps44
    go_wp2_with fail
    refine (bmay_any w g p size).mono ?_
    rw [HM.out]
    rintro e w2 ⟨rfl, rfl⟩
    simp only []
    go_wp2_with fail
    refine (blive_any w base l d hD g hg hbase hlo p (by omega)).mono ?_
    rw [HR.out]
    rintro e w3 ⟨l', rfl, hlg, hD', hmv⟩
    simp only [] at hD' ⊢
    by_cases hE0 : E = 0
    · subst hE0
      go_upto_region 8 with (fail)
      have hK := Blk.new w3 131 #[.pointer (some ⟨g, 0, none⟩), .int .i64 (p + 20), .int .i64 (p + size), .int .u64 (life : Int), .int .i64 0, .bool false]
      have hb4 := below_alloc w3 (.cells #[.pointer (some ⟨g, 0, none⟩), .int .i64 (p + 20), .int .i64 (p + size), .int .u64 (life : Int), .int .i64 0, .bool false] 131)
      have hout : ¬ l'.fp w3.heap.size := fun hf => by have := (hD'.fp_lt hf).2; omega
      have hw3 : w.heap.size ≤ w3.heap.size := hmv.chg.size
      obtain ⟨w4, hw4⟩ : ∃ x, w3.alloc (.cells #[.pointer (some ⟨g, 0, none⟩), .int .i64 (p + 20), .int .i64 (p + size), .int .u64 (life : Int), .int .i64 0, .bool false] 131) = x := ⟨_, rfl⟩
      rw [hw4] at hK hb4 ⊢
      have hD4 := hD'.below hb4
      have hs4 := hb4.size
      have hk4 : w3.heap.size < w4.heap.size := hK.lt
      obtain ⟨k, hk⟩ : ∃ x, w3.heap.size = x := ⟨_, rfl⟩
      rw [hk] at hK hout hw3 hk4 ⊢
      have hB4 : BookAt w4 base l' k ⟨p + 20, p + size, life, 0, false⟩ := ⟨by rw [hlg]; exact hK, hout, by omega⟩
      clear hw4 hK hout
      go_wp2_with fail
      refine (ball_any2 w4 base l' d' hD4 k _ hB4 ⟨by simp only; omega, by simp only; omega, by simp only; omega, by simp only; omega, hlt⟩ size.toNat (by simp only; omega)).mono ?_
      rintro e w5 ⟨A, N, c, ps, rfl, hR, hxs, hB5, hg5, hge5⟩
      simp only [] at hR hxs hB5 ⊢
      go_wp2_with fail
      go_ret3
      have hb5 : Below w3.heap.size w3 w5 := hb4.grown hg5 hs4 (fun q hq => by cases hq; exact Nat.le_of_eq hk)
      have hm5 := hmv.trans (Moved.of_below (l := l') hb5)
      have hN : RowN w5 l'.fp k A N ps := RowN.of_row hR hk4 hge5 (fun g _ hg => hg)
      first | exact ⟨l', hlg, hD'.below hb5, hm5, k, A, N, ⟨c, rfl⟩, hw3, hB5, ps, hN, hxs⟩ | exact ⟨l', hlg, hD'.below hb5, hm5, k, A, N, c, rfl, hw3, hB5, ps, hN, hxs⟩
    · have hne : (E != 0) = true := by simpa using hE0
      go_wp2_with fail
      go_ret3
      exact ⟨l', hlg, hD', hmv, .inl ⟨hE0, rfl⟩⟩
  · rw [if_pos hm] at hE hDD
    rw [hE, hDD]
    obtain ⟨E, hEe⟩ : ∃ E, bmayE p size = E := ⟨_, rfl⟩
    rw [hEe] at hm ⊢
    have HE := Lib.hid hEe
    have hne : (E != 0) = true := by simpa using hm
    clear hE hDD hEe
    go_enter Try.func44, Try.ntmps44
    go_wp2_with fail
    refine (bmay_any w g p size).mono ?_
    rw [HE.out]
    rintro e w2 ⟨rfl, rfl⟩
    simp only []
    go_wp2_with fail
    go_ret3
    exact ⟨l, hg, hD, .of_below (Below.refl _ _), .inl ⟨hm, rfl⟩⟩
theorem cformat_far (w : World) (g : Nat) (p : Int) (hp : ¬ (0 ≤ p ∧ p ≤ 32748)) : Calls Try.prog 41 #[.pointer (some ⟨g, 0, none⟩), .int .i64 p] w fun e w' => e = .returned (.int .i64 1) ∧ Below w.heap.size w w' := by
  have hm : mayE p = 1 := if_neg hp
  have HM := Lib.hid hm
  clear hm
  go_enter Try.func41, Try.ntmps41
  go_upto_region 2 with (fail)
  have hC := Blk.new w 119 #[.pointer (some ⟨g, 0, none⟩), .int .i64 p]
  have hb1 := below_alloc w (.cells #[.pointer (some ⟨g, 0, none⟩), .int .i64 p] 119)
  obtain ⟨w1, hw1⟩ : ∃ x, w.alloc (.cells #[.pointer (some ⟨g, 0, none⟩), .int .i64 p] 119) = x := ⟨_, rfl⟩
  rw [hw1] at hC hb1 ⊢
  have c0 := hC.cell 0
  have c1 := hC.cell 1
  simp only [List.getElem?_toArray, List.getElem?_cons_zero, List.getElem?_cons_succ] at c0 c1
  clear hw1 hC
  go_wp2_with fail
  refine (may_any w1 g p).mono ?_
  rw [HM.out]
  rintro e w2 ⟨rfl, hb2⟩
  simp only []
  clear c0 c1
  go_wp2_with fail
  go_ret
  exact ⟨rfl, hb1.trans (hb2.mono hb1.size)⟩
theorem bformat_far (w : World) (g : Nat) (p : Int) (hp : ¬ (0 ≤ p ∧ p ≤ 32748)) : Calls Try.prog 47 #[.pointer (some ⟨g, 0, none⟩), .int .i64 p] w fun e w' => e = .returned (.int .i64 1) ∧ Below w.heap.size w w' := by
  have h := cformat_far w g p hp
  have H := Lib.hid h
  clear h
  go_enter Try.func47, Try.ntmps47
  go_wp2_with fail
  refine H.out.mono ?_
  rintro e w2 ⟨rfl, hb⟩
  simp only []
  go_wp2_with fail
  go_ret
  exact ⟨rfl, hb⟩
end Go.Proofs.Ytmjdfajdompkeaa
