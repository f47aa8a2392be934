/- Peek, of the program's book and of the document's. -/
import Derived.Test.YtmjdfajdompkeaaKq20
namespace Go.Proofs.Ytmjdfajdompkeaa
open Go.RowKit Go.Rat
theorem results_tmp4 {fn : Func} {t u v x : Tmp} (h : fn.results = #[.tmp t, .tmp u, .tmp v, .tmp x]) (tmps : Array Value) (P : Program) (w : World) :
    (results fn tmps).run P w = .ok (.tuple #[tmps.getD t undef, tmps.getD u undef, tmps.getD v undef, tmps.getD x undef]) w := by
  simp [results, h]
/-- What Peek tells. -/
def pkA (d : DS) (p size : Int) : List (List UInt8) × Int × Nat := allF (seeD d) (p + size) (((livedF d p).2 + 1) % 2 ^ 64) size.toNat (p + 20) 0 1
def pkF (d : DS) (p size : Int) : Nat × List (List UInt8) × Int × Int :=
  if bmayE p size ≠ 0 then (0, [], 0, bmayE p size) else if (livedF d p).1 ≠ 0 then (0, [], 0, (livedF d p).1) else ((livedF d p).2, (pkA d p size).1, (pkA d p size).2.1, 0)
theorem pk_bad1 {d : DS} {p size : Int} (h : bmayE p size ≠ 0) : pkF d p size = (0, [], 0, bmayE p size) := if_pos h
theorem pk_bad2 {d : DS} {p size : Int} (h : bmayE p size = 0) {E : Int} {v : Nat} (h2 : livedF d p = (E, v)) (hE : E ≠ 0) : pkF d p size = (0, [], 0, E) := by
  rw [pkF, if_neg (fun q => q h), h2, if_pos hE]
theorem pk_ok {d : DS} {p size : Int} (h : bmayE p size = 0) {v : Nat} (h2 : livedF d p = (0, v)) : pkF d p size = (v, (allF (seeD d) (p + size) ((v + 1) % 2 ^ 64) size.toNat (p + 20) 0 1).1, (allF (seeD d) (p + size) ((v + 1) % 2 ^ 64) size.toNat (p + 20) 0 1).2.1, 0) := by
  rw [pkF, if_neg (fun q => q h), pkA, h2, if_neg (fun q => q rfl)]
theorem pk_len {d : DS} {p size : Int} : (pkF d p size).2.1.length ≤ 32768 := by
  unfold pkF
  split
  · simp
  · next hm =>
    split
    · simp
    · have hm : bmayE p size = 0 := Classical.not_not.1 hm
      have hpb : 21 ≤ size ∧ size ≤ 32768 ∧ 0 ≤ p ∧ p ≤ 32768 - size := by
        unfold bmayE at hm
        split at hm
        · cases hm
        · omega
      obtain ⟨i1, i2, i3, i4⟩ := allF_bounds (V := seeD d) (lim := p + size) (life := ((livedF d p).2 + 1) % 2 ^ 64) size.toNat (p + 20) 0 1 (by omega)
      simp only [pkA]
      omega
theorem bpeek_nil (w : World) (p size : Int) : Calls Try.prog 55 #[.pointer none, .int .i64 p, .int .i64 size] w fun e w' => e = .returned (.tuple #[.int .u64 0, .slice none 0 0, .int .i64 0, .int .i64 2]) ∧ w = w' := by
  go_enter Try.func55, Try.ntmps55
  go_wp2_with fail
  refine (bmay_nil w p size).mono ?_
  rintro e w2 ⟨rfl, rfl⟩
  simp only []
  go_wp2_with fail
  ((try simp only [Exit.inBlock, Exit.then]); refine bodyPost_ret (results_tmp4 rfl _ _ _) rfl ?_)
  exact ⟨rfl, rfl⟩
set_option maxRecDepth 20000 in
set_option maxHeartbeats 8000000 in
theorem bpeek_any (w : World) (base : Nat) (l : DL) (d : DS) (hD : DiskAt w base l d) (g : Nat) (hg : l.g = g) (hbase : base ≤ w.heap.size) (p size : Int) :
    Calls Try.prog 55 #[.pointer (some ⟨g, 0, none⟩), .int .i64 p, .int .i64 size] w fun e w' => ∃ A N c ps, e = .returned (.tuple #[.int .u64 ((pkF d p size).1 : Int), .slice A N c, .int .i64 (pkF d p size).2.2.1, .int .i64 (pkF d p size).2.2.2]) ∧ RowN w' l.fp 0 A N ps ∧ ps.map (·.xs) = (pkF d p size).2.1 ∧ Below w.heap.size w w' := by
  by_cases hm : bmayE p size = 0
  · have hpb : 21 ≤ size ∧ size ≤ 32768 ∧ 0 ≤ p ∧ p ≤ 32768 - size := by
      unfold bmayE at hm
      split at hm
      · cases hm
      · omega
    have h1 := @pk_bad2 d p size hm
    have h2 := @pk_ok d p size hm
    obtain ⟨⟨E, v⟩, hL⟩ : ∃ x, livedF d p = x := ⟨_, rfl⟩
    have h1 := h1 hL
    rw [hL] at h2
    obtain ⟨R, hR⟩ : ∃ x, pkF d p size = x := ⟨_, rfl⟩
    rw [hR] at h1 h2 ⊢
    have H1 := Lib.hid h1
    have H2 : Hid (E = 0 → R = (v, (allF (seeD d) (p + size) ((v + 1) % 2 ^ 64) size.toNat (p + 20) 0 1).1, (allF (seeD d) (p + size) ((v + 1) % 2 ^ 64) size.toNat (p + 20) 0 1).2.1, 0)) := Lib.hid (fun e => h2 (by rw [e]))
    have HL := Lib.hid hL
    have HM := Lib.hid hm
    clear hR h1 h2 hL hm
    go_enter Try.func55, Try.ntmps55
    go_wp2_with fail
    refine (bmay_any w g p size).mono ?_
    rw [HM.out]
    rintro e w2 ⟨rfl, rfl⟩
    simp only []
    go_wp2_with fail
    refine (blived_any w base l d hD g hg hbase p (by omega)).mono ?_
    rw [HL.out]
    rintro e w3 ⟨(⟨hne, rfl⟩ | ⟨he, k0, rfl, _, _⟩), hb3⟩
    · simp only at hne
      have hr := H1.out hne
      subst hr
      have hne' : (E != 0) = true := by simpa using hne
      simp only []
      clear H1 H2 HL hne
      go_wp2_with fail
      ((try simp only [Exit.inBlock, Exit.then]); refine bodyPost_ret (results_tmp4 rfl _ _ _) rfl ?_)
      exact ⟨none, 0, ⟨0, rfl⟩, [], RowN.nil _ _ _, rfl, hb3⟩
    · simp only at he
      subst he
      have hr := H2.out rfl
      have hwr := wrap64u v
      have hlt : (v + 1) % 2 ^ 64 < 2 ^ 64 := Nat.mod_lt _ (by decide)
      obtain ⟨y, hy⟩ : ∃ y, (v + 1) % 2 ^ 64 = y := ⟨_, rfl⟩
      rw [hy] at hr hwr hlt
      have HWR := Lib.hid hwr
      obtain ⟨TT, hTT⟩ : ∃ x, allF (seeD d) (p + size) y size.toNat (p + 20) 0 1 = x := ⟨_, rfl⟩
      rw [hTT] at hr
      subst hr
      have HTT := Lib.hid hTT
      simp only []
      clear H1 H2 HL hy hwr hTT
      have v1 : IntKind.i64.wrap (p + 20) = p + 20 := IntWalk.i64_in _ (by omega)
      have v2 : IntKind.i64.wrap (p + size) = p + size := IntWalk.i64_in _ (by omega)
      go_upto_region 8 with (fail)
      rw [HWR.out]
      have hD3 := hD.below hb3
      have hK := Blk.new w3 131 #[.pointer (some ⟨g, 0, none⟩), .int .i64 (p + 20), .int .i64 (p + size), .int .u64 (y : Int), .int .i64 0, .bool false]
      have hb4 := below_alloc w3 (.cells #[.pointer (some ⟨g, 0, none⟩), .int .i64 (p + 20), .int .i64 (p + size), .int .u64 (y : Int), .int .i64 0, .bool false] 131)
      have hout : ¬ l.fp w3.heap.size := fun hf => by have := (hD3.fp_lt hf).2; omega
      have hs3 := hb3.size
      obtain ⟨w4, hw4⟩ : ∃ x, w3.alloc (.cells #[.pointer (some ⟨g, 0, none⟩), .int .i64 (p + 20), .int .i64 (p + size), .int .u64 (y : Int), .int .i64 0, .bool false] 131) = x := ⟨_, rfl⟩
      rw [hw4] at hK hb4 ⊢
      have hD4 := hD3.below hb4
      have hbb := below_next' hb3 hb4
      have hk4 : w3.heap.size < w4.heap.size := hK.lt
      obtain ⟨k, hk⟩ : ∃ x, w3.heap.size = x := ⟨_, rfl⟩
      rw [hk] at hK hout hs3 hk4 ⊢
      have hB4 : BookAt w4 base l k ⟨p + 20, p + size, y, 0, false⟩ := ⟨by rw [hg]; exact hK, hout, by omega⟩
      clear hw4 hK hout
      go_wp2_with fail
      refine (ball_any2 w4 base l d hD4 k _ hB4 ⟨by simp only; omega, by simp only; omega, by simp only; omega, by simp only; omega, hlt⟩ size.toNat (by simp only; omega)).mono ?_
      simp only []
      rw [HTT.out]
      rintro e w5 ⟨A, N, c, ps, rfl, hR, hxs, hB5, hg5, hge5⟩
      simp only [] at hR hxs hB5 ⊢
      have hb5 : Below w.heap.size w w5 := hbb.grown hg5 hbb.size (fun q hq => by cases hq; omega)
      have hN : RowN w5 l.fp 0 A N ps := RowN.of_row hR (by omega) hge5 (fun g _ hg => hg)
      have k1 := hB5.blk.cell 1
      simp only [List.getElem?_toArray, List.getElem?_cons_zero, List.getElem?_cons_succ] at k1
      clear hR hB4
      go_wp2_with fail
      refine wp_region_plan [(0, true), (1, true), (2, true), (3, true), (4, true), (5, true), (6, true), (7, true), (8, true), (9, true)] (fun z => z.cell? ⟨k, 1, none⟩ = some (.int .i64 TT.2.1)) (by kernel_rfl) (by kernel_rfl) (by kernel_rfl) (by kernel_rfl) (fun _ _ d _ _ h => by cases d <;> exact h) k1 ?_
      simp only [planOps, List.getElem?_toArray, List.getElem?_cons_zero, List.getElem?_cons_succ]
      repeat (first
        | (refine wpS_skip (by rfl) ?_; simp only [Act.put, List.setIfInBounds_toArray, List.set_cons_zero, List.set_cons_succ])
        | (refine wpS_q ?_ (by rfl) ?_ ?_; rotate_left; (focus (intro z hz; (try dsimp only at hz); go_simp; rfl)); simp only [Act.put, List.setIfInBounds_toArray, List.set_cons_zero, List.set_cons_succ]))
      refine wpS_nil ?_
      go_wp2_with fail
      ((try simp only [Exit.inBlock, Exit.then]); refine bodyPost_ret (results_tmp4 rfl _ _ _) rfl ?_)
      have hbd := drew_below (w := w5)
      exact ⟨A, N, ⟨c, rfl⟩, ps, hN.below hbd, hxs, below_next' hb5 hbd⟩
  · have hr := @pk_bad1 d p size hm
    rw [hr]
    obtain ⟨E, hEe⟩ : ∃ E, bmayE p size = E := ⟨_, rfl⟩
    rw [hEe] at hm ⊢
    have HE := Lib.hid hEe
    have hne : (E != 0) = true := by simpa using hm
    clear hr hEe
    go_enter Try.func55, Try.ntmps55
    go_wp2_with fail
    refine (bmay_any w g p size).mono ?_
    rw [HE.out]
    rintro e w2 ⟨rfl, rfl⟩
    simp only []
    go_wp2_with fail
    ((try simp only [Exit.inBlock, Exit.then]); refine bodyPost_ret (results_tmp4 rfl _ _ _) rfl ?_)
    exact ⟨none, 0, 0, [], rfl, RowN.nil _ _ _, rfl, Below.refl _ _⟩
set_option maxRecDepth 20000 in
set_option maxHeartbeats 8000000 in
theorem rpeek6_any (w : World) (base : Nat) (l : RL) (d : DS) (hD : RDk w base l d) (g : Nat) (hg : l.g = g) (hbase : base ≤ w.heap.size) (p size : Int) :
    Calls Try.prog 56 #[.pointer (some ⟨g, 0, none⟩), .int .i64 p, .int .i64 size] w fun e w' => ∃ A N c ps, e = .returned (.tuple #[.int .u64 ((pkF d p size).1 : Int), .slice A N c, .int .i64 (pkF d p size).2.2.1, .int .i64 (pkF d p size).2.2.2]) ∧ RowN w' l.fp 0 A N ps ∧ ps.map (·.xs) = (pkF d p size).2.1 ∧ Below w.heap.size w w' := by
  rcases bmay_cases p size with ⟨hm, hcs⟩ | ⟨hm, c1, c2, c3, c4⟩
  · have hr := @pk_bad1 d p size (by rw [hm]; decide)
    rw [hm] at hr
    rw [hr]
    clear hr hm
    rcases hcs with c1 | ⟨c1, c2⟩ | ⟨c1, c2, c3⟩ | ⟨c1, c2, c3, c4⟩
    all_goals
      go_enter Try.func56, Try.ntmps56
      go_wp2_with fail
      ((try simp only [Exit.inBlock, Exit.then]); refine bodyPost_ret (results_tmp4 rfl _ _ _) rfl ?_)
      first | exact ⟨none, 0, ⟨0, rfl⟩, [], RowN.nil _ _ _, rfl, Below.refl _ _⟩ | exact ⟨none, 0, 0, [], rfl, RowN.nil _ _ _, rfl, Below.refl _ _⟩
  · have h1 := @pk_bad2 d p size hm
    have h2 := @pk_ok d p size hm
    have hl1 := @lived_bad1 d p
    have hl2 := @lived_bad2 d p
    have hl3 := @lived_ok d p
    obtain ⟨R, hR⟩ : ∃ x, pkF d p size = x := ⟨_, rfl⟩
    rw [hR] at h1 h2 ⊢
    have hop : openCell d p = ⟨p, (opF d p).2, (opF d p).1, false⟩ := rfl
    obtain ⟨E, hE⟩ : ∃ E, opE d p = E := ⟨_, rfl⟩
    obtain ⟨⟨which, b⟩, hF⟩ : ∃ F, opF d p = F := ⟨_, rfl⟩
    rw [hE] at hl1 hl2 hl3
    rw [hF] at hl2 hl3 hop
    simp only at hl2 hl3 hop
    have q1 : E ≠ 0 → R = (0, [], 0, E) := fun he => h1 (hl1 he) he
    have q2 : E = 0 → b.length ≠ 0 → b.length ≠ 8 → R = (0, [], 0, 9) := fun he a b => h1 (hl2 he a b) (by decide)
    have q3 : E = 0 → b.length = 0 ∨ b.length = 8 → R = (num b, (allF (seeD d) (p + size) ((num b + 1) % 2 ^ 64) size.toNat (p + 20) 0 1).1, (allF (seeD d) (p + size) ((num b + 1) % 2 ^ 64) size.toNat (p + 20) 0 1).2.1, 0) := fun he a => h2 (hl3 he a)
    have Q1 := Lib.hid q1
    have Q2 := Lib.hid q2
    have Q3 := Lib.hid q3
    have HE := Lib.hid hE
    have HOP := Lib.hid hop
    clear hR h1 h2 hl1 hl2 hl3 hE hF hop q1 q2 q3 hm
    go_enter Try.func56, Try.ntmps56
    go_wp2_with fail
    refine (ropen5_any w base l d hD g hg hbase p (by omega)).mono ?_
    rw [HE.out, HOP.out]
    rintro e w3 ⟨(⟨hne, rfl⟩ | ⟨he, k, rfl, hC, hk⟩), hb⟩
    · have hne' : (E != 0) = true := by simpa using hne
      have hr := Q1.out hne
      subst hr
      simp only []
      clear Q2 Q3 hne
      go_wp2_with fail
      ((try simp only [Exit.inBlock, Exit.then]); refine bodyPost_ret (results_tmp4 rfl _ _ _) rfl ?_)
      first | exact ⟨none, 0, ⟨0, rfl⟩, [], RowN.nil _ _ _, rfl, hb⟩ | exact ⟨none, 0, 0, [], rfl, RowN.nil _ _ _, rfl, hb⟩
    · subst he
      simp only []
      have hD := hD.below hb
      obtain ⟨A', N, c', hB, hO, hA'⟩ := hC.blk
      simp only at hB hO
      have hbl := hO.len
      have k2 := hB.cell 2
      simp only [List.getElem?_toArray, List.getElem?_cons_zero, List.getElem?_cons_succ] at k2
      by_cases hln : N = 0 ∨ N = 8
      · have hr := Q3.out rfl (by rw [hbl]; exact hln)
        have hlive := rlived_any w3 A' N c' b hO (by omega)
        have hwr := wrap64u (num b)
        obtain ⟨v, hv⟩ : ∃ v, num b = v := ⟨_, rfl⟩
        rw [hv] at hlive hwr hr
        have hy64 : (v + 1) % 2 ^ 64 < 2 ^ 64 := Nat.mod_lt _ (by decide)
        obtain ⟨y, hy⟩ : ∃ y, (v + 1) % 2 ^ 64 = y := ⟨_, rfl⟩
        rw [hy] at hwr hr hy64
        obtain ⟨TT, hTT⟩ : ∃ x, allF (seeD d) (p + size) y size.toNat (p + 20) 0 1 = x := ⟨_, rfl⟩
        rw [hTT] at hr
        subst hr
        have HTT := Lib.hid hTT
        have HWR := Lib.hid hwr
        have HLIVE := Lib.hid hlive
        have hcs : N = 0 ∨ (((N : Int) != 0) = true ∧ ((N : Int) != 8) = false) := by
          rcases hln with h | h
          · exact .inl h
          · subst h; exact .inr ⟨rfl, rfl⟩
        have hfl : ∀ x, l.fp x → x < w3.heap.size := fun x hf => (hD.fp_lt hf).2
        have hs3 := hb.size
        have v1 : IntKind.i64.wrap (p + 20) = p + 20 := IntWalk.i64_in _ (by omega)
        have v2 : IntKind.i64.wrap (p + size) = p + size := IntWalk.i64_in _ (by omega)
        have hK := Blk.new w3 92 #[.pointer (some ⟨g, 0, none⟩), .int .i64 (p + 20), .int .i64 (p + size), .int .u64 (y : Int), .int .i64 0, .bool false]
        have hb4 := below_alloc w3 (.cells #[.pointer (some ⟨g, 0, none⟩), .int .i64 (p + 20), .int .i64 (p + size), .int .u64 (y : Int), .int .i64 0, .bool false] 92)
        obtain ⟨w4, hw4⟩ : ∃ x, w3.alloc (.cells #[.pointer (some ⟨g, 0, none⟩), .int .i64 (p + 20), .int .i64 (p + size), .int .u64 (y : Int), .int .i64 0, .bool false] 92) = x := ⟨_, rfl⟩
        have HW4 := Lib.hid hw4
        rw [hw4] at hK hb4
        have hD4 := hD.below hb4
        have hbb := below_next' hb hb4
        have hk4 : w3.heap.size < w4.heap.size := hK.lt
        obtain ⟨kb, hkb⟩ : ∃ x, w3.heap.size = x := ⟨_, rfl⟩
        have HKB := Lib.hid hkb
        rw [hkb] at hK hfl hs3 hk4
        have hB4 : RBookAt w4 base l kb ⟨p + 20, p + size, y, 0, false⟩ := ⟨by rw [hg]; exact hK, fun hf => by have := hfl kb hf; omega, by omega⟩
        clear hln hv hy hlive hwr hTT Q1 Q2 Q3 hw4 hkb hK hb4
        rcases hcs with rfl | ⟨n1, n2⟩
        all_goals
          go_wp2_with fail
          refine HLIVE.out.mono ?_
          rintro e w3' ⟨rfl, rfl⟩
          simp only []
          go_upto_region 10 with (fail)
          rw [HWR.out, HW4.out, HKB.out]
          go_wp2_with fail
          refine (rall_any w4 base l d hD4 g hg kb _ hB4 ⟨by simp only; omega, by simp only; omega, by simp only; omega, by simp only; omega, hy64⟩ size.toNat (by simp only; omega)).mono ?_
          simp only []
          rw [HTT.out]
          rintro e w5 ⟨A, N', c, ps, rfl, hR, hge5, hxs, hB5, hg5⟩
          simp only [] at hR hxs hB5 ⊢
          have hb5 : Below w.heap.size w w5 := hbb.grown hg5 hbb.size (fun q hq => by cases hq; omega)
          have hN : RowN w5 l.fp 0 A N' ps := RowN.of_row hR (by omega) hge5 (fun g h1 _ hf => by have := hfl g hf; omega)
          have k1 := hB5.blk.cell 1
          simp only [List.getElem?_toArray, List.getElem?_cons_zero, List.getElem?_cons_succ] at k1
          clear hR
          go_wp2_with fail
          refine wp_region_plan [(0, true), (1, true), (2, true), (3, true), (4, true), (5, true), (6, true), (7, true), (8, true), (9, true)] (fun z => z.cell? ⟨kb, 1, none⟩ = some (.int .i64 TT.2.1)) (by kernel_rfl) (by kernel_rfl) (by kernel_rfl) (by kernel_rfl) (fun _ _ d _ _ h => by cases d <;> exact h) k1 ?_
          simp only [planOps, List.getElem?_toArray, List.getElem?_cons_zero, List.getElem?_cons_succ]
          repeat (first
            | (refine wpS_skip (by rfl) ?_; simp only [Act.put, List.setIfInBounds_toArray, List.set_cons_zero, List.set_cons_succ])
            | (refine wpS_q ?_ (by rfl) ?_ ?_; rotate_left; (focus (intro z hz; (try dsimp only at hz); go_simp; rfl)); simp only [Act.put, List.setIfInBounds_toArray, List.set_cons_zero, List.set_cons_succ]))
          refine wpS_nil ?_
          go_wp2_with fail
          ((try simp only [Exit.inBlock, Exit.then]); refine bodyPost_ret (results_tmp4 rfl _ _ _) rfl ?_)
          have hbd := drew_below (w := w5)
          exact ⟨A, N', ⟨c, rfl⟩, ps, hN.below hbd, hxs, below_next' hb5 hbd⟩
      · have hr := Q2.out rfl (by omega) (by omega)
        subst hr
        have n1 : ((N : Int) != 0) = true := by simp; omega
        have n2 : ((N : Int) != 8) = true := by simp; omega
        clear Q1 Q2 Q3 hln
        go_wp2_with fail
        ((try simp only [Exit.inBlock, Exit.then]); refine bodyPost_ret (results_tmp4 rfl _ _ _) rfl ?_)
        first | exact ⟨none, 0, ⟨0, rfl⟩, [], RowN.nil _ _ _, rfl, hb⟩ | exact ⟨none, 0, 0, [], rfl, RowN.nil _ _ _, rfl, hb⟩
end Go.Proofs.Ytmjdfajdompkeaa
namespace Go.Proofs.Ytmjdfajdompkeaa
open Go.RowKit Go.Rat
theorem readF_same {V V' : Int → Option (List UInt8)} {lim p : Int} {n fr life : Nat} (hv : ∀ a, p ≤ a → a < lim → V a = V' a) : readF V' lim p n fr life = readF V lim p n fr life := by
  match hr : readF V lim p n fr life with
  | some (r, h) =>
    obtain ⟨b1, b2, b3, b4, b5, _, _, _⟩ := readF_pages hr
    exact readF_keep hr (fun k hk => hv _ (by omega) (by omega)) b1 b2
  | none =>
    match hr' : readF V' lim p n fr life with
    | none => rfl
    | some (r, h) =>
      obtain ⟨b1, b2, b3, b4, b5, _, _, _⟩ := readF_pages hr'
      have := readF_keep hr' (V' := V) (fun k hk => (hv _ (by omega) (by omega)).symm) b1 b2
      rw [hr] at this
      cases this
theorem allF_ext {V V' : Int → Option (List UInt8)} {lim : Int} {life : Nat} : ∀ (f : Nat) (p : Int) (n fr : Nat), (∀ a, p ≤ a → a < lim → V a = V' a) → allF V' lim life f p n fr = allF V lim life f p n fr
  | 0, _, _, _, _ => rfl
  | f + 1, p, n, fr, hv => by
    have h1 := readF_same (n := n) (fr := fr) (life := life) hv
    match hr : readF V lim p n fr life with
    | none => rw [allF_none hr, allF_none (h1.trans hr)]
    | some (r, h) =>
      rw [allF_some hr, allF_some (h1.trans hr), allF_ext f _ _ _ (fun a h2 h3 => hv a (by omega) h3)]
theorem seeD_same {d d' : DS} (ho : d.off = false) (ho' : d'.off = false) {a : Int} (h : d'.now a = d.now a) : seeD d' a = seeD d a := by
  unfold seeD readE readB
  rw [ho, ho', h]
theorem syncAll_zero {d : DS} (h : syncE d = 0) : (syncAll d).off = d.off ∧ (syncAll d).now = d.now := by
  unfold syncE at h
  unfold syncAll
  split
  · next ho => rw [if_pos ho] at h; cases h
  · next ho =>
    rw [if_neg ho] at h
    split
    · next hb => rw [if_pos hb] at h; cases h
    · next hb =>
      have hf : ¬ d.fuse = 0 := by simpa [burnB] using hb
      unfold burnD
      rw [if_neg hf]
      split <;> exact ⟨rfl, rfl⟩
/-- A Put that is OK: the disk is on, and elsewhere what it was. -/
theorem ptF_out {d : DS} {p : Int} {which : Nat} {b : List UInt8} (hp : 0 ≤ p ∧ p + 20 ≤ 32768) (hw : which ≤ 1) (ho : d.off = false) (hf : -1 ≤ d.fuse) (h : (ptF d p which b).2 = 0) :
    (ptF d p which b).1.off = false ∧ ∀ a, p + 20 ≤ a → (ptF d p which b).1.now a = d.now a := by
  obtain ⟨q, hq⟩ : ∃ q, p + ((1 - which : Nat) : Int) * 10 = q := ⟨_, rfl⟩
  obtain ⟨m, hm, hW, h0, h8⟩ := wrS_eff (c := nextF d p) (b := b) (p := q) (by omega) ho hf 10 (Nat.le_refl _)
  unfold ptF at h ⊢
  rw [hq] at h ⊢
  by_cases he : (wrS d q (nextF d p) b 10).2 = 0
  · rw [if_pos he] at h ⊢
    simp only at h ⊢
    obtain ⟨rfl, h1, h2⟩ := h0 he
    obtain ⟨s1, s2⟩ := syncAll_zero h
    refine ⟨by rw [s1]; exact h1, fun a ha => ?_⟩
    rw [s2, hW.now, nowW_out _ _ _ _ (by omega)]
  · rw [if_neg he] at h
    exact absurd h he
theorem pk_open {d : DS} {p size : Int} (hf : -1 ≤ d.fuse) (he : (pkF d p size).2.2.2 = 0) (ho : bopE d p size = 0) : (pkF d p size).2.1 = (bopA d p size).1 := by
  have hm : bmayE p size = 0 := by
    unfold bopE at ho
    split at ho
    · next h1 => exact absurd ho h1
    · next h1 => exact Classical.not_not.1 h1
  have hpb : 21 ≤ size ∧ size ≤ 32768 ∧ 0 ≤ p ∧ p ≤ 32768 - size := by
    unfold bmayE at hm
    split at hm
    · cases hm
    · omega
  obtain ⟨⟨E, v⟩, hL⟩ : ∃ x, livedF d p = x := ⟨_, rfl⟩
  by_cases hE : E = 0
  · subst hE
    have hop : opE d p = 0 := by
      rcases Classical.em (opE d p = 0) with h | h
      · exact h
      · rw [lived_bad1 h] at hL
        injection hL
    have hoff : d.off = false := by
      cases h : d.off
      · rfl
      · rw [opE, if_pos h] at hop
        cases hop
    have hlive := live_ok hL
    have ho2 : (liveF d p).2.1 = 0 := by
      rw [bopE, if_neg (fun q => q hm)] at ho
      exact ho
    rw [hlive] at ho2
    simp only at ho2
    obtain ⟨o1, o2⟩ := ptF_out (p := p) (by omega) (opF_wh d p) hoff hf ho2
    rw [pk_ok hm hL, bopA, hlive]
    simp only
    rw [allF_ext (V := seeD d) (V' := seeD (ptF d p (opF d p).1 (be 8 ((v + 1) % 2 ^ 64))).1) size.toNat (p + 20) 0 1 (fun a h1 h2 => (seeD_same hoff o1 (o2 a h1)).symm)]
  · rw [pk_bad2 hm hL hE] at he
    exact absurd he hE
/-- What the law BookPeeks holds of both books. -/
def BHold (w : World) (base : Nat) (l : DL) (L : RL) (b x : Value) : Prop :=
  (b = .pointer none ∧ x = .pointer none) ∨
  (∃ k K s, b = .pointer (some ⟨k, 0, none⟩) ∧ x = .pointer (some ⟨K, 0, none⟩) ∧ BX w base l L k K s s none 0 [] none 0 [] ∧ BOk s)
theorem BX.drop {w : World} {base : Nat} {l : DL} {L : RL} {k K : Nat} {s t : BS} {A A' : Option Addr} {N N' : Nat} {ps qs : List Pt} (h : BX w base l L k K s t A N ps A' N' qs) : BX w base l L k K s t none 0 [] none 0 [] :=
  ⟨h.b, h.x, h.kL, h.Kl, h.kK, RowN.nil _ _ _, RowN.nil _ _ _⟩
section
variable {w w' : World} {base : Nat} {l l' : DL} {L L' : RL} {b x : Value}
theorem BHold.left (h : BHold w base l L b x) (hm : Moved w w' l l') : BHold w' base l' L b x := by
  rcases h with h | ⟨k, K, s, h1, h2, h5, h6⟩
  · exact .inl h
  · exact .inr ⟨k, K, s, h1, h2, h5.left (CMoved.of_moved hm k) (h5.b.moved hm), h6⟩
theorem BHold.right (h : BHold w base l L b x) (hm : RMoved w w' L L') : BHold w' base l L' b x := by
  rcases h with h | ⟨k, K, s, h1, h2, h5, h6⟩
  · exact .inl h
  · exact .inr ⟨k, K, s, h1, h2, h5.right (RCMoved.of_moved hm K) (h5.x.moved hm), h6⟩
theorem BHold.below (h : BHold w base l L b x) (hb : Below w.heap.size w w') : BHold w' base l L b x := h.left (Moved.of_below hb)
end
end Go.Proofs.Ytmjdfajdompkeaa
namespace Go.Proofs.Ytmjdfajdompkeaa
open Go.RowKit Go.Rat
def fmA (d : DS) (p : Int) : DS × Int := if 0 ≤ p ∧ p ≤ 32748 then fmF d p else (d, 1)
theorem bformatA (w : World) (base : Nat) (l : DL) (d : DS) (hD : DiskAt w base l d) (g : Nat) (hg : l.g = g) (hbase : base ≤ w.heap.size) (hlo : d.loose.length < 800000000) (p : Int) :
    Calls Try.prog 47 #[.pointer (some ⟨g, 0, none⟩), .int .i64 p] w fun e w' => ∃ l', e = .returned (.int .i64 (fmA d p).2) ∧ l'.g = g ∧ DiskAt w' base l' (fmA d p).1 ∧ Moved w w' l l' := by
  unfold fmA
  by_cases hp : 0 ≤ p ∧ p ≤ 32748
  · rw [if_pos hp]
    exact bformat_any w base l d hD g hg hbase hlo p (by omega)
  · rw [if_neg hp]
    refine (bformat_far w g p hp).mono ?_
    rintro e w2 ⟨rfl, hb⟩
    exact ⟨l, rfl, hg, hD.below hb, .of_below hb⟩
theorem rformatA (w : World) (base : Nat) (l : RL) (d : DS) (hD : RDk w base l d) (g : Nat) (hg : l.g = g) (hbase : base ≤ w.heap.size) (hlo : d.loose.length < 800000000) (p : Int) :
    Calls Try.prog 51 #[.pointer (some ⟨g, 0, none⟩), .int .i64 p] w fun e w' => ∃ l', e = .returned (.int .i64 (fmA d p).2) ∧ l'.g = g ∧ RDk w' base l' (fmA d p).1 ∧ RMoved w w' l l' := by
  unfold fmA
  by_cases hp : 0 ≤ p ∧ p ≤ 32748
  · rw [if_pos hp]
    exact rformat_any w base l d hD g hg hbase hlo p (by omega)
  · rw [if_neg hp]
    refine (rformat_far w _ p hp).mono ?_
    rintro e w2 ⟨rfl, rfl⟩
    exact ⟨l, rfl, hg, hD, .refl _ _⟩
theorem fmA_len (d : DS) (p : Int) : (fmA d p).1.loose.length ≤ d.loose.length + 20 := by
  unfold fmA
  split
  · exact fmF_len d p
  · simp
end Go.Proofs.Ytmjdfajdompkeaa
