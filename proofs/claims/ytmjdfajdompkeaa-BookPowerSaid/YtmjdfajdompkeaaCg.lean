/- cell: a slot is read. -/
import Derived.Test.YtmjdfajdompkeaaCe
namespace Go.Proofs.Ytmjdfajdompkeaa
open Go.RowKit Go.Rat
theorem view_len {d : DS} (h : DOk d) {p : Int} {i : Nat} {s : List UInt8} (hs : viewD d p i = some s) : s.length = 128 := by
  unfold viewD at hs
  split at hs
  · cases hs
    exact readB_length h _
  · cases hs
theorem rdS_len {F : Nat → Option (List UInt8)} (hF : ∀ i s, F i = some s → s.length = 128) : ∀ k n all, rdS F k = some (n, all) → all.length = k * 120 ∧ n < 2 ^ 64
  | 0, n, all, h => by
    simp [rdS] at h
    obtain ⟨rfl, rfl⟩ := h
    simp
  | k + 1, n, all, h => by
    rw [rdS] at h
    split at h
    · next m al s h1 h2 =>
      split at h
      · simp only [Option.some.injEq, Prod.mk.injEq] at h
        have := (rdS_len hF k m al h1).1
        have hs := hF _ _ h2
        rw [← h.1, ← h.2]
        refine ⟨?_, cntB_lt s⟩
        rw [List.length_append, List.length_drop, this, hs, Nat.succ_mul]
      · cases h
    · cases h
theorem rdS_bad {F : Nat → Option (List UInt8)} {k n : Nat} {all s : List UInt8} (h1 : rdS F k = some (n, all)) (h2 : F k = some s) (hk : k ≠ 0) (hc : cntB s ≠ n) (hk10 : k < 10) : rdF F = (0, []) := by
  have h3 : rdS F (k + 1) = none := by
    rw [rdS, h1, h2]
    simp only []
    rw [if_neg (by rintro (h | h); exact hk h; exact hc h)]
  have up : ∀ j, rdS F (k + 1 + j) = none := by
    intro j
    induction j with
    | zero => exact h3
    | succ j ih => rw [← Nat.add_assoc, rdS, ih]
  have := up (10 - (k + 1))
  rw [show k + 1 + (10 - (k + 1)) = 10 by omega] at this
  rw [rdF, this]
theorem rdS_next {F : Nat → Option (List UInt8)} {k n : Nat} {all s : List UInt8} (h1 : rdS F k = some (n, all)) (h2 : F k = some s) (hc : k = 0 ∨ cntB s = n) : rdS F (k + 1) = some (cntB s, all ++ s.drop 8) := by
  rw [rdS, h1, h2]
  simp only []
  rw [if_pos hc]
theorem blk_drop8 {w : World} {g : Nat} {T : TypeId} {s : List UInt8} (hB : Blk w g T (bvs s).toArray) (hs : s.length = 128) : RB w (some ⟨g, 8, none⟩) 120 (s.drop 8) := by
  refine ⟨by rw [bvs_length, List.length_drop, hs], fun _ => ⟨_, rfl, hB.lt, fun j u hu => ?_⟩⟩
  have ha : ((⟨g, 8, none⟩ : Addr).add j) = ⟨g, 8 + j, none⟩ := by
    simp only [Addr.add]
    split
    · next h => subst h; rfl
    · rfl
  rw [ha, hB.cell (8 + j), List.getElem?_toArray, ← hu, bvs, bvs, List.map_drop, List.getElem?_drop]
theorem all_anyB (xs : List UInt8) : xs.all (· == 0) = !anyB xs := by
  unfold anyB
  induction xs with
  | nil => rfl
  | cons x xs ih =>
    rw [List.all_cons, List.any_cons, ih, Bool.not_or]
    congr 1
    cases h : (x == 0) <;> simp_all
set_option maxRecDepth 20000 in
set_option maxHeartbeats 8000000 in
theorem cread_any (w : World) (base : Nat) (l : DL) (d : DS) (hD : DiskAt w base l d) (g : Nat) (hg : l.g = g) (p : Int) (which : Nat) (hw : which ≤ 1) (hp : 0 ≤ p ∧ p + 20 ≤ 32768) :
    Calls Try.prog 63 #[.agg #[.pointer (some ⟨g, 0, none⟩), .int .i64 p], .int .i64 (which : Int)] w fun e w' => ∃ A N c, e = .returned (.tuple #[.int .u64 ((slotV d p which).1 : Int), .slice A N c]) ∧ OB 5 w' w.heap.size A N c (slotV d p which).2 ∧ Below w.heap.size w w' := by
  obtain ⟨q, hq⟩ : ∃ q, p + (which : Int) * 10 = q := ⟨_, rfl⟩
  have hsv : slotV d p which = rdF (viewD d q) := by rw [slotV, ← hq, show (((which * 10 : Nat) : Int)) = (which : Int) * 10 by omega]
  rw [hsv]
  have hqb : 0 ≤ q ∧ q + 10 ≤ 32768 := by omega
  have hFl : ∀ i s, viewD d q i = some s → s.length = 128 := fun i s h => view_len hD.ok h
  obtain ⟨F, hF⟩ : ∃ F, viewD d q = F := ⟨_, rfl⟩
  have hFv : ∀ i : Nat, F i = if readE d (q + (i : Int)) = 0 then some (readB d (q + (i : Int))) else none := fun i => by rw [← hF]; rfl
  rw [hF] at hFl ⊢
  have HFV := Lib.hid hFv
  have HFL := Lib.hid hFl
  clear hsv hF hFv hFl
  go_enter Try.func63, Try.ntmps63
  go_upto_block 0 with (fail)
  have hP := Blk.new w 119 #[.pointer (some ⟨g, 0, none⟩), .int .i64 p]
  have hb1 := below_alloc w (.cells #[.pointer (some ⟨g, 0, none⟩), .int .i64 p] 119)
  obtain ⟨w1, hw1⟩ : ∃ x, w.alloc (.cells #[.pointer (some ⟨g, 0, none⟩), .int .i64 p] 119) = x := ⟨_, rfl⟩
  rw [hw1] at hP hb1 ⊢
  have hs1 : w.heap.size < w1.heap.size := hP.lt
  have hD1 := hD.below hb1
  clear hw1 hD
  obtain ⟨bp, hbp⟩ : ∃ x, w.heap.size = x := ⟨_, rfl⟩
  rw [hbp] at hP ⊢
  have HBP := Lib.hid hbp
  clear hbp
  go_cut [4, 6] (fun n al wx => ∃ (nk : Nat) (allk : List UInt8) (A : Option Addr) (N c : Nat), n = .int .u64 (nk : Int) ∧ al = .slice A N c ∧ rdS F 10 = some (nk, allk) ∧ OB 5 wx w1.heap.size A N c allk ∧ Below w1.heap.size w1 wx)
  case first =>
    go_wp2_with fail
    go_loopw [4, 6, 13] (fun n al i wr => ∃ (k nk : Nat) (allk : List UInt8) (A : Option Addr) (N c : Nat), k ≤ 10 ∧ i = .int .i64 (k : Int) ∧ n = .int .u64 (nk : Int) ∧ al = .slice A N c ∧ rdS F k = some (nk, allk) ∧ OB 5 wr w1.heap.size A N c allk ∧ Below w1.heap.size w1 wr) (fun _ _ i _ => 10 - (intOf i).toNat)
    case atStart => exact ⟨0, 0, [], none, 0, 0, by omega, rfl, rfl, rfl, rfl, OB.nil_ _ _ _, Below.refl _ _⟩
    case round =>
      obtain ⟨k, nk, allk, A, N, c, hk, rfl, rfl, rfl, hrd, hO, hbk⟩ := hrel
      by_cases hk10 : k < 10
      · have hPk := hP.below hbk hP.lt
        have hDk := hD1.below hbk
        have c0 := hPk.cell 0
        have c1 := hPk.cell 1
        simp only [List.getElem?_toArray, List.getElem?_cons_zero, List.getElem?_cons_succ] at c0 c1
        have hFk := HFV.out k
        have hsl : (readB d (q + (k : Int))).length = 128 := readB_length hDk.ok _
        obtain ⟨s, hs⟩ : ∃ s, readB d (q + (k : Int)) = s := ⟨_, rfl⟩
        obtain ⟨E, hE⟩ : ∃ E, readE d (q + (k : Int)) = E := ⟨_, rfl⟩
        rw [hs] at hFk hsl
        rw [hE] at hFk
        have HS := Lib.hid hs
        have HE := Lib.hid hE
        have HFK := Lib.hid hFk
        have HRD := Lib.hid hrd
        have hsz : (bvs s).toArray.size = 128 := by rw [bvs_size, hsl]
        have g1 : (k : Int) < 10 := by omega
        have g2 : (0 : Int) ≤ (k : Int) := by omega
        have hNl := hO.len
        have hal : allk.length = k * 120 := (rdS_len HFL.out k nk allk HRD.out).1
        have hnk : nk < 2 ^ 64 := (rdS_len HFL.out k nk allk HRD.out).2
        have hN12 : N ≤ 1200 := by omega
        have HNL := Lib.hid hNl
        clear hs hE hFk hrd hNl hal
        go_wp2_with fail
        refine (gread _ base g _ _ hDk hg (q + (k : Int))).mono ?_
        rw [HS.out, HE.out]
        rintro e w3 ⟨rfl, hb⟩
        simp only []
        have hO := OB.grown hO (grownBy_of_below hb none) (.inr rfl)
        have hbk := hbk.trans (hb.mono hbk.size)
        have hw13 := hbk.size
        clear hb c0 c1 hDk hPk
        repeat (first | ((with_reducible refine wpl_store_fresh (bvs s).toArray i128 ?_ hsz (bvs_all _) ?_ ?_ ?_); (focus kernel_rfl); (focus rfl); (focus rfl); intro w4 hB hl3 hb; simp only [Act.put]; refine Hid.out ?_) | go_values | go_skip | go_guarded | go_step | go_upon | go_back)
        refine Lib.hid ?_
        have hO := OB.grown hO (grownBy_of_below hb none) (.inr rfl)
        have hbk := hbk.trans (hb.mono hbk.size)
        clear hb hl3
        have hgB1 : w1.heap.size ≤ w3.heap.size := hw13
        obtain ⟨gB, hgB⟩ : ∃ x, w3.heap.size = x := ⟨_, rfl⟩
        rw [hgB] at hB hgB1 ⊢
        clear hgB
        have hgb : w.heap.size ≤ gB := by omega
        by_cases hE0 : E = 0
        · subst hE0
          have hsome : F k = some s := HFK.out.trans (if_pos rfl)
          have HSM := Lib.hid hsome
          clear hsome
          by_cases hk0 : k = 0
          · subst hk0
            have hnx := rdS_next HRD.out HSM.out (.inl rfl)
            have HNX := Lib.hid hnx
            clear hnx
            repeat (first | ((with_reducible refine wpl_load gB _ _ Try.underlying28 i128 hB hsz ?_ ?_); (focus rfl); simp only [Act.put, List.setIfInBounds_toArray, List.set_cons_zero, List.set_cons_succ]) | go_values | go_skip | go_guarded | go_step | go_upon | go_back)
            refine (ccount_any _ s hsl).mono ?_
            rintro e w5 ⟨rfl, hb⟩
            simp only []
            have hO := OB.grown hO (grownBy_of_below hb none) (.inr rfl)
            have hbk := hbk.trans (hb.mono hbk.size)
            have hB := hB.below hb hB.lt
            have hR8 := blk_drop8 hB hsl
            clear hb
            go_wp2_with (at_builtin; refine app_bytes rfl _ _ rfl w1.heap.size A N c allk rfl hO (some ⟨gB, 8, none⟩) 120 120 (s.drop 8) rfl hR8 (by omega) hbk.size ?_; intro A2 N2 c2 w6 hc2 hc2' hO2 hG2)
            have hbk := hG2.own hbk (Nat.le_refl _) hO
            exact ⟨⟨0 + 1, cntB s, allk ++ s.drop 8, A2, N2, c2, by omega, congrArg (Value.int .i64) (by omega), rfl, rfl, HNX.out, hO2, hbk⟩, by simp [intOf]⟩
          · have hk0' : 0 < k := by omega
            by_cases hcn : cntB s = nk
            · have hnx := rdS_next HRD.out HSM.out (.inr hcn)
              have HNX := Lib.hid hnx
              have hcne : ((cntB s : Int) != (nk : Int)) = false := by rw [hcn]; simp
              clear hnx hcn hk0
              repeat (first | ((with_reducible refine wpl_loadG gB _ (bvs s).toArray Try.underlying28 i128 hB hsz ?_ ?_ ?_); (focus rfl); (focus rfl); simp only [Act.put, List.setIfInBounds_toArray, List.set_cons_zero, List.set_cons_succ]) | go_values | go_skip | go_guarded | go_step | go_upon | go_back)
              refine (ccount_any _ s hsl).mono ?_
              rintro e w5' ⟨rfl, hb⟩
              simp only []
              have hO := OB.grown hO (grownBy_of_below hb none) (.inr rfl)
              have hbk := hbk.trans (hb.mono hbk.size)
              have hB := hB.below hb hB.lt
              clear hb
              repeat (first | ((with_reducible refine wpl_load gB _ _ Try.underlying28 i128 hB hsz ?_ ?_); (focus rfl); simp only [Act.put, List.setIfInBounds_toArray, List.set_cons_zero, List.set_cons_succ]) | go_values | go_skip | go_guarded | go_step | go_upon | go_back)
              refine (ccount_any _ s hsl).mono ?_
              rintro e w5 ⟨rfl, hb⟩
              simp only []
              have hO := OB.grown hO (grownBy_of_below hb none) (.inr rfl)
              have hbk := hbk.trans (hb.mono hbk.size)
              have hB := hB.below hb hB.lt
              have hR8 := blk_drop8 hB hsl
              clear hb
              go_wp2_with (at_builtin; refine app_bytes rfl _ _ rfl w1.heap.size A N c allk rfl hO (some ⟨gB, 8, none⟩) 120 120 (s.drop 8) rfl hR8 (by omega) hbk.size ?_; intro A2 N2 c2 w6 hc2 hc2' hO2 hG2)
              have hbk := hG2.own hbk (Nat.le_refl _) hO
              exact ⟨⟨k + 1, cntB s, allk ++ s.drop 8, A2, N2, c2, by omega, congrArg (Value.int .i64) (by omega), rfl, rfl, HNX.out, hO2, hbk⟩, by simp [intOf]; omega⟩
            · have hbad := rdS_bad HRD.out HSM.out hk0 hcn hk10
              have HBAD := Lib.hid hbad
              have hcne : ((cntB s : Int) != (nk : Int)) = true := by simp; omega
              clear hbad hcn hk0
              repeat (first | ((with_reducible refine wpl_loadG gB _ (bvs s).toArray Try.underlying28 i128 hB hsz ?_ ?_ ?_); (focus rfl); (focus rfl); simp only [Act.put, List.setIfInBounds_toArray, List.set_cons_zero, List.set_cons_succ]) | go_values | go_skip | go_guarded | go_step | go_upon | go_back)
              refine (ccount_any _ s hsl).mono ?_
              rintro e w5' ⟨rfl, hb⟩
              simp only []
              have hbk := hbk.trans (hb.mono hbk.size)
              clear hb
              go_wp2_with fail
              go_ret2
              exact ⟨none, 0, 0, by rw [HBAD.out]; rfl, by rw [HBAD.out]; exact OB.nil_ _ _ _, hb1.trans (hbk.mono (Nat.le_of_lt hs1))⟩
        · have hne : (E != 0) = true := by simpa using hE0
          have hbad := rdF_lost hk10 (HFK.out.trans (if_neg hE0))
          have HBAD := Lib.hid hbad
          clear hbad hE0
          go_wp2_with fail
          go_ret2
          exact ⟨none, 0, 0, by rw [HBAD.out]; rfl, by rw [HBAD.out]; exact OB.nil_ _ _ _, hb1.trans (hbk.mono (Nat.le_of_lt hs1))⟩
      · obtain rfl : k = 10 := by omega
        have g1 : ¬ ((10 : Nat) : Int) < 10 := by omega
        go_wp2_with fail
        go_meet
        exact ⟨nk, allk, A, N, c, rfl, rfl, hrd, hO, hbk⟩
  case rest =>
    obtain ⟨nk, allk, A, N, c, rfl, rfl, hrd, hO, hbk⟩ := hcut
    have hal := (rdS_len HFL.out 10 nk allk hrd).1
    have hnk := (rdS_len HFL.out 10 nk allk hrd).2
    have hrf : rdF F = endF nk allk := by rw [rdF, hrd]
    have hNl := hO.len
    obtain rfl : N = 1200 := by omega
    have ht2 : takeF allk false 2 = (allk.take 2, allk.drop 2, false) := takeF_ok (k := 2) (by omega)
    have hM := num_lt16 (ys := allk.take 2) (by rw [List.length_take]; omega)
    have hl0 : (allk.drop 2).length = 1198 := by rw [List.length_drop]; omega
    unfold endF at hrf
    obtain ⟨M, hMe⟩ : ∃ M, num (allk.take 2) = M := ⟨_, rfl⟩
    obtain ⟨R, hRe⟩ : ∃ R, allk.drop 2 = R := ⟨_, rfl⟩
    rw [hMe] at hM hrf
    rw [hRe] at hl0 hrf ht2
    have HM := Lib.hid hMe
    have HT2 := Lib.hid ht2
    have HRF := Lib.hid hrf
    have HL0 := Lib.hid hl0
    clear hal hrd hrf hNl ht2 hMe hRe hP hD1 hl0
    go_wp2_with fail
    refine (cnew_any wc A 1200 c allk hO.reads (by omega)).mono ?_
    rintro e w3 ⟨gC, gb, rfl, hC, hg1, hg2, hg3, hb3⟩
    simp only []
    have hgC1 : w1.heap.size ≤ gC := Nat.le_trans hbk.size hg1
    have hbk := hbk.trans (hb3.mono hbk.size)
    clear hb3 hO hg3
    go_wp2_with fail
    refine (chalf_any w3 gC gb allk false hC).mono ?_
    rw [HT2.out, HM.out]
    rintro e w4 ⟨rfl, hC4, hgr4⟩
    simp only []
    have hbk := hbk.grown hgr4 hbk.size (fun q hq => by cases hq; exact hgC1)
    have hgC4 : gC < w4.heap.size := Nat.lt_of_lt_of_le hg2 hgr4.size
    clear hC hgr4
    by_cases h98 : M ≤ 1198
    · have ht3 : takeF R false (M : Int) = (R.take M, R.drop M, false) := takeF_ok (by rw [HL0.out]; exact h98)
      have hLd : (R.drop M).length = 1198 - M := by rw [List.length_drop, HL0.out]
      have ht4 : takeF (R.drop M) false (((1198 - M : Nat)) : Int) = (R.drop M, [], false) := by
        refine (takeF_ok (by rw [hLd]; exact Nat.le_refl _)).trans ?_
        rw [← hLd, List.take_of_length_le (Nat.le_refl _), List.drop_of_length_le (Nat.le_refl _)]
      have HT3 := Lib.hid ht3
      have HT4 := Lib.hid ht4
      have HLD := Lib.hid hLd
      clear ht3 ht4 hLd
      go_wp2_with fail
      refine (craw_any w4 gC gb R false (M : Int) hC4 (by rw [HL0.out]; omega)).mono ?_
      rw [HT3.out]
      rintro e w5 ⟨A1, N1, c1, rfl, hO5, hC5, hgr5⟩
      simp only []
      have hbk := hbk.grown hgr5 hbk.size (fun q hq => by cases hq; exact hgC1)
      have hA1 : A1.map (·.block) ≠ some gC := fun e => by have := (hO5.ge _ e).1; omega
      clear hC4 hgr5
      go_wp2_with fail
      refine (cleft_any w5 gC gb _ false hC5).mono ?_
      rw [HLD.out]
      rintro e w5' ⟨rfl, rfl⟩
      simp only []
      go_wp2_with fail
      refine (craw_any w5 gC gb _ false _ hC5 (by rw [HLD.out]; omega)).mono ?_
      rw [HT4.out]
      rintro e w6 ⟨A2, N2, c2, rfl, hO6, hC6, hgr6⟩
      simp only []
      have hbk := hbk.grown hgr6 hbk.size (fun q hq => by cases hq; exact hgC1)
      have hO5 := (OB.grown hO5 hgr6 (.inl hA1)).mono (B := w.heap.size) (by have := hbk.size; omega)
      have hR6 := hO6.reads
      have hN6 : N2 ≤ 100000 := by have := hO6.len; rw [HLD.out] at this; omega
      clear hC5 hgr6 hO6 hA1
      by_cases h11 : M ≤ 1100
      · have h11' : ¬ (1100 : Int) < (M : Int) := by omega
        obtain ⟨v, hv⟩ : ∃ v, anyB (R.drop M) = v := ⟨_, rfl⟩
        have HV := Lib.hid hv
        clear hv
        cases v
        · have hfin : rdF F = (nk, R.take M) := by rw [HRF.out, if_pos ⟨h11, by rw [all_anyB, HV.out]; rfl⟩]
          have HFIN := Lib.hid hfin
          clear hfin
          go_wp2_with (first
            | ((with_reducible refine (cok_any w6 gC gb _ false hC6).mono ?_); rintro e w7 ⟨rfl, rfl⟩; simp only [])
            | ((with_reducible refine (contains_any w6 A2 N2 c2 _ hR6 hN6).mono ?_); rw [HV.out]; rintro e w7 ⟨rfl, rfl⟩; simp only []))
          go_ret2
          exact ⟨A1, N1, c1, by rw [HFIN.out]; rfl, by rw [HFIN.out]; exact hO5, hb1.trans (hbk.mono (Nat.le_of_lt hs1))⟩
        · have hfin : rdF F = (0, []) := by rw [HRF.out, if_neg (by rw [all_anyB, HV.out]; rintro ⟨_, h⟩; cases h)]
          have HFIN := Lib.hid hfin
          clear hfin
          go_wp2_with (first
            | ((with_reducible refine (cok_any w6 gC gb _ false hC6).mono ?_); rintro e w7 ⟨rfl, rfl⟩; simp only [])
            | ((with_reducible refine (contains_any w6 A2 N2 c2 _ hR6 hN6).mono ?_); rw [HV.out]; rintro e w7 ⟨rfl, rfl⟩; simp only []))
          go_ret2
          exact ⟨none, 0, 0, by rw [HFIN.out]; rfl, by rw [HFIN.out]; exact OB.nil_ _ _ _, hb1.trans (hbk.mono (Nat.le_of_lt hs1))⟩
      · have h11' : (1100 : Int) < (M : Int) := by omega
        have hfin : rdF F = (0, []) := by rw [HRF.out, if_neg (fun h => h11 h.1)]
        have HFIN := Lib.hid hfin
        clear hfin
        go_wp2_with ((with_reducible refine (cok_any w6 gC gb _ false hC6).mono ?_); rintro e w7 ⟨rfl, rfl⟩; simp only [])
        go_ret2
        exact ⟨none, 0, 0, by rw [HFIN.out]; rfl, by rw [HFIN.out]; exact OB.nil_ _ _ _, hb1.trans (hbk.mono (Nat.le_of_lt hs1))⟩
    · have hfin : rdF F = (0, []) := by rw [HRF.out, if_neg (fun h => by omega)]
      have HFIN := Lib.hid hfin
      have ht3 : takeF R false (M : Int) = ([], R, true) := takeF_bad (.inr (.inr (by rw [HL0.out]; omega)))
      have ht4 : takeF R true 1198 = ([], R, true) := takeF_bad (.inl rfl)
      have HT3 := Lib.hid ht3
      have HT4 := Lib.hid ht4
      clear hfin ht3 ht4
      go_wp2_with fail
      refine (craw_any w4 gC gb R false (M : Int) hC4 (by rw [HL0.out]; omega)).mono ?_
      rw [HT3.out]
      rintro e w5 ⟨A1, N1, c1, rfl, hO5, hC5, hgr5⟩
      simp only []
      have hbk := hbk.grown hgr5 hbk.size (fun q hq => by cases hq; exact hgC1)
      clear hC4 hgr5 hO5
      go_wp2_with fail
      refine (cleft_any w5 gC gb _ true hC5).mono ?_
      rw [HL0.out]
      rintro e w5' ⟨rfl, rfl⟩
      simp only []
      go_wp2_with fail
      refine (craw_any w5 gC gb _ true 1198 hC5 (by rw [HL0.out]; omega)).mono ?_
      rw [HT4.out]
      rintro e w6 ⟨A2, N2, c2, rfl, hO6, hC6, hgr6⟩
      simp only []
      have hbk := hbk.grown hgr6 hbk.size (fun q hq => by cases hq; exact hgC1)
      clear hC5 hgr6 hO6
      go_wp2_with ((with_reducible refine (cok_any w6 gC gb _ true hC6).mono ?_); rintro e w7 ⟨rfl, rfl⟩; simp only [])
      go_ret2
      exact ⟨none, 0, 0, by rw [HFIN.out]; rfl, by rw [HFIN.out]; exact OB.nil_ _ _ _, hb1.trans (hbk.mono (Nat.le_of_lt hs1))⟩
end Go.Proofs.Ytmjdfajdompkeaa
