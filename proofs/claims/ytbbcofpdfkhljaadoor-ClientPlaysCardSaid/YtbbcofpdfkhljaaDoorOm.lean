/- The law ClientPlays, walked. -/
import Derived.Test.YtbbcofpdfkhljaaDoorOk
namespace Go.Proofs.YtbbcofpdfkhljaaDoor
open Go.RowKit Go.Rat
set_option maxRecDepth 20000 in
set_option maxHeartbeats 16000000 in
theorem clientPlays_any (n : Nat) (hn64 : n = 64) (w : World) (cn id : Int) (A : Option Addr) (m c : Nat) (l : List StV) (hr : Reads w w.heap.size 15 A m (l.flatMap StV.c)) (hm80 : m * 80 ≤ 140737488355328) (tb : List Int) (htb : H.tblL = tb) (hT : H.Tab w tb) :
    Calls Tryd.prog 3 #[.int .i64 cn, .int .i64 id, .slice A m c] w fun e w' => e = .returned (.bool true) ∧ Below w.heap.size w w' := by
  have hwk := fun w' (h : Below w.heap.size w w') => works25_any n hn64 w' tb htb (H.Tab.below hT h)
  have HW := Lib.hid hwk
  have HTB := Lib.hid hT
  have HN := Lib.hid hn64
  have HTBL := Lib.hid htb
  clear hwk hT htb hn64
  obtain ⟨B, hBe⟩ : ∃ b, w.heap.size = b := ⟨_, rfl⟩
  have HFEW := Lib.hid (few25_any w A m c l hr hm80)
  rw [hBe] at hr
  go_enter Tryd.func3, Tryd.ntmps3
  go_wp2_with fail
  refine (HFEW.out).mono ?_
  rintro e w0 ⟨he, hb0⟩
  rcases he with rfl | ⟨rfl, hm150⟩
  · simp only []
    go_wp2_with fail
    refine (HW.out w0 hb0).mono ?_
    rintro e w1 ⟨rfl, hb⟩
    simp only []
    go_wp2_with fail
    go_ret
    exact ⟨rfl, below_next' hb0 hb⟩
  simp only []
  by_cases hok : nOk cn id
  rotate_left
  · go_wp2_with fail
    refine (cnew_no w0 cn id hok).mono ?_
    rintro e w1 ⟨rfl, rfl⟩
    simp only []
    go_wp2_with fail
    refine (rcnew_no w1 cn id hok).mono ?_
    rintro e w2 ⟨rfl, rfl⟩
    simp only []
    go_wp2_with fail
    refine (HW.out w2 hb0).mono ?_
    rintro e w3 ⟨rfl, hb⟩
    simp only []
    go_wp2_with fail
    go_ret
    exact ⟨rfl, below_next' hb0 hb⟩
  go_wp2_with fail
  refine (cnew_yes w0 cn id hok).mono ?_
  rintro e w1 ⟨rfl, hA1, hb1⟩
  simp only []
  obtain ⟨ga, hga⟩ : ∃ x, w0.heap.size = x := ⟨_, rfl⟩
  rw [hga] at hA1 ⊢
  go_wp2_with fail
  refine (rcnew_yes w1 cn id hok).mono ?_
  rintro e w2 ⟨rfl, hC2, hb2⟩
  simp only []
  obtain ⟨gb, hgb⟩ : ∃ x, w1.heap.size = x := ⟨_, rfl⟩
  rw [hgb] at hC2 ⊢
  have hga0 : B ≤ ga := by rw [← hBe, ← hga]; exact hb0.size
  have hgb0 : B ≤ gb := by rw [← hBe, ← hgb]; exact Nat.le_trans hb0.size hb1.size
  have hA2 := hA1.below hb2 hA1.lt
  have hb2 : Below B w w2 := by rw [← hBe]; exact below_next' (below_next' hb0 hb1) hb2
  obtain ⟨f, rfl, hf1, hf5⟩ := nOk_f hok
  have hP0 := cpl0 f id 0 false rq0 z32_length
  have hC2 : RcAt w2 B gb ⟨2 * (f : Int) + 1, id, 0, false, rq0, tol0⟩ [] := ⟨none, none, 0, 0, hC2, World.ownsRow_nil _ _ _ _, World.ownsRow_nil _ _ _ _⟩
  have hA2 : Blk w2 ga 73 (ClV.mk (2 * (f : Int) + 1) id 0 false rq0 tol0).c.toArray := hA2
  clear hok hga hgb hA1 hb1 hb0
  go_upto_block 0 with (fail)
  go_wp2_with fail
  go_loopw [11] (fun i wr => ∃ (k : Nat) (c' : ClV) (zs : List (Int × ToldV)), k ≤ m ∧ i = .int .i64 (k : Int) ∧ Cpl f c' zs ∧ c'.id = id ∧ c'.tm ≤ k ∧ zs.length ≤ k ∧ Blk wr ga 73 c'.c.toArray ∧ RcAt wr B gb c' zs ∧ Below B w wr) (fun i _ => m - (intOf i).toNat)
  case atStart => exact ⟨0, _, [], Nat.zero_le _, rfl, hP0, rfl, Nat.zero_le _, Nat.zero_le _, hA2, hC2, hb2⟩
  case round =>
    clear hP0 hA2 hC2 hb2
    obtain ⟨k, c', zs, hk, rfl, hP, hid, htk, hzk, hA, hC, hbk⟩ := hrel
    by_cases hkm : k < m
    · have g1 : (k : Int) < (m : Int) := by omega
      have g0 : (0 : Int) ≤ (k : Int) := by omega
      obtain ⟨ad, x, rfl, _, _, hadl, hcs0, hcs⟩ := row_at StV.c 15 stp_len hr (by omega) hkm
      have hq0 : ∀ z, Below B w z → z.cell? (ad.add (k * 15)) = some (.bool x.hear) := fun z h => (h.cell hadl).trans (by have := hcs0 0 _ rfl; rwa [add_zero_addr] at this)
      have hq8 : ∀ z, Below B w z → z.cell? ⟨(ad.add (k * 15)).block, (ad.add (k * 15)).off + 8, none⟩ = some (.int .i64 x.j) := fun z h => (h.cell (p := ⟨(ad.add (k * 15)).block, _, none⟩) hadl).trans (hcs 8 _ (by omega) rfl)
      have hqa : ∀ z, Below B w z → ∀ i u, x.c[i]? = some u → z.cell? ((ad.add (k * 15)).add i) = some u := fun z h i u hu => (h.cell (by rw [block_of_add]; exact hadl)).trans (hcs0 i u hu)
      have hqo : ∀ z, Below B w z → ∀ i u, x.o.c[i]? = some u → z.cell? ((⟨(ad.add (k * 15)).block, (ad.add (k * 15)).off + 2, none⟩ : Addr).add i) = some u := fun z h i u hu => by
        rw [add_off, h.cell (p := ⟨(ad.add (k * 15)).block, _, none⟩) hadl]
        exact hcs (2 + i) _ (by omega) (stp_o x i u hu)
      obtain ⟨P, hPa⟩ : ∃ P, ad.add (k * 15) = P := ⟨_, rfl⟩
      rw [hPa] at hq0 hq8 hqa hqo
      have HQ0 := Lib.hid hq0
      have HQ8 := Lib.hid hq8
      have HQA := Lib.hid hqa
      have HQO := Lib.hid hqo
      clear hcs0 hcs hadl hq0 hq8 hqa hqo
      have hxl : x.c.length = 15 := rfl
      have hol : x.o.c.length = 6 := rfl
      have hBr : B ≤ wr.heap.size := by rw [← hBe]; exact hbk.size
      have d0 := HQ0.out _ hbk
      go_upto_if 62 with (fail)
      go_cut [] (fun wx => ∃ (c2 : ClV) (zs2 : List (Int × ToldV)), Cpl f c2 zs2 ∧ c2.id = id ∧ c2.tm ≤ k + 1 ∧ zs2.length ≤ k + 1 ∧ Blk wx ga 73 c2.c.toArray ∧ RcAt wx B gb c2 zs2 ∧ Below B w wx)
      case first =>
        cases hhe : x.hear
        · rw [hhe] at d0
          clear hhe
          have hask := cask_any n HN.out wr ga c' hA hP.ok (by omega) x.o tb (fun z hz => H.Tab.below HTB.out (by rw [hBe]; exact hbk.trans (below_of_grownBy hz (fun q hq => by cases hq; exact hga0) hBr)))
          have hqt := askC_q n tb c' x.o
          have hat := askC_tm n tb c' x.o
          have hcpl := askC_cpl hP n tb x.o
          have hdoc : ∃ zs2, (∀ w', RcAt w' B gb c' zs → Calls Tryd.prog 15 #[.pointer (some ⟨gb, 0, none⟩), .agg x.o.c.toArray] w' fun e w'' => e = .returned (.tuple #[.agg (askC n tb c' x.o).2.1.c.toArray, .int .i64 (askC n tb c' x.o).2.2]) ∧ RcAt w'' B gb (askC n tb c' x.o).1 zs2 ∧ w'.grownBy w'' (some gb)) ∧ Cpl f (askC n tb c' x.o).1 zs2 ∧ zs2.length ≤ k + 1 := by
            rcases hcpl with ⟨hm, hp, he, hc⟩ | ⟨he, hc⟩
            · exact ⟨[], fun w' h => rcask_yes n HN.out w' B gb c' zs h hP.ok.tag (by omega) x.o tb HTBL.out hm hp, hc, Nat.zero_le _⟩
            · exact ⟨zs, fun w' h => rcask_no n w' B gb c' zs h hP.ok.tag (by omega) x.o tb he, by rw [hc]; exact hP, by omega⟩
          obtain ⟨zs2, hdoc, hP2, hz2⟩ := hdoc
          obtain ⟨⟨c2, Q, ev⟩, hRe⟩ : ∃ R : ClV × RqV × Int, askC n tb c' x.o = R := ⟨_, rfl⟩
          rw [hRe] at hask hqt hat hP2
          simp only [hRe] at hdoc
          simp only at hask hqt hat hP2
          have HDOC := Lib.hid hdoc
          have hid2 : c2.id = id := hat.2.trans hid
          have ht2 : c2.tm ≤ k + 1 := by omega
          have hqs : Q.c.toArray.size = 40 := by rw [List.size_toArray, rqc_length Q hqt]
          have hq1 : Q.c.toArray.all (·.oneCell') = true := by simpa using rqc_one Q
          have heq := fun z => eq_rq 9997 Q Q hqt hqt z
          simp only [decide_true] at heq
          have HEQ := Lib.hid heq
          clear heq hdoc hcpl hRe hat
          repeat (first
            | ((with_reducible refine wpl_load_any ⟨P.block, P.off + 2, none⟩ x.o.c Tryd.underlying34 rfl i34 hol (HQO.out _ hbk) ?_ ?_); (focus rfl); simp only [Act.put, List.setIfInBounds_toArray, List.set_cons_zero, List.set_cons_succ])
            | (go_at_call 14; refine Hid.out ?_)
            | go_values | go_skip | go_guarded | go_step | go_upon | go_back)
          refine Lib.hid ?_
          refine hask.mono ?_
          rintro e w3 ⟨rfl, hA3, hg3⟩
          simp only []
          have hC3 := hC.grown hA (by decide) (by decide) (by decide) hg3
          have hb3 : Below B w w3 := hbk.trans (below_of_grownBy hg3 (fun q hq => by cases hq; exact hga0) hBr)
          clear hask hg3 d0
          repeat (first
            | ((with_reducible refine wpl_store_fresh Q.c.toArray i44 ?_ hqs hq1 ?_ ?_ ?_); (focus kernel_rfl); (focus rfl); (focus rfl); intro w4 hQ4 hl4 hb4; simp only [Act.put]; refine Hid.out ?_)
            | go_values | go_skip | go_guarded | go_step | go_upon | go_back)
          refine Lib.hid ?_
          have hA4 := hA3.below hb4 hA3.lt
          have hC4 := hC3.below hb4
          have hb4 := below_B hBe hb3 hb4
          have hB4 : B ≤ w4.heap.size := by rw [← hBe]; exact hb4.size
          obtain ⟨gq, hgq⟩ : ∃ x, w3.heap.size = x := ⟨_, rfl⟩
          rw [hgq] at hQ4 ⊢
          clear hgq hl4 hA3 hC3 hb3
          repeat (first
            | ((with_reducible refine wpl_load_any ⟨P.block, P.off + 2, none⟩ x.o.c Tryd.underlying34 rfl i34 hol (HQO.out _ hb4) ?_ ?_); (focus rfl); simp only [Act.put, List.setIfInBounds_toArray, List.set_cons_zero, List.set_cons_succ])
            | (go_at_call 15; refine Hid.out ?_)
            | go_values | go_skip | go_guarded | go_step | go_upon | go_back)
          refine Lib.hid ?_
          refine (HDOC.out w4 hC4).mono ?_
          rintro e w5 ⟨rfl, hC5, hg5⟩
          simp only []
          have hne1 := hC4.ne hA4 (by decide)
          have hne2 := hC4.ne hQ4 (by decide)
          have hA5 := hA4.grown hg5 (by intro e; injection e with e; exact hne1 e)
          have hQ5 := hQ4.grown hg5 (by intro e; injection e with e; exact hne2 e)
          have hb5 : Below B w w5 := hb4.trans (below_of_grownBy hg5 (fun q hq => by cases hq; exact hgb0) hB4)
          clear hg5 hne1 hne2 hA4 hQ4 hC4 hb4 hB4 HDOC
          repeat (first
            | ((with_reducible refine wpl_store_fresh Q.c.toArray i44 ?_ hqs hq1 ?_ ?_ ?_); (focus kernel_rfl); (focus rfl); (focus rfl); intro w6 hR6 hl6 hb6; simp only [Act.put]; refine Hid.out ?_)
            | go_values | go_skip | go_guarded | go_step | go_upon | go_back)
          refine Lib.hid ?_
          have hA6 := hA5.below hb6 hA5.lt
          have hC6 := hC5.below hb6
          have hQ6 := hQ5.below hb6 hQ5.lt
          have hb6 := below_B hBe hb5 hb6
          obtain ⟨gr, hgr⟩ : ∃ x, w5.heap.size = x := ⟨_, rfl⟩
          rw [hgr] at hR6 ⊢
          clear hgr hl6 hA5 hC5 hQ5 hb5
          repeat (first
            | ((with_reducible refine wpl_loadS gq _ Q.c.toArray Tryd.underlying44 rfl i44 hQ6 hqs ?_ ?_ ?_); (focus rfl); (focus rfl); simp only [Act.put, List.setIfInBounds_toArray, List.set_cons_zero, List.set_cons_succ])
            | ((with_reducible refine wpl_loadS gr _ Q.c.toArray Tryd.underlying44 rfl i44 hR6 hqs ?_ ?_ ?_); (focus rfl); (focus rfl); simp only [Act.put, List.setIfInBounds_toArray, List.set_cons_zero, List.set_cons_succ])
            | ((with_reducible refine wpl_neqS gRq (HEQ.out _) ?_ ?_ ?_ ?_); (focus rfl); (focus rfl); (focus rfl); simp only [Act.put, List.setIfInBounds_toArray, List.set_cons_zero, List.set_cons_succ])
            | go_values | go_skip | go_guarded | go_step | go_upon | go_back)
          go_meet
          exact ⟨c2, zs2, hP2, hid2, ht2, hz2, hA6, hC6, hb6⟩
        · rw [hhe] at d0
          clear hhe
          have hr := hearC_tm c' x.j (toldF x id c'.tm)
          have htold := fun w => told25_any w x id c'.tm
          obtain ⟨T, hTe⟩ : ∃ t, toldF x id c'.tm = t := ⟨_, rfl⟩
          simp only [hTe] at htold
          rw [hTe] at hr
          have HTOLD := Lib.hid htold
          clear htold hTe
          have hTs : T.c.toArray.size = 5 := rfl
          have hT1 := told_ones T
          obtain ⟨⟨c2, r, is⟩, hRe⟩ : ∃ R : ClV × RpV × Bool, hearC c' x.j T = R := ⟨_, rfl⟩
          rw [hRe] at hr
          simp only at hr
          have hrs : r.c.toArray.size = 2 := rfl
          have hro := rp_ones r
          go_upto_region 13 with (fail)
          go_cut [12] (fun pv wx => ∃ gt, pv = .pointer (some ⟨gt, 0, none⟩) ∧ Blk wx gt 38 T.c.toArray ∧ Blk wx ga 73 c'.c.toArray ∧ RcAt wx B gb c' zs ∧ Below B w wx)
          case first =>
            have hA5 : Blk wr.drew ga 73 c'.c.toArray := hA
            have hC5 := hC.below drew_below
            have hb5 := hbk.drew
            have q2 : ∀ z, (Below B w z ∧ RcAt z B gb c' zs) → z.cell? ⟨gb, 2, none⟩ = some (.int .u64 (c'.tm : Int)) := fun z h => h.2.cells.1
            refine wp_region_planT (.q 0 (.q 1 (.q 2 (.q 3 (.q 4 (.q 5 (.q 6 (.q 7 (.q 8 (.two 9 10 (.l 10 (.l 11 .done)) (.l 9 (.l 11 .done)))))))))))) (fun z => Below B w z ∧ RcAt z B gb c' zs) (by kernel_rfl) (by kernel_rfl) (by kernel_rfl) (by kernel_rfl) (by kernel_rfl) (fun _ _ d _ _ h => by cases d <;> exact h) ⟨hb5, hC5⟩ ?_
            obtain ⟨w5, hw5⟩ : ∃ x, wr.drew = x := ⟨_, rfl⟩
            rw [hw5] at hA5 hC5 hb5 ⊢
            clear hw5
            iterate 3 (refine wpT_q (by rfl) ?_ (by rfl) ?_ ?_; rotate_left; (focus (intro z hz; (try dsimp only at hz); go_simp; rfl)); simp only [Act.put])
            refine wpT_q (by rfl) (.agg x.c.toArray) (by rfl) (fun z hz => run_load_any rfl P x.c Tryd.underlying40 rfl iStp hxl (HQA.out z hz.1) rfl) ?_
            try simp only [Act.put, List.getElem_toArray, List.getElem_cons_succ, List.getElem_cons_zero, List.setIfInBounds_toArray, List.set_cons_zero, List.set_cons_succ]
            iterate 5 (refine wpT_q (by rfl) ?_ (by rfl) ?_ ?_; rotate_left; (focus (intro z hz; (try dsimp only at hz); go_simp; rfl)); simp only [Act.put])
            refine wpT_two (by rfl) (by rfl) (by rfl) (by rfl) (fun K hK => ?_) (fun K hK => ?_)
            · go_wp2_with fail
              refine (HTOLD.out w5).mono ?_
              rintro e w6 ⟨rfl, hbn⟩
              have hA6 := hA5.below hbn hA5.lt
              have hC6 := hC5.below hbn
              have hb6 := below_B hBe hb5 hbn
              refine hK _ _ _ ⟨hb6, hC6⟩ (fun _ h => h) ?_
              clear hK hbn
              try simp only [Act.put, List.getElem_toArray, List.getElem_cons_succ, List.getElem_cons_zero, List.setIfInBounds_toArray, List.set_cons_zero, List.set_cons_succ]
              refine wpT_l (by rfl) (by rfl) (fun K hK => ?_)
              go_simp
              rw [zcT]
              have hZ7 := Blk.new w6 38 tl0.c.toArray
              have hbn := below_alloc w6 (.cells tl0.c.toArray 38)
              have hBn : B ≤ w6.heap.size := by rw [← hBe]; exact hb6.size
              have hnA := Nat.ne_of_lt hA6.lt
              obtain ⟨w7, hwn⟩ : ∃ x, w6.alloc (.cells tl0.c.toArray 38) = x := ⟨_, rfl⟩
              rw [hwn] at hZ7 hbn ⊢
              obtain ⟨gz, hgz⟩ : ∃ x, w6.heap.size = x := ⟨_, rfl⟩
              rw [hgz] at hZ7 hBn hnA ⊢
              have hA7 := hA6.below hbn hA6.lt
              have hC7 := hC6.below hbn
              have hb7 := below_B hBe hb6 hbn
              refine hK _ _ _ ⟨hb7, hC7⟩ (fun _ h => h) ?_
              clear hK hwn hgz hbn
              try simp only [Act.put, List.getElem_toArray, List.getElem_cons_succ, List.getElem_cons_zero, List.setIfInBounds_toArray, List.set_cons_zero, List.set_cons_succ]
              refine wpT_l (by rfl) (by rfl) (fun K hK => ?_)
              refine wp_storeRow rfl gz 38 tl0.c.toArray T.c.toArray iTold hZ7 rfl hTs (by simpa using hT1) rfl rfl ?_
              have hgn := grownBy_setRow w7 gz T.c.toArray
              have hZ8 := hZ7.setRow T.c.toArray
              have hA8 := hA7.grown hgn (by intro e; injection e with e; exact hnA e)
              have hC8 := hC7.grown hZ7 (by decide) (by decide) (by decide) hgn
              have hb8 : Below B w (w7.setRow gz T.c.toArray) := hb7.trans (below_of_grownBy hgn (fun q hq => by cases hq; exact hBn) (by rw [← hBe]; exact hb7.size))
              obtain ⟨w8, hwn⟩ : ∃ x, w7.setRow gz T.c.toArray = x := ⟨_, rfl⟩
              rw [hwn] at hZ8 hgn hA8 hC8 hb8 ⊢
              refine hK _ _ _ ⟨hb8, hC8⟩ (fun _ h => h) ?_
              clear hK hwn hgn
              try simp only [Act.put, List.getElem_toArray, List.getElem_cons_succ, List.getElem_cons_zero]
              refine wpT_done ?_
              try simp only [Act.put, List.getElem_toArray, List.getElem_cons_succ, List.getElem_cons_zero, List.setIfInBounds_toArray, List.set_cons_zero, List.set_cons_succ]
              go_wp2_with fail
              go_meet
              exact ⟨gz, rfl, hZ8, hA8, hC8, hb8⟩
            · go_simp
              rw [zcT]
              have hZ6 := Blk.new w5 38 tl0.c.toArray
              have hbn := below_alloc w5 (.cells tl0.c.toArray 38)
              have hBn : B ≤ w5.heap.size := by rw [← hBe]; exact hb5.size
              have hnA := Nat.ne_of_lt hA5.lt
              obtain ⟨w6, hwn⟩ : ∃ x, w5.alloc (.cells tl0.c.toArray 38) = x := ⟨_, rfl⟩
              rw [hwn] at hZ6 hbn ⊢
              obtain ⟨gz, hgz⟩ : ∃ x, w5.heap.size = x := ⟨_, rfl⟩
              rw [hgz] at hZ6 hBn hnA ⊢
              have hA6 := hA5.below hbn hA5.lt
              have hC6 := hC5.below hbn
              have hb6 := below_B hBe hb5 hbn
              refine hK _ _ _ ⟨hb6, hC6⟩ (fun _ h => h) ?_
              clear hK hwn hgz hbn
              try simp only [Act.put, List.getElem_toArray, List.getElem_cons_succ, List.getElem_cons_zero, List.setIfInBounds_toArray, List.set_cons_zero, List.set_cons_succ]
              refine wpT_l (by rfl) (by rfl) (fun K hK => ?_)
              go_wp2_with fail
              refine (HTOLD.out w6).mono ?_
              rintro e w7 ⟨rfl, hbn⟩
              have hZ7 := hZ6.below hbn hZ6.lt
              have hA7 := hA6.below hbn hA6.lt
              have hC7 := hC6.below hbn
              have hb7 := below_B hBe hb6 hbn
              refine hK _ _ _ ⟨hb7, hC7⟩ (fun _ h => h) ?_
              clear hK hbn
              try simp only [Act.put, List.getElem_toArray, List.getElem_cons_succ, List.getElem_cons_zero, List.setIfInBounds_toArray, List.set_cons_zero, List.set_cons_succ]
              refine wpT_l (by rfl) (by rfl) (fun K hK => ?_)
              refine wp_storeRow rfl gz 38 tl0.c.toArray T.c.toArray iTold hZ7 rfl hTs (by simpa using hT1) rfl rfl ?_
              have hgn := grownBy_setRow w7 gz T.c.toArray
              have hZ8 := hZ7.setRow T.c.toArray
              have hA8 := hA7.grown hgn (by intro e; injection e with e; exact hnA e)
              have hC8 := hC7.grown hZ7 (by decide) (by decide) (by decide) hgn
              have hb8 : Below B w (w7.setRow gz T.c.toArray) := hb7.trans (below_of_grownBy hgn (fun q hq => by cases hq; exact hBn) (by rw [← hBe]; exact hb7.size))
              obtain ⟨w8, hwn⟩ : ∃ x, w7.setRow gz T.c.toArray = x := ⟨_, rfl⟩
              rw [hwn] at hZ8 hgn hA8 hC8 hb8 ⊢
              refine hK _ _ _ ⟨hb8, hC8⟩ (fun _ h => h) ?_
              clear hK hwn hgn
              try simp only [Act.put, List.getElem_toArray, List.getElem_cons_succ, List.getElem_cons_zero]
              refine wpT_done ?_
              try simp only [Act.put, List.getElem_toArray, List.getElem_cons_succ, List.getElem_cons_zero, List.setIfInBounds_toArray, List.set_cons_zero, List.set_cons_succ]
              go_wp2_with fail
              go_meet
              exact ⟨gz, rfl, hZ8, hA8, hC8, hb8⟩
          case rest =>
            obtain ⟨gt, rfl, hT0, hA0, hC0, hb0⟩ := hcut
            clear hA hC hbk d0
            go_upto_region 14 with (fail)
            go_cut [13, 14] (fun pv bv wx => ∃ gp, pv = .pointer (some ⟨gp, 0, none⟩) ∧ bv = .bool is ∧ Blk wx gp 36 r.c.toArray ∧ Blk wx gt 38 T.c.toArray ∧ Blk wx ga 73 c2.c.toArray ∧ RcAt wx B gb c' zs ∧ Below B w wx)
            case first =>
              have hA5 : Blk wc.drew ga 73 c'.c.toArray := hA0
              have hT5 : Blk wc.drew gt 38 T.c.toArray := hT0
              have hC5 := hC0.below drew_below
              have hb5 := hb0.drew
              clear hA0 hT0 hC0 hb0
              have q8 : ∀ z, (Below B w z ∧ Blk z gt 38 T.c.toArray) → z.cell? ⟨P.block, P.off + 8, none⟩ = some (.int .i64 x.j) := fun z h => HQ8.out z h.1
              refine wp_region_planT (.q 0 (.q 1 (.q 2 (.q 3 (.q 4 (.q 5 (.q 6 (.two 7 11 (.q 8 (.q 9 (.q 10 (.l 11 (.l 12 (.q 13 .done)))))) (.l 7 (.q 8 (.q 9 (.q 10 (.l 12 (.q 13 .done)))))))))))))) (fun z => Below B w z ∧ Blk z gt 38 T.c.toArray) (by kernel_rfl) (by kernel_rfl) (by kernel_rfl) (by kernel_rfl) (by kernel_rfl) (fun _ _ d _ _ h => by cases d <;> exact h) ⟨hb5, hT5⟩ ?_
              obtain ⟨w5, hw5⟩ : ∃ x, wc.drew = x := ⟨_, rfl⟩
              rw [hw5] at hA5 hT5 hC5 hb5 ⊢
              clear hw5
              iterate 6 (refine wpT_q (by rfl) ?_ (by rfl) ?_ ?_; rotate_left; (focus (intro z hz; (try dsimp only at hz); go_simp; rfl)); simp only [Act.put])
              refine wpT_q (by rfl) (.agg T.c.toArray) (by rfl) (fun z hz => load_row_run rfl gt T.c.toArray Tryd.underlying38 rfl iTold hz.2 hTs rfl) ?_
              try simp only [Act.put, List.getElem_toArray, List.getElem_cons_succ, List.getElem_cons_zero, List.setIfInBounds_toArray, List.set_cons_zero, List.set_cons_succ]
              refine wpT_two (by rfl) (by rfl) (by rfl) (by rfl) (fun K hK => ?_) (fun K hK => ?_)
              · have hh := chear_any w5 ga c' hA5 hP.ok ⟨by rw [hP.n_]; omega, by rw [hP.n_]; omega⟩ x.j T
                rw [hRe] at hh
                simp only at hh
                go_wp2_with fail
                refine hh.mono ?_
                rintro e w6 ⟨rfl, hA6, hgn⟩
                have hT6 := hT5.grown hgn (by intro e; injection e with e; exact blk_ne hA5 hT5 (by decide) e.symm)
                have hC6 := hC5.grown hA5 (by decide) (by decide) (by decide) hgn
                have hBo : B ≤ w5.heap.size := by rw [← hBe]; exact hb5.size
                have hb6 : Below B w w6 := hb5.trans (below_of_grownBy hgn (fun q hq => by cases hq; exact hga0) hBo)
                refine hK _ _ _ ⟨hb6, hT6⟩ (fun _ h => h) ?_
                clear hK hgn hh hBo
                try simp only [Act.put, List.getElem_toArray, List.getElem_cons_succ, List.getElem_cons_zero, List.setIfInBounds_toArray, List.set_cons_zero, List.set_cons_succ]
                iterate 3 (refine wpT_q (by rfl) ?_ (by rfl) ?_ ?_; rotate_left; (focus (intro z hz; (try dsimp only at hz); go_simp; rfl)); simp only [Act.put])
                refine wpT_l (by rfl) (by rfl) (fun K hK => ?_)
                go_simp
                rw [zcRp]
                have hZ7 := Blk.new w6 36 rp0.c.toArray
                have hbn := below_alloc w6 (.cells rp0.c.toArray 36)
                have hBn : B ≤ w6.heap.size := by rw [← hBe]; exact hb6.size
                have hnA := Nat.ne_of_lt hA6.lt
                have hnT := Nat.ne_of_lt hT6.lt
                obtain ⟨w7, hwn⟩ : ∃ x, w6.alloc (.cells rp0.c.toArray 36) = x := ⟨_, rfl⟩
                rw [hwn] at hZ7 hbn ⊢
                obtain ⟨gz, hgz⟩ : ∃ x, w6.heap.size = x := ⟨_, rfl⟩
                rw [hgz] at hZ7 hBn hnA hnT ⊢
                have hA7 := hA6.below hbn hA6.lt
                have hT7 := hT6.below hbn hT6.lt
                have hC7 := hC6.below hbn
                have hb7 := below_B hBe hb6 hbn
                refine hK _ _ _ ⟨hb7, hT7⟩ (fun _ h => h) ?_
                clear hK hwn hgz hbn
                try simp only [Act.put, List.getElem_toArray, List.getElem_cons_succ, List.getElem_cons_zero, List.setIfInBounds_toArray, List.set_cons_zero, List.set_cons_succ]
                refine wpT_l (by rfl) (by rfl) (fun K hK => ?_)
                refine wp_storeRow rfl gz 36 rp0.c.toArray r.c.toArray iRp hZ7 rfl hrs (by simpa using hro) rfl rfl ?_
                have hgn := grownBy_setRow w7 gz r.c.toArray
                have hZ8 := hZ7.setRow r.c.toArray
                have hA8 := hA7.grown hgn (by intro e; injection e with e; exact hnA e)
                have hT8 := hT7.grown hgn (by intro e; injection e with e; exact hnT e)
                have hC8 := hC7.grown hZ7 (by decide) (by decide) (by decide) hgn
                have hb8 : Below B w (w7.setRow gz r.c.toArray) := hb7.trans (below_of_grownBy hgn (fun q hq => by cases hq; exact hBn) (by rw [← hBe]; exact hb7.size))
                obtain ⟨w8, hwn⟩ : ∃ x, w7.setRow gz r.c.toArray = x := ⟨_, rfl⟩
                rw [hwn] at hZ8 hgn hA8 hT8 hC8 hb8 ⊢
                refine hK _ _ _ ⟨hb8, hT8⟩ (fun _ h => h) ?_
                clear hK hwn hgn
                try simp only [Act.put, List.getElem_toArray, List.getElem_cons_succ, List.getElem_cons_zero]
                iterate 1 (refine wpT_q (by rfl) ?_ (by rfl) ?_ ?_; rotate_left; (focus (intro z hz; (try dsimp only at hz); go_simp; rfl)); simp only [Act.put])
                refine wpT_done ?_
                try simp only [List.getElem_toArray, List.getElem_cons_succ, List.getElem_cons_zero, List.setIfInBounds_toArray, List.set_cons_zero, List.set_cons_succ]
                go_wp2_with fail
                go_meet
                exact ⟨gz, rfl, rfl, hZ8, hT8, hA8, hC8, hb8⟩
              · go_simp
                rw [zcRp]
                have hZ6 := Blk.new w5 36 rp0.c.toArray
                have hbn := below_alloc w5 (.cells rp0.c.toArray 36)
                have hBn : B ≤ w5.heap.size := by rw [← hBe]; exact hb5.size
                have hnA := Nat.ne_of_lt hA5.lt
                have hnT := Nat.ne_of_lt hT5.lt
                obtain ⟨w6, hwn⟩ : ∃ x, w5.alloc (.cells rp0.c.toArray 36) = x := ⟨_, rfl⟩
                rw [hwn] at hZ6 hbn ⊢
                obtain ⟨gz, hgz⟩ : ∃ x, w5.heap.size = x := ⟨_, rfl⟩
                rw [hgz] at hZ6 hBn hnA hnT ⊢
                have hA6 := hA5.below hbn hA5.lt
                have hT6 := hT5.below hbn hT5.lt
                have hC6 := hC5.below hbn
                have hb6 := below_B hBe hb5 hbn
                refine hK _ _ _ ⟨hb6, hT6⟩ (fun _ h => h) ?_
                clear hK hwn hgz hbn
                try simp only [Act.put, List.getElem_toArray, List.getElem_cons_succ, List.getElem_cons_zero, List.setIfInBounds_toArray, List.set_cons_zero, List.set_cons_succ]
                refine wpT_l (by rfl) (by rfl) (fun K hK => ?_)
                have hh := chear_any w6 ga c' hA6 hP.ok ⟨by rw [hP.n_]; omega, by rw [hP.n_]; omega⟩ x.j T
                rw [hRe] at hh
                simp only at hh
                go_wp2_with fail
                refine hh.mono ?_
                rintro e w7 ⟨rfl, hA7, hgn⟩
                have hZ7 := hZ6.grown hgn (by intro e; injection e with e; exact blk_ne hA6 hZ6 (by decide) e.symm)
                have hT7 := hT6.grown hgn (by intro e; injection e with e; exact blk_ne hA6 hT6 (by decide) e.symm)
                have hC7 := hC6.grown hA6 (by decide) (by decide) (by decide) hgn
                have hBo : B ≤ w6.heap.size := by rw [← hBe]; exact hb6.size
                have hb7 : Below B w w7 := hb6.trans (below_of_grownBy hgn (fun q hq => by cases hq; exact hga0) hBo)
                refine hK _ _ _ ⟨hb7, hT7⟩ (fun _ h => h) ?_
                clear hK hgn hh hBo
                try simp only [Act.put, List.getElem_toArray, List.getElem_cons_succ, List.getElem_cons_zero, List.setIfInBounds_toArray, List.set_cons_zero, List.set_cons_succ]
                iterate 3 (refine wpT_q (by rfl) ?_ (by rfl) ?_ ?_; rotate_left; (focus (intro z hz; (try dsimp only at hz); go_simp; rfl)); simp only [Act.put])
                refine wpT_l (by rfl) (by rfl) (fun K hK => ?_)
                refine wp_storeRow rfl gz 36 rp0.c.toArray r.c.toArray iRp hZ7 rfl hrs (by simpa using hro) rfl rfl ?_
                have hgn := grownBy_setRow w7 gz r.c.toArray
                have hZ8 := hZ7.setRow r.c.toArray
                have hA8 := hA7.grown hgn (by intro e; injection e with e; exact hnA e)
                have hT8 := hT7.grown hgn (by intro e; injection e with e; exact hnT e)
                have hC8 := hC7.grown hZ7 (by decide) (by decide) (by decide) hgn
                have hb8 : Below B w (w7.setRow gz r.c.toArray) := hb7.trans (below_of_grownBy hgn (fun q hq => by cases hq; exact hBn) (by rw [← hBe]; exact hb7.size))
                obtain ⟨w8, hwn⟩ : ∃ x, w7.setRow gz r.c.toArray = x := ⟨_, rfl⟩
                rw [hwn] at hZ8 hgn hA8 hT8 hC8 hb8 ⊢
                refine hK _ _ _ ⟨hb8, hT8⟩ (fun _ h => h) ?_
                clear hK hwn hgn
                try simp only [Act.put, List.getElem_toArray, List.getElem_cons_succ, List.getElem_cons_zero, List.setIfInBounds_toArray, List.set_cons_zero, List.set_cons_succ]
                iterate 1 (refine wpT_q (by rfl) ?_ (by rfl) ?_ ?_; rotate_left; (focus (intro z hz; (try dsimp only at hz); go_simp; rfl)); simp only [Act.put])
                refine wpT_done ?_
                try simp only [List.getElem_toArray, List.getElem_cons_succ, List.getElem_cons_zero, List.setIfInBounds_toArray, List.set_cons_zero, List.set_cons_succ]
                go_wp2_with fail
                go_meet
                exact ⟨gz, rfl, rfl, hZ8, hT8, hA8, hC8, hb8⟩
            case rest =>
              obtain ⟨gp, rfl, rfl, hR0, hT0, hA0, hC0, hb0⟩ := hcut
              go_upto_region 15 with (fail)
              go_cut [15, 16] (fun pv bv wx => ∃ gp2 zs2, pv = .pointer (some ⟨gp2, 0, none⟩) ∧ bv = .bool is ∧ Cpl f c2 zs2 ∧ zs2.length ≤ zs.length + 1 ∧ Blk wx gp2 36 r.c.toArray ∧ Blk wx gp 36 r.c.toArray ∧ Blk wx ga 73 c2.c.toArray ∧ RcAt wx B gb c2 zs2 ∧ Below B w wx)
              case first =>
                have hA5 : Blk wc.drew ga 73 c2.c.toArray := hA0
                have hT5 : Blk wc.drew gt 38 T.c.toArray := hT0
                have hR5 : Blk wc.drew gp 36 r.c.toArray := hR0
                have hC5 := hC0.below drew_below
                have hb5 := hb0.drew
                clear hA0 hT0 hR0 hC0 hb0
                have q8 : ∀ z, (Below B w z ∧ Blk z gt 38 T.c.toArray) → z.cell? ⟨P.block, P.off + 8, none⟩ = some (.int .i64 x.j) := fun z h => HQ8.out z h.1
                refine wp_region_planT (.q 0 (.q 1 (.q 2 (.q 3 (.q 4 (.q 5 (.q 6 (.two 7 11 (.q 8 (.q 9 (.q 10 (.l 11 (.l 12 (.q 13 .done)))))) (.l 7 (.q 8 (.q 9 (.q 10 (.l 12 (.q 13 .done)))))))))))))) (fun z => Below B w z ∧ Blk z gt 38 T.c.toArray) (by kernel_rfl) (by kernel_rfl) (by kernel_rfl) (by kernel_rfl) (by kernel_rfl) (fun _ _ d _ _ h => by cases d <;> exact h) ⟨hb5, hT5⟩ ?_
                obtain ⟨w5, hw5⟩ : ∃ x, wc.drew = x := ⟨_, rfl⟩
                rw [hw5] at hA5 hT5 hR5 hC5 hb5 ⊢
                clear hw5
                iterate 6 (refine wpT_q (by rfl) ?_ (by rfl) ?_ ?_; rotate_left; (focus (intro z hz; (try dsimp only at hz); go_simp; rfl)); simp only [Act.put])
                refine wpT_q (by rfl) (.agg T.c.toArray) (by rfl) (fun z hz => load_row_run rfl gt T.c.toArray Tryd.underlying38 rfl iTold hz.2 hTs rfl) ?_
                try simp only [Act.put, List.getElem_toArray, List.getElem_cons_succ, List.getElem_cons_zero, List.setIfInBounds_toArray, List.set_cons_zero, List.set_cons_succ]
                refine wpT_two (by rfl) (by rfl) (by rfl) (by rfl) (fun K hK => ?_) (fun K hK => ?_)
                · have hh := rchear_any w5 B gb c' zs hC5 (by rw [← hBe]; exact hb5.size) f ⟨hf1, hf5⟩ hP (by omega) x.j T
                  rw [hRe] at hh
                  simp only at hh
                  go_wp2_with fail
                  refine hh.mono ?_
                  rintro e w6 ⟨zs2, rfl, hC6, hP2, hz2, hchg⟩
                  have hA6 := hchg.keep hA5 (hC5.ne hA5 (by decide)) (by decide) (by decide)
                  have hT6 := hchg.keep hT5 (hC5.ne hT5 (by decide)) (by decide) (by decide)
                  have hR6 := hchg.keep hR5 (hC5.ne hR5 (by decide)) (by decide) (by decide)
                  have hb6 : Below B w w6 := hb5.trans (hchg.belowB hgb0 (by rw [← hBe]; exact hb5.size))
                  refine hK _ _ _ ⟨hb6, hT6⟩ (fun _ h => h) ?_
                  clear hK hchg hh
                  try simp only [Act.put, List.getElem_toArray, List.getElem_cons_succ, List.getElem_cons_zero, List.setIfInBounds_toArray, List.set_cons_zero, List.set_cons_succ]
                  iterate 3 (refine wpT_q (by rfl) ?_ (by rfl) ?_ ?_; rotate_left; (focus (intro z hz; (try dsimp only at hz); go_simp; rfl)); simp only [Act.put])
                  refine wpT_l (by rfl) (by rfl) (fun K hK => ?_)
                  go_simp
                  rw [zcRp]
                  have hZ7 := Blk.new w6 36 rp0.c.toArray
                  have hbn := below_alloc w6 (.cells rp0.c.toArray 36)
                  have hBn : B ≤ w6.heap.size := by rw [← hBe]; exact hb6.size
                  have hnA := Nat.ne_of_lt hA6.lt
                  have hnT := Nat.ne_of_lt hT6.lt
                  have hnR := Nat.ne_of_lt hR6.lt
                  obtain ⟨w7, hwn⟩ : ∃ x, w6.alloc (.cells rp0.c.toArray 36) = x := ⟨_, rfl⟩
                  rw [hwn] at hZ7 hbn ⊢
                  obtain ⟨gz, hgz⟩ : ∃ x, w6.heap.size = x := ⟨_, rfl⟩
                  rw [hgz] at hZ7 hBn hnA hnT hnR ⊢
                  have hA7 := hA6.below hbn hA6.lt
                  have hT7 := hT6.below hbn hT6.lt
                  have hR7 := hR6.below hbn hR6.lt
                  have hC7 := hC6.below hbn
                  have hb7 := below_B hBe hb6 hbn
                  refine hK _ _ _ ⟨hb7, hT7⟩ (fun _ h => h) ?_
                  clear hK hwn hgz hbn
                  try simp only [Act.put, List.getElem_toArray, List.getElem_cons_succ, List.getElem_cons_zero, List.setIfInBounds_toArray, List.set_cons_zero, List.set_cons_succ]
                  refine wpT_l (by rfl) (by rfl) (fun K hK => ?_)
                  refine wp_storeRow rfl gz 36 rp0.c.toArray r.c.toArray iRp hZ7 rfl hrs (by simpa using hro) rfl rfl ?_
                  have hgn := grownBy_setRow w7 gz r.c.toArray
                  have hZ8 := hZ7.setRow r.c.toArray
                  have hA8 := hA7.grown hgn (by intro e; injection e with e; exact hnA e)
                  have hT8 := hT7.grown hgn (by intro e; injection e with e; exact hnT e)
                  have hR8 := hR7.grown hgn (by intro e; injection e with e; exact hnR e)
                  have hC8 := hC7.grown hZ7 (by decide) (by decide) (by decide) hgn
                  have hb8 : Below B w (w7.setRow gz r.c.toArray) := hb7.trans (below_of_grownBy hgn (fun q hq => by cases hq; exact hBn) (by rw [← hBe]; exact hb7.size))
                  obtain ⟨w8, hwn⟩ : ∃ x, w7.setRow gz r.c.toArray = x := ⟨_, rfl⟩
                  rw [hwn] at hZ8 hgn hA8 hT8 hR8 hC8 hb8 ⊢
                  refine hK _ _ _ ⟨hb8, hT8⟩ (fun _ h => h) ?_
                  clear hK hwn hgn
                  try simp only [Act.put, List.getElem_toArray, List.getElem_cons_succ, List.getElem_cons_zero]
                  iterate 1 (refine wpT_q (by rfl) ?_ (by rfl) ?_ ?_; rotate_left; (focus (intro z hz; (try dsimp only at hz); go_simp; rfl)); simp only [Act.put])
                  refine wpT_done ?_
                  try simp only [List.getElem_toArray, List.getElem_cons_succ, List.getElem_cons_zero, List.setIfInBounds_toArray, List.set_cons_zero, List.set_cons_succ]
                  go_wp2_with fail
                  go_meet
                  exact ⟨gz, zs2, rfl, rfl, hP2, hz2, hZ8, hR8, hA8, hC8, hb8⟩
                · go_simp
                  rw [zcRp]
                  have hZ6 := Blk.new w5 36 rp0.c.toArray
                  have hbn := below_alloc w5 (.cells rp0.c.toArray 36)
                  have hBn : B ≤ w5.heap.size := by rw [← hBe]; exact hb5.size
                  have hnA := Nat.ne_of_lt hA5.lt
                  have hnT := Nat.ne_of_lt hT5.lt
                  have hnR := Nat.ne_of_lt hR5.lt
                  obtain ⟨w6, hwn⟩ : ∃ x, w5.alloc (.cells rp0.c.toArray 36) = x := ⟨_, rfl⟩
                  rw [hwn] at hZ6 hbn ⊢
                  obtain ⟨gz, hgz⟩ : ∃ x, w5.heap.size = x := ⟨_, rfl⟩
                  rw [hgz] at hZ6 hBn hnA hnT hnR ⊢
                  have hA6 := hA5.below hbn hA5.lt
                  have hT6 := hT5.below hbn hT5.lt
                  have hR6 := hR5.below hbn hR5.lt
                  have hC6 := hC5.below hbn
                  have hb6 := below_B hBe hb5 hbn
                  refine hK _ _ _ ⟨hb6, hT6⟩ (fun _ h => h) ?_
                  clear hK hwn hgz hbn
                  try simp only [Act.put, List.getElem_toArray, List.getElem_cons_succ, List.getElem_cons_zero, List.setIfInBounds_toArray, List.set_cons_zero, List.set_cons_succ]
                  refine wpT_l (by rfl) (by rfl) (fun K hK => ?_)
                  have hh := rchear_any w6 B gb c' zs hC6 (by rw [← hBe]; exact hb6.size) f ⟨hf1, hf5⟩ hP (by omega) x.j T
                  rw [hRe] at hh
                  simp only at hh
                  go_wp2_with fail
                  refine hh.mono ?_
                  rintro e w7 ⟨zs2, rfl, hC7, hP2, hz2, hchg⟩
                  have hZ7 := hchg.keep hZ6 (hC6.ne hZ6 (by decide)) (by decide) (by decide)
                  have hA7 := hchg.keep hA6 (hC6.ne hA6 (by decide)) (by decide) (by decide)
                  have hT7 := hchg.keep hT6 (hC6.ne hT6 (by decide)) (by decide) (by decide)
                  have hR7 := hchg.keep hR6 (hC6.ne hR6 (by decide)) (by decide) (by decide)
                  have hb7 : Below B w w7 := hb6.trans (hchg.belowB hgb0 (by rw [← hBe]; exact hb6.size))
                  refine hK _ _ _ ⟨hb7, hT7⟩ (fun _ h => h) ?_
                  clear hK hchg hh
                  try simp only [Act.put, List.getElem_toArray, List.getElem_cons_succ, List.getElem_cons_zero, List.setIfInBounds_toArray, List.set_cons_zero, List.set_cons_succ]
                  iterate 3 (refine wpT_q (by rfl) ?_ (by rfl) ?_ ?_; rotate_left; (focus (intro z hz; (try dsimp only at hz); go_simp; rfl)); simp only [Act.put])
                  refine wpT_l (by rfl) (by rfl) (fun K hK => ?_)
                  refine wp_storeRow rfl gz 36 rp0.c.toArray r.c.toArray iRp hZ7 rfl hrs (by simpa using hro) rfl rfl ?_
                  have hgn := grownBy_setRow w7 gz r.c.toArray
                  have hZ8 := hZ7.setRow r.c.toArray
                  have hA8 := hA7.grown hgn (by intro e; injection e with e; exact hnA e)
                  have hT8 := hT7.grown hgn (by intro e; injection e with e; exact hnT e)
                  have hR8 := hR7.grown hgn (by intro e; injection e with e; exact hnR e)
                  have hC8 := hC7.grown hZ7 (by decide) (by decide) (by decide) hgn
                  have hb8 : Below B w (w7.setRow gz r.c.toArray) := hb7.trans (below_of_grownBy hgn (fun q hq => by cases hq; exact hBn) (by rw [← hBe]; exact hb7.size))
                  obtain ⟨w8, hwn⟩ : ∃ x, w7.setRow gz r.c.toArray = x := ⟨_, rfl⟩
                  rw [hwn] at hZ8 hgn hA8 hT8 hR8 hC8 hb8 ⊢
                  refine hK _ _ _ ⟨hb8, hT8⟩ (fun _ h => h) ?_
                  clear hK hwn hgn
                  try simp only [Act.put, List.getElem_toArray, List.getElem_cons_succ, List.getElem_cons_zero, List.setIfInBounds_toArray, List.set_cons_zero, List.set_cons_succ]
                  iterate 1 (refine wpT_q (by rfl) ?_ (by rfl) ?_ ?_; rotate_left; (focus (intro z hz; (try dsimp only at hz); go_simp; rfl)); simp only [Act.put])
                  refine wpT_done ?_
                  try simp only [List.getElem_toArray, List.getElem_cons_succ, List.getElem_cons_zero, List.setIfInBounds_toArray, List.set_cons_zero, List.set_cons_succ]
                  go_wp2_with fail
                  go_meet
                  exact ⟨gz, zs2, rfl, rfl, hP2, hz2, hZ8, hR8, hA8, hC8, hb8⟩
              case rest =>
                obtain ⟨gp2, zs2, rfl, rfl, hP2, hz2, hU1, hR1, hA1, hC1, hb1⟩ := hcut
                clear hR0 hT0 hA0 hC0 hb0
                have heq := fun z => eq_rp 9998 r r z
                simp only [decide_true] at heq
                have HEQ := Lib.hid heq
                clear heq
                go_upto_region 16 with (fail)
                repeat (first
                  | ((with_reducible refine wpl_loadS gp _ r.c.toArray Tryd.underlying36 rfl iRp hR1 hrs ?_ ?_ ?_); (focus rfl); (focus rfl); simp only [Act.put, List.setIfInBounds_toArray, List.set_cons_zero, List.set_cons_succ])
                  | ((with_reducible refine wpl_loadS gp2 _ r.c.toArray Tryd.underlying36 rfl iRp hU1 hrs ?_ ?_ ?_); (focus rfl); (focus rfl); simp only [Act.put, List.setIfInBounds_toArray, List.set_cons_zero, List.set_cons_succ])
                  | ((with_reducible refine wpl_neqS gRp (HEQ.out _) ?_ ?_ ?_ ?_); (focus rfl); (focus rfl); (focus rfl); simp only [Act.put, List.setIfInBounds_toArray, List.set_cons_zero, List.set_cons_succ])
                  | go_values | go_skip | go_guarded | go_step | go_upon | go_back)
                go_wp2_with fail
                go_meet
                exact ⟨c2, zs2, hP2, hr.2.trans hid, by omega, by omega, hA1, hC1, hb1⟩
      case rest =>
        obtain ⟨c2, zs2, hP2, hid2, ht2, hz2, hA2, hC2, hb2⟩ := hcut
        clear hA hC hbk hP hid htk hzk d0
        have hqs : c2.q.c.toArray.size = 40 := by rw [List.size_toArray, rqc_length _ hP2.ok.tag]
        have hql := rqc_length _ hP2.ok.tag
        have hq1 : c2.q.c.toArray.all (·.oneCell') = true := by simpa using rqc_one c2.q
        have heq := fun z => eq_rq 9997 c2.q c2.q hP2.ok.tag hP2.ok.tag z
        simp only [decide_true] at heq
        have HEQ := Lib.hid heq
        clear heq
        repeat (first
          | (go_at_call 16; refine Hid.out ?_)
          | go_values | go_skip | go_guarded | go_step | go_upon | go_back)
        refine Lib.hid ?_
        refine (cpend_any wc ga c2 hA2 hP2.ok).mono ?_
        rintro e w3 ⟨rfl, hb3⟩
        simp only []
        have hA3 := hA2.below hb3 hA2.lt
        have hC3 := hC2.below hb3
        have hb3 := below_B hBe hb2 hb3
        clear hA2 hC2 hb2
        repeat (first
          | ((with_reducible refine wpl_store_fresh c2.q.c.toArray i44 ?_ hqs hq1 ?_ ?_ ?_); (focus kernel_rfl); (focus rfl); (focus rfl); intro w4 hQ4 hl4 hb4; simp only [Act.put]; refine Hid.out ?_)
          | go_values | go_skip | go_guarded | go_step | go_upon | go_back)
        refine Lib.hid ?_
        have hA4 := hA3.below hb4 hA3.lt
        have hC4 := hC3.below hb4
        have hb4 := below_B hBe hb3 hb4
        obtain ⟨gq, hgq⟩ : ∃ x, w3.heap.size = x := ⟨_, rfl⟩
        rw [hgq] at hQ4 ⊢
        clear hgq hl4 hA3 hC3 hb3
        go_upto_region 23 with (fail)
        have hA5 : Blk w4.drew ga 73 c2.c.toArray := hA4
        have hQ5 : Blk w4.drew gq 44 c2.q.c.toArray := hQ4
        have hC5 := hC4.below drew_below
        have hb5 := hb4.drew
        clear hA4 hQ4 hC4 hb4
        have q2 : ∀ z, (Blk z gq 44 c2.q.c.toArray ∧ RcAt z B gb c2 zs2) → z.cell? ⟨gb, 2, none⟩ = some (.int .u64 (c2.tm : Int)) := fun z h => h.2.cells.1
        have q3 : ∀ z, (Blk z gq 44 c2.q.c.toArray ∧ RcAt z B gb c2 zs2) → z.cell? ⟨gb, 3, none⟩ = some (.bool c2.pend) := fun z h => h.2.cells.2
        refine wp_region_plan [(0, true), (1, true), (2, true), (3, true), (4, true), (5, true), (6, true), (7, true), (8, true), (9, true), (10, true), (11, true), (12, true), (13, true), (14, true), (15, true), (17, true), (18, true), (19, true), (20, true), (16, false), (21, true), (22, true)] (fun z => Blk z gq 44 c2.q.c.toArray ∧ RcAt z B gb c2 zs2) (by kernel_rfl) (by kernel_rfl) (by kernel_rfl) (by kernel_rfl) (fun _ _ d _ _ h => by cases d <;> exact h) ⟨hQ5, hC5⟩ ?_
        simp only [planOps, List.getElem?_toArray, List.getElem?_cons_zero, List.getElem?_cons_succ]
        iterate 7 (refine wpS_q ?_ (by rfl) ?_ ?_; rotate_left; (focus (intro z hz; (try dsimp only at hz); go_simp; rfl)); simp only [Act.put, List.setIfInBounds_toArray, List.set_cons_zero, List.set_cons_succ])
        refine wpS_q (.agg c2.q.c.toArray) (by rfl) (fun z hz => load_row_run rfl gq c2.q.c.toArray Tryd.underlying44 rfl i44 hz.1 hqs rfl) ?_
        simp only [Act.put, List.setIfInBounds_toArray, List.set_cons_zero, List.set_cons_succ]
        iterate 3 (refine wpS_q ?_ (by rfl) ?_ ?_; rotate_left; (focus (intro z hz; (try dsimp only at hz); go_simp; rfl)); simp only [Act.put, List.setIfInBounds_toArray, List.set_cons_zero, List.set_cons_succ])
        refine wpS_q (.agg c2.q.c.toArray) (by rfl) (fun z hz => by
          obtain ⟨L, hL, hq⟩ := hz.2.blk
          exact load_mid_run rfl gb 4 L c2.q.c Tryd.underlying44 rfl i44 hL (hq hP2.ok.tag) hql rfl) ?_
        simp only [Act.put, List.setIfInBounds_toArray, List.set_cons_zero, List.set_cons_succ]
        refine wpS_q (.bool false) (by rfl) (fun z hz => run_neqAgg (b := true) rfl gRq rfl rfl (HEQ.out z)) ?_
        simp only [Act.put, List.setIfInBounds_toArray, List.set_cons_zero, List.set_cons_succ]
        iterate 3 (refine wpS_q ?_ (by rfl) ?_ ?_; rotate_left; (focus (intro z hz; (try dsimp only at hz); go_simp; rfl)); simp only [Act.put, List.setIfInBounds_toArray, List.set_cons_zero, List.set_cons_succ])
        iterate 4 (refine wpS_q ?_ (by rfl) ?_ ?_; rotate_left; (focus (intro z hz; (try dsimp only at hz); go_simp; rfl)); simp only [Act.put, List.setIfInBounds_toArray, List.set_cons_zero, List.set_cons_succ])
        refine wpS_l (by rfl) (fun K hK => ?_)
        go_wp2_with fail
        refine (ctime_any w4.drew ga c2 hA5).mono ?_
        rintro e w6 ⟨rfl, hw6⟩
        subst hw6
        refine hK _ _ _ ⟨hQ5, hC5⟩ (fun _ h => h) ?_
        clear hK
        iterate 2 (refine wpS_q ?_ (by rfl) ?_ ?_; rotate_left; (focus (intro z hz; (try dsimp only at hz); go_simp; rfl)); simp only [Act.put, List.setIfInBounds_toArray, List.set_cons_zero, List.set_cons_succ])
        refine wpS_nil ?_
        clear q2 q3
        go_wp2_with fail
        exact ⟨⟨k + 1, c2, zs2, by omega, congrArg (Value.int .i64) (by omega), hP2, hid2, ht2, hz2, hA5, hC5, hb5⟩, by simp only [intOf]; omega⟩
    · obtain rfl : k = m := by omega
      have g1 : ¬ (k : Int) < (k : Int) := by omega
      go_wp2_with fail
      refine (HW.out _ (by rw [hBe]; exact hbk)).mono ?_
      rintro e w4 ⟨rfl, hb4⟩
      simp only []
      go_wp2_with fail
      go_ret
      first | exact ⟨rfl, below_B hBe hbk hb4⟩ | exact ⟨rfl, by rw [hBe]; exact below_B hBe hbk hb4⟩
theorem clientPlays_walk (W : World) (hT : H.Tab W H.tblL) (cn : Int) (_ : -9223372036854775808 ≤ cn ∧ cn ≤ 9223372036854775807) (id : Int) (_ : -9223372036854775808 ≤ id ∧ id ≤ 9223372036854775807) (A : Option Addr) (m c : Nat) (l : List StV) (_ : l.length = m) (hr : Reads W W.heap.size 15 A m (l.flatMap StV.c)) (_ : ∀ a ∈ l, True ∧ (StV.c a).length = 15) (_ : m ≤ c) (hz : c * 152 ≤ 140737488351232) :
    Calls Tryd.prog 3 #[.int .i64 cn, .int .i64 id, .slice A m c] W fun e w' => e = .returned (.bool true) ∧ Below W.heap.size W w' :=
  clientPlays_any 64 rfl W cn id A m c l hr (by omega) H.tblL rfl hT
end Go.Proofs.YtbbcofpdfkhljaaDoor
