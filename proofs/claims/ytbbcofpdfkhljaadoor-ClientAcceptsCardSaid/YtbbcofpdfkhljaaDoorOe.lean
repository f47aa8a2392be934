/- The law ClientAccepts, walked. -/
import Derived.Test.YtbbcofpdfkhljaaDoorOf
namespace Go.Proofs.YtbbcofpdfkhljaaDoor
open Go.RowKit Go.Rat
set_option maxRecDepth 20000 in
set_option maxHeartbeats 16000000 in
theorem clientAccepts_any (n : Nat) (hn64 : n = 64) (w : World) (nn : UInt8) (A : Option Addr) (m c : Nat) (l : List StV) (hr : Reads w w.heap.size 15 A m (l.flatMap StV.c)) (hm80 : m * 80 ≤ 140737488355328) (tb : List Int) (htb : H.tblL = tb) (hT : H.Tab w tb) :
    Calls Tryd.prog 4 #[.int .u8 (nn.toNat : Int), .slice A m c] w fun e w' => e = .returned (.bool true) ∧ Below w.heap.size w w' := by
  have hwk := fun w' (h : Below w.heap.size w w') => works25_any n hn64 w' tb htb (H.Tab.below hT h)
  have HW := Lib.hid hwk
  have HTB := Lib.hid hT
  have HN := Lib.hid hn64
  have HTBL := Lib.hid htb
  clear hwk hT htb hn64
  have hodd := fun w => odd_any w nn
  obtain ⟨f, hf⟩ : ∃ f, nn.toNat % 5 + 1 = f := ⟨_, rfl⟩
  rw [hf] at hodd
  have hf1 : 1 ≤ f := by omega
  have hf5 : f ≤ 5 := by omega
  have HODD := Lib.hid hodd
  clear hodd hf
  have hf1' : (1 : Int) ≤ (f : Int) := by omega
  have hf5' : (f : Int) ≤ 5 := by omega
  have hdiv : (2 * (f : Int)).tdiv 2 = (f : Int) := by rw [Int.tdiv_eq_ediv_of_nonneg (by omega)]; omega
  have hwf : IntKind.i64.wrap (f : Int) = (f : Int) := IntWalk.i64_in _ (by omega)
  have hwf2 : IntKind.i64.wrap (2 * (f : Int)) = 2 * (f : Int) := IntWalk.i64_in _ (by omega)
  obtain ⟨B, hBe⟩ : ∃ b, w.heap.size = b := ⟨_, rfl⟩
  have HFEW := Lib.hid (few25_any w A m c l hr hm80)
  rw [hBe] at hr
  go_enter Tryd.func4, Tryd.ntmps4
  go_wp2_with fail
  refine (HFEW.out).mono ?_
  rintro e w0 ⟨he, hb0⟩
  rcases he with rfl | ⟨rfl, hm150⟩
  · simp only []
    go_wp2_with fail
    refine (HW.out w0 hb0).mono ?_
    rintro e w1 ⟨rfl, hb⟩
    simp only []
    go_wp2_with fail
    go_ret
    exact ⟨rfl, below_next' hb0 hb⟩
  simp only []
  go_wp2_with fail
  refine (HODD.out w0).mono ?_
  rintro e w1 ⟨rfl, rfl⟩
  simp only []
  go_wp2_with fail
  refine (cnew_yes w1 (2 * (f : Int) + 1) 2 ⟨⟨by omega, by omega, by omega⟩, by omega, by omega⟩).mono ?_
  rintro e w2 ⟨rfl, hX, hb⟩
  simp only []
  obtain ⟨g, hg⟩ : ∃ x, w1.heap.size = x := ⟨_, rfl⟩
  rw [hg] at hX ⊢
  have hgB : B ≤ g := by rw [← hBe, ← hg]; exact hb0.size
  have hb2 : Below B w w2 := by rw [← hBe]; exact below_next' hb0 hb
  have hA0 := acc0 f
  obtain ⟨c0, hc0⟩ : ∃ c, ClV.mk (2 * (f : Int) + 1) 2 0 false rq0 tol0 = c := ⟨_, rfl⟩
  have hX : Blk w2 g 73 c0.c.toArray := by rw [← hc0]; exact hX
  have ht0 : c0.tm = 0 := by rw [← hc0]
  have hp0 : c0.pend = false := by rw [← hc0]
  rw [hc0] at hA0
  clear hc0 hg hb hb0 HFEW
  have hBw : B ≤ w2.heap.size := by rw [← hBe]; exact hb2.size
  go_upto_block 0 with (fail)
  go_wp2_with fail
  go_loopw [8, 9, 10, 11, 12] (fun tv sd wh op i wr => ∃ (k : Nat) (c' : ClV) (zs : List (Int × ToldV)) (A1 A2 : Option Addr) (c1 c2 : Nat), k ≤ m ∧ i = .int .i64 (k : Int) ∧ tv = .int .u64 (c'.tm : Int) ∧ sd = .slice A1 zs.length c1 ∧ wh = .slice A2 zs.length c2 ∧ op = .bool c'.pend ∧ Acc f c' zs ∧ c'.tm ≤ k ∧ zs.length ≤ k ∧ wr.ownsRow B 38 5 (.slice A1 zs.length c1) zs.length (saidR zs) ∧ wr.ownsRow B 3 1 (.slice A2 zs.length c2) zs.length (whoR zs) ∧ Blk wr g 73 c'.c.toArray ∧ Below B w wr) (fun _ _ _ _ i _ => m - (intOf i).toNat)
  case atStart => exact ⟨0, c0, [], none, none, 0, 0, Nat.zero_le _, rfl, by rw [ht0]; rfl, rfl, rfl, by rw [hp0], hA0, by omega, Nat.zero_le _, World.ownsRow_nil _ _ _ _, World.ownsRow_nil _ _ _ _, hX, hb2⟩
  case round =>
    clear hA0 hX ht0 hp0 hb2 hBw
    obtain ⟨k, c', zs, A1, A2, c1, c2, hk, rfl, rfl, rfl, rfl, rfl, hA, htk, hzk, hO1, hO2, hX, hbk⟩ := hrel
    by_cases hkm : k < m
    · have g1 : (k : Int) < (m : Int) := by omega
      have g0 : (0 : Int) ≤ (k : Int) := by omega
      obtain ⟨ad, x, rfl, _, _, hadl, hcs0, hcs⟩ := row_at StV.c 15 stp_len hr (by omega) hkm
      have hq0 : ∀ z, Below B w z → z.cell? (ad.add (k * 15)) = some (.bool x.hear) := fun z h => (h.cell hadl).trans (by have := hcs0 0 _ rfl; rwa [add_zero_addr] at this)
      have hq8 : ∀ z, Below B w z → z.cell? ⟨(ad.add (k * 15)).block, (ad.add (k * 15)).off + 8, none⟩ = some (.int .i64 x.j) := fun z h => (h.cell (p := ⟨(ad.add (k * 15)).block, _, none⟩) hadl).trans (hcs 8 _ (by omega) rfl)
      have hqa : ∀ z, Below B w z → ∀ i u, x.c[i]? = some u → z.cell? ((ad.add (k * 15)).add i) = some u := fun z h i u hu => (h.cell (by rw [block_of_add]; exact hadl)).trans (hcs0 i u hu)
      have hqo : ∀ z, Below B w z → ∀ i u, x.o.c[i]? = some u → z.cell? ((⟨(ad.add (k * 15)).block, (ad.add (k * 15)).off + 2, none⟩ : Addr).add i) = some u := fun z h i u hu => by
        rw [add_off, h.cell (p := ⟨(ad.add (k * 15)).block, _, none⟩) hadl]
        exact hcs (2 + i) _ (by omega) (stp_o x i u hu)
      obtain ⟨P, hP⟩ : ∃ P, ad.add (k * 15) = P := ⟨_, rfl⟩
      rw [hP] at hq0 hq8 hqa hqo
      have HQ0 := Lib.hid hq0
      have HQ8 := Lib.hid hq8
      have HQA := Lib.hid hqa
      have HQO := Lib.hid hqo
      clear hcs0 hcs hadl hq0 hq8 hqa hqo
      have hxl : x.c.length = 15 := rfl
      have hol : x.o.c.length = 6 := rfl
      have htmb : (c'.tm : Int) + 1 < 1000 := by omega
      have htm0 : (0 : Int) ≤ (c'.tm : Int) := by omega
      have hBr : B ≤ wr.heap.size := by rw [← hBe]; exact Nat.le_trans (Nat.le_of_eq rfl) hbk.size
      have d0 := HQ0.out _ hbk
      cases hhe : x.hear
      · rw [hhe] at d0
        clear hhe
        have hask := cask_any n HN.out wr g c' hX hA.ok (by omega) x.o tb (fun z hz => H.Tab.below HTB.out (by rw [hBe]; exact hbk.trans (below_of_grownBy hz (fun q hq => by cases hq; exact hgB) hBr)))
        rcases acc_ask hA n tb x.o (by omega) with ⟨hmay, hpe, hac, hA3, hau, hqcl, hqtm, hqop⟩ | ⟨e, hene, hac⟩
        · rw [hac] at hask
          clear hac hmay
          have hqt := askQ_tag n tb 2 (c'.tm + 1) x.o
          have heqo := fun z => eq_op 9998 x.o x.o z
          simp only [decide_true] at heqo
          have HEQO := Lib.hid heqo
          obtain ⟨Q, hQ⟩ : ∃ Q, askQ n tb 2 (c'.tm + 1) x.o = Q := ⟨_, rfl⟩
          rw [hQ] at hask hA3 hau hqcl hqtm hqop hqt
          have hqoc : (Q.c.drop 2).take 6 = x.o.c := by rw [rq_op, hqop]
          have hau2 := fun w => rauth_any n HN.out w Q hqt tb HTBL.out
          simp only [decide_eq_true hau] at hau2
          have HAU := Lib.hid hau2
          have hqs : Q.c.toArray.size = 40 := by rw [List.size_toArray, rqc_length Q hqt]
          have hq1 : Q.c.toArray.all (·.oneCell') = true := by simpa using rqc_one Q
          have hqc1 := fun (z : World) (b : Nat) (h : Blk z b 44 Q.c.toArray) => (rq_cells h).2.1
          simp only [hqtm] at hqc1
          have HQ1 := Lib.hid (fun (z : World) (b : Nat) (h : Blk z b 44 Q.c.toArray) => show z.cell? ⟨b, 1, none⟩ = some (.int .u64 ((c'.tm : Int) + 1)) from hqc1 z b h)
          have hqc0 := fun (z : World) (b : Nat) (h : Blk z b 44 Q.c.toArray) => (rq_cells h).1
          simp only [hqcl] at hqc0
          have HQC := Lib.hid hqc0
          clear hau hqcl hqtm hqop hau2 hqc1 hqc0 hQ heqo
          obtain ⟨c3, hc3⟩ : ∃ c, ClV.mk c'.n c'.id (c'.tm + 1) true Q tol0 = c := ⟨_, rfl⟩
          have H3T : Hid (c3.tm = c'.tm + 1) := Lib.hid (by rw [← hc3])
          have H3P : Hid (c3.pend = true) := Lib.hid (by rw [← hc3])
          rw [hc3] at hask hA3
          clear hc3
          repeat (first
            | ((with_reducible refine wpl_load_any ⟨P.block, P.off + 2, none⟩ x.o.c Tryd.underlying34 rfl i34 hol (HQO.out _ hbk) ?_ ?_); (focus rfl); simp only [Act.put, List.setIfInBounds_toArray, List.set_cons_zero, List.set_cons_succ])
            | (go_at_call 14; refine Hid.out ?_)
            | go_values | go_skip | go_guarded | go_step | go_upon | go_back)
          refine Lib.hid ?_
          refine hask.mono ?_
          rintro e w3 ⟨rfl, hX3, hg3⟩
          simp only []
          have hb3 : Below B w w3 := hbk.trans (below_of_grownBy hg3 (fun q hq => by cases hq; exact hgB) hBr)
          clear hask hX hO1 hO2 hbk hg3 d0 hA
          repeat (first
            | ((with_reducible refine wpl_store_fresh Q.c.toArray i44 ?_ hqs hq1 ?_ ?_ ?_); (focus kernel_rfl); (focus rfl); (focus rfl); intro w4 hQ4 hl4 hb4; simp only [Act.put]; refine Hid.out ?_)
            | go_values | go_skip | go_guarded | go_step | go_upon | go_back)
          refine Lib.hid ?_
          have hX4 := hX3.below hb4 hX3.lt
          have hb4 := below_B hBe hb3 hb4
          obtain ⟨gq, hgq⟩ : ∃ x, w3.heap.size = x := ⟨_, rfl⟩
          rw [hgq] at hQ4 ⊢
          clear hgq hl4 hX3 hb3
          go_upto_region 18 with (fail)
          have hQ5 : Blk w4.drew gq 44 Q.c.toArray := hQ4
          have hX5 : Blk w4.drew g 73 c3.c.toArray := hX4
          have hb5 := hb4.drew
          clear hQ4 hX4 hb4
          have q1 : ∀ z, (Below B w z ∧ Blk z gq 44 Q.c.toArray) → z.cell? ⟨gq, 1, none⟩ = some (.int .u64 ((c'.tm : Int) + 1)) := fun z h => HQ1.out z gq h.2
          have q2 : ∀ z, (Below B w z ∧ Blk z gq 44 Q.c.toArray) → z.cell? ⟨gq, 0, none⟩ = some (.int .i64 2) := fun z h => HQC.out z gq h.2
          refine wp_region_plan [(0, true), (1, true), (2, true), (3, true), (4, true), (5, true), (6, true), (7, true), (8, true), (9, true), (10, true), (11, true), (12, true), (13, true), (14, true), (15, true), (16, true), (17, true), (18, true), (19, true), (20, true), (21, true), (22, true), (23, true), (24, false), (25, true), (26, true)] (fun z => Below B w z ∧ Blk z gq 44 Q.c.toArray) (by kernel_rfl) (by kernel_rfl) (by kernel_rfl) (by kernel_rfl) (fun _ _ d _ _ h => by cases d <;> exact h) ⟨hb5, hQ5⟩ ?_
          simp only [planOps, List.getElem?_toArray, List.getElem?_cons_zero, List.getElem?_cons_succ]
          iterate 14 (refine wpS_q ?_ (by rfl) ?_ ?_; rotate_left; (focus (intro z hz; (try dsimp only at hz); go_simp; rfl)); simp only [Act.put, List.setIfInBounds_toArray, List.set_cons_zero, List.set_cons_succ])
          refine wpS_q (.agg x.o.c.toArray) (by rfl) (fun z hz => load_mid_run rfl gq 2 Q.c x.o.c Tryd.underlying34 rfl i34 hz.2 hqoc hol rfl) ?_
          simp only [Act.put, List.setIfInBounds_toArray, List.set_cons_zero, List.set_cons_succ]
          iterate 4 (refine wpS_q ?_ (by rfl) ?_ ?_; rotate_left; (focus (intro z hz; (try dsimp only at hz); go_simp; rfl)); simp only [Act.put, List.setIfInBounds_toArray, List.set_cons_zero, List.set_cons_succ])
          refine wpS_q (.agg x.o.c.toArray) (by rfl) (fun z hz => run_load_any rfl ⟨P.block, P.off + 2, none⟩ x.o.c Tryd.underlying34 rfl i34 hol (HQO.out z hz.1) rfl) ?_
          simp only [Act.put, List.setIfInBounds_toArray, List.set_cons_zero, List.set_cons_succ]
          refine wpS_q (.bool false) (by rfl) (fun z hz => run_neqAgg (b := true) rfl g34 rfl rfl (HEQO.out z)) ?_
          simp only [Act.put, List.setIfInBounds_toArray, List.set_cons_zero, List.set_cons_succ]
          iterate 2 (refine wpS_q ?_ (by rfl) ?_ ?_; rotate_left; (focus (intro z hz; (try dsimp only at hz); go_simp; rfl)); simp only [Act.put, List.setIfInBounds_toArray, List.set_cons_zero, List.set_cons_succ])
          refine wpS_q (.agg Q.c.toArray) (by rfl) (fun z hz => load_row_run rfl gq Q.c.toArray Tryd.underlying44 rfl i44 hz.2 hqs rfl) ?_
          simp only [Act.put, List.setIfInBounds_toArray, List.set_cons_zero, List.set_cons_succ]
          refine wpS_l (by rfl) (fun K hK => ?_)
          go_wp2_with fail
          refine (HAU.out w4.drew).mono ?_
          rintro e w6 ⟨rfl, hb6⟩
          have hX6 := hX5.below hb6 hX5.lt
          have hQ6 := hQ5.below hb6 hQ5.lt
          have hb6 := below_B hBe hb5 hb6
          refine hK _ _ _ ⟨hb6, hQ6⟩ (fun _ h => h) ?_
          clear hK hX5 hQ5 hb5
          iterate 2 (refine wpS_q ?_ (by rfl) ?_ ?_; rotate_left; (focus (intro z hz; (try dsimp only at hz); go_simp; rfl)); simp only [Act.put, List.setIfInBounds_toArray, List.set_cons_zero, List.set_cons_succ])
          refine wpS_nil ?_
          repeat (first
            | go_values | go_skip | go_guarded | go_step | go_upon | go_back)
          exact ⟨⟨k + 1, c3, [], none, none, 0, 0, by omega, congrArg (Value.int .i64) (by omega), congrArg (Value.int .u64) (by rw [H3T.out]; omega), rfl, rfl, congrArg Value.bool H3P.out.symm, hA3, by rw [H3T.out]; omega, Nat.zero_le _, World.ownsRow_nil _ _ _ _, World.ownsRow_nil _ _ _ _, hX6, hb6⟩, by simp only [intOf]; omega⟩
        · rw [hac] at hask
          clear hac
          have hee : (e == 0) = false := beq_eq_false_iff_ne.2 hene
          have hzs : rq0.c.toArray.size = 40 := rfl
          have hz1 : rq0.c.toArray.all (·.oneCell') = true := by simpa using rqc_one rq0
          clear hene
          repeat (first
            | ((with_reducible refine wpl_load_any ⟨P.block, P.off + 2, none⟩ x.o.c Tryd.underlying34 rfl i34 hol (HQO.out _ hbk) ?_ ?_); (focus rfl); simp only [Act.put, List.setIfInBounds_toArray, List.set_cons_zero, List.set_cons_succ])
            | (go_at_call 14; refine Hid.out ?_)
            | go_values | go_skip | go_guarded | go_step | go_upon | go_back)
          refine Lib.hid ?_
          refine hask.mono ?_
          rintro e2 w3 ⟨rfl, hX3, hg3⟩
          simp only []
          have hO13 := own_grown hO1 hg3 (.inl (own_ne hO1 hX (by decide)))
          have hO23 := own_grown hO2 hg3 (.inl (own_ne hO2 hX (by decide)))
          have hb3 : Below B w w3 := hbk.trans (below_of_grownBy hg3 (fun q hq => by cases hq; exact hgB) hBr)
          clear hask hX hO1 hO2 hbk hg3 d0
          repeat (first
            | ((with_reducible refine wpl_store_fresh rq0.c.toArray i44 ?_ hzs hz1 ?_ ?_ ?_); (focus kernel_rfl); (focus rfl); (focus rfl); intro w4 hQ4 hl4 hb4; simp only [Act.put]; refine Hid.out ?_)
            | go_values | go_skip | go_guarded | go_step | go_upon | go_back)
          refine Lib.hid ?_
          have hX4 := hX3.below hb4 hX3.lt
          have hO14 := own_below hO13 hb4
          have hO24 := own_below hO23 hb4
          have hb4 := below_B hBe hb3 hb4
          clear hQ4 hl4 hX3 hO13 hO23 hb3
          repeat (first
            | go_values | go_skip | go_guarded | go_step | go_upon | go_back)
          exact ⟨⟨k + 1, c', zs, A1, A2, c1, c2, by omega, congrArg (Value.int .i64) (by omega), rfl, rfl, rfl, rfl, hA, by omega, by omega, hO14, hO24, hX4, hb4⟩, by simp only [intOf]; omega⟩
      · rw [hhe] at d0
        clear hhe
        have htold := fun w => told25_any w x 2 c'.tm
        obtain ⟨T, hTe⟩ : ∃ t, toldF x 2 c'.tm = t := ⟨_, rfl⟩
        simp only [hTe] at htold
        have HTOLD := Lib.hid htold
        clear htold hTe
        have hTs : T.c.toArray.size = 5 := rfl
        have hT1 := told_ones T
        repeat (first
          | ((with_reducible refine wpl_load_any P x.c Tryd.underlying40 rfl iStp hxl (HQA.out _ hbk) ?_ ?_); (focus rfl); simp only [Act.put, List.setIfInBounds_toArray, List.set_cons_zero, List.set_cons_succ])
          | (go_at_call 11; refine Hid.out ?_)
          | go_values | go_skip | go_guarded | go_step | go_upon | go_back)
        refine Lib.hid ?_
        refine (HTOLD.out wr).mono ?_
        rintro e w3 ⟨rfl, hb3⟩
        simp only []
        have hX3 := hX.below hb3 hX.lt
        have hO13 := own_below hO1 hb3
        have hO23 := own_below hO2 hb3
        have hb3 := below_B hBe hbk hb3
        clear hX hO1 hO2 hbk d0 HTOLD
        repeat (first
          | ((with_reducible refine wpl_store_fresh T.c.toArray iTold ?_ hTs hT1 ?_ ?_ ?_); (focus kernel_rfl); (focus rfl); (focus rfl); intro w4 hT4 hl4 hb4; simp only [Act.put]; refine Hid.out ?_)
          | go_values | go_skip | go_guarded | go_step | go_upon | go_back)
        refine Lib.hid ?_
        have hX4 := hX3.below hb4 hX3.lt
        have hO14 := own_below hO13 hb4
        have hO24 := own_below hO23 hb4
        have hb4 := below_B hBe hb3 hb4
        have hgt := Nat.ne_of_lt hX3.lt
        have hA1t : ∀ q, A1.map (·.block) = some q → q < w3.heap.size := fun q hq => (own_ge hO13 q hq).2
        obtain ⟨gt, hgte⟩ : ∃ x, w3.heap.size = x := ⟨_, rfl⟩
        rw [hgte] at hT4 hgt hA1t ⊢
        clear hgte hl4 hX3 hO13 hO23 hb3
        go_upto_region 24 with (fail)
        have hX5 : Blk w4.drew g 73 c'.c.toArray := hX4
        have hT5 : Blk w4.drew gt 38 T.c.toArray := hT4
        have hO15 : w4.drew.ownsRow B 38 5 (.slice A1 zs.length c1) zs.length (saidR zs) := hO14
        have hO25 : w4.drew.ownsRow B 3 1 (.slice A2 zs.length c2) zs.length (whoR zs) := hO24
        have hb5 := hb4.drew
        clear hX4 hT4 hO14 hO24 hb4
        obtain ⟨c3, r, is, hH, htm3, hA3, hcase⟩ := acc_hear hA x.j T hf5
        have HCASE := Lib.hid hcase
        have HTM3 := Lib.hid htm3
        have hrs : r.c.toArray.size = 2 := rfl
        have hro := rp_ones r
        clear hcase htm3
        have q8 : ∀ z, (Below B w z ∧ Blk z gt 38 T.c.toArray) → z.cell? ⟨P.block, P.off + 8, none⟩ = some (.int .i64 x.j) := fun z h => HQ8.out z h.1
        go_cut [16, 17] (fun pv bv wx => ∃ gp, pv = .pointer (some ⟨gp, 0, none⟩) ∧ bv = .bool is ∧ Blk wx g 73 c3.c.toArray ∧ Blk wx gt 38 T.c.toArray ∧ Blk wx gp 36 r.c.toArray ∧ wx.ownsRow B 38 5 (.slice A1 zs.length c1) zs.length (saidR zs) ∧ wx.ownsRow B 3 1 (.slice A2 zs.length c2) zs.length (whoR zs) ∧ Below B w wx)
        case first =>
          refine wp_region_planT (.q 0 (.q 1 (.q 2 (.q 3 (.q 4 (.q 5 (.q 6 (.two 7 11 (.q 8 (.q 9 (.q 10 (.l 11 (.l 12 (.q 13 .done)))))) (.l 7 (.q 8 (.q 9 (.q 10 (.l 12 (.q 13 .done))))))))))))))
            (fun z => Below B w z ∧ Blk z gt 38 T.c.toArray) (by kernel_rfl) (by kernel_rfl) (by kernel_rfl) (by kernel_rfl) (by kernel_rfl) (fun _ _ d _ _ h => by cases d <;> exact h) ⟨hb5, hT5⟩ ?_
          obtain ⟨w5, hw5⟩ : ∃ x, w4.drew = x := ⟨_, rfl⟩
          rw [hw5] at hX5 hT5 hO15 hO25 hb5 ⊢
          clear hw5
          iterate 6 (refine wpT_q (by rfl) ?_ (by rfl) ?_ ?_; rotate_left; (focus (intro z hz; (try dsimp only at hz); go_simp; rfl)); simp only [Act.put])
          refine wpT_q (by rfl) (.agg T.c.toArray) (by rfl) (fun z hz => load_row_run rfl gt T.c.toArray Tryd.underlying38 rfl iTold hz.2 hTs rfl) ?_
          try simp only [Act.put, List.setIfInBounds_toArray]
          refine wpT_two (by rfl) (by rfl) (by rfl) (by rfl) (fun K hK => ?_) (fun K hK => ?_)
          · have hh := chear_any w5 g c' hX5 hA.ok ⟨by rw [hA.n_]; omega, by rw [hA.n_]; omega⟩ x.j T
            rw [hH] at hh
            go_wp2_with fail
            refine hh.mono ?_
            rintro e w6 ⟨rfl, hX6, hg6⟩
            have hT6 := hT5.grown hg6 (by intro e; injection e with e; exact hgt e.symm)
            have hO16 := own_grown hO15 hg6 (.inl (own_ne hO15 hX5 (by decide)))
            have hO26 := own_grown hO25 hg6 (.inl (own_ne hO25 hX5 (by decide)))
            have hBo : B ≤ (w5).heap.size := by rw [← hBe]; exact hb5.size
            have hb6 : Below B w w6 := hb5.trans (below_of_grownBy hg6 (fun q hq => by cases hq; exact hgB) hBo)
            refine hK _ _ _ ⟨hb6, hT6⟩ (fun _ h => h) ?_
            clear hK hh hBo
            try simp only [Act.put, List.getElem_toArray, List.getElem_cons_succ, List.getElem_cons_zero, List.setIfInBounds_toArray, List.set_cons_zero, List.set_cons_succ]
            iterate 3 (refine wpT_q (by rfl) ?_ (by rfl) ?_ ?_; rotate_left; (focus (intro z hz; (try dsimp only at hz); go_simp; rfl)); simp only [Act.put])
            refine wpT_l (by rfl) (by rfl) (fun K hK => ?_)
            go_simp
            rw [zcRp]
            have hP7 := Blk.new (w6) 36 rp0.c.toArray
            have hX7 := hX6.alloc (.cells rp0.c.toArray 36)
            have hT7 := hT6.alloc (.cells rp0.c.toArray 36)
            have hO17 := own_below hO16 (below_alloc (w6) (.cells rp0.c.toArray 36))
            have hO27 := own_below hO26 (below_alloc (w6) (.cells rp0.c.toArray 36))
            have hb7 := below_B hBe hb6 (below_alloc (w6) (.cells rp0.c.toArray 36))
            have hgp1 := Nat.ne_of_lt hX6.lt
            have hgp2 := Nat.ne_of_lt hT6.lt
            have hBp : B ≤ (w6).heap.size := by rw [← hBe]; exact hb6.size
            obtain ⟨w7, hw7⟩ : ∃ x, (w6).alloc (.cells rp0.c.toArray 36) = x := ⟨_, rfl⟩
            rw [hw7] at hP7 hX7 hT7 hO17 hO27 hb7 ⊢
            obtain ⟨gp, hgpe⟩ : ∃ x, (w6).heap.size = x := ⟨_, rfl⟩
            rw [hgpe] at hP7 hgp1 hgp2 hBp ⊢
            refine hK _ _ _ ⟨hb7, hT7⟩ (fun _ h => h) ?_
            clear hK hw7 hgpe
            try simp only [Act.put, List.getElem_toArray, List.getElem_cons_succ, List.getElem_cons_zero, List.setIfInBounds_toArray, List.set_cons_zero, List.set_cons_succ]
            try simp only [Act.put, List.setIfInBounds_toArray, List.set_cons_zero, List.set_cons_succ]
            refine wpT_l (by rfl) (by rfl) (fun K hK => ?_)
            refine wp_storeRow rfl gp 36 rp0.c.toArray r.c.toArray iRp hP7 rfl hrs (by simpa using hro) rfl rfl ?_
            have hg8 := grownBy_setRow w7 gp r.c.toArray
            have hP8 := hP7.setRow r.c.toArray
            have hX8 := hX7.grown hg8 (by intro e; injection e with e; exact hgp1 e)
            have hT8 := hT7.grown hg8 (by intro e; injection e with e; exact hgp2 e)
            have hO18 := own_grown hO17 hg8 (.inl (own_ne hO17 hP7 (by decide)))
            have hO28 := own_grown hO27 hg8 (.inl (own_ne hO27 hP7 (by decide)))
            have hb8 : Below B w (w7.setRow gp r.c.toArray) := hb7.trans (below_of_grownBy hg8 (fun q hq => by cases hq; exact hBp) (by rw [← hBe]; exact hb7.size))
            refine hK _ _ _ ⟨hb8, hT8⟩ (fun _ h => h) ?_
            clear hK
            try simp only [Act.put, List.getElem_toArray, List.getElem_cons_succ, List.getElem_cons_zero]
            iterate 1 (refine wpT_q (by rfl) ?_ (by rfl) ?_ ?_; rotate_left; (focus (intro z hz; (try dsimp only at hz); go_simp; rfl)); simp only [Act.put])
            refine wpT_done ?_
            try simp only [List.getElem_toArray, List.getElem_cons_succ, List.getElem_cons_zero, List.setIfInBounds_toArray, List.set_cons_zero, List.set_cons_succ]
            go_wp2_with fail
            go_meet
            exact ⟨gp, rfl, rfl, hX8, hT8, hP8, hO18, hO28, hb8⟩
          · go_simp
            rw [zcRp]
            have hP6 := Blk.new (w5) 36 rp0.c.toArray
            have hX6 := hX5.alloc (.cells rp0.c.toArray 36)
            have hT6 := hT5.alloc (.cells rp0.c.toArray 36)
            have hO16 := own_below hO15 (below_alloc (w5) (.cells rp0.c.toArray 36))
            have hO26 := own_below hO25 (below_alloc (w5) (.cells rp0.c.toArray 36))
            have hb6 := below_B hBe hb5 (below_alloc (w5) (.cells rp0.c.toArray 36))
            have hgp1 := Nat.ne_of_lt hX5.lt
            have hgp2 := Nat.ne_of_lt hT5.lt
            have hBp : B ≤ (w5).heap.size := by rw [← hBe]; exact hb5.size
            obtain ⟨w6, hw6⟩ : ∃ x, (w5).alloc (.cells rp0.c.toArray 36) = x := ⟨_, rfl⟩
            rw [hw6] at hP6 hX6 hT6 hO16 hO26 hb6 ⊢
            obtain ⟨gp, hgpe⟩ : ∃ x, (w5).heap.size = x := ⟨_, rfl⟩
            rw [hgpe] at hP6 hgp1 hgp2 hBp ⊢
            refine hK _ _ _ ⟨hb6, hT6⟩ (fun _ h => h) ?_
            clear hK hw6 hgpe
            try simp only [Act.put, List.getElem_toArray, List.getElem_cons_succ, List.getElem_cons_zero, List.setIfInBounds_toArray, List.set_cons_zero, List.set_cons_succ]
            try simp only [Act.put, List.setIfInBounds_toArray, List.set_cons_zero, List.set_cons_succ]
            refine wpT_l (by rfl) (by rfl) (fun K hK => ?_)
            have hh := chear_any w6 g c' hX6 hA.ok ⟨by rw [hA.n_]; omega, by rw [hA.n_]; omega⟩ x.j T
            rw [hH] at hh
            go_wp2_with fail
            refine hh.mono ?_
            rintro e w7 ⟨rfl, hX7, hg7⟩
            have hT7 := hT6.grown hg7 (by intro e; injection e with e; exact hgt e.symm)
            have hO17 := own_grown hO16 hg7 (.inl (own_ne hO16 hX6 (by decide)))
            have hO27 := own_grown hO26 hg7 (.inl (own_ne hO26 hX6 (by decide)))
            have hBo : B ≤ (w6).heap.size := by rw [← hBe]; exact hb6.size
            have hb7 : Below B w w7 := hb6.trans (below_of_grownBy hg7 (fun q hq => by cases hq; exact hgB) hBo)
            have hP7 := hP6.grown hg7 (by intro e; injection e with e; exact hgp1 e.symm)
            refine hK _ _ _ ⟨hb7, hT7⟩ (fun _ h => h) ?_
            clear hK hh hBo
            try simp only [Act.put, List.getElem_toArray, List.getElem_cons_succ, List.getElem_cons_zero, List.setIfInBounds_toArray, List.set_cons_zero, List.set_cons_succ]
            iterate 3 (refine wpT_q (by rfl) ?_ (by rfl) ?_ ?_; rotate_left; (focus (intro z hz; (try dsimp only at hz); go_simp; rfl)); simp only [Act.put])
            refine wpT_l (by rfl) (by rfl) (fun K hK => ?_)
            refine wp_storeRow rfl gp 36 rp0.c.toArray r.c.toArray iRp hP7 rfl hrs (by simpa using hro) rfl rfl ?_
            have hg8 := grownBy_setRow w7 gp r.c.toArray
            have hP8 := hP7.setRow r.c.toArray
            have hX8 := hX7.grown hg8 (by intro e; injection e with e; exact hgp1 e)
            have hT8 := hT7.grown hg8 (by intro e; injection e with e; exact hgp2 e)
            have hO18 := own_grown hO17 hg8 (.inl (own_ne hO17 hP7 (by decide)))
            have hO28 := own_grown hO27 hg8 (.inl (own_ne hO27 hP7 (by decide)))
            have hb8 : Below B w (w7.setRow gp r.c.toArray) := hb7.trans (below_of_grownBy hg8 (fun q hq => by cases hq; exact hBp) (by rw [← hBe]; exact hb7.size))
            refine hK _ _ _ ⟨hb8, hT8⟩ (fun _ h => h) ?_
            clear hK
            try simp only [Act.put, List.getElem_toArray, List.getElem_cons_succ, List.getElem_cons_zero, List.setIfInBounds_toArray, List.set_cons_zero, List.set_cons_succ]
            iterate 1 (refine wpT_q (by rfl) ?_ (by rfl) ?_ ?_; rotate_left; (focus (intro z hz; (try dsimp only at hz); go_simp; rfl)); simp only [Act.put])
            refine wpT_done ?_
            try simp only [List.getElem_toArray, List.getElem_cons_succ, List.getElem_cons_zero, List.setIfInBounds_toArray, List.set_cons_zero, List.set_cons_succ]
            go_wp2_with fail
            go_meet
            exact ⟨gp, rfl, rfl, hX8, hT8, hP8, hO18, hO28, hb8⟩
        case rest =>
          obtain ⟨gp, rfl, rfl, hX8, hT8, hP8, hO18, hO28, hb8⟩ := hcut
          clear hX5 hT5 hO15 hO25 hb5 hA q8
          have hbt := buildSl_told wc T
          have hB9 := Blk.new wc 38 T.c.toArray
          have hX9 := hX8.alloc (.cells T.c.toArray 38)
          have hT9 := hT8.alloc (.cells T.c.toArray 38)
          have hP9 := hP8.alloc (.cells T.c.toArray 38)
          have hO19 := own_below hO18 (below_alloc wc (.cells T.c.toArray 38))
          have hO29 := own_below hO28 (below_alloc wc (.cells T.c.toArray 38))
          have hb9 := below_B hBe hb8 (below_alloc wc (.cells T.c.toArray 38))
          obtain ⟨w9, hw9⟩ : ∃ x, wc.alloc (.cells T.c.toArray 38) = x := ⟨_, rfl⟩
          rw [hw9] at hbt hB9 hb9 hX9 hT9 hP9 hO19 hO29
          obtain ⟨g9, hg9⟩ : ∃ x, wc.heap.size = x := ⟨_, rfl⟩
          rw [hg9] at hbt hB9
          have hB9z : B ≤ w9.heap.size := by rw [← hBe]; exact hb9.size
          clear hw9 hg9
          repeat (first
            | ((with_reducible refine wpl_loadS gt _ T.c.toArray Tryd.underlying38 rfl iTold hT8 hTs ?_ ?_ ?_); (focus rfl); (focus rfl); simp only [Act.put, List.setIfInBounds_toArray, List.set_cons_zero, List.set_cons_succ])
            | ((with_reducible refine wpl_buildSl hbt ?_ ?_); (focus rfl); simp only [Act.put, List.setIfInBounds_toArray, List.set_cons_zero, List.set_cons_succ])
            | (at_builtin; refine wpl_appT rfl _ _ rfl B A1 zs.length c1 (saidR zs) rfl hO19 g9 T rfl hB9 (by omega) hB9z ?_; intro A3 c4 w10 hO110 hG10; refine Hid.out ?_)
            | go_values | go_skip | go_guarded | go_step | go_upon | go_back)
          refine Lib.hid ?_
          have hX10 := hX9.grown hG10.grown (fun e => own_ne hO19 hX9 (by decide) e.symm)
          have hP10 := hP9.grown hG10.grown (fun e => own_ne hO19 hP9 (by decide) e.symm)
          have hT10 := hT9.grown hG10.grown (fun e => Nat.lt_irrefl _ (hA1t gt e.symm))
          have hO210 := own_grown hO29 hG10.grown (own_apart hO29 hO19 (by decide))
          have hb10 : Below B w w10 := hb9.trans (below_of_grownBy hG10.grown (fun q hq => (own_ge hO19 q hq).1) hB9z)
          clear hbt hB9 hX8 hT8 hP8 hO18 hO28 hb8 hX9 hT9 hP9 hO19 hO29 hb9 hB9z hG10
          have d8 := HQ8.out _ hb10
          have hbt := buildSl_int w10 x.j
          have hB11 := Blk.new w10 3 [Value.int .i64 x.j].toArray
          have hX11 := hX10.alloc (.cells [Value.int .i64 x.j].toArray 3)
          have hT11 := hT10.alloc (.cells [Value.int .i64 x.j].toArray 3)
          have hP11 := hP10.alloc (.cells [Value.int .i64 x.j].toArray 3)
          have hO111 := own_below hO110 (below_alloc w10 (.cells [Value.int .i64 x.j].toArray 3))
          have hO211 := own_below hO210 (below_alloc w10 (.cells [Value.int .i64 x.j].toArray 3))
          have hb11 := below_B hBe hb10 (below_alloc w10 (.cells [Value.int .i64 x.j].toArray 3))
          obtain ⟨w11, hw11⟩ : ∃ yy, w10.alloc (.cells [Value.int .i64 x.j].toArray 3) = yy := ⟨_, rfl⟩
          rw [hw11] at hbt hB11 hb11 hX11 hT11 hP11 hO111 hO211
          obtain ⟨g11, hg11⟩ : ∃ x, w10.heap.size = x := ⟨_, rfl⟩
          rw [hg11] at hbt hB11
          have hB11z : B ≤ w11.heap.size := by rw [← hBe]; exact hb11.size
          clear hw11 hg11
          repeat (first
            | ((with_reducible refine wpl_buildSl hbt ?_ ?_); (focus rfl); simp only [Act.put, List.setIfInBounds_toArray, List.set_cons_zero, List.set_cons_succ])
            | (at_builtin; refine wpl_appI rfl _ _ rfl B A2 zs.length c2 (whoR zs) rfl hO211 g11 x.j rfl hB11 (by omega) hB11z ?_; intro A4 c5 w12 hO212 hG12; refine Hid.out ?_)
            | go_values | go_skip | go_guarded | go_step | go_upon | go_back)
          refine Lib.hid ?_
          have hX12 := hX11.grown hG12.grown (fun e => own_ne hO211 hX11 (by decide) e.symm)
          have hP12 := hP11.grown hG12.grown (fun e => own_ne hO211 hP11 (by decide) e.symm)
          have hT12 := hT11.grown hG12.grown (fun e => own_ne hO211 hT11 (by decide) e.symm)
          have hO112 := own_grown hO111 hG12.grown (own_apart hO111 hO211 (by decide))
          have hb12 : Below B w w12 := hb11.trans (below_of_grownBy hG12.grown (fun q hq => (own_ge hO211 q hq).1) hB11z)
          clear hbt hB11 hX10 hT10 hP10 hO110 hO210 hb10 d8 hX11 hT11 hP11 hO111 hO211 hb11 hB11z hG12 hA1t
          rw [← saidR_snoc zs x.j T] at hO112
          rw [← whoR_snoc zs x.j T] at hO212
          obtain ⟨zs2, hz2⟩ : ∃ z, zs ++ [(x.j, T)] = z := ⟨_, rfl⟩
          have hzl : zs.length + 1 = zs2.length := by rw [← hz2]; simp
          rw [hz2] at hO112 hO212 hA3
          have hcase := HCASE.out
          rw [hz2] at hcase
          rw [hzl] at hO112 hO212 ⊢
          have hz150 : zs2.length ≤ k + 1 := by omega
          clear HCASE hz2 hzl
          rcases hcase with ⟨rfl, hp3⟩ | ⟨rfl, hpe, hp3, htc, htt, hrr, hv⟩
          · repeat (first
              | go_values | go_skip | go_guarded | go_step | go_upon | go_back)
            exact ⟨⟨k + 1, c3, zs2, A3, A4, c4, c5, by omega, congrArg (Value.int .i64) (by omega), congrArg (Value.int .u64) (by rw [HTM3.out]), rfl, rfl, congrArg Value.bool hp3.symm, hA3, by rw [HTM3.out]; omega, hz150, hO112, hO212, hX12, hb12⟩, by simp only [intOf]; omega⟩
          · subst hrr
            have e0 := hT12.cell 0
            have e1 := hT12.cell 1
            simp only [ToldV.c, List.getElem?_toArray, List.getElem?_cons_zero, List.getElem?_cons_succ] at e0 e1
            rw [htc] at e0
            rw [htt] at e1
            have hneq := fun z => eq_rp 9998 T.rp T.rp z
            simp only [decide_true] at hneq
            have HNE := Lib.hid hneq
            have hlr : T.rp.c.length = 2 := rfl
            have hcr : (T.c.drop 2).take 2 = T.rp.c := rfl
            have hrs2 : T.rp.c.toArray.size = 2 := rfl
            have HV := Lib.hid hv
            clear hneq hv htc htt hro
            rw [hpe]
            repeat (first
              | ((with_reducible refine wpl_loadS gp _ T.rp.c.toArray Tryd.underlying36 rfl iRp hP12 hrs2 ?_ ?_ ?_); (focus rfl); (focus rfl); simp only [Act.put, List.setIfInBounds_toArray, List.set_cons_zero, List.set_cons_succ])
              | ((with_reducible refine wpl_loadM gt 2 T.c T.rp.c Tryd.underlying36 rfl iRp hT12 hcr hlr ?_ ?_ ?_); (focus rfl); (focus rfl); simp only [Act.put, List.setIfInBounds_toArray, List.set_cons_zero, List.set_cons_succ])
              | ((with_reducible refine wpl_neqS gRp (HNE.out _) ?_ ?_ ?_ ?_); (focus rfl); (focus rfl); (focus rfl); simp only [Act.put, List.setIfInBounds_toArray, List.set_cons_zero, List.set_cons_succ])
              | go_values | go_skip | go_guarded | go_step | go_upon | go_back)
            have hHP3 := Lib.hid hp3
            have hHT3 := HTM3
            clear e0 e1 HNE hcr hlr hrs2 hP12 hp3
            go_loopw [18, 19] (fun v j wr => ∃ J : Nat, J ≤ 2 * f + 1 ∧ j = .int .i64 ((J : Int) + 1) ∧ v = .int .i64 (votesF zs2 T J : Int) ∧ Below w12.heap.size w12 wr) (fun _ j _ => 20 - (intOf j).toNat)
            case atStart => exact ⟨0, by omega, rfl, rfl, Below.refl _ _⟩
            case round =>
              obtain ⟨J, hJ, rfl, rfl, hbj⟩ := hrel
              have hvle := votesF_le zs2 T J
              have hvs := votesF_succ zs2 T J
              by_cases hJk : J < 2 * f + 1
              · have g2 : (J : Int) + 1 ≤ 2 * (f : Int) + 1 := by omega
                have gJ0 : (0 : Int) ≤ (J : Int) := by omega
                have gJ11 : (J : Int) ≤ 11 := by omega
                obtain ⟨vj, hvj⟩ : ∃ v, votesF zs2 T J = v := ⟨_, rfl⟩
                rw [hvj] at hvle hvs ⊢
                have gv0 : (0 : Int) ≤ (vj : Int) := by omega
                have gv11 : (vj : Int) ≤ 11 := by omega
                have HVS := Lib.hid hvs
                clear hvs hvj
                go_upto_block 3 with (fail)
                go_cut [18] (fun v wx => v = .int .i64 ((if ((J : Int) + 1, T) ∈ zs2 then vj + 1 else vj : Nat) : Int) ∧ Below w12.heap.size w12 wx)
                case first =>
                  go_wp2_with fail
                  go_loopw [18, 20] (fun v p wq => ∃ s : Nat, s ≤ zs2.length ∧ p = .int .i64 (s : Int) ∧ v = .int .i64 (vj : Int) ∧ (∀ q, q < s → zs2[q]? ≠ some ((J : Int) + 1, T)) ∧ Below w12.heap.size w12 wq) (fun _ p _ => zs2.length - (intOf p).toNat)
                  case atStart => exact ⟨0, Nat.zero_le _, rfl, rfl, fun q hq => by omega, hbj⟩
                  case round =>
                    obtain ⟨s, hs, rfl, rfl, hno, hbs⟩ := hrel
                    have HNO := Lib.hid hno
                    clear hno
                    by_cases hsl : s < zs2.length
                    · have g3 : (s : Int) < (zs2.length : Int) := by omega
                      have g30 : (0 : Int) ≤ (s : Int) := by omega
                      obtain ⟨a1, z, rfl, _, hz1, ha1, hw1, _⟩ := row_at (fun z : Int × ToldV => z.2.c) 5 (fun _ => rfl) (Reads.of_own hO112) (by omega) hsl
                      obtain ⟨a2, z', rfl, _, hz2, ha2, hw2, _⟩ := row_at (fun z : Int × ToldV => [Value.int .i64 z.1]) 1 (fun _ => rfl) (Reads.of_own hO212) (by omega) hsl
                      obtain rfl : z = z' := by rw [hz1] at hz2; injection hz2
                      obtain ⟨zj, zt⟩ := z
                      have qw : ∀ z, Below w12.heap.size w12 z → z.cell? (a2.add (s * 1)) = some (.int .i64 zj) := fun z h => (h.cell ha2).trans (by have := hw2 0 _ rfl; rwa [add_zero_addr] at this)
                      rw [Nat.mul_one] at qw
                      have qs : ∀ z, Below w12.heap.size w12 z → ∀ i u, zt.c[i]? = some u → z.cell? ((a1.add (s * 5)).add i) = some u := fun z h i u hu => (h.cell (by rw [block_of_add]; exact ha1)).trans (hw1 i u hu)
                      have hzl : zt.c.length = 5 := rfl
                      have HZ1 := Lib.hid hz1
                      have HQS := Lib.hid qs
                      clear hw1 hw2 hz1 hz2 qs
                      have hbd := hbs.drew
                      by_cases hj : zj = (J : Int) + 1
                      · subst hj
                        have heq := fun z => eq_told 9997 zt T z
                        obtain ⟨ez, hez⟩ : ∃ q, decide (zt = T) = q := ⟨_, rfl⟩
                        simp only [hez] at heq
                        have HEQ := Lib.hid heq
                        have HEZ := Lib.hid hez
                        clear heq hez
                        go_upto_region 37 with (fail)
                        refine wp_region_plan [(0, true), (1, true), (2, true), (3, true), (4, true), (5, true), (6, true), (7, true), (8, true), (9, true), (10, true), (11, true), (12, true), (13, true)] (fun z => Below w12.heap.size w12 z) (by kernel_rfl) (by kernel_rfl) (by kernel_rfl) (by kernel_rfl) (fun _ _ d _ _ h => by cases d <;> exact h) hbd ?_
                        simp only [planOps, List.getElem?_toArray, List.getElem?_cons_zero, List.getElem?_cons_succ]
                        iterate 10 (refine wpS_q ?_ (by rfl) ?_ ?_; rotate_left; (focus (intro z hz; (try dsimp only at hz); go_simp; rfl)); simp only [Act.put, List.setIfInBounds_toArray, List.set_cons_zero, List.set_cons_succ])
                        refine wpS_q (.agg zt.c.toArray) (by rfl) (fun z hz => run_load_any rfl (a1.add (s * 5)) zt.c Tryd.underlying38 rfl iTold hzl (HQS.out z hz) rfl) ?_
                        simp only [Act.put, List.setIfInBounds_toArray, List.set_cons_zero, List.set_cons_succ]
                        refine wpS_q (.agg T.c.toArray) (by rfl) (fun z hz => load_row_run rfl gt T.c.toArray Tryd.underlying38 rfl iTold (hT12.below hz hT12.lt) hTs rfl) ?_
                        simp only [Act.put, List.setIfInBounds_toArray, List.set_cons_zero, List.set_cons_succ]
                        refine wpS_q (.bool ez) (by rfl) (fun z hz => run_eqAgg rfl gTold rfl rfl (HEQ.out z)) ?_
                        simp only [Act.put, List.setIfInBounds_toArray, List.set_cons_zero, List.set_cons_succ]
                        iterate 1 (refine wpS_q ?_ (by rfl) ?_ ?_; rotate_left; (focus (intro z hz; (try dsimp only at hz); go_simp; rfl)); simp only [Act.put, List.setIfInBounds_toArray, List.set_cons_zero, List.set_cons_succ])
                        refine wpS_nil ?_
                        cases ez
                        · go_wp2_with fail
                          have hne : ¬ zt = T := of_decide_eq_false HEZ.out
                          exact ⟨⟨s + 1, by omega, congrArg (Value.int .i64) (by omega), rfl, fun q hq => by
                            by_cases hqs : q < s
                            · exact HNO.out q hqs
                            · obtain rfl : q = s := by omega
                              rw [HZ1.out]
                              intro h
                              injection h with h
                              injection h with _ h2
                              exact hne h2, hbd⟩, by simp only [intOf]; omega⟩
                        · go_wp2_with fail
                          go_meet
                          have hye : zt = T := of_decide_eq_true HEZ.out
                          have hmem : ((J : Int) + 1, T) ∈ zs2 := List.mem_of_getElem? (by rw [← hye]; exact HZ1.out)
                          exact ⟨by rw [if_pos hmem]; exact congrArg (Value.int .i64) (by omega), hbd⟩
                      · have hjb : (zj == (J : Int) + 1) = false := beq_eq_false_iff_ne.2 hj
                        go_upto_region 37 with (fail)
                        refine wp_region_plan [(0, true), (1, true), (2, true), (3, true), (4, true), (5, true), (6, true), (7, true), (8, true), (9, true), (10, true), (11, true), (12, true), (13, true)] (fun z => Below w12.heap.size w12 z) (by kernel_rfl) (by kernel_rfl) (by kernel_rfl) (by kernel_rfl) (fun _ _ d _ _ h => by cases d <;> exact h) hbd ?_
                        simp only [planOps, List.getElem?_toArray, List.getElem?_cons_zero, List.getElem?_cons_succ]
                        repeat (first
                          | (refine wpS_skip (by rfl) ?_; simp only [Act.put, List.setIfInBounds_toArray, List.set_cons_zero, List.set_cons_succ])
                          | (refine wpS_q ?_ (by rfl) ?_ ?_; rotate_left; (focus (intro z hz; (try dsimp only at hz); go_simp; rfl)); simp only [Act.put, List.setIfInBounds_toArray, List.set_cons_zero, List.set_cons_succ]))
                        refine wpS_nil ?_
                        go_wp2_with fail
                        exact ⟨⟨s + 1, by omega, congrArg (Value.int .i64) (by omega), rfl, fun q hq => by
                          by_cases hqs : q < s
                          · exact HNO.out q hqs
                          · obtain rfl : q = s := by omega
                            rw [HZ1.out]
                            intro h
                            injection h with h
                            injection h with h1 _
                            exact hj h1, hbd⟩, by simp only [intOf]; omega⟩
                    · obtain rfl : s = zs2.length := by omega
                      have g3 : ¬ (zs2.length : Int) < (zs2.length : Int) := by omega
                      have hnm : ¬ ((J : Int) + 1, T) ∈ zs2 := fun h => by
                        obtain ⟨q, hq, he⟩ := List.mem_iff_getElem.1 h
                        exact HNO.out q hq (by rw [List.getElem?_eq_getElem hq, he])
                      go_wp2_with fail
                      go_meet
                      exact ⟨by rw [if_neg hnm], hbs⟩
                case rest =>
                  obtain ⟨rfl, hbx⟩ := hcut
                  go_wp2_with fail
                  exact ⟨⟨J + 1, by omega, congrArg (Value.int .i64) (by omega), congrArg (Value.int .i64) (by rw [HVS.out]; split <;> omega), hbx⟩, by simp only [intOf]; omega⟩
              · obtain rfl : J = 2 * f + 1 := by omega
                have g2 : ¬ (((2 * f + 1 : Nat) : Int) + 1) ≤ 2 * (f : Int) + 1 := by omega
                have hv := HV.out
                obtain ⟨vj, hvj⟩ : ∃ v, votesF zs2 T (2 * f + 1) = v := ⟨_, rfl⟩
                rw [hvj] at hv hvle ⊢
                have g4 : ¬ (vj : Int) < (f : Int) + 1 := by omega
                clear hvs hvj
                have hXn := hX12.below hbj hX12.lt
                have hO1n := own_below hO112 hbj
                have hO2n := own_below hO212 hbj
                have hbn := below_B hBe hb12 hbj
                repeat (first
                  | go_values | go_skip | go_guarded | go_step | go_upon | go_back)
                exact ⟨⟨k + 1, c3, zs2, A3, A4, c4, c5, by omega, congrArg (Value.int .i64) (by omega), congrArg (Value.int .u64) (by rw [HTM3.out]), rfl, rfl, congrArg Value.bool hHP3.out.symm, hA3, by rw [HTM3.out]; omega, hz150, hO1n, hO2n, hXn, hbn⟩, by simp only [intOf]; omega⟩
    · obtain rfl : k = m := by omega
      have g1 : ¬ (k : Int) < (k : Int) := by omega
      repeat (first
        | (go_at_call 17; refine Hid.out ?_)
        | go_values | go_skip | go_guarded | go_step | go_upon | go_back)
      refine Lib.hid ?_
      refine (ctime_any wr g c' hX).mono ?_
      rintro e w3 ⟨rfl, rfl⟩
      simp only []
      repeat (first
        | (go_at_call 8; refine Hid.out ?_)
        | go_values | go_skip | go_guarded | go_step | go_upon | go_back)
      refine Lib.hid ?_
      refine (HW.out _ (by rw [hBe]; exact hbk)).mono ?_
      rintro e w4 ⟨rfl, hb4⟩
      simp only []
      go_wp2_with fail
      go_ret
      exact ⟨rfl, below_B hBe hbk hb4⟩
theorem clientAccepts_walk (W : World) (hT : H.Tab W H.tblL) (nn : UInt8) (A : Option Addr) (m c : Nat) (l : List StV) (_ : l.length = m) (hr : Reads W W.heap.size 15 A m (l.flatMap StV.c)) (_ : ∀ a ∈ l, True ∧ (StV.c a).length = 15) (_ : m ≤ c) (hz : c * 152 ≤ 140737488351232) :
    Calls Tryd.prog 4 #[.int .u8 (nn.toNat : Int), .slice A m c] W fun e w' => e = .returned (.bool true) ∧ Below W.heap.size W w' :=
  clientAccepts_any 64 rfl W nn A m c l hr (by omega) H.tblL rfl hT
end Go.Proofs.YtbbcofpdfkhljaaDoor
