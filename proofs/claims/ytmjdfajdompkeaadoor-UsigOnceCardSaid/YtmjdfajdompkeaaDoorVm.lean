/- The law UsigOnce, walked. -/
import Derived.Test.YtmjdfajdompkeaaDoorVl
import Derived.Test.YtmjdfajdompkeaaDoorVj
import Derived.Test.YtmjdfajdompkeaaDoorUo
namespace Go.Proofs.YtmjdfajdompkeaaDoor
open Go.RowKit Go.Rat
theorem repB3 : repB 3 = true := by decide
theorem check_next (n : Nat) (tb : List Int) (N : Nat) (hN : N + 2 ≤ 65536) {b : List UInt8} (hb : b.length ≤ 1024) (T : List UInt8) : checkU n tb 3 (N + 2) b T = decide (H.numF n tb 3 (N + 2) b = T) := by
  unfold checkU
  rw [repB3, numB, decide_eq_true (show 1 ≤ N + 2 ∧ N + 2 ≤ 65536 by omega), decide_eq_true hb]
  simp only [Bool.true_and]
  exact decide_eq_decide.2 ⟨Eq.symm, Eq.symm⟩
set_option maxRecDepth 20000 in
set_option maxHeartbeats 8000000 in
theorem usigOnce_any (n : Nat) (hn64 : n = 64) (w : World) (tb : List Int) (htb : H.tblL = tb) (hT : H.Tab w tb) (A : Option Addr) (m c : Nat) (l : List Crash) (hr : Reads w w.heap.size 3 A m (l.flatMap crashC)) (hi : ∀ x ∈ l, SB.ok w x.1 ∧ SB.ok w x.2.2) :
    Calls Tryd.prog 8 #[.slice A m c] w fun e w' => e = .returned (.bool true) ∧ Below w.heap.size w w' := by
  by_cases hbig : 30 < m
  · have hbi : (30 : Int) < (m : Int) := by omega
    go_enter Tryd.func8, Tryd.ntmps8
    go_wp2_with (go_at_call 9; refine (works7_any n hn64 w tb htb hT).mono ?_; rintro e w2 ⟨rfl, hb2⟩)
    go_ret
    exact ⟨rfl, hb2⟩
  have hbi : ¬ (30 : Int) < (m : Int) := by omega
  obtain ⟨hst, hf0, hl0⟩ := pw_start
  obtain ⟨base, hbase⟩ : ∃ b, w.heap.size = b := ⟨_, rfl⟩
  obtain ⟨d0, hd0⟩ : ∃ d, (fmF ds0 0).1 = d := ⟨_, rfl⟩
  rw [hd0] at hst hl0
  have hon : OnD 0 0 [] d0 := ⟨Nat.le_refl _, Nat.zero_le _, [], rfl, hst⟩
  have HBASE := Lib.hid hbase
  have HN64 := Lib.hid hn64
  have HTB := Lib.hid htb
  have HD0 := Lib.hid hd0
  have HF0 := Lib.hid hf0
  have HON := Lib.hid hon
  have HI := Lib.hid hi
  clear hd0 hf0 hi hst hl0 hon hn64 htb
  go_enter Tryd.func8, Tryd.ntmps8
  go_wp2_with fail
  refine (dnew_any w).mono ?_
  rintro e w1 ⟨l0, rfl, hD, hb⟩
  have hbb : Below w.heap.size w w1 ∧ base ≤ w1.heap.size := ⟨hb, by rw [← hbase]; exact hb.size⟩
  rw [hbase] at hD
  clear hb hbase
  simp only []
  obtain ⟨g, hlg⟩ : ∃ g, l0.g = g := ⟨_, rfl⟩
  rw [hlg]
  go_wp2_with fail
  refine (uformat_any w1 base l0 ds0 hD g hlg hbb.2 (by decide) 0 (by omega)).mono ?_
  rw [HF0.out, HD0.out]
  rintro e w2 ⟨l1, rfl, hlg1, hD1, hm⟩
  have hbb := base_moved hbb (Nat.le_of_eq HBASE.out) hD hm
  simp only []
  clear hm hD hlg
  go_upto_block 0 with (fail)
  have hbb1 := hbb.1
  have hbb2 := hbb.2
  go_cut [] (fun wx => Below w.heap.size w wx)
  case first =>
    go_wp2_with fail
    go_loopw [4, 5] (fun v i wr => ∃ (k : Nat) (d : DS) (l' : DL) (gs : List (List UInt8)) (N : Nat) (b : List UInt8) (Ag : Option Addr) (cg : Nat), k ≤ m ∧ v = .slice Ag gs.length cg ∧ i = .int .i64 (k : Int) ∧ Hid (OnD k N b d) ∧ Hid (Given1 gs N b) ∧ SRow wr l' base Ag cg gs ∧ DiskAt wr base l' d ∧ l'.g = g ∧ Below w.heap.size w wr ∧ base ≤ wr.heap.size) (fun _ i _ => m - (intOf i).toNat)
    case atStart => exact ⟨0, d0, l1, [], 0, [], none, 0, Nat.zero_le _, rfl, rfl, HON, Lib.hid (.inl ⟨rfl, fun h => absurd h (by omega)⟩), SRow.nil _ _ _, hD1, hlg1, hbb1, hbb2⟩
    case round =>
      clear hbb hbb1 hbb2 hD1 hlg1
      obtain ⟨k, d, l', gs, N, b, Ag, cg, hk, rfl, rfl, HOND, HGV, hRw, hD, hlg, hbk, hbks⟩ := hrel
      have hbb : Below w.heap.size w wr ∧ base ≤ wr.heap.size := ⟨hbk, hbks⟩
      clear hbk hbks
      by_cases hkm : k < m
      · obtain ⟨ad, ⟨⟨A1, n1, z1, b1⟩, nn, ⟨A2, n2, z2, ps⟩⟩, e, hxl, hadl, q0, q1, q2⟩ := crash_at hr hkm
        cases e
        obtain ⟨⟨hR1, hnc1, _⟩, ⟨hR2, _, _⟩⟩ := HI.out _ hxl
        simp only [SB.v] at q0 q1 q2 hR1 hR2 hnc1
        have hl1 := hR1.len
        obtain ⟨P, hP⟩ : ∃ P, ad.add (k * 3) = P := ⟨_, rfl⟩
        rw [hP] at hadl q0 q1 q2
        have Q0 : Hid (∀ z, Below w.heap.size w z → z.cell? P = some (.slice A1 n1 z1)) := Lib.hid (fun z hz => (hz.cell hadl).trans q0)
        have Q1 : Hid (∀ z, Below w.heap.size w z → z.cell? ⟨P.block, P.off + 1, none⟩ = some (.int .u8 (nn.toNat : Int))) := Lib.hid (fun z hz => (hz.cell (p := ⟨P.block, P.off + 1, none⟩) hadl).trans q1)
        have Q2 : Hid (∀ z, Below w.heap.size w z → z.cell? ⟨P.block, P.off + 2, none⟩ = some (.slice A2 n2 z2)) := Lib.hid (fun z hz => (hz.cell (p := ⟨P.block, P.off + 2, none⟩) hadl).trans q2)
        have HL1 := Lib.hid hl1
        have g1 : (k : Int) < (m : Int) := by omega
        have g0 : (0 : Int) ≤ (k : Int) := by omega
        have hnn := nn.toNat_lt
        clear hxl q0 q1 q2 hl1 hadl
        have c0 := Q0.out _ hbb.1
        have c2 := Q2.out _ hbb.1
        by_cases hp2 : 200 < n2
        · have hp2' : (200 : Int) < (n2 : Int) := by omega
          clear hp2
          go_wp2_with (go_at_call 9; refine (works7_any n HN64.out _ tb HTB.out (H.Tab.below hT hbb.1)).mono ?_; rintro e w2 ⟨rfl, hb2⟩)
          go_ret
          exact ⟨rfl, below_next' hbb.1 hb2⟩
        have hp2' : ¬ (200 : Int) < (n2 : Int) := by omega
        by_cases hb1 : 1024 < n1
        · have hb1' : (1024 : Int) < (n1 : Int) := by omega
          clear hp2 hb1
          go_wp2_with (go_at_call 9; refine (works7_any n HN64.out _ tb HTB.out (H.Tab.below hT hbb.1)).mono ?_; rintro e w2 ⟨rfl, hb2⟩)
          go_ret
          exact ⟨rfl, below_next' hbb.1 hb2⟩
        have hb1' : ¬ (1024 : Int) < (n1 : Int) := by omega
        have hbl : b1.length ≤ 1024 := by have := HL1.out; omega
        have hk30 : k < 1000 := by omega
        obtain ⟨e1, cs, hcs, husg, hcp⟩ := OnD.new HOND.out
        have hNk : N ≤ k := HOND.out.1
        have hbN : b.length ≤ 1024 := HOND.out.2.1
        obtain ⟨f, hf⟩ : ∃ f, (nn.toNat : Int) % 16 = f := ⟨_, rfl⟩
        obtain ⟨s3, dr, s', M, S, E, s1, s2⟩ := OnD.step HOND.out hk30 n tb hcs f hbl ps
        have HE1 := Lib.hid e1
        have HCS := Lib.hid hcs
        have HUSG := Lib.hid husg
        have HF := Lib.hid hf
        have HS1 := Lib.hid s1
        have HS2 := Lib.hid s2
        have HS3 := Lib.hid s3
        clear hp2 hb1 e1 hcs husg s1 s2 s3 hf
        go_wp2_with fail
        refine (unew_any n HN64.out wr base l' d hD g hlg hbb.2 3 0 (by omega) tb (H.Tab.below hT hbb.1)).mono ?_
        rw [HE1.out, HCS.out]
        rintro e w3 ⟨(⟨h, _⟩ | ⟨_, k1, c1, m0, b0, rfl, hus, hU, _, _⟩), hb⟩
        · exact absurd rfl h
        obtain ⟨rfl, rfl⟩ : m0 = N ∧ b0 = b := by
          have := hus.symm.trans HUSG.out
          injection this with this
          injection this with e1 e2
          exact ⟨e1, e2⟩
        have hbb := below_base hbb hb
        have hD := hD.below hb
        have hRw := hRw.below hb
        simp only []
        clear hb hus c0 c2
        go_wp2_with fail
        refine (ulast_any n HN64.out w3 base l' k1 c1 _ hU tb (H.Tab.below hT hbb.1)).mono ?_
        have htl2 : (lastT n tb ⟨3, m0, b0, cs⟩).length = 32 := by
          rw [lastT]
          split
          · exact z32_length
          · exact H.numF_length _ _ _ _ _
        have hchk : 0 < m0 → checkU n tb 3 m0 b0 (lastT n tb ⟨3, m0, b0, cs⟩) = true := fun h0 => by
          rw [lastT, if_neg (show ¬ m0 = 0 by omega)]
          exact check_own repB3 (by omega) hbN
        obtain ⟨T, hTT⟩ : ∃ T, lastT n tb ⟨3, m0, b0, cs⟩ = T := ⟨_, rfl⟩
        have hlB : lastB ⟨3, m0, b0, cs⟩ = if m0 = 0 then [] else b0 := rfl
        rw [hTT] at htl2 hchk ⊢
        rw [hlB]
        have hTs : (bvs T).toArray.size = 32 := by rw [bvs_size, htl2]
        have HCHK := Lib.hid hchk
        clear hchk hTT hlB
        rintro e w7 ⟨A7, N7, c7, rfl, hO7, hb⟩
        have hbb := below_base hbb hb
        have hD := hD.below hb
        have hRw := hRw.below hb
        have hU := hU.below hb
        simp only []
        clear hb
        repeat (first
          | ((with_reducible refine wpl_store_fresh (bvs T).toArray i32 ?_ hTs (bvs_all _) ?_ ?_ ?_); (focus kernel_rfl); (focus rfl); (focus rfl); intro w8 hS8 hl8 hb8; simp only [Act.put]; refine Hid.out ?_)
          | go_values | go_skip | go_guarded | go_step | go_upon | go_back)
        refine Lib.hid ?_
        have hbb := below_base hbb hb8
        have hD := hD.below hb8
        have hRw := hRw.below hb8
        have hU := hU.below hb8
        have hO7 := obBelow hO7 hb8
        obtain ⟨g10, hg10⟩ : ∃ x, w7.heap.size = x := ⟨_, rfl⟩
        rw [hg10] at hS8 ⊢
        clear hb8 hl8 hg10
        obtain ⟨L, hL⟩ : ∃ L, gs.length = L := ⟨_, rfl⟩
        have hLN : L ≤ m0 ∧ m0 ≤ L + 1 := by
          rcases HGV.out with h | h
          · have := h.1; omega
          · omega
        have u1 : IntKind.u64.wrap (L : Int) = (L : Int) := IntWalk.u64_in _ (by omega)
        have u2 : IntKind.u64.wrap ((L : Int) + 1) = (L : Int) + 1 := IntWalk.u64_in _ (by omega)
        have u3 : ¬ ((L : Int) + 1 < (m0 : Int)) := by omega
        have u4 : ¬ ((m0 : Int) < (L : Int)) := by omega
        have hc7 := (OB.cap hO7).1
        rw [hL]
        go_upto_if 80 with (fail)
        go_cut [4] (fun v wx => ∃ (gs' : List (List UInt8)) (A' : Option Addr) (c' : Nat), v = .slice A' gs'.length c' ∧ Hid (Given gs' m0 b0) ∧ SRow wx l' base A' c' gs' ∧ DiskAt wx base l' d ∧ UsigAt wx base l' k1 c1 ⟨3, m0, b0, cs⟩ ∧ Blk wx g10 24 (bvs T).toArray ∧ RB wx A7 N7 (if m0 = 0 then [] else b0) ∧ Below w.heap.size w wx ∧ base ≤ wx.heap.size)
        case first =>
          subst hL
          rcases HGV.out with hg | hg
          · have e0 : ((m0 : Int) == (gs.length : Int) + 1) = false := by
              have := hg.1
              rw [beq_eq_false_iff_ne]
              omega
            go_wp2_with fail
            go_meet
            exact ⟨gs, Ag, cg, rfl, Lib.hid hg, hRw, hD, hU, hS8, hO7.reads, hbb.1, hbb.2⟩
          · have e0 : ((m0 : Int) == (gs.length : Int) + 1) = true := by
              rw [beq_iff_eq]
              omega
            have hm0 : (if m0 = 0 then [] else b0) = b0 := if_neg (by omega)
            rw [hm0] at hO7
            have hcv := conv_str hO7.reads c7
            have hlt8 : ∀ x, l'.fp x → x < w8.heap.size := fun x hx => (hD.fp_lt hx).2
            have hNl : gs.length < 1000000 := by omega
            have HG := Lib.hid hg
            have HM0 := Lib.hid hm0
            clear hg hm0
            go_wp2_with (at_builtin; refine app_strs rfl _ _ rfl l' hlt8 base Ag cg gs rfl hRw b0 9 _ rfl rfl hNl hbb.2 ?_; intro A9 c9 w10 hR10 hb10 hG10)
            have hba := below_alloc w8 (.cells #[.string (bstr b0)] 9)
            have hRa := hRw.below hba
            have hOa := obBelow hO7 hba
            have hbb10 : Below w.heap.size w w10 := (below_alloc2 hbb.1 (Nat.le_refl _) _).trans (hb10.mono (Nat.le_of_eq HBASE.out))
            go_meet
            refine ⟨gs ++ [b0], A9, c9, by rw [List.length_append]; rfl, Lib.hid ?_, hR10, hRa.keepD hG10 (hD.below hba), hRa.keepU hG10 (hU.below hba), hRa.keepB hG10 (hS8.below hba hS8.lt), by rw [HM0.out]; exact hRa.keepR hG10 hOa.reads (fun x hx => cells_row hOa hx) str_ne8, hbb10, Nat.le_trans hbb.2 (Nat.le_trans hba.size hb10.size)⟩
            have := Given.push (gs := gs) rfl b0
            rw [← HG.out] at this
            exact this
        case rest =>
          clear hbb hD hU hRw hS8 hO7 HGV
          obtain ⟨gs2, A3, c3, rfl, HGV, hRw, hD, hU, hS8, hr7, hbk, hbks⟩ := hcut
          have hbb : Below w.heap.size w wc ∧ base ≤ wc.heap.size := ⟨hbk, hbks⟩
          have HGL := Lib.hid HGV.out.1
          clear hbk hbks
          go_upto_region 20 with (fail)
          go_cut [104] (fun t wx => t = .bool false ∧ SRow wx l' base A3 c3 gs2 ∧ DiskAt wx base l' d ∧ UsigAt wx base l' k1 c1 ⟨3, m0, b0, cs⟩ ∧ Below w.heap.size w wx ∧ base ≤ wx.heap.size)
          case first =>
            by_cases hm0 : m0 = 0
            · have hd : decide (0 < m0) = false := decide_eq_false (by omega)
              have h5 : ¬ 0 < m0 := by omega
              clear hm0
              go_wp2_with fail
              refine wp_region_plan [(0, true), (1, true), (2, true), (3, true), (4, true), (5, true), (6, true), (7, true), (8, true), (9, true), (10, true), (11, true), (12, true), (13, true), (14, true), (15, false), (16, true), (17, true), (18, true)] (fun z => Below w.heap.size w z) (by kernel_rfl) (by kernel_rfl) (by kernel_rfl) (by kernel_rfl) (fun _ _ d _ _ h => by cases d <;> exact h) hbb.1.drew ?_
              simp only [planOps, List.getElem?_toArray, List.getElem?_cons_zero, List.getElem?_cons_succ]
              repeat (first
                | (refine wpS_skip (by rfl) ?_; simp only [Act.put, List.setIfInBounds_toArray, List.set_cons_zero, List.set_cons_succ])
                | (refine wpS_q ?_ (by rfl) ?_ ?_; rotate_left; (focus (intro z hz; (try dsimp only at hz); go_simp; rfl)); simp only [Act.put, List.setIfInBounds_toArray, List.set_cons_zero, List.set_cons_succ]))
              refine wpS_nil ?_
              go_wp2_with fail
              go_meet
              exact ⟨rfl, hRw.below drew_below, hD.below drew_below, hU.below drew_below, (below_base hbb drew_below).1, (below_base hbb drew_below).2⟩
            · rw [if_neg hm0] at hr7
              obtain ⟨q, hq⟩ : ∃ q, m0 - 1 = q := ⟨_, rfl⟩
              have hgq := HGV.out.2 (by omega)
              rw [hq] at hgq
              obtain ⟨ag, rfl, hcell⟩ := hRw.at_ hgq
              have hck0 := HCHK.out (by omega)
              have h1' : q < gs2.length := by have := HGL.out; omega
              have h1 : (q : Int) < (gs2.length : Int) := by omega
              have HGQ := Lib.hid hgq
              have h0 : (0 : Int) ≤ (q : Int) := by omega
              have h2 : (m0 : Int) - 1 = (q : Int) := by omega
              have h5 : 0 < m0 := by omega
              have hd : decide (0 < m0) = true := decide_eq_true h5
              have hi' : IntKind.u64.wrap (q : Int) = (q : Int) := IntWalk.u64_in _ (by omega)
              have HCK := Lib.hid hck0
              have hcv : ∀ z, (z.cell? (ag.add q) = some (.string (bstr b0)) ∧ RB z A7 N7 b0 ∧ Blk z g10 24 (bvs T).toArray) → (convert 23 9 (.slice A7 N7 c7)).run Tryd.prog z = .ok (.string (bstr b0)) z := fun z hz => conv_str hz.2.1 c7
              clear hq hm0 hgq hck0
              go_wp2_with fail
              refine wp_region_plan [(0, true), (1, true), (2, true), (3, true), (4, true), (5, true), (6, true), (7, true), (8, true), (9, true), (10, true), (11, true), (12, true), (13, true), (14, true), (15, false), (16, true), (17, true), (18, true)] (fun z => z.cell? (ag.add q) = some (.string (bstr b0)) ∧ RB z A7 N7 b0 ∧ Blk z g10 24 (bvs T).toArray) (by kernel_rfl) (by kernel_rfl) (by kernel_rfl) (by kernel_rfl) (fun _ _ d _ _ h => by cases d <;> exact h) ⟨hcell, hr7.below drew_below, hS8⟩ ?_
              simp only [planOps, List.getElem?_toArray, List.getElem?_cons_zero, List.getElem?_cons_succ]
              iterate 9 (refine wpS_q ?_ (by rfl) ?_ ?_; rotate_left; (focus (intro z hz; (try dsimp only at hz); go_simp; rfl)); simp only [Act.put, List.setIfInBounds_toArray, List.set_cons_zero, List.set_cons_succ])
              refine wpS_q (.string (bstr b0)) (by rfl) (fun z hz => by have hcv := conv_str hz.2.1 c7; go_simp) ?_
              simp only [Act.put, List.setIfInBounds_toArray, List.set_cons_zero, List.set_cons_succ]
              have hne : ((bstr b0).toList != (bstr b0).toList) = false := by simp
              iterate 4 (refine wpS_q ?_ (by rfl) ?_ ?_; rotate_left; (focus (intro z hz; (try dsimp only at hz); go_simp; rfl)); simp only [Act.put, List.setIfInBounds_toArray, List.set_cons_zero, List.set_cons_succ])
              refine wpS_q (.agg (bvs T).toArray) (by rfl) (fun z hz => load_row_run rfl g10 (bvs T).toArray Tryd.underlying24 rfl i32 hz.2.2 hTs rfl) ?_
              simp only [Act.put, List.setIfInBounds_toArray, List.set_cons_zero, List.set_cons_succ]
              refine wpS_l (by rfl) (fun K hK => ?_)
              go_wp2_with fail
              refine (ucheck_any n HN64.out wc.drew 3 m0 A7 N7 c7 b0 (hr7.below drew_below) hc7 T htl2 tb (H.Tab.below hT hbb.1.drew)).mono ?_
              rw [HCK.out]
              rintro e w10 ⟨rfl, hb10⟩
              have hb10 : Below wc.heap.size wc w10 := drew_below.trans hb10
              obtain ⟨_, e, hc10⟩ := (hRw.below hb10).at_ HGQ.out
              cases e
              refine hK _ _ (fun z => z.cell? (ag.add q) = some (.string (bstr b0)) ∧ RB z A7 N7 b0 ∧ Blk z g10 24 (bvs T).toArray) ⟨hc10, hr7.below hb10, hS8.below hb10 hS8.lt⟩ (fun _ h => h) ?_
              clear hK hc10
              iterate 3 (refine wpS_q ?_ (by rfl) ?_ ?_; rotate_left; (focus (intro z hz; (try dsimp only at hz); go_simp; rfl)); simp only [Act.put, List.setIfInBounds_toArray, List.set_cons_zero, List.set_cons_succ])
              refine wpS_nil ?_
              go_wp2_with fail
              go_meet
              exact ⟨rfl, hRw.below hb10, hD.below hb10, hU.below hb10, (below_base hbb hb10).1, (below_base hbb hb10).2⟩
          case rest =>
            clear hbb hD hU hRw hS8 hr7 hTs htl2 HCHK hc7
            obtain ⟨rfl, hRw, hD, hU, hbk, hbks⟩ := hcut
            have hbb : Below w.heap.size w wc ∧ base ≤ wc.heap.size := ⟨hbk, hbks⟩
            clear hbk hbks
            have c1' := Q1.out _ hbb.1
            go_wp2_with fail
            refine (gfuse _ base g l' d hD hlg ((nn.toNat : Int) % 16) (by omega)).mono ?_
            rw [HF.out]
            rintro e w9 ⟨l5, rfl, hlg5, hD5, hm5⟩
            have hU := hU.moved hm5
            have hRw := hRw.moved hm5
            have hbb := base_moved hbb (Nat.le_of_eq HBASE.out) hD hm5
            simp only []
            clear hm5 hD hlg c1'
            have c0 := Q0.out _ hbb.1
            go_wp2_with fail
            refine (unext_any n HN64.out w9 base l5 (fuseD d f) hD5 g hlg5 hbb.2 (by rw [HS3.out]; decide) k1 c1 _ hU (by simp only [hcp]; omega) A1 n1 z1 b1 (hR1.below hbb.1) hnc1 (arg_out hR1 (Nat.le_of_eq HBASE.out) hD5 hU) tb w hT hbb.1 (Nat.le_of_eq HBASE.out)).mono ?_
            rw [HS1.out]
            rintro e w11 ⟨l6, rfl, hlg6, hD6, hU6, hm⟩
            have hbb := base_umoved hbb (Nat.le_of_eq HBASE.out) hD5 hU hm
            have hRw := hRw.umoved hm hU
            simp only [] at hD6 ⊢
            have hSl : S.length = 32 := by
              rcases HS2.out.res with ⟨_, h, _⟩ | ⟨_, h, _⟩
              · rw [h]
                exact H.numF_length _ _ _ _ _
              · rw [h]
                exact z32_length
            have hSs : (bvs S).toArray.size = 32 := by rw [bvs_size, hSl]
            clear hm hD5 hU hlg5 c0 hU6
            repeat (first
              | ((with_reducible refine wpl_store_fresh (bvs S).toArray i32 ?_ hSs (bvs_all _) ?_ ?_ ?_); (focus kernel_rfl); (focus rfl); (focus rfl); intro w12 hS12 hl12 hb12; simp only [Act.put]; refine Hid.out ?_)
              | go_values | go_skip | go_guarded | go_step | go_upon | go_back)
            refine Lib.hid ?_
            have hbb := below_base hbb hb12
            have hD6 := hD6.below hb12
            have hRw := hRw.below hb12
            obtain ⟨g12, hg12⟩ : ∃ x, w11.heap.size = x := ⟨_, rfl⟩
            rw [hg12] at hS12 ⊢
            clear hb12 hl12 hg12
            go_upto_if 126 with (fail)
            go_cut [4] (fun v wx => ∃ (gs' : List (List UInt8)) (A' : Option Addr) (c' N' : Nat) (b' : List UInt8), v = .slice A' gs'.length c' ∧ Hid (OnD (k + 1) N' b' (onAll (offD dr) ps)) ∧ Hid (Given1 gs' N' b') ∧ SRow wx l6 base A' c' gs' ∧ DiskAt wx base l6 dr ∧ Below w.heap.size w wx ∧ base ≤ wx.heap.size)
            case first =>
              rcases HS2.out.res with ⟨rfl, hS, rfl, hON⟩ | ⟨rfl, hS, rfl, hON⟩
              · have hk1 : checkU n tb 3 (m0 + 1) b1 S = true := by
                  rw [hS]
                  exact check_own repB3 (by omega) hbl
                have hk2 : checkU n tb 3 (m0 + 2) b1 S = decide (H.numF n tb 3 (m0 + 2) b1 = S) := check_next n tb m0 (by omega) hbl S
                have hF2 := H.numF_length n tb 3 (m0 + 2) b1
                obtain ⟨F2, hFF⟩ : ∃ F2, H.numF n tb 3 (m0 + 2) b1 = F2 := ⟨_, rfl⟩
                rw [hFF] at hk2 hF2
                have heq := fun w => H.eql32 F2 S hF2 hSl w
                obtain ⟨v, hv⟩ : ∃ v, decide (F2 = S) = v := ⟨_, rfl⟩
                rw [hv] at hk2 heq
                have HEQ := Lib.hid heq
                have hvv : (v != v) = false := by cases v <;> rfl
                have u5 : IntKind.u64.wrap ((m0 : Int) + 1) = (m0 : Int) + 1 := IntWalk.u64_in _ (by omega)
                have u6 : IntKind.u64.wrap ((m0 : Int) + 1 + 1) = (m0 : Int) + 1 + 1 := IntWalk.u64_in _ (by omega)
                have hN1 : ((m0 + 1 : Nat) : Int) = (m0 : Int) + 1 := by omega
                have hN2 : ((m0 + 2 : Nat) : Int) = (m0 : Int) + 1 + 1 := by omega
                have HK1 := Lib.hid hk1
                have HK2 := Lib.hid hk2
                have HFF := Lib.hid hFF
                have HON := Lib.hid hON
                have HNA := Lib.hid hN1
                have HNB := Lib.hid hN2
                have hnw : Hid (m0 + 2 < 2 ^ 64) := by
                  have h64 : (2 : Nat) ^ 64 = 18446744073709551616 := by decide
                  exact Lib.hid (by omega)
                rw [hN1]
                clear hk1 hk2 hFF hS hv hN1 hN2 hON heq hF2
                rw [show ((0 : Int) == 0) = true from rfl]
                go_upto_region 25 with (fail)
                have QS : ∀ z, (Below w.heap.size w z ∧ Blk z g12 24 (bvs S).toArray) → z.cell? P = some (.slice A1 n1 z1) := fun z hz => Q0.out z hz.1
                go_wp2_with fail
                refine wp_region_plan [(0, true), (1, true), (2, true), (3, true), (4, true), (5, true), (6, true), (7, true), (8, true), (9, true), (10, true), (11, true), (12, false), (13, true), (14, true), (15, true), (16, true), (17, true), (18, true), (19, true), (20, true), (21, true), (22, true), (23, true), (25, true), (26, true), (27, true), (28, true), (29, true), (30, true), (31, true), (33, true), (24, false), (32, false), (34, true), (35, true), (36, true)] (fun z => Below w.heap.size w z ∧ Blk z g12 24 (bvs S).toArray) (by kernel_rfl) (by kernel_rfl) (by kernel_rfl) (by kernel_rfl) (fun _ _ d _ _ h => by cases d <;> exact h) ⟨hbb.1.drew, hS12⟩ ?_
                simp only [planOps, List.getElem?_toArray, List.getElem?_cons_zero, List.getElem?_cons_succ]
                iterate 10 (refine wpS_q ?_ (by rfl) ?_ ?_; rotate_left; (focus (intro z hz; (try dsimp only at hz); go_simp; rfl)); simp only [Act.put, List.setIfInBounds_toArray, List.set_cons_zero, List.set_cons_succ])
                refine wpS_q (.slice A1 n1 z1) (by rfl) (fun z hz => by have := QS z hz; go_simp) ?_
                simp only [Act.put, List.setIfInBounds_toArray, List.set_cons_zero, List.set_cons_succ]
                refine wpS_q (.agg (bvs S).toArray) (by rfl) (fun z hz => load_row_run rfl g12 (bvs S).toArray Tryd.underlying24 rfl i32 hz.2 hSs rfl) ?_
                simp only [Act.put, List.setIfInBounds_toArray, List.set_cons_zero, List.set_cons_succ]
                have hbd := below_base hbb (drew_below (w := w12))
                have hck := ucheck_any n HN64.out w12.drew 3 (m0 + 1) A1 n1 z1 b1 (hR1.below hbd.1) hnc1 S hSl tb (H.Tab.below hT hbd.1)
                rw [HNA.out, HK1.out] at hck
                have hD6 := hD6.below drew_below
                have hRw := hRw.below drew_below
                have hS12 := hS12.below drew_below hS12.lt
                refine wpS_l (by rfl) (fun K hK => ?_)
                go_wp2_with fail
                refine hck.mono ?_
                rintro e w15 ⟨rfl, hb15⟩
                have hbb := below_base hbd hb15
                have hD6 := hD6.below hb15
                have hRw := hRw.below hb15
                have hS12 := hS12.below hb15 hS12.lt
                refine hK _ _ _ ⟨hbb.1, hS12⟩ (fun _ h => h) ?_
                clear hK hck hb15 hbd
                iterate 9 (refine wpS_q ?_ (by rfl) ?_ ?_; rotate_left; (focus (intro z hz; (try dsimp only at hz); go_simp; rfl)); simp only [Act.put, List.setIfInBounds_toArray, List.set_cons_zero, List.set_cons_succ])
                refine wpS_q (.slice A1 n1 z1) (by rfl) (fun z hz => by have := QS z hz; go_simp) ?_
                simp only [Act.put, List.setIfInBounds_toArray, List.set_cons_zero, List.set_cons_succ]
                refine wpS_q (.agg (bvs S).toArray) (by rfl) (fun z hz => load_row_run rfl g12 (bvs S).toArray Tryd.underlying24 rfl i32 hz.2 hSs rfl) ?_
                simp only [Act.put, List.setIfInBounds_toArray, List.set_cons_zero, List.set_cons_succ]
                iterate 6 (refine wpS_q ?_ (by rfl) ?_ ?_; rotate_left; (focus (intro z hz; (try dsimp only at hz); go_simp; rfl)); simp only [Act.put, List.setIfInBounds_toArray, List.set_cons_zero, List.set_cons_succ])
                refine wpS_q (.slice A1 n1 z1) (by rfl) (fun z hz => by have := QS z hz; go_simp) ?_
                simp only [Act.put, List.setIfInBounds_toArray, List.set_cons_zero, List.set_cons_succ]
                refine wpS_q (.agg (bvs S).toArray) (by rfl) (fun z hz => load_row_run rfl g12 (bvs S).toArray Tryd.underlying24 rfl i32 hz.2 hSs rfl) ?_
                simp only [Act.put, List.setIfInBounds_toArray, List.set_cons_zero, List.set_cons_succ]
                have hck := ucheck_any n HN64.out w15 3 (m0 + 2) A1 n1 z1 b1 (hR1.below hbb.1) hnc1 S hSl tb (H.Tab.below hT hbb.1)
                rw [HNB.out, HK2.out] at hck
                refine wpS_l (by rfl) (fun K hK => ?_)
                go_wp2_with fail
                refine hck.mono ?_
                rintro e w16 ⟨rfl, hb16⟩
                have hbb := below_base hbb hb16
                have hD6 := hD6.below hb16
                have hRw := hRw.below hb16
                have hS12 := hS12.below hb16 hS12.lt
                refine hK _ _ _ ⟨hbb.1, hS12⟩ (fun _ h => h) ?_
                clear hK hck hb16
                have hrn := H.rnumbered_any n HN64.out w16 3 (m0 + 2) hnw.out A1 n1 z1 b1 (hR1.below hbb.1) (by omega) tb HTB.out
                rw [HNB.out, HFF.out] at hrn
                refine wpS_l (by rfl) (fun K hK => ?_)
                go_wp2_with fail
                refine hrn.mono ?_
                rintro e w17 ⟨rfl, hb17⟩
                have hbb := below_base hbb hb17
                have hD6 := hD6.below hb17
                have hRw := hRw.below hb17
                have hS12 := hS12.below hb17 hS12.lt
                refine hK _ _ _ ⟨hbb.1, hS12⟩ (fun _ h => h) ?_
                clear hK hrn hb17
                refine wpS_q (.bool v) (by rfl) (fun z hz => by have hq := HEQ.out z; go_simp) ?_
                simp only [Act.put, List.setIfInBounds_toArray, List.set_cons_zero, List.set_cons_succ]
                iterate 2 (refine wpS_q ?_ (by rfl) ?_ ?_; rotate_left; (focus (intro z hz; (try dsimp only at hz); go_simp; rfl)); simp only [Act.put, List.setIfInBounds_toArray, List.set_cons_zero, List.set_cons_succ])
                refine wpS_nil ?_
                have c0 := Q0.out _ hbb.1
                have hcv := conv_str (hR1.below hbb.1) z1
                have hlt6 : ∀ x, l6.fp x → x < w17.heap.size := fun x hx => (hD6.fp_lt hx).2
                have hNl : gs2.length < 1000000 := by have := HGL.out; omega
                go_wp2_with (at_builtin; refine app_strs rfl _ _ rfl l6 hlt6 base A3 c3 gs2 rfl hRw b1 9 _ rfl rfl hNl hbb.2 ?_; intro A9 c9 w18 hR18 hb18 hG18)
                have hba := below_alloc w17 (.cells #[.string (bstr b1)] 9)
                have hRa := hRw.below hba
                have hbb18 : Below w.heap.size w w18 := (below_alloc2 hbb.1 (Nat.le_refl _) _).trans (hb18.mono (Nat.le_of_eq HBASE.out))
                go_meet
                exact ⟨gs2 ++ [b1], A9, c9, m0 + 1, b1, by rw [List.length_append]; rfl, HON, Lib.hid (.inl (Given.push HGL.out b1)), hR18, hRa.keepD hG18 (hD6.below hba), hbb18, Nat.le_trans hbb.2 (Nat.le_trans hba.size hb18.size)⟩
              · have HON := Lib.hid hON
                rw [show ((8 : Int) == 0) = false from rfl, show ((0 : Nat) : Int) = 0 from rfl]
                clear hON
                subst hS
                have hzz : ∀ w, (Op.equalIn 10000 24 (.agg (bvs z32).toArray) (.agg (bvs z32).toArray)).run Tryd.prog w = .ok true w := fun w => by rw [H.eql32 z32 z32 z32_length z32_length w, decide_eq_true rfl]
                have hzc := zc32
                repeat (first
                  | ((with_reducible refine wpl_loadG g12 _ (bvs z32).toArray Tryd.underlying24 i32 hS12 hSs ?_ ?_ ?_); (focus rfl); (focus rfl); simp only [Act.put, List.setIfInBounds_toArray, List.set_cons_zero, List.set_cons_succ])
                  | go_values | go_skip | go_guarded | go_step | go_upon | go_back)
                go_meet
                rcases HON.out with h | h
                · exact ⟨gs2, A3, c3, m0 + 1, b1, rfl, Lib.hid h, Lib.hid (.inr (by rw [HGL.out])), hRw, hD6, hbb.1, hbb.2⟩
                · exact ⟨gs2, A3, c3, m0, b0, rfl, Lib.hid h, Lib.hid (.inl HGV.out), hRw, hD6, hbb.1, hbb.2⟩
            case rest =>
              clear hbb hD6 hRw hS12 hSs hSl
              obtain ⟨gs3, A4, c4, N4, b4, rfl, HONX, HGV4, hRw, hD6, hbk, hbks⟩ := hcut
              have hbb : Below w.heap.size w wc ∧ base ≤ wc.heap.size := ⟨hbk, hbks⟩
              clear hbk hbks
              go_wp2_with fail
              refine (goff _ base g _ _ hD6 hlg6).mono ?_
              rintro e w13 ⟨l7, rfl, hlg7, hD7, hm7⟩
              have hRw := hRw.moved hm7
              have hbb := base_moved hbb (Nat.le_of_eq HBASE.out) hD6 hm7
              simp only []
              clear hm7 hD6
              have c2 := Q2.out _ hbb.1
              have hap : n2 ≠ 0 → ∀ x, A2.map (·.block) = some x → ¬ l7.fp x := fun hn0 x hx hf => by
                obtain ⟨a1, hA, hlt, _⟩ := hR2.2 (by omega)
                rw [hA] at hx
                have hxe : a1.block = x := Option.some.inj hx
                have hbe := HBASE.out
                have := (hD7.fp_lt hf).1
                omega
              go_wp2_with fail
              refine (gonN _ base g _ _ hD7 hlg7 A2 n2 z2 ps (hR2.below hbb.1) hap).mono ?_
              rw [HS2.out.on]
              rintro e w14 ⟨l8, rfl, hlg8, hD8, hm8⟩
              have hRw := hRw.moved hm8
              have hbb := base_moved hbb (Nat.le_of_eq HBASE.out) hD7 hm8
              simp only []
              clear hm8 hD7 c2 hap
              go_wp2_with fail
              exact ⟨⟨k + 1, _, l8, gs3, N4, b4, A4, c4, by omega, rfl, congrArg (Value.int .i64) (by omega), HONX, HGV4, hRw, hD8, hlg8, hbb.1, hbb.2⟩, by simp [intOf]; omega⟩
      · obtain rfl : k = m := by omega
        have g1 : ¬ (k : Int) < (k : Int) := by omega
        go_wp2_with fail
        go_meet
        exact hbb.1
  case rest =>
    clear hbb hD1 hbb1 hbb2
    have hbk : Below w.heap.size w wc := hcut
    go_wp2_with (go_at_call 9; refine (works7_any n HN64.out _ tb HTB.out (H.Tab.below hT hbk)).mono ?_; rintro e w2 ⟨rfl, hb2⟩)
    go_ret
    exact ⟨rfl, below_next' hbk hb2⟩
theorem usigOnce_walk (W : World) (hT : H.Tab W H.tblL) (A : Option Addr) (m c : Nat) (l : List Crash) (_ : l.length = m) (hr : Reads W W.heap.size 3 A m (l.flatMap fun x => [x.1.v] ++ ([Value.int .u8 (x.2.1.toNat : Int)] ++ [x.2.2.v]))) (hi : ∀ a ∈ l, (SB.ok W a.1 ∧ True ∧ SB.ok W a.2.2) ∧ ([a.1.v] ++ ([Value.int .u8 (a.2.1.toNat : Int)] ++ [a.2.2.v])).length = 3) (_ : m ≤ c) (_ : c * 56 ≤ 140737488351232) :
    Calls Tryd.prog 8 #[.slice A m c] W fun e w' => e = .returned (.bool true) ∧ Below W.heap.size W w' :=
  usigOnce_any 64 rfl W H.tblL rfl hT A m c l hr (fun x hx => ⟨(hi x hx).1.1, (hi x hx).1.2.2⟩)
end Go.Proofs.YtmjdfajdompkeaaDoor
