/- The law BookPeeks, walked. -/
import Derived.Test.YtmjdfajdompkeaaKr1
namespace Go.Proofs.Ytmjdfajdompkeaa
open Go.RowKit Go.Rat
set_option maxRecDepth 20000 in
set_option maxHeartbeats 8000000 in
theorem bookPeeks_any (w : World) (p size : Int) (A : Option Addr) (m c : Nat) (l : List BStep) (hr : Reads w w.heap.size 5 A m (l.flatMap bstepC)) (hi : ∀ x ∈ l, bstepOk w x) :
    Calls Try.prog 18 #[.int .i64 p, .int .i64 size, .slice A m c] w fun e w' => e = .returned (.bool true) ∧ Below w.heap.size w w' := by
  obtain ⟨base, hbase⟩ : ∃ b, w.heap.size = b := ⟨_, rfl⟩
  have HBASE := Lib.hid hbase
  have HI := Lib.hid hi
  clear hi
  go_enter Try.func18, Try.ntmps18
  go_wp2_with fail
  refine (bfew_any w A m c l hr 30 (by omega)).mono ?_
  rintro e w1 ⟨(rfl | ⟨rfl, hm30, hpk⟩), rfl⟩
  · simp only []
    go_wp2_with (go_at_call 43; refine (works6_any _).mono ?_; rintro e w2 ⟨rfl, hb2⟩)
    go_ret
    exact ⟨rfl, hb2⟩
  simp only []
  have HPK := Lib.hid hpk
  clear hpk
  go_wp2_with fail
  refine (dnew_any w1).mono ?_
  rintro e w2 ⟨l0, rfl, hD, hb⟩
  have hbb : Below w1.heap.size w1 w2 ∧ base ≤ w2.heap.size := ⟨hb, by rw [← hbase]; exact hb.size⟩
  rw [hbase] at hD
  clear hb
  simp only []
  obtain ⟨g, hlg⟩ : ∃ g, l0.g = g := ⟨_, rfl⟩
  rw [hlg]
  go_wp2_with fail
  refine (rgnew w2).mono ?_
  rintro e w3 ⟨L0, rfl, hR, hLg, hb⟩
  have hT : Two w3 base l0 L0 ds0 := ⟨hD.below hb, hR.mono hbb.2, fun x hx hf => by
    have := (hD.fp_lt hx).2
    have := (hR.fp_lt hf).1
    omega⟩
  have hbb := below_base hbb hb
  clear hb hD hR hLg
  simp only []
  obtain ⟨G, hLG⟩ : ∃ g, L0.g = g := ⟨_, rfl⟩
  rw [hLG]
  have hfl := fmA_len ds0 p
  have hf1 := fun w l (h : DiskAt w base l ds0) hg hb => bformatA w base l ds0 h g hg hb (by decide) p
  have hf2 := fun w l (h : RDk w base l ds0) hg hb => rformatA w base l ds0 h G hg hb (by decide) p
  obtain ⟨⟨d, E1⟩, hfm⟩ : ∃ x, fmA ds0 p = x := ⟨_, rfl⟩
  rw [hfm] at hfl
  simp only [hfm] at hf1 hf2
  have HF1 := Lib.hid hf1
  have HF2 := Lib.hid hf2
  have hEE : (E1 != E1) = false := by simp
  have hds : (ds0 : DS).loose.length = 0 := rfl
  simp only [hds] at hfl
  clear hf1 hf2 hfm hds
  go_wp2_with fail
  refine (HF1.out w3 l0 hT.p hlg hbb.2).mono ?_
  rintro e w4 ⟨l1, rfl, hlg1, hD1, hm⟩
  have hbb4 := base_moved hbb (Nat.le_of_eq HBASE.out) hT.p hm
  have hT4 := hT.left hm hD1
  simp only []
  clear hm hT hbb hD1
  go_wp2_with fail
  refine (HF2.out w4 L0 hT4.2.1 hLG hbb4.2).mono ?_
  rintro e w5 ⟨L1, rfl, hLG1, hR1, hm⟩
  have hbb := below_rmoved hbb4 (Nat.le_of_eq HBASE.out) hT4.2.1 hm
  have hT := Two.right hT4 hm hR1
  simp only []
  clear hm hT4 hbb4 hR1 hlg hLG HF1 HF2
  have hlg := hlg1
  have hLG := hLG1
  clear hlg1 hLG1
  go_upto_region 7 with (fail)
  go_cut [9, 10, 11] (fun b mv e wx => ∃ l20, l20.g = g ∧ DiskAt wx base l20 (bopD d p size) ∧ Moved w5 wx l1 l20 ∧ ((bopE d p size ≠ 0 ∧ b = .pointer none) ∨
       (bopE d p size = 0 ∧ ∃ k A N ps, b = .pointer (some ⟨k, 0, none⟩) ∧ w5.heap.size ≤ k ∧ BookAt wx base l20 k (bopS d p size) ∧ RowN wx l20.fp k A N ps)))
  case first =>
   as_aux_lemma =>
    go_wp2_with fail
    refine (bopen_any3 _ base _ d hT.p g hlg hbb.2 (by omega) p size).mono ?_
    rintro e w20 ⟨l20, hlg2, hD20, hm20, (⟨hE, rfl⟩ | ⟨hE, k2, A5, N5, c5, ps5, rfl, hk2, hB2, hR2, hx2⟩)⟩
    · simp only []
      go_wp2_with fail
      go_meet
      exact ⟨l20, hlg2, hD20, hm20, .inl ⟨hE, rfl⟩⟩
    · simp only []
      go_wp2_with fail
      go_meet
      exact ⟨l20, hlg2, hD20, hm20, .inr ⟨hE, k2, A5, N5, ps5, rfl, hk2, hB2, hR2⟩⟩
  case rest =>
    obtain ⟨l20, hlg2, hD20, hm20, hcase⟩ := hcut
    have hbb20 := base_moved hbb (Nat.le_of_eq HBASE.out) hT.p hm20
    have hT20 := hT.left hm20 hD20
    have hL0 : ∀ x, L1.fp x → x < w5.heap.size := fun x hx => (hT.rfp hx).2
    clear hT hbb
    go_upto_region 8 with (fail)
    go_cut [12, 13, 14] (fun x nv f wx => ∃ (d2 : DS) (L21 : RL), Two wx base l20 L21 d2 ∧ L21.g = G ∧ d2.loose.length ≤ 100 ∧ Below w1.heap.size w1 wx ∧ base ≤ wx.heap.size ∧ BHold wx base l20 L21 u9 x)
    case first =>
     as_aux_lemma =>
      go_wp2_with fail
      refine (ropen6_any _ base _ d hT20.2.1 G hLG hbb20.2 (by omega) p size).mono ?_
      have hdl := bopD_len d p size
      rcases hcase with ⟨hE, rfl⟩ | ⟨hE, k2, A5, N5, ps5, rfl, hk2, hB2, hR2⟩
      · rintro e w21 ⟨L21, hLG2, hR21, hm21, (⟨_, rfl⟩ | ⟨hE', _⟩)⟩
        · simp only []
          have hbb21 := below_rmoved hbb20 (Nat.le_of_eq HBASE.out) hT20.2.1 hm21
          have hT21 := Two.right hT20 hm21 hR21
          go_wp2_with fail
          go_meet
          exact ⟨_, L21, hT21, hLG2, by omega, hbb21.1, hbb21.2, .inl ⟨rfl, rfl⟩⟩
        · exact absurd hE' hE
      · rintro e w21 ⟨L21, hLG2, hR21, hm21, (⟨hE', _⟩ | ⟨_, K2, A6, N6, c6, qs6, rfl, hK2, hX2, hQ2, hy2⟩)⟩
        · exact absurd hE hE'
        · simp only []
          have hbb21 := below_rmoved hbb20 (Nat.le_of_eq HBASE.out) hT20.2.1 hm21
          have hT21 := Two.right hT20 hm21 hR21
          have hok := bop_ok hE
          go_wp2_with fail
          go_meet
          exact ⟨_, L21, hT21, hLG2, by omega, hbb21.1, hbb21.2, .inr ⟨k2, K2, _, rfl, rfl, (BX.new hk2 hB2 hR2 hL0 hD20 hm21 hK2 hX2 hQ2).drop, hok.1⟩⟩
    case rest =>
      clear hcase hT20 hbb20 hL0 hm20 hD20 hfl hLG
      obtain ⟨d0, L21, hT, hLG, hlo, hbk, hbks, hS⟩ := hcut
      go_upto_block 0 with (fail)
      go_cut [9, 12] (fun b x wx => ∃ (d : DS) (l' : DL) (L' : RL), Two wx base l' L' d ∧ l'.g = g ∧ L'.g = G ∧ d.loose.length ≤ 1000000 ∧ Below w1.heap.size w1 wx ∧ base ≤ wx.heap.size ∧ BHold wx base l' L' b x)
      case first =>
        go_wp2_with fail
        go_loopw [9, 12, 15] (fun b x i wr => ∃ (kk : Nat) (d : DS) (l' : DL) (L' : RL), kk ≤ m ∧ i = .int .i64 (kk : Int) ∧ Two wr base l' L' d ∧ l'.g = g ∧ L'.g = G ∧ d.loose.length ≤ 1000 + 100 * kk ∧ Below w1.heap.size w1 wr ∧ base ≤ wr.heap.size ∧ BHold wr base l' L' b x) (fun _ _ i _ => m - (intOf i).toNat)
        case atStart => exact ⟨0, d0, l20, L21, Nat.zero_le _, rfl, hT, hlg2, hLG, by omega, hbk, hbks, hS⟩
        case round =>
          clear hT hbk hbks hS hlo hLG hlg2
          obtain ⟨kk, d, l', L', hk, rfl, hT, hlg, hLG, hlo, hbk, hbks, hS⟩ := hrel
          have hbb : Below w1.heap.size w1 wr ∧ base ≤ wr.heap.size := ⟨hbk, hbks⟩
          clear hbk hbks
          go_upto_region 10 with (fail)
          go_cut [81] (fun v wx => v = .bool (decide (kk < m)) ∧ wx = wr)
          case first =>
           as_aux_lemma =>
            by_cases hkm : kk < m
            · have g3 : (kk : Int) < (m : Int) := by omega
              rcases hS with ⟨rfl, rfl⟩ | ⟨k, K, s, rfl, rfl, hX, hok⟩
              all_goals
                go_wp2_with fail
                go_meet
                exact ⟨by rw [decide_eq_true hkm], by first | rfl | trivial⟩
            · have g3 : ¬ (kk : Int) < (m : Int) := by omega
              rcases hS with ⟨rfl, rfl⟩ | ⟨k, K, s, rfl, rfl, hX, hok⟩
              all_goals
                go_wp2_with fail
                go_meet
                exact ⟨by rw [decide_eq_false hkm], by first | rfl | trivial⟩
          case rest =>
            obtain ⟨rfl, rfl⟩ := hcut
            by_cases hkm : kk < m
            · rw [decide_eq_true hkm]
              obtain ⟨ad, ⟨x1, ⟨A2, n2, z2, bs⟩, x3, x4, ⟨A4, n4, z4, ps⟩⟩, e, hxl, hg, hadl, hcs, _⟩ := bstep_at hr hkm
              cases e
              obtain ⟨hB2, hx4, hB4⟩ := HI.out _ hxl
              have hbd := HPK.out kk _ hkm hg
              simp only [] at hB2 hB4 hx4 hbd
              obtain ⟨hR2, _, _⟩ := hB2
              obtain ⟨hR4, _, _⟩ := hB4
              obtain ⟨hn4, hn2⟩ := hbd
              simp only [] at hn2 hn4 hR2 hR4
              obtain ⟨P, hP⟩ : ∃ P, ad.add (kk * 5) = P := ⟨_, rfl⟩
              rw [hP] at hadl hcs
              have hQ : ∀ j u, ([.int .u8 (x1.toNat : Int), .slice A2 n2 z2, .int .u8 (x3.toNat : Int), .int .i8 x4, .slice A4 n4 z4] : List Value)[j]? = some u → wc.cell? (P.add j) = some u := fun j u hu => (hbb.1.cell (by rw [block_of_add]; exact hadl)).trans (hcs j u hu)
              have HQ := Lib.hid hQ
              have g1 : (0 : Int) ≤ (kk : Int) := by omega
              have g3 : (kk : Int) < (m : Int) := by omega
              have hx3 := x3.toNat_lt
              obtain ⟨q, hq⟩ : ∃ q, x1.toNat % 6 = q := ⟨_, rfl⟩
              have hq6 : q = 0 ∨ q = 1 ∨ q = 2 ∨ q = 3 ∨ q = 4 ∨ q = 5 := by omega
              have hq0 : (x1.toNat : Int) % 6 = (q : Int) := by omega
              have HQ0 := Lib.hid hq0
              have hal : ∀ {A9 : Option Addr} {n9 : Nat} {b9 : List UInt8}, RB w1 A9 n9 b9 → n9 ≠ 0 → ∀ x, A9.map (·.block) = some x → x < base := fun hR hn0 x hx => by
                obtain ⟨a1, hA, hlt, _⟩ := hR.2 (by omega)
                rw [hA] at hx
                have hxe : a1.block = x := Option.some.inj hx
                have hbe := HBASE.out
                omega
              have ha2 := hal hR2
              have ha4 := hal hR4
              clear hxl hcs hQ hg hq hq0 hal
              have h5 : (#[.int .u8 (x1.toNat : Int), .slice A2 n2 z2, .int .u8 (x3.toNat : Int), .int .i8 x4, .slice A4 n4 z4] : Array Value).all (·.oneCell') = true := by simp [Value.oneCell']
              repeat (first
                | ((with_reducible refine wpl_load_any P [.int .u8 (x1.toNat : Int), .slice A2 n2 z2, .int .u8 (x3.toNat : Int), .int .i8 x4, .slice A4 n4 z4] Try.underlying94 rfl i94 rfl HQ.out ?_ ?_); (focus rfl); simp only [Act.put, List.setIfInBounds_toArray, List.set_cons_zero, List.set_cons_succ])
                | ((with_reducible refine wpl_store_fresh #[.int .u8 (x1.toNat : Int), .slice A2 n2 z2, .int .u8 (x3.toNat : Int), .int .i8 x4, .slice A4 n4 z4] i94 ?_ rfl h5 ?_ ?_ ?_); (focus kernel_rfl); (focus rfl); (focus rfl); intro w7 hX hl7 hb7; simp only [Act.put]; refine Hid.out ?_)
                | go_values | go_skip | go_guarded | go_step | go_upon | go_back)
              refine Lib.hid ?_
              have hT0 := hT
              have hT := hT.below hb7
              have hbb := below_base hbb hb7
              have hS := hS.below hb7
              clear hb7 h5 HQ hadl
              obtain ⟨gx, hgx⟩ : ∃ x, wc.heap.size = x := ⟨_, rfl⟩
              rw [hgx] at hX hl7 ⊢
              have hgf : ¬ l'.fp gx := fun q => by have := (hT0.p.fp_lt q).2; omega
              have hgF : ¬ L'.fp gx := fun q => by have := (hT0.rfp q).2; omega
              clear hT0
              have c0 := hX.cell 0
              simp only [List.getElem?_toArray, List.getElem?_cons_zero] at c0
              go_upto_block 2 with (fail)
              have hq0 := HQ0.out
              rw [hq0]
              clear hq0 c0
              go_cut [9, 12] (fun b x wx => ∃ (d : DS) (l' : DL) (L' : RL), Two wx base l' L' d ∧ l'.g = g ∧ L'.g = G ∧ d.loose.length ≤ 1000 + 100 * (kk + 1) ∧ Below w1.heap.size w1 wx ∧ base ≤ wx.heap.size ∧ BHold wx base l' L' b x)
              case first =>
                rcases hq6 with rfl | rfl | rfl | rfl | rfl | rfl
                · as_aux_lemma =>
                    rcases hS with ⟨rfl, rfl⟩ | ⟨k, K, s, rfl, rfl, hX2, hok⟩
                    · go_wp2_with fail
                      refine wp_region_plan [(0, true), (1, true), (2, true), (3, true), (4, true), (5, true), (7, true), (8, true), (9, true), (6, false), (10, false), (11, true), (12, true)] (fun _ => True) (by kernel_rfl) (by kernel_rfl) (by kernel_rfl) (by kernel_rfl) (fun _ _ d _ _ h => by cases d <;> exact h) trivial ?_
                      simp only [planOps, List.getElem?_toArray, List.getElem?_cons_zero, List.getElem?_cons_succ]
                      repeat (first
                        | (refine wpS_skip (by rfl) ?_; simp only [Act.put, List.setIfInBounds_toArray, List.set_cons_zero, List.set_cons_succ])
                        | (refine wpS_q ?_ (by rfl) ?_ ?_; rotate_left; (focus (intro z hz; (try dsimp only at hz); go_simp; rfl)); simp only [Act.put, List.setIfInBounds_toArray, List.set_cons_zero, List.set_cons_succ]))
                      refine wpS_nil ?_
                      have hbb := below_base hbb (drew_below (w := w7))
                      have hT := hT.below (drew_below (w := w7))
                      go_wp2_with fail
                      go_meet
                      exact ⟨_, l', L', hT, hlg, hLG, by omega, hbb.1, hbb.2, .inl ⟨rfl, rfl⟩⟩
                    · have hkx : k ≠ gx := blk_ne hX2.b.blk hX (by decide)
                      have hKx : K ≠ gx := blk_ne hX2.x.blk hX (by decide)
                      have hap := bapR_len d s bs
                      have hbok := bap_ok (d := d) (r := bs) hok
                      have hdl : d.loose.length < 800000000 := by omega
                      have hok2 := hok
                      obtain ⟨o1, o2, o3, o4, o5⟩ := hok2
                      have q1 : ∀ z, Blk z gx 94 #[.int .u8 (x1.toNat : Int), .slice A2 n2 z2, .int .u8 (x3.toNat : Int), .int .i8 x4, .slice A4 n4 z4] → z.cell? ⟨gx, 1, none⟩ = some (.slice A2 n2 z2) := fun z hz => hz.cell 1
                      go_wp2_with fail
                      refine wp_region_plan [(0, true), (1, true), (2, true), (3, true), (4, true), (5, true), (7, true), (8, true), (9, true), (6, false), (10, false), (11, true), (12, true)] (fun z => Blk z gx 94 #[.int .u8 (x1.toNat : Int), .slice A2 n2 z2, .int .u8 (x3.toNat : Int), .int .i8 x4, .slice A4 n4 z4]) (by kernel_rfl) (by kernel_rfl) (by kernel_rfl) (by kernel_rfl) (fun _ _ d _ _ h => by cases d <;> exact h) hX ?_
                      simp only [planOps, List.getElem?_toArray, List.getElem?_cons_zero, List.getElem?_cons_succ]
                      repeat (first
                        | (refine wpS_skip (by rfl) ?_; simp only [Act.put, List.setIfInBounds_toArray, List.set_cons_zero, List.set_cons_succ])
                        | (refine wpS_q ?_ (by rfl) ?_ ?_; rotate_left; (focus (intro z hz; (try dsimp only at hz); go_simp; rfl)); simp only [Act.put, List.setIfInBounds_toArray, List.set_cons_zero, List.set_cons_succ]))
                      have hX := hX.below (drew_below (w := w7)) hX.lt
                      have hbb := below_base hbb (drew_below (w := w7))
                      have hT := hT.below (drew_below (w := w7))
                      have hX2 := hX2.below (drew_below (w := w7))
                      refine wpS_l (by rfl) (fun K3 hK3 => ?_)
                      go_wp2_with fail
                      refine (bappend_any _ base l' d hT.p hbb.2 hdl k s hX2.b ⟨o1, o2, o3, by omega, o5⟩ A2 n2 z2 bs (hR2.below hbb.1) (by omega)).mono ?_
                      rintro e w10 ⟨l10, rfl, hlg10, hD10, hB10, hm10⟩
                      have hbb10 := base_cmoved hbb (Nat.le_of_eq HBASE.out) hT.p hX2.b hm10
                      have hT10 := hT.leftC hm10 hX2.kL hD10
                      have hX210 := hX2.left hm10 hB10
                      have hX10 := hm10.chg.blk hX (fun hf => hf.elim hgf (fun e => hkx e.symm))
                      refine hK3 _ _ _ hX10 (fun _ h => h) ?_
                      clear hK3 hm10 hB10 hD10 hX2 hT hX hbb
                      refine wpS_l (by rfl) (fun K4 hK4 => ?_)
                      go_wp2_with fail
                      refine (rappend6_any _ base L' d hT10.2.1 G hLG hbb10.2 hdl K s hX210.x ⟨o1, o2, o3, by omega, o5⟩ A2 n2 z2 bs (hR2.below hbb10.1) (by omega) (fun hn0 x hx => ⟨fun hf => by have := ha2 hn0 x hx; have := (hT10.2.1.fp_lt hf).1; omega, by have := ha2 hn0 x hx; have := hX210.x.bk; omega⟩)).mono ?_
                      rintro e w11 ⟨L11, rfl, hLG11, hR11, hB11, hm11⟩
                      have hbb11 := base_rcmoved hbb10 (Nat.le_of_eq HBASE.out) hT10.2.1 hX210.x hm11
                      have hT11 := Two.rightC hT10 hm11 hX210.Kl hR11
                      have hX211 := hX210.right hm11 hB11
                      have hX11 := hm11.chg.blk hX10 (fun hf => hf.elim hgF (fun e => hKx e.symm))
                      refine hK4 _ _ _ hX11 (fun _ h => h) ?_
                      clear hK4 hm11 hB11 hR11 hX210 hT10 hX10 hbb10
                      have hS2 : BHold w11 base l10 L11 (.pointer (some ⟨k, 0, none⟩)) (.pointer (some ⟨K, 0, none⟩)) := .inr ⟨k, K, _, rfl, rfl, hX211, hbok⟩
                      clear hX211 hbok
                      obtain ⟨E2, hE2⟩ : ∃ x, (bapR d s bs).2.2 = x := ⟨_, rfl⟩
                      have hEE3 : (E2 != E2) = false := by simp
                      rw [hE2]
                      clear hE2
                      repeat (first
                        | (refine wpS_skip (by rfl) ?_; simp only [Act.put, List.setIfInBounds_toArray, List.set_cons_zero, List.set_cons_succ])
                        | (refine wpS_q ?_ (by rfl) ?_ ?_; rotate_left; (focus (intro z hz; (try dsimp only at hz); go_simp; rfl)); simp only [Act.put, List.setIfInBounds_toArray, List.set_cons_zero, List.set_cons_succ]))
                      refine wpS_nil ?_
                      go_wp2_with fail
                      go_meet
                      exact ⟨_, l10, L11, hT11, hlg10.trans hlg, hLG11, by omega, hbb11.1, hbb11.2, hS2⟩
                · as_aux_lemma =>
                    have c3 := hX.cell 3
                    simp only [List.getElem?_toArray, List.getElem?_cons_zero, List.getElem?_cons_succ] at c3
                    go_wp2_with fail
                    refine (gfuse _ base g _ _ hT.p hlg x4 (by omega)).mono ?_
                    rintro e w9 ⟨l9, rfl, hlg9, hD9, hm⟩
                    have hbb := base_moved hbb (Nat.le_of_eq HBASE.out) hT.p hm
                    have hX := hm.chg.blk hX hgf
                    have hS := hS.left hm
                    have hT := hT.left hm hD9
                    have c3 := hX.cell 3
                    simp only [List.getElem?_toArray, List.getElem?_cons_zero, List.getElem?_cons_succ] at c3
                    simp only []
                    obtain ⟨_, _, _, _, f3, u, cu⟩ := hT.2.1.cells
                    have hR9 := hT.2.1.fuses x4 (by omega)
                    have hgr := grownBy_set w9 L'.g 3 (.int .i64 (max x4 (-1)))
                    have hm9 := RMoved.of_grown (l := L') hgr
                    have hbb := below_rmoved hbb (Nat.le_of_eq HBASE.out) hT.2.1 hm9
                    have hS := hS.right hm9
                    have hT := Two.right hT hm9 hR9
                    rw [hLG] at f3 cu hT hbb hS
                    clear hm hm9 hgr hR9
                    go_wp2_with fail
                    all_goals
                      first
                      | (have e : max x4 (-1) = -1 := (by omega); rw [e] at hT hbb hS; go_meet; exact ⟨_, l9, L', hT, hlg9, hLG, Nat.le_trans hlo (by omega), hbb.1, hbb.2, hS⟩)
                      | (have e : max x4 (-1) = x4 := (by omega); rw [e] at hT hbb hS; go_meet; exact ⟨_, l9, L', hT, hlg9, hLG, Nat.le_trans hlo (by omega), hbb.1, hbb.2, hS⟩)
                      | (have e : max x4 (-1) = if x4 < -1 then -1 else x4 := (by split <;> omega); rw [e] at hT hbb hS; go_meet; exact ⟨_, l9, L', hT, hlg9, hLG, Nat.le_trans hlo (by omega), hbb.1, hbb.2, hS⟩)
                · as_aux_lemma =>
                    go_wp2_with fail
                    refine (goff _ base g _ _ hT.p hlg).mono ?_
                    rintro e w9 ⟨l9, rfl, hlg9, hD9, hm⟩
                    have hbb := base_moved hbb (Nat.le_of_eq HBASE.out) hT.p hm
                    have hS := hS.left hm
                    have hT := hT.left hm hD9
                    simp only []
                    clear hm
                    go_wp2_with fail
                    refine (rgoff _ base G _ _ hT.2.1 hLG).mono ?_
                    rintro e w11 ⟨L9, rfl, hLG9, hR9, hm⟩
                    have hbb := below_rmoved hbb (Nat.le_of_eq HBASE.out) hT.2.1 hm
                    have hS := hS.right hm
                    have hT := Two.right hT hm hR9
                    simp only []
                    clear hm
                    go_wp2_with fail
                    go_meet
                    exact ⟨_, l9, L9, hT, hlg9, hLG9, Nat.le_trans hlo (by omega), hbb.1, hbb.2, hS⟩
                · as_aux_lemma =>
                    have c4 := hX.cell 4
                    simp only [List.getElem?_toArray, List.getElem?_cons_zero, List.getElem?_cons_succ] at c4
                    have hll := onAll_len d ps
                    go_wp2_with fail
                    refine (gonN _ base g _ _ hT.p hlg A4 n4 z4 ps (hR4.below hbb.1) (fun hn0 x hx hf => by have := ha4 hn0 x hx; have := (hT.p.fp_lt hf).1; omega)).mono ?_
                    rintro e w9 ⟨l9, rfl, hlg9, hD9, hm⟩
                    have hbb := base_moved hbb (Nat.le_of_eq HBASE.out) hT.p hm
                    have hX := hm.chg.blk hX hgf
                    have hT := hT.left hm hD9
                    simp only []
                    clear hm c4
                    have c4 := hX.cell 4
                    simp only [List.getElem?_toArray, List.getElem?_cons_zero, List.getElem?_cons_succ] at c4
                    go_wp2_with fail
                    refine (rgon _ base G _ _ hT.2.1 hLG hbb.2 A4 n4 z4 ps (hR4.below hbb.1) (fun hn0 x hx hf => by have := ha4 hn0 x hx; have := (hT.2.1.fp_lt hf).1; omega)).mono ?_
                    rintro e w11 ⟨L9, rfl, hLG9, hR9, hm⟩
                    have hbb := below_rmoved hbb (Nat.le_of_eq HBASE.out) hT.2.1 hm
                    have hT := Two.right hT hm hR9
                    simp only []
                    clear hm hS c4
                    obtain ⟨dn, hdn⟩ : ∃ x, onAll d ps = x := ⟨_, rfl⟩
                    rw [hdn] at hT hll
                    clear hdn hlg hLG
                    have hlg := hlg9
                    have hLG := hLG9
                    have hdlo : dn.loose.length ≤ 1000 + 100 * kk := by omega
                    go_wp2_with fail
                    refine (bopen_any3 _ base _ dn hT.p g hlg hbb.2 (by omega) p size).mono ?_
                    rintro e w20 ⟨l20, hlg2, hD20, hm20, (⟨hE, rfl⟩ | ⟨hE, k2, A5, N5, c5, ps5, rfl, hk2, hB2, hR2, hx2⟩)⟩
                    all_goals
                      simp only []
                      have hbb20 := base_moved hbb (Nat.le_of_eq HBASE.out) hT.p hm20
                      have hT20 := hT.left hm20 hD20
                      have hL0 : ∀ x, L9.fp x → x < _ := fun x hx => (hT.rfp hx).2
                      go_wp2_with fail
                      refine (ropen6_any _ base _ dn hT20.2.1 G hLG hbb20.2 (by omega) p size).mono ?_
                    · rintro e w21 ⟨L21, hLG2, hR21, hm21, (⟨_, rfl⟩ | ⟨hE', _⟩)⟩
                      · simp only []
                        have hbb21 := below_rmoved hbb20 (Nat.le_of_eq HBASE.out) hT20.2.1 hm21
                        have hT21 := Two.right hT20 hm21 hR21
                        have hS : BHold w21 base l20 L21 (.pointer none) (.pointer none) := .inl ⟨rfl, rfl⟩
                        have hdl := bopD_len dn p size
                        clear hT20 hbb20 hm20 hm21 hD20 hR21 hT hbb hL0 hE
                        go_wp2_with fail
                        go_meet
                        exact ⟨_, l20, L21, hT21, hlg2, hLG2, by omega, hbb21.1, hbb21.2, hS⟩
                      · exact absurd hE' hE
                    · rintro e w21 ⟨L21, hLG2, hR21, hm21, (⟨hE', _⟩ | ⟨_, K2, A6, N6, c6, qs6, rfl, hK2, hX2, hQ2, hy2⟩)⟩
                      · exact absurd hE hE'
                      · simp only []
                        have hbb21 := below_rmoved hbb20 (Nat.le_of_eq HBASE.out) hT20.2.1 hm21
                        have hT21 := Two.right hT20 hm21 hR21
                        have hok := bop_ok hE
                        have hS : BHold w21 base l20 L21 (.pointer (some ⟨k2, 0, none⟩)) (.pointer (some ⟨K2, 0, none⟩)) := .inr ⟨k2, K2, _, rfl, rfl, (BX.new hk2 hB2 hR2 hL0 hD20 hm21 hK2 hX2 hQ2).drop, hok.1⟩
                        have hdl := bopD_len dn p size
                        clear hT20 hbb20 hm20 hm21 hD20 hR21 hT hbb hL0 hE hok hB2 hR2 hX2 hQ2 hx2 hy2
                        go_wp2_with fail
                        go_meet
                        exact ⟨_, l20, L21, hT21, hlg2, hLG2, by omega, hbb21.1, hbb21.2, hS⟩
                · as_aux_lemma =>
                    have q2 : ∀ z, Blk z gx 94 #[.int .u8 (x1.toNat : Int), .slice A2 n2 z2, .int .u8 (x3.toNat : Int), .int .i8 x4, .slice A4 n4 z4] → z.cell? ⟨gx, 2, none⟩ = some (.int .u8 (x3.toNat : Int)) := fun z hz => hz.cell 2
                    have hw3 : IntKind.i64.wrap (x3.toNat : Int) = (x3.toNat : Int) := IntWalk.i64_in _ (by omega)
                    obtain ⟨kq, hkq⟩ : ∃ y, IntKind.i64.wrap (p + (x3.toNat : Int)) = y := ⟨_, rfl⟩
                    have hrl := rawF_length bs
                    have hraw := fun w (h : RB w A2 n2 bs) => rraw_any w x1 x3 x4 A2 n2 z2 bs h hn2 A4 n4 z4
                    obtain ⟨RW, hRW⟩ : ∃ x, rawF bs = x := ⟨_, rfl⟩
                    rw [hRW] at hrl
                    simp only [hRW] at hraw
                    have HRAW := Lib.hid hraw
                    have hll := writeD_len d kq RW
                    clear hraw hRW
                    go_wp2_with fail

                    refine wp_region_plan [(0, true), (1, true), (2, true), (3, true), (4, true), (5, true), (6, true), (7, false), (8, false)] (fun z => Blk z gx 94 #[.int .u8 (x1.toNat : Int), .slice A2 n2 z2, .int .u8 (x3.toNat : Int), .int .i8 x4, .slice A4 n4 z4]) (by kernel_rfl) (by kernel_rfl) (by kernel_rfl) (by kernel_rfl) (fun _ _ d _ _ h => by cases d <;> exact h) hX ?_
                    simp only [planOps, List.getElem?_toArray, List.getElem?_cons_zero, List.getElem?_cons_succ]
                    iterate 6 (refine wpS_q ?_ (by rfl) ?_ ?_; rotate_left; (focus (intro z hz; (try dsimp only at hz); go_simp; rfl)); simp only [Act.put, List.setIfInBounds_toArray, List.set_cons_zero, List.set_cons_succ])
                    refine wpS_q (.agg #[.int .u8 (x1.toNat : Int), .slice A2 n2 z2, .int .u8 (x3.toNat : Int), .int .i8 x4, .slice A4 n4 z4]) (by rfl) (fun z hz => load_row_run rfl gx _ Try.underlying94 rfl i94 hz rfl rfl) ?_
                    simp only [Act.put, List.setIfInBounds_toArray, List.set_cons_zero, List.set_cons_succ]
                    refine wpS_l (by rfl) (fun K hK => ?_)
                    go_wp2_with fail
                    refine (HRAW.out _ (hR2.below (below_base hbb drew_below).1)).mono ?_
                    rintro e w81 ⟨rfl, hb⟩
                    have hb3 : Below w7.heap.size w7 w81 := drew_below.trans hb
                    have hX := hX.below hb3 hX.lt
                    have hT := hT.below hb3
                    have hS := hS.below hb3
                    have hbb := below_base hbb hb3
                    refine hK _ _ _ hX (fun _ h => h) ?_
                    clear hK hb hb3
                    refine wpS_l (by rfl) (fun K hK => ?_)
                    go_wp2_with fail
                    refine (gwrite _ base g _ _ hT.p hlg hbb.2 kq RW hrl (by omega)).mono ?_
                    rintro e w9 ⟨l9, rfl, hlg9, hD9, hm⟩
                    have hbb := base_moved hbb (Nat.le_of_eq HBASE.out) hT.p hm
                    have hX := hm.chg.blk hX hgf
                    have hS := hS.left hm
                    have hT := hT.left hm hD9
                    refine hK _ _ _ hX (fun _ h => h) ?_
                    clear hK hm
                    refine wpS_nil ?_
                    go_wp2_with fail

                    refine wp_region_plan [(0, true), (1, true), (2, true), (3, true), (4, true), (5, true), (6, true), (7, false), (8, false)] (fun z => Blk z gx 94 #[.int .u8 (x1.toNat : Int), .slice A2 n2 z2, .int .u8 (x3.toNat : Int), .int .i8 x4, .slice A4 n4 z4]) (by kernel_rfl) (by kernel_rfl) (by kernel_rfl) (by kernel_rfl) (fun _ _ d _ _ h => by cases d <;> exact h) hX ?_
                    simp only [planOps, List.getElem?_toArray, List.getElem?_cons_zero, List.getElem?_cons_succ]
                    iterate 6 (refine wpS_q ?_ (by rfl) ?_ ?_; rotate_left; (focus (intro z hz; (try dsimp only at hz); go_simp; rfl)); simp only [Act.put, List.setIfInBounds_toArray, List.set_cons_zero, List.set_cons_succ])
                    refine wpS_q (.agg #[.int .u8 (x1.toNat : Int), .slice A2 n2 z2, .int .u8 (x3.toNat : Int), .int .i8 x4, .slice A4 n4 z4]) (by rfl) (fun z hz => load_row_run rfl gx _ Try.underlying94 rfl i94 hz rfl rfl) ?_
                    simp only [Act.put, List.setIfInBounds_toArray, List.set_cons_zero, List.set_cons_succ]
                    refine wpS_l (by rfl) (fun K hK => ?_)
                    go_wp2_with fail
                    refine (HRAW.out _ (hR2.below (below_base hbb drew_below).1)).mono ?_
                    rintro e w82 ⟨rfl, hb⟩
                    have hb3 : Below w9.heap.size w9 w82 := drew_below.trans hb
                    have hX := hX.below hb3 hX.lt
                    have hT : DiskAt w82 base l9 (writeD d kq RW) ∧ RDk w82 base L' d ∧ ∀ x, l9.fp x → ¬ L'.fp x := ⟨hT.1.below hb3, hT.2.1.below hb3, hT.2.2⟩
                    have hS := hS.below hb3
                    have hbb := below_base hbb hb3
                    refine hK _ _ _ hX (fun _ h => h) ?_
                    clear hK hb hb3
                    refine wpS_l (by rfl) (fun K hK => ?_)
                    go_wp2_with fail
                    refine (rgwrite _ base G _ _ hT.2.1 hLG hbb.2 kq RW hrl (by omega)).mono ?_
                    rintro e w11 ⟨L9, rfl, hLG9, hR9, hm⟩
                    have hbb := below_rmoved hbb (Nat.le_of_eq HBASE.out) hT.2.1 hm
                    have hX := hm.chg.blk hX hgF
                    have hS := hS.right hm
                    have hT := Two.right hT hm hR9
                    refine hK _ _ _ hX (fun _ h => h) ?_
                    clear hK hm
                    refine wpS_nil ?_
                    go_wp2_with fail
                    go_meet
                    exact ⟨_, l9, L9, hT, hlg9, hLG9, by omega, hbb.1, hbb.2, hS⟩
                · as_aux_lemma =>
                    go_wp2_with fail
                    go_meet
                    exact ⟨d, l', L', hT, hlg, hLG, by omega, hbb.1, hbb.2, hS⟩
              case rest =>
                clear hT hbb hS hX hlo hlg hLG hgf hgF HQ0 hq6 g1 g3 ha2 ha4 hR2 hR4
                obtain ⟨d, l', L', hT, hlg, hLG, hlo, hbk, hbks, hS⟩ := hcut
                go_upto_region 31 with (fail)
                go_wp2_with fail
                refine (gloose _ base g _ _ hT.p hlg).mono ?_
                rintro e w8 ⟨rfl, rfl⟩
                simp only []
                have hgl := fun w (h : DiskAt w base l' d) => gloose w base g l' d h hlg
                obtain ⟨LO, hLO⟩ : ∃ x, (d.loose.length : Int) = x := ⟨_, rfl⟩
                rw [hLO] at hgl ⊢
                have HGL := Lib.hid hgl
                have HLO := Lib.hid hLO
                have hLL : (LO != LO) = false := by simp
                have hpk := @pk_len d p size
                have hpb := fun w (h : DiskAt w base l' d) hb => bpeek_any w base l' d h g hlg hb p size
                have hpr := fun w (h : RDk w base L' d) hb => rpeek6_any w base L' d h G hLG hb p size
                obtain ⟨⟨R1, R2, R3, R4⟩, hPK⟩ : ∃ x, pkF d p size = x := ⟨_, rfl⟩
                simp only [hPK] at hpb hpr hpk
                have HPB := Lib.hid hpb
                have HPR := Lib.hid hpr
                have e1 : ((R1 : Int) != (R1 : Int)) = false := by simp
                have e3 : (R3 != R3) = false := by simp
                have e4 : (R4 != R4) = false := by simp
                clear hgl hLO hpb hpr hPK
                go_wp2_with fail
                go_loopw [18] (fun i wr => ∃ j : Nat, j ≤ 2 ∧ i = .int .i64 (j : Int) ∧ Two wr base l' L' d ∧ Below w1.heap.size w1 wr ∧ base ≤ wr.heap.size ∧ BHold wr base l' L' u9 u12) (fun i _ => 2 - (intOf i).toNat)
                case atStart => exact ⟨0, by omega, rfl, hT, hbk, hbks, hS⟩
                case round =>
                  clear hT hbk hbks hS
                  obtain ⟨j, hj, rfl, hT, hbk, hbks, hS⟩ := hrel
                  by_cases hj2 : j < 2
                  · have g4 : (j : Int) < 2 := by omega
                    have hbb : Below w1.heap.size w1 wr ∧ base ≤ wr.heap.size := ⟨hbk, hbks⟩
                    clear hbk hbks
                    go_wp2_with fail
                    refine (HPB.out _ hT.p hbb.2).mono ?_
                    rintro e w20 ⟨A5, N5, c5, ps5, rfl, hN5, hx5, hb⟩
                    have hT := hT.below hb
                    have hbb := below_base hbb hb
                    have hS := hS.below hb
                    simp only []
                    clear hb
                    go_wp2_with fail
                    refine (HPR.out _ hT.r hbb.2).mono ?_
                    rintro e w21 ⟨A6, N6, c6, qs6, rfl, hN6, hx6, hb⟩
                    have hT := hT.below hb
                    have hbb := below_base hbb hb
                    have hS := hS.below hb
                    have hN5 := hN5.below hb
                    simp only []
                    clear hb
                    have hNN : N5 ≤ 100000 := by rw [← hN5.r.len, ← List.length_map (f := fun q : Pt => q.xs), hx5]; omega
                    go_wp2_with fail
                    refine (same_any _ A5 N5 c5 ps5 hN5.r A6 N6 c6 qs6 hN6.r hNN (hx5.trans hx6.symm)).mono ?_
                    rintro e w22 ⟨rfl, hb⟩
                    have hT := hT.below hb
                    have hbb := below_base hbb hb
                    have hS := hS.below hb
                    simp only []
                    clear hb hN5 hN6
                    go_wp2_with fail
                    refine (HGL.out _ hT.p).mono ?_
                    rintro e w23 ⟨rfl, rfl⟩
                    simp only []
                    go_wp2_with fail
                    exact ⟨⟨j + 1, by omega, congrArg (Value.int .i64) (by omega), hT, hbb.1, hbb.2, hS⟩, by simp only [intOf]; omega⟩
                  · obtain rfl : j = 2 := by omega
                    have g4 : ¬ ((2 : Nat) : Int) < 2 := by omega
                    go_wp2_with fail
                    exact ⟨⟨kk + 1, d, l', L', by omega, congrArg (Value.int .i64) (by omega), hT, hlg, hLG, by omega, hbk, hbks, hS⟩, by simp only [intOf]; omega⟩
            · rw [decide_eq_false hkm]
              go_wp2_with fail
              go_meet
              exact ⟨d, l', L', hT, hlg, hLG, by omega, hbb.1, hbb.2, hS⟩
      case rest =>
       as_aux_lemma =>
        clear hT hbk hbks hS hlg2 hLG hlo
        obtain ⟨d, l', L', hT, hlg, hLG, hlo, hbk, hbks, hS⟩ := hcut
        have hbb : Below w1.heap.size w1 wc ∧ base ≤ wc.heap.size := ⟨hbk, hbks⟩
        clear hbk hbks
        have hfu := hT.p.ok.fuse.1
        have hpk := @pk_len d p size
        have hpo := @pk_open d p size hfu
        have hpb := fun w (h : DiskAt w base l' d) hb => bpeek_any w base l' d h g hlg hb p size
        obtain ⟨⟨R1, R2, R3, R4⟩, hPK⟩ : ∃ x, pkF d p size = x := ⟨_, rfl⟩
        simp only [hPK] at hpb hpk hpo
        have HPB := Lib.hid hpb
        have HPO := Lib.hid hpo
        have hbx : (u9 = .pointer none ∧ u12 = .pointer none) ∨ (∃ k K : Nat, u9 = .pointer (some ⟨k, 0, none⟩) ∧ u12 = .pointer (some ⟨K, 0, none⟩)) := by
          rcases hS with h | ⟨k, K, s, h1, h2, _⟩
          · exact .inl h
          · exact .inr ⟨k, K, h1, h2⟩
        clear hpb hpo hPK hS
        go_wp2_with fail
        refine (HPB.out _ hT.p hbb.2).mono ?_
        rintro e w20 ⟨A5, N5, c5, ps5, rfl, hN5, hx5, hb⟩
        have hT := hT.below hb
        have hbb := below_base hbb hb
        simp only []
        clear hb HPB
        have hNN : N5 ≤ 100000 := by rw [← hN5.r.len, ← List.length_map (f := fun q : Pt => q.xs), hx5]; omega
        go_wp2_with fail
        refine (bopen_any3 _ base _ d hT.p g hlg hbb.2 (by omega) p size).mono ?_
        rintro e w21 ⟨l20, hlg2, hD20, hm20, (⟨hE, rfl⟩ | ⟨hE, k2, A6, N6, c6, ps6, rfl, hk2, hB2, hR2, hx2⟩)⟩
        all_goals
          simp only []
          have hbb := base_moved hbb (Nat.le_of_eq HBASE.out) hT.p hm20
          have hN5 := hN5.kept (P' := l20.fp) hm20.chg (fun x hx => .inl hx) hm20.fp
          clear hm20 hD20
          go_wp2_with fail
          refine (bpeek_nil _ p size).mono ?_
          rintro e w22 ⟨rfl, rfl⟩
          simp only []
        · have hE' : (bopE d p size == 0) = false := by simpa using hE
          obtain ⟨E2, hE2⟩ : ∃ x, bopE d p size = x := ⟨_, rfl⟩
          rw [hE2] at hE' ⊢
          clear hE hE2
          by_cases h4 : R4 = 0
          · subst h4
            rcases hbx with ⟨rfl, rfl⟩ | ⟨k, K, rfl, rfl⟩
            all_goals
              go_wp2_with (go_at_call 43; refine (works6_any _).mono ?_; rintro e w24 ⟨rfl, hb2⟩)
              go_ret
              exact ⟨rfl, below_next' hbb.1 hb2⟩
          · have h4' : (R4 == 0) = false := by simpa using h4
            clear h4
            rcases hbx with ⟨rfl, rfl⟩ | ⟨k, K, rfl, rfl⟩
            all_goals
              go_wp2_with (go_at_call 43; refine (works6_any _).mono ?_; rintro e w24 ⟨rfl, hb2⟩)
              go_ret
              exact ⟨rfl, below_next' hbb.1 hb2⟩
        · by_cases h4 : R4 = 0
          · have hsame := HPO.out h4 hE
            subst h4
            rcases hbx with ⟨rfl, rfl⟩ | ⟨k, K, rfl, rfl⟩
            all_goals
              go_wp2_with fail
              refine (same_any _ A5 N5 c5 ps5 hN5.r A6 N6 c6 ps6 hR2.r hNN (hx5.trans (hsame.trans hx2.symm))).mono ?_
              rintro e w23 ⟨rfl, hb⟩
              have hbb := below_base hbb hb
              simp only []
              go_wp2_with (go_at_call 43; refine (works6_any _).mono ?_; rintro e w24 ⟨rfl, hb2⟩)
              go_ret
              exact ⟨rfl, below_next' hbb.1 hb2⟩
          · have h4' : (R4 == 0) = false := by simpa using h4
            clear h4
            rcases hbx with ⟨rfl, rfl⟩ | ⟨k, K, rfl, rfl⟩
            all_goals
              go_wp2_with (go_at_call 43; refine (works6_any _).mono ?_; rintro e w24 ⟨rfl, hb2⟩)
              go_ret
              exact ⟨rfl, below_next' hbb.1 hb2⟩
theorem bookPeeks_walk (w : World) (p : Int) (_ : -9223372036854775808 ≤ p ∧ p ≤ 9223372036854775807) (size : Int) (_ : -9223372036854775808 ≤ size ∧ size ≤ 9223372036854775807) (A : Option Addr) (m c : Nat) (l : List BStep) (_ : l.length = m) (hr : Reads w w.heap.size 5 A m (l.flatMap fun x => [Value.int .u8 (x.1.toNat : Int)] ++ ([x.2.1.v] ++ ([Value.int .u8 (x.2.2.1.toNat : Int)] ++ ([Value.int .i8 x.2.2.2.1] ++ [x.2.2.2.2.v]))))) (hi : ∀ a ∈ l, (True ∧ SB.ok w a.2.1 ∧ True ∧ (-128 ≤ a.2.2.2.1 ∧ a.2.2.2.1 ≤ 127) ∧ SB.ok w a.2.2.2.2) ∧ ([Value.int .u8 (a.1.toNat : Int)] ++ ([a.2.1.v] ++ ([Value.int .u8 (a.2.2.1.toNat : Int)] ++ ([Value.int .i8 a.2.2.2.1] ++ [a.2.2.2.2.v])))).length = 5) (_ : m ≤ c) (_ : c * 64 ≤ 140737488351232) :
    Calls Try.prog 18 #[.int .i64 p, .int .i64 size, .slice A m c] w fun e w' => e = .returned (.bool true) ∧ Below w.heap.size w w' :=
  bookPeeks_any w p size A m c l hr (fun x hx => ⟨(hi x hx).1.2.1, (hi x hx).1.2.2.2.1, (hi x hx).1.2.2.2.2⟩)
end Go.Proofs.Ytmjdfajdompkeaa
