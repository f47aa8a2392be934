/- The law BookPlays, walked. -/
import Derived.Test.YtmjdfajdompkeaaKq20
namespace Go.Proofs.Ytmjdfajdompkeaa
open Go.RowKit Go.Rat
def fmA (d : DS) (p : Int) : DS × Int := if 0 ≤ p ∧ p ≤ 32748 then fmF d p else (d, 1)
theorem bformatA (w : World) (base : Nat) (l : DL) (d : DS) (hD : DiskAt w base l d) (g : Nat) (hg : l.g = g) (hbase : base ≤ w.heap.size) (hlo : d.loose.length < 800000000) (p : Int) :
    Calls Try.prog 47 #[.pointer (some ⟨g, 0, none⟩), .int .i64 p] w fun e w' => ∃ l', e = .returned (.int .i64 (fmA d p).2) ∧ l'.g = g ∧ DiskAt w' base l' (fmA d p).1 ∧ Moved w w' l l' := by
  unfold fmA
  by_cases hp : 0 ≤ p ∧ p ≤ 32748
  · rw [if_pos hp]
    exact bformat_any w base l d hD g hg hbase hlo p (by omega)
  · rw [if_neg hp]
    refine (bformat_far w g p hp).mono ?_
    rintro e w2 ⟨rfl, hb⟩
    exact ⟨l, rfl, hg, hD.below hb, .of_below hb⟩
theorem rformatA (w : World) (base : Nat) (l : RL) (d : DS) (hD : RDk w base l d) (g : Nat) (hg : l.g = g) (hbase : base ≤ w.heap.size) (hlo : d.loose.length < 800000000) (p : Int) :
    Calls Try.prog 51 #[.pointer (some ⟨g, 0, none⟩), .int .i64 p] w fun e w' => ∃ l', e = .returned (.int .i64 (fmA d p).2) ∧ l'.g = g ∧ RDk w' base l' (fmA d p).1 ∧ RMoved w w' l l' := by
  unfold fmA
  by_cases hp : 0 ≤ p ∧ p ≤ 32748
  · rw [if_pos hp]
    exact rformat_any w base l d hD g hg hbase hlo p (by omega)
  · rw [if_neg hp]
    refine (rformat_far w _ p hp).mono ?_
    rintro e w2 ⟨rfl, rfl⟩
    exact ⟨l, rfl, hg, hD, .refl _ _⟩
theorem fmA_len (d : DS) (p : Int) : (fmA d p).1.loose.length ≤ d.loose.length + 20 := by
  unfold fmA
  split
  · exact fmF_len d p
  · simp
set_option maxRecDepth 20000 in
set_option maxHeartbeats 8000000 in
theorem bookPlays_any (w : World) (p size : Int) (A : Option Addr) (m c : Nat) (l : List BStep) (hr : Reads w w.heap.size 5 A m (l.flatMap bstepC)) (hi : ∀ x ∈ l, bstepOk w x) :
    Calls Try.prog 16 #[.int .i64 p, .int .i64 size, .slice A m c] w fun e w' => e = .returned (.bool true) ∧ Below w.heap.size w w' := by
  obtain ⟨base, hbase⟩ : ∃ b, w.heap.size = b := ⟨_, rfl⟩
  have HBASE := Lib.hid hbase
  have HI := Lib.hid hi
  clear hi
  go_enter Try.func16, Try.ntmps16
  go_wp2_with fail
  refine (bfew_any w A m c l hr 40 (by omega)).mono ?_
  rintro e w1 ⟨(rfl | ⟨rfl, hm40, hpk⟩), rfl⟩
  · simp only []
    go_wp2_with (go_at_call 43; refine (works6_any _).mono ?_; rintro e w2 ⟨rfl, hb2⟩)
    go_ret
    exact ⟨rfl, hb2⟩
  simp only []
  have HPK := Lib.hid hpk
  clear hpk
  go_wp2_with fail
  refine (dnew_any w1).mono ?_
  rintro e w2 ⟨l0, rfl, hD, hb⟩
  have hbb : Below w1.heap.size w1 w2 ∧ base ≤ w2.heap.size := ⟨hb, by rw [← hbase]; exact hb.size⟩
  rw [hbase] at hD
  clear hb
  simp only []
  obtain ⟨g, hlg⟩ : ∃ g, l0.g = g := ⟨_, rfl⟩
  rw [hlg]
  go_wp2_with fail
  refine (rgnew w2).mono ?_
  rintro e w3 ⟨L0, rfl, hR, hLg, hb⟩
  have hT : Two w3 base l0 L0 ds0 := ⟨hD.below hb, hR.mono hbb.2, fun x hx hf => by
    have := (hD.fp_lt hx).2
    have := (hR.fp_lt hf).1
    omega⟩
  have hbb := below_base hbb hb
  clear hb hD hR hLg
  simp only []
  obtain ⟨G, hLG⟩ : ∃ g, L0.g = g := ⟨_, rfl⟩
  rw [hLG]
  have hfl := fmA_len ds0 p
  have hf1 := fun w l (h : DiskAt w base l ds0) hg hb => bformatA w base l ds0 h g hg hb (by decide) p
  have hf2 := fun w l (h : RDk w base l ds0) hg hb => rformatA w base l ds0 h G hg hb (by decide) p
  obtain ⟨⟨d, E1⟩, hfm⟩ : ∃ x, fmA ds0 p = x := ⟨_, rfl⟩
  rw [hfm] at hfl
  simp only [hfm] at hf1 hf2
  have HF1 := Lib.hid hf1
  have HF2 := Lib.hid hf2
  have hEE : (E1 != E1) = false := by simp
  have hds : (ds0 : DS).loose.length = 0 := rfl
  simp only [hds] at hfl
  clear hf1 hf2 hfm hds
  go_wp2_with fail
  refine (HF1.out w3 l0 hT.p hlg hbb.2).mono ?_
  rintro e w4 ⟨l1, rfl, hlg1, hD1, hm⟩
  have hbb4 := base_moved hbb (Nat.le_of_eq HBASE.out) hT.p hm
  have hT4 := hT.left hm hD1
  simp only []
  clear hm hT hbb hD1
  go_wp2_with fail
  refine (HF2.out w4 L0 hT4.2.1 hLG hbb4.2).mono ?_
  rintro e w5 ⟨L1, rfl, hLG1, hR1, hm⟩
  have hbb := below_rmoved hbb4 (Nat.le_of_eq HBASE.out) hT4.2.1 hm
  have hT := Two.right hT4 hm hR1
  simp only []
  clear hm hT4 hbb4 hR1 hlg hLG HF1 HF2
  have hlg := hlg1
  have hLG := hLG1
  clear hlg1 hLG1
  go_upto_region 7 with (fail)
  go_cut [9, 10, 11] (fun b mv e wx => ∃ l20, l20.g = g ∧ DiskAt wx base l20 (bopD d p size) ∧ Moved w5 wx l1 l20 ∧ ((bopE d p size ≠ 0 ∧ b = .pointer none ∧ mv = .slice none 0 0 ∧ e = .int .i64 (bopE d p size)) ∨
       (bopE d p size = 0 ∧ ∃ k A N c ps, b = .pointer (some ⟨k, 0, none⟩) ∧ mv = .slice A N c ∧ e = .int .i64 0 ∧ w5.heap.size ≤ k ∧ BookAt wx base l20 k (bopS d p size) ∧ RowN wx l20.fp k A N ps ∧ ps.map (·.xs) = (bopA d p size).1)))
  case first =>
    go_wp2_with fail
    refine (bopen_any3 _ base _ d hT.p g hlg hbb.2 (by omega) p size).mono ?_
    rintro e w20 ⟨l20, hlg2, hD20, hm20, (⟨hE, rfl⟩ | ⟨hE, k2, A5, N5, c5, ps5, rfl, hk2, hB2, hR2, hx2⟩)⟩
    · simp only []
      go_wp2_with fail
      go_meet
      exact ⟨l20, hlg2, hD20, hm20, .inl ⟨hE, rfl, rfl, rfl⟩⟩
    · simp only []
      go_wp2_with fail
      go_meet
      exact ⟨l20, hlg2, hD20, hm20, .inr ⟨hE, k2, A5, N5, c5, ps5, rfl, rfl, rfl, hk2, hB2, hR2, hx2⟩⟩
  case rest =>
    obtain ⟨l20, hlg2, hD20, hm20, hcase⟩ := hcut
    have hbb20 := base_moved hbb (Nat.le_of_eq HBASE.out) hT.p hm20
    have hT20 := hT.left hm20 hD20
    have hL0 : ∀ x, L1.fp x → x < w5.heap.size := fun x hx => (hT.rfp hx).2
    clear hT hbb
    go_upto_region 8 with (fail)
    go_cut [12, 13, 14] (fun x nv f wx => ∃ (d2 : DS) (L21 : RL) (E : Int), u11 = .int .i64 E ∧ f = .int .i64 E ∧ Two wx base l20 L21 d2 ∧ L21.g = G ∧ d2.loose.length ≤ 100 ∧ Below w1.heap.size w1 wx ∧ base ≤ wx.heap.size ∧ BState wx base l20 L21 u9 u10 x nv)
    case first =>
      go_wp2_with fail
      refine (ropen6_any _ base _ d hT20.2.1 G hLG hbb20.2 (by omega) p size).mono ?_
      have hdl := bopD_len d p size
      rcases hcase with ⟨hE, rfl, rfl, rfl⟩ | ⟨hE, k2, A5, N5, c5, ps5, rfl, rfl, rfl, hk2, hB2, hR2, hx2⟩
      · rintro e w21 ⟨L21, hLG2, hR21, hm21, (⟨_, rfl⟩ | ⟨hE', _⟩)⟩
        · simp only []
          have hbb21 := below_rmoved hbb20 (Nat.le_of_eq HBASE.out) hT20.2.1 hm21
          have hT21 := Two.right hT20 hm21 hR21
          go_wp2_with fail
          go_meet
          exact ⟨_, L21, _, rfl, rfl, hT21, hLG2, by omega, hbb21.1, hbb21.2, .inl ⟨rfl, rfl, rfl, rfl⟩⟩
        · exact absurd hE' hE
      · rintro e w21 ⟨L21, hLG2, hR21, hm21, (⟨hE', _⟩ | ⟨_, K2, A6, N6, c6, qs6, rfl, hK2, hX2, hQ2, hy2⟩)⟩
        · exact absurd hE hE'
        · simp only []
          have hbb21 := below_rmoved hbb20 (Nat.le_of_eq HBASE.out) hT20.2.1 hm21
          have hT21 := Two.right hT20 hm21 hR21
          have hok := bop_ok hE
          have hNN : N5 ≤ 100000 := by rw [← hR2.r.len, ← List.length_map (f := fun q : Pt => q.xs), hx2]; omega
          go_wp2_with fail
          go_meet
          exact ⟨_, L21, _, rfl, rfl, hT21, hLG2, by omega, hbb21.1, hbb21.2, .inr ⟨k2, K2, _, A5, N5, c5, ps5, A6, N6, c6, qs6, rfl, rfl, rfl, rfl, BX.new hk2 hB2 hR2 hL0 hD20 hm21 hK2 hX2 hQ2, hok.1, hNN, hx2.trans hy2.symm⟩⟩
    case rest =>
      clear hcase hT20 hbb20 hL0 hm20 hD20 hfl hLG
      obtain ⟨d0, L21, E0, he11, rfl, hT, hLG, hlo, hbk, hbks, hS⟩ := hcut
      rw [he11]
      clear he11
      go_upto_block 0 with (fail)
      go_cut [] (fun wx => Below w1.heap.size w1 wx)
      case first =>
        go_wp2_with fail
        go_loopw [9, 10, 11, 12, 13, 14, 15] (fun b mv e x nv f i wr => ∃ (kk : Nat) (d : DS) (l' : DL) (L' : RL) (E : Int), kk ≤ m ∧ i = .int .i64 (kk : Int) ∧ e = .int .i64 E ∧ f = .int .i64 E ∧ Two wr base l' L' d ∧ l'.g = g ∧ L'.g = G ∧ d.loose.length ≤ 1000 + 100 * kk ∧ Below w1.heap.size w1 wr ∧ base ≤ wr.heap.size ∧ BState wr base l' L' b mv x nv) (fun _ _ _ _ _ _ i _ => m + 1 - (intOf i).toNat)
        case atStart => exact ⟨0, d0, l20, L21, E0, Nat.zero_le _, rfl, rfl, rfl, hT, hlg2, hLG, by omega, hbk, hbks, hS⟩
        case round =>
          clear hT hbk hbks hS hlo hLG hlg2
          obtain ⟨kk, d, l', L', E, hk, rfl, rfl, rfl, hT, hlg, hLG, hlo, hbk, hbks, hS⟩ := hrel
          have g0 : (kk : Int) ≤ (m : Int) := by omega
          have hEE : (E != E) = false := by simp
          have hbb : Below w1.heap.size w1 wr ∧ base ≤ wr.heap.size := ⟨hbk, hbks⟩
          clear hbk hbks
          go_upto_region 12 with (fail)
          go_cut [85] (fun v wx => v = .bool false ∧ Two wx base l' L' d ∧ Below w1.heap.size w1 wx ∧ base ≤ wx.heap.size ∧ BState wx base l' L' u9 u10 u12 u13)
          case first =>
           as_aux_lemma =>
            rcases hS with ⟨rfl, rfl, rfl, rfl⟩ | ⟨k, K, s, A5, N5, c5, qs1, A6, N6, c6, qs2, rfl, rfl, rfl, rfl, hX, hok, hNN, hxs⟩
            · refine wp_region_plan [(0, true), (1, true), (2, true), (3, true), (4, true), (5, true), (6, true), (7, true), (8, true), (9, true), (10, true), (11, true), (12, true), (13, false), (14, true), (15, true), (16, true), (17, true), (18, true), (19, true), (20, true), (22, true), (23, true), (24, true), (25, true), (21, false), (26, true), (27, true), (28, true)] (fun _ => True) (by kernel_rfl) (by kernel_rfl) (by kernel_rfl) (by kernel_rfl) (fun _ _ d _ _ h => by cases d <;> exact h) trivial ?_
              simp only [planOps, List.getElem?_toArray, List.getElem?_cons_zero, List.getElem?_cons_succ]
              repeat (first
                | (refine wpS_skip (by rfl) ?_; simp only [Act.put, List.setIfInBounds_toArray, List.set_cons_zero, List.set_cons_succ])
                | (refine wpS_q ?_ (by rfl) ?_ ?_; rotate_left; (focus (intro z hz; (try dsimp only at hz); go_simp; rfl)); simp only [Act.put, List.setIfInBounds_toArray, List.set_cons_zero, List.set_cons_succ]))
              refine wpS_l (by rfl) (fun K hK => ?_)
              go_wp2_with fail
              refine (same_any _ none 0 0 [] (RowN.nil _ (fun _ => False) 0).r none 0 0 [] (RowN.nil _ (fun _ => False) 0).r (by omega) rfl).mono ?_
              rintro e w7 ⟨rfl, hb⟩
              have hb : Below wr.heap.size wr w7 := drew_below.trans hb
              have hT := hT.below hb
              have hbb := below_base hbb hb
              refine hK _ _ _ trivial (fun _ h => h) ?_
              clear hK hb
              repeat (first
                | (refine wpS_skip (by rfl) ?_; simp only [Act.put, List.setIfInBounds_toArray, List.set_cons_zero, List.set_cons_succ])
                | (refine wpS_q ?_ (by rfl) ?_ ?_; rotate_left; (focus (intro z hz; (try dsimp only at hz); go_simp; rfl)); simp only [Act.put, List.setIfInBounds_toArray, List.set_cons_zero, List.set_cons_succ]))
              refine wpS_nil ?_
              go_wp2_with fail
              go_meet
              exact ⟨rfl, hT, hbb.1, hbb.2, .inl ⟨rfl, rfl, rfl, rfl⟩⟩
            · have k4 := hX.x.blk.cell 4
              simp only [List.getElem?_toArray, List.getElem?_cons_zero, List.getElem?_cons_succ] at k4
              have hss : ((s.n : Int) != (s.n : Int)) = false := by simp
              refine wp_region_plan [(0, true), (1, true), (2, true), (3, true), (4, true), (5, true), (6, true), (7, true), (8, true), (9, true), (10, true), (11, true), (12, true), (13, false), (14, true), (15, true), (16, true), (17, true), (18, true), (19, true), (20, true), (22, true), (23, true), (24, true), (25, true), (21, false), (26, true), (27, true), (28, true)] (fun z => z.cell? ⟨K, 4, none⟩ = some (.int .i64 (s.n : Int))) (by kernel_rfl) (by kernel_rfl) (by kernel_rfl) (by kernel_rfl) (fun _ _ d _ _ h => by cases d <;> exact h) k4 ?_
              simp only [planOps, List.getElem?_toArray, List.getElem?_cons_zero, List.getElem?_cons_succ]
              repeat (first
                | (refine wpS_skip (by rfl) ?_; simp only [Act.put, List.setIfInBounds_toArray, List.set_cons_zero, List.set_cons_succ])
                | (refine wpS_q ?_ (by rfl) ?_ ?_; rotate_left; (focus (intro z hz; (try dsimp only at hz); go_simp; rfl)); simp only [Act.put, List.setIfInBounds_toArray, List.set_cons_zero, List.set_cons_succ]))
              refine wpS_l (by rfl) (fun K2 hK2 => ?_)
              go_wp2_with fail
              have hX' := hX.below drew_below
              refine (same_any _ A5 N5 c5 qs1 hX'.m.r A6 N6 c6 qs2 hX'.n.r hNN hxs).mono ?_
              rintro e w7 ⟨rfl, hb⟩
              have hb : Below wr.heap.size wr w7 := drew_below.trans hb
              have hT := hT.below hb
              have hbb := below_base hbb hb
              have hX := hX.below hb
              clear k4 hX'
              have k4 := hX.x.blk.cell 4
              simp only [List.getElem?_toArray, List.getElem?_cons_zero, List.getElem?_cons_succ] at k4
              refine hK2 _ _ _ k4 (fun _ h => h) ?_
              clear hK2 hb
              repeat (first
                | (refine wpS_skip (by rfl) ?_; simp only [Act.put, List.setIfInBounds_toArray, List.set_cons_zero, List.set_cons_succ])
                | (refine wpS_q ?_ (by rfl) ?_ ?_; rotate_left; (focus (intro z hz; (try dsimp only at hz); go_simp; rfl)); simp only [Act.put, List.setIfInBounds_toArray, List.set_cons_zero, List.set_cons_succ]))
              refine wpS_l (by rfl) (fun K2 hK2 => ?_)
              go_wp2_with fail
              refine (blen_any _ base _ k s hX.b).mono ?_
              rintro e w8 ⟨rfl, rfl⟩
              refine hK2 _ _ _ k4 (fun _ h => h) ?_
              clear hK2
              repeat (first
                | (refine wpS_skip (by rfl) ?_; simp only [Act.put, List.setIfInBounds_toArray, List.set_cons_zero, List.set_cons_succ])
                | (refine wpS_q ?_ (by rfl) ?_ ?_; rotate_left; (focus (intro z hz; (try dsimp only at hz); go_simp; rfl)); simp only [Act.put, List.setIfInBounds_toArray, List.set_cons_zero, List.set_cons_succ]))
              refine wpS_nil ?_
              go_wp2_with fail
              go_meet
              exact ⟨rfl, hT, hbb.1, hbb.2, .inr ⟨k, K, s, A5, N5, c5, qs1, A6, N6, c6, qs2, rfl, rfl, rfl, rfl, hX, hok, hNN, hxs⟩⟩
          case rest =>
            clear hT hbb hS
            obtain ⟨rfl, hT, hbk, hbks, hS⟩ := hcut
            have hbb : Below w1.heap.size w1 wc ∧ base ≤ wc.heap.size := ⟨hbk, hbks⟩
            clear hbk hbks
            by_cases hkm : kk < m
            · obtain ⟨ad, ⟨x1, ⟨A2, n2, z2, bs⟩, x3, x4, ⟨A4, n4, z4, ps⟩⟩, e, hxl, hg, hadl, hcs, _⟩ := bstep_at hr hkm
              cases e
              obtain ⟨hB2, hx4, hB4⟩ := HI.out _ hxl
              have hbd := HPK.out kk _ hkm hg
              simp only [] at hB2 hB4 hx4 hbd
              obtain ⟨hR2, _, _⟩ := hB2
              obtain ⟨hR4, _, _⟩ := hB4
              obtain ⟨hn4, hn2⟩ := hbd
              simp only [] at hn2 hn4 hR2 hR4
              obtain ⟨P, hP⟩ : ∃ P, ad.add (kk * 5) = P := ⟨_, rfl⟩
              rw [hP] at hadl hcs
              have hQ : ∀ j u, ([.int .u8 (x1.toNat : Int), .slice A2 n2 z2, .int .u8 (x3.toNat : Int), .int .i8 x4, .slice A4 n4 z4] : List Value)[j]? = some u → wc.cell? (P.add j) = some u := fun j u hu => (hbb.1.cell (by rw [block_of_add]; exact hadl)).trans (hcs j u hu)
              have HQ := Lib.hid hQ
              have g1 : ((kk : Int) == (m : Int)) = false := by simp; omega
              have g2 : (0 : Int) ≤ (kk : Int) := by omega
              have g3 : (kk : Int) < (m : Int) := by omega
              have hx3 := x3.toNat_lt
              obtain ⟨q, hq⟩ : ∃ q, x1.toNat % 6 = q := ⟨_, rfl⟩
              have hq6 : q = 0 ∨ q = 1 ∨ q = 2 ∨ q = 3 ∨ q = 4 ∨ q = 5 := by omega
              have hq0 : (x1.toNat : Int) % 6 = (q : Int) := by omega
              have HQ0 := Lib.hid hq0
              have hal : ∀ {A9 : Option Addr} {n9 : Nat} {b9 : List UInt8}, RB w1 A9 n9 b9 → n9 ≠ 0 → ∀ x, A9.map (·.block) = some x → x < base := fun hR hn0 x hx => by
                obtain ⟨a1, hA, hlt, _⟩ := hR.2 (by omega)
                rw [hA] at hx
                have hxe : a1.block = x := Option.some.inj hx
                have hbe := HBASE.out
                omega
              have ha2 := hal hR2
              have ha4 := hal hR4
              clear hxl hcs hQ hg hq hq0 hal
              have h5 : (#[.int .u8 (x1.toNat : Int), .slice A2 n2 z2, .int .u8 (x3.toNat : Int), .int .i8 x4, .slice A4 n4 z4] : Array Value).all (·.oneCell') = true := by simp [Value.oneCell']
              repeat (first
                | ((with_reducible refine wpl_load_any P [.int .u8 (x1.toNat : Int), .slice A2 n2 z2, .int .u8 (x3.toNat : Int), .int .i8 x4, .slice A4 n4 z4] Try.underlying94 rfl i94 rfl HQ.out ?_ ?_); (focus rfl); simp only [Act.put, List.setIfInBounds_toArray, List.set_cons_zero, List.set_cons_succ])
                | ((with_reducible refine wpl_store_fresh #[.int .u8 (x1.toNat : Int), .slice A2 n2 z2, .int .u8 (x3.toNat : Int), .int .i8 x4, .slice A4 n4 z4] i94 ?_ rfl h5 ?_ ?_ ?_); (focus kernel_rfl); (focus rfl); (focus rfl); intro w7 hX hl7 hb7; simp only [Act.put]; refine Hid.out ?_)
                | go_values | go_skip | go_guarded | go_step | go_upon | go_back)
              refine Lib.hid ?_
              have hT0 := hT
              have hT := hT.below hb7
              have hbb := below_base hbb hb7
              have hS := hS.below hb7
              clear hb7 h5 HQ hadl
              obtain ⟨gx, hgx⟩ : ∃ x, wc.heap.size = x := ⟨_, rfl⟩
              rw [hgx] at hX hl7 ⊢
              have hgf : ¬ l'.fp gx := fun q => by have := (hT0.p.fp_lt q).2; omega
              have hgF : ¬ L'.fp gx := fun q => by have := (hT0.rfp q).2; omega
              clear hT0
              have c0 := hX.cell 0
              simp only [List.getElem?_toArray, List.getElem?_cons_zero] at c0
              go_upto_block 2 with (fail)
              have hq0 := HQ0.out
              rw [hq0]
              clear hq0 c0
              rcases hq6 with rfl | rfl | rfl | rfl | rfl | rfl
              · as_aux_lemma =>
                  rcases hS with ⟨rfl, rfl, rfl, rfl⟩ | ⟨k, K, s, A5, N5, c5, qs1, A6, N6, c6, qs2, rfl, rfl, rfl, rfl, hX2, hok, hNN, hxs⟩
                  · go_wp2_with fail
                    refine wp_region_plan [(0, true), (1, true), (2, true), (3, true), (5, true), (6, true), (9, true), (10, true), (11, true), (4, false), (7, false), (8, false), (12, false), (13, true), (14, true)] (fun _ => True) (by kernel_rfl) (by kernel_rfl) (by kernel_rfl) (by kernel_rfl) (fun _ _ d _ _ h => by cases d <;> exact h) trivial ?_
                    simp only [planOps, List.getElem?_toArray, List.getElem?_cons_zero, List.getElem?_cons_succ]
                    repeat (first
                      | (refine wpS_skip (by rfl) ?_; simp only [Act.put, List.setIfInBounds_toArray, List.set_cons_zero, List.set_cons_succ])
                      | (refine wpS_q ?_ (by rfl) ?_ ?_; rotate_left; (focus (intro z hz; (try dsimp only at hz); go_simp; rfl)); simp only [Act.put, List.setIfInBounds_toArray, List.set_cons_zero, List.set_cons_succ]))
                    refine wpS_nil ?_
                    have hbb := below_base hbb (drew_below (w := w7))
                    have hT := hT.below (drew_below (w := w7))
                    go_wp2_with fail
                    exact ⟨⟨kk + 1, _, l', L', E, by omega, congrArg (Value.int .i64) (by omega), rfl, rfl, hT, hlg, hLG, by omega, hbb.1, hbb.2, .inl ⟨rfl, rfl, rfl, rfl⟩⟩, by simp only [intOf]; omega⟩
                  · have hkx : k ≠ gx := blk_ne hX2.b.blk hX (by decide)
                    have hKx : K ≠ gx := blk_ne hX2.x.blk hX (by decide)
                    have hEE2 := (fun (v : Int) => (by simp : (v != v) = false))
                    have hap := bapR_len d s bs
                    have hbok := bap_ok (d := d) (r := bs) hok
                    have hdl : d.loose.length < 800000000 := by omega
                    have hok2 := hok
                    obtain ⟨o1, o2, o3, o4, o5⟩ := hok2
                    go_wp2_with fail
                    refine wp_region_plan [(0, true), (1, true), (2, true), (3, true), (5, true), (6, true), (9, true), (10, true), (11, true), (4, false), (7, false), (8, false), (12, false), (13, true), (14, true)] (fun z => Blk z gx 94 #[.int .u8 (x1.toNat : Int), .slice A2 n2 z2, .int .u8 (x3.toNat : Int), .int .i8 x4, .slice A4 n4 z4]) (by kernel_rfl) (by kernel_rfl) (by kernel_rfl) (by kernel_rfl) (fun _ _ d _ _ h => by cases d <;> exact h) hX ?_
                    simp only [planOps, List.getElem?_toArray, List.getElem?_cons_zero, List.getElem?_cons_succ]
                    have q1 : ∀ z, Blk z gx 94 #[.int .u8 (x1.toNat : Int), .slice A2 n2 z2, .int .u8 (x3.toNat : Int), .int .i8 x4, .slice A4 n4 z4] → z.cell? ⟨gx, 1, none⟩ = some (.slice A2 n2 z2) := fun z hz => hz.cell 1
                    repeat (first
                      | (refine wpS_skip (by rfl) ?_; simp only [Act.put, List.setIfInBounds_toArray, List.set_cons_zero, List.set_cons_succ])
                      | (refine wpS_q ?_ (by rfl) ?_ ?_; rotate_left; (focus (intro z hz; (try dsimp only at hz); go_simp; rfl)); simp only [Act.put, List.setIfInBounds_toArray, List.set_cons_zero, List.set_cons_succ]))
                    refine wpS_l (by rfl) (fun K1 hK1 => ?_)
                    go_wp2_with fail
                    have hbA : Below w7.heap.size w7 (w7.alloc (.cells #[] 5)).drew := (below_alloc w7 (.cells #[] 5)).drew
                    have hO0 : OB 5 (w7.alloc (.cells #[] 5)).drew w7.heap.size (some ⟨w7.heap.size, 0, none⟩) 0 0 [] := OB.below (OB.empty w7 _) drew_below
                    have hXA := hX.below hbA hX.lt
                    have hRA := hR2.below (below_base hbb hbA).1
                    refine hK1 _ _ _ hXA (fun _ h => h) ?_
                    clear hK1 hXA
                    refine wpS_l (by rfl) (fun K2 hK2 => ?_)
                    refine wp_appB _ _ rfl w7.heap.size _ _ _ [] rfl hO0 A2 n2 z2 bs rfl hRA (by omega) hbA.size ?_
                    intro A9 N9 c9 w9 hc9 hc9' hO9 hG9
                    have hb9 : Below w7.heap.size w7 w9 := hG9.own hbA (Nat.le_refl _) hO0
                    have hX := hX.below hb9 hX.lt
                    have hT := hT.below hb9
                    have hbb := below_base hbb hb9
                    have hX2 := hX2.below hb9
                    have hr9 := hO9.reads
                    have hl9 := hO9.len
                    rw [List.nil_append] at hr9 hl9
                    have hl2 := hR2.len
                    refine hK2 _ _ _ hX (fun _ h => h) ?_
                    clear hK2 hO0 hRA hbA hG9 hb9 hO9
                    refine wpS_l (by rfl) (fun K3 hK3 => ?_)
                    go_wp2_with fail
                    refine (bappend_any _ base l' d hT.p hbb.2 hdl k s hX2.b ⟨o1, o2, o3, by omega, o5⟩ A9 N9 c9 bs hr9 (by omega)).mono ?_
                    rintro e w10 ⟨l10, rfl, hlg10, hD10, hB10, hm10⟩
                    have hbb10 := base_cmoved hbb (Nat.le_of_eq HBASE.out) hT.p hX2.b hm10
                    have hT10 := hT.leftC hm10 hX2.kL hD10
                    have hX210 := hX2.left hm10 hB10
                    have hX10 := hm10.chg.blk hX (fun hf => hf.elim hgf (fun e => hkx e.symm))
                    refine hK3 _ _ _ hX10 (fun _ h => h) ?_
                    clear hK3 hm10 hB10 hD10 hX2 hT hX hbb hr9
                    refine wpS_l (by rfl) (fun K4 hK4 => ?_)
                    go_wp2_with fail
                    refine (rappend6_any _ base L' d hT10.2.1 G hLG hbb10.2 hdl K s hX210.x ⟨o1, o2, o3, by omega, o5⟩ A2 n2 z2 bs (hR2.below hbb10.1) (by omega) (fun hn0 x hx => ⟨fun hf => by have := ha2 hn0 x hx; have := (hT10.2.1.fp_lt hf).1; omega, by have := ha2 hn0 x hx; have := hX210.x.bk; omega⟩)).mono ?_
                    rintro e w11 ⟨L11, rfl, hLG11, hR11, hB11, hm11⟩
                    have hbb11 := base_rcmoved hbb10 (Nat.le_of_eq HBASE.out) hT10.2.1 hX210.x hm11
                    have hT11 := Two.rightC hT10 hm11 hX210.Kl hR11
                    have hX211 := hX210.right hm11 hB11
                    have hX11 := hm11.chg.blk hX10 (fun hf => hf.elim hgF (fun e => hKx e.symm))
                    refine hK4 _ _ _ hX11 (fun _ h => h) ?_
                    clear hK4 hm11 hB11 hR11 hX210 hT10 hX10 hbb10
                    have hS2 : BState w11 base l10 L11 (.pointer (some ⟨k, 0, none⟩)) (.slice A5 N5 c5) (.pointer (some ⟨K, 0, none⟩)) (.slice A6 N6 c6) := .inr ⟨k, K, _, A5, N5, c5, qs1, A6, N6, c6, qs2, rfl, rfl, rfl, rfl, hX211, hbok, hNN, hxs⟩
                    clear hX211 hbok
                    obtain ⟨E2, hE2⟩ : ∃ x, (bapR d s bs).2.2 = x := ⟨_, rfl⟩
                    have hEE3 : (E2 != E2) = false := by simp
                    rw [hE2]
                    clear hE2
                    repeat (first
                      | (refine wpS_skip (by rfl) ?_; simp only [Act.put, List.setIfInBounds_toArray, List.set_cons_zero, List.set_cons_succ])
                      | (refine wpS_q ?_ (by rfl) ?_ ?_; rotate_left; (focus (intro z hz; (try dsimp only at hz); go_simp; rfl)); simp only [Act.put, List.setIfInBounds_toArray, List.set_cons_zero, List.set_cons_succ]))
                    refine wpS_nil ?_
                    go_wp2_with fail
                    exact ⟨⟨kk + 1, _, l10, L11, E, by omega, congrArg (Value.int .i64) (by omega), rfl, rfl, hT11, hlg10.trans hlg, hLG11, by omega, hbb11.1, hbb11.2, hS2⟩, by simp only [intOf]; omega⟩
              · as_aux_lemma =>
                  have c3 := hX.cell 3
                  simp only [List.getElem?_toArray, List.getElem?_cons_zero, List.getElem?_cons_succ] at c3
                  go_wp2_with fail
                  refine (gfuse _ base g _ _ hT.p hlg x4 (by omega)).mono ?_
                  rintro e w9 ⟨l9, rfl, hlg9, hD9, hm⟩
                  have hbb := base_moved hbb (Nat.le_of_eq HBASE.out) hT.p hm
                  have hX := hm.chg.blk hX hgf
                  have hS := hS.left hm
                  have hT := hT.left hm hD9
                  have c3 := hX.cell 3
                  simp only [List.getElem?_toArray, List.getElem?_cons_zero, List.getElem?_cons_succ] at c3
                  simp only []
                  obtain ⟨_, _, _, _, f3, u, cu⟩ := hT.2.1.cells
                  have hR9 := hT.2.1.fuses x4 (by omega)
                  have hgr := grownBy_set w9 L'.g 3 (.int .i64 (max x4 (-1)))
                  have hm9 := RMoved.of_grown (l := L') hgr
                  have hbb := below_rmoved hbb (Nat.le_of_eq HBASE.out) hT.2.1 hm9
                  have hS := hS.right hm9
                  have hT := Two.right hT hm9 hR9
                  rw [hLG] at f3 cu hT hbb hS
                  clear hm hm9 hgr hR9
                  have e : max x4 (-1) = if x4 < -1 then -1 else x4 := by split <;> omega
                  rw [e] at hT hbb hS
                  go_wp2_with fail
                  exact ⟨⟨kk + 1, _, l9, L', E, by omega, congrArg (Value.int .i64) (by omega), rfl, rfl, hT, hlg9, hLG, Nat.le_trans hlo (by omega), hbb.1, hbb.2, hS⟩, by simp only [intOf]; omega⟩
              · as_aux_lemma =>
                  go_wp2_with fail
                  refine (goff _ base g _ _ hT.p hlg).mono ?_
                  rintro e w9 ⟨l9, rfl, hlg9, hD9, hm⟩
                  have hbb := base_moved hbb (Nat.le_of_eq HBASE.out) hT.p hm
                  have hS := hS.left hm
                  have hT := hT.left hm hD9
                  simp only []
                  clear hm
                  go_wp2_with fail
                  refine (rgoff _ base G _ _ hT.2.1 hLG).mono ?_
                  rintro e w11 ⟨L9, rfl, hLG9, hR9, hm⟩
                  have hbb := below_rmoved hbb (Nat.le_of_eq HBASE.out) hT.2.1 hm
                  have hS := hS.right hm
                  have hT := Two.right hT hm hR9
                  simp only []
                  clear hm
                  go_wp2_with fail
                  exact ⟨⟨kk + 1, _, l9, L9, E, by omega, congrArg (Value.int .i64) (by omega), rfl, rfl, hT, hlg9, hLG9, Nat.le_trans hlo (by omega), hbb.1, hbb.2, hS⟩, by simp only [intOf]; omega⟩
              · as_aux_lemma =>
                  have q4 : ∀ z, Blk z gx 94 #[.int .u8 (x1.toNat : Int), .slice A2 n2 z2, .int .u8 (x3.toNat : Int), .int .i8 x4, .slice A4 n4 z4] → z.cell? ⟨gx, 4, none⟩ = some (.slice A4 n4 z4) := fun z hz => hz.cell 4
                  have hll := onAll_len d ps
                  go_wp2_with fail
                  refine wp_region_plan [(0, true), (1, true), (2, true), (4, true), (5, true), (6, true), (3, false), (7, false), (8, true)] (fun z => Blk z gx 94 #[.int .u8 (x1.toNat : Int), .slice A2 n2 z2, .int .u8 (x3.toNat : Int), .int .i8 x4, .slice A4 n4 z4]) (by kernel_rfl) (by kernel_rfl) (by kernel_rfl) (by kernel_rfl) (fun _ _ d _ _ h => by cases d <;> exact h) hX ?_
                  simp only [planOps, List.getElem?_toArray, List.getElem?_cons_zero, List.getElem?_cons_succ]
                  iterate 6 (refine wpS_q ?_ (by rfl) ?_ ?_; rotate_left; (focus (intro z hz; (try dsimp only at hz); go_simp; rfl)); simp only [Act.put, List.setIfInBounds_toArray, List.set_cons_zero, List.set_cons_succ])
                  have hT := hT.below drew_below
                  have hbb := below_base hbb (drew_below (w := w7))
                  refine wpS_l (by rfl) (fun K hK => ?_)
                  go_wp2_with fail
                  refine (gonN _ base g _ _ hT.p hlg A4 n4 z4 ps (hR4.below hbb.1) (fun hn0 x hx hf => by have := ha4 hn0 x hx; have := (hT.p.fp_lt hf).1; omega)).mono ?_
                  rintro e w9 ⟨l9, rfl, hlg9, hD9, hm⟩
                  have hbb := base_moved hbb (Nat.le_of_eq HBASE.out) hT.p hm
                  have hX := hm.chg.blk (show Blk w7.drew gx 94 #[.int .u8 (x1.toNat : Int), .slice A2 n2 z2, .int .u8 (x3.toNat : Int), .int .i8 x4, .slice A4 n4 z4] from hX) hgf
                  have hT := hT.left hm hD9
                  refine hK _ _ _ hX (fun _ h => h) ?_
                  clear hK hm
                  refine wpS_l (by rfl) (fun K hK => ?_)
                  go_wp2_with fail
                  refine (rgon _ base G _ _ hT.2.1 hLG hbb.2 A4 n4 z4 ps (hR4.below hbb.1) (fun hn0 x hx hf => by have := ha4 hn0 x hx; have := (hT.2.1.fp_lt hf).1; omega)).mono ?_
                  rintro e w11 ⟨L9, rfl, hLG9, hR9, hm⟩
                  have hbb := below_rmoved hbb (Nat.le_of_eq HBASE.out) hT.2.1 hm
                  have hX := hm.chg.blk hX hgF
                  have hT := Two.right hT hm hR9
                  refine hK _ _ _ hX (fun _ h => h) ?_
                  clear hK hm hS
                  obtain ⟨dn, hdn⟩ : ∃ x, onAll d ps = x := ⟨_, rfl⟩
                  rw [hdn] at hT hll
                  clear hdn hlg hLG
                  have hlg := hlg9
                  have hLG := hLG9
                  have hdlo : dn.loose.length ≤ 1000 + 100 * kk := by omega
                  repeat (first
                    | (refine wpS_skip (by rfl) ?_; simp only [Act.put, List.setIfInBounds_toArray, List.set_cons_zero, List.set_cons_succ])
                    | (refine wpS_q ?_ (by rfl) ?_ ?_; rotate_left; (focus (intro z hz; (try dsimp only at hz); go_simp; rfl)); simp only [Act.put, List.setIfInBounds_toArray, List.set_cons_zero, List.set_cons_succ]))
                  refine wpS_nil ?_
                  go_wp2_with fail
                  refine (bopen_any3 _ base _ dn hT.p g hlg hbb.2 (by omega) p size).mono ?_
                  rintro e w20 ⟨l20, hlg2, hD20, hm20, (⟨hE, rfl⟩ | ⟨hE, k2, A5, N5, c5, ps5, rfl, hk2, hB2, hR2, hx2⟩)⟩
                  all_goals
                    simp only []
                    have hbb20 := base_moved hbb (Nat.le_of_eq HBASE.out) hT.p hm20
                    have hT20 := hT.left hm20 hD20
                    have hL0 : ∀ x, L9.fp x → x < _ := fun x hx => (hT.rfp hx).2
                    go_wp2_with fail
                    refine (ropen6_any _ base _ dn hT20.2.1 G hLG hbb20.2 (by omega) p size).mono ?_
                  · rintro e w21 ⟨L21, hLG2, hR21, hm21, (⟨_, rfl⟩ | ⟨hE', _⟩)⟩
                    · simp only []
                      have hbb21 := below_rmoved hbb20 (Nat.le_of_eq HBASE.out) hT20.2.1 hm21
                      have hT21 := Two.right hT20 hm21 hR21
                      have hS : BState w21 base l20 L21 (.pointer none) (.slice none 0 0) (.pointer none) (.slice none 0 0) := .inl ⟨rfl, rfl, rfl, rfl⟩
                      have hdl := bopD_len dn p size
                      clear hT20 hbb20 hm20 hm21 hD20 hR21 hT hbb hL0 hE
                      obtain ⟨d2, hd2⟩ : ∃ x, bopD dn p size = x := ⟨_, rfl⟩
                      obtain ⟨E2, hE2⟩ : ∃ x, bopE dn p size = x := ⟨_, rfl⟩
                      rw [hd2] at hT21 hdl
                      rw [hE2]
                      clear hd2 hE2
                      go_wp2_with fail
                      exact ⟨⟨kk + 1, d2, l20, L21, E2, by omega, congrArg (Value.int .i64) (by omega), rfl, rfl, hT21, hlg2, hLG2, by omega, hbb21.1, hbb21.2, hS⟩, by simp only [intOf]; omega⟩
                    · exact absurd hE' hE
                  · rintro e w21 ⟨L21, hLG2, hR21, hm21, (⟨hE', _⟩ | ⟨_, K2, A6, N6, c6, qs6, rfl, hK2, hX2, hQ2, hy2⟩)⟩
                    · exact absurd hE hE'
                    · simp only []
                      have hbb21 := below_rmoved hbb20 (Nat.le_of_eq HBASE.out) hT20.2.1 hm21
                      have hT21 := Two.right hT20 hm21 hR21
                      have hok := bop_ok hE
                      have hNN : N5 ≤ 100000 := by rw [← hR2.r.len, ← List.length_map (f := fun q : Pt => q.xs), hx2]; omega
                      have hS : BState w21 base l20 L21 (.pointer (some ⟨k2, 0, none⟩)) (.slice A5 N5 c5) (.pointer (some ⟨K2, 0, none⟩)) (.slice A6 N6 c6) := .inr ⟨k2, K2, _, A5, N5, c5, ps5, A6, N6, c6, qs6, rfl, rfl, rfl, rfl, BX.new hk2 hB2 hR2 hL0 hD20 hm21 hK2 hX2 hQ2, hok.1, hNN, hx2.trans hy2.symm⟩
                      have hdl := bopD_len dn p size
                      clear hT20 hbb20 hm20 hm21 hD20 hR21 hT hbb hL0 hE hok hNN hB2 hR2 hX2 hQ2 hx2 hy2
                      obtain ⟨d2, hd2⟩ : ∃ x, bopD dn p size = x := ⟨_, rfl⟩
                      rw [hd2] at hT21 hdl
                      clear hd2
                      go_wp2_with fail
                      exact ⟨⟨kk + 1, d2, l20, L21, 0, by omega, congrArg (Value.int .i64) (by omega), rfl, rfl, hT21, hlg2, hLG2, by omega, hbb21.1, hbb21.2, hS⟩, by simp only [intOf]; omega⟩
              · as_aux_lemma =>
                  have c2 := hX.cell 2
                  simp only [List.getElem?_toArray, List.getElem?_cons_zero, List.getElem?_cons_succ] at c2
                  have hw3 : IntKind.i64.wrap (x3.toNat : Int) = (x3.toNat : Int) := IntWalk.i64_in _ (by omega)
                  obtain ⟨kq, hkq⟩ : ∃ y, IntKind.i64.wrap (p + (x3.toNat : Int)) = y := ⟨_, rfl⟩
                  have hrl := rawF_length bs
                  have hraw := fun w (h : RB w A2 n2 bs) => rraw_any w x1 x3 x4 A2 n2 z2 bs h hn2 A4 n4 z4
                  obtain ⟨RW, hRW⟩ : ∃ x, rawF bs = x := ⟨_, rfl⟩
                  rw [hRW] at hrl
                  simp only [hRW] at hraw
                  have HRAW := Lib.hid hraw
                  have hll := writeD_len d kq RW
                  clear hraw hRW
                  go_wp2_with fail
                  refine wp_region_plan [(0, true), (1, true), (2, true), (5, true), (6, true), (7, true), (3, false), (4, false), (8, false), (9, false), (10, true)] (fun z => Blk z gx 94 #[.int .u8 (x1.toNat : Int), .slice A2 n2 z2, .int .u8 (x3.toNat : Int), .int .i8 x4, .slice A4 n4 z4]) (by kernel_rfl) (by kernel_rfl) (by kernel_rfl) (by kernel_rfl) (fun _ _ d _ _ h => by cases d <;> exact h) hX ?_
                  simp only [planOps, List.getElem?_toArray, List.getElem?_cons_zero, List.getElem?_cons_succ]
                  iterate 2 (refine wpS_q ?_ (by rfl) ?_ ?_; rotate_left; (focus (intro z hz; (try dsimp only at hz); go_simp; rfl)); simp only [Act.put, List.setIfInBounds_toArray, List.set_cons_zero, List.set_cons_succ])
                  refine wpS_q (.agg #[.int .u8 (x1.toNat : Int), .slice A2 n2 z2, .int .u8 (x3.toNat : Int), .int .i8 x4, .slice A4 n4 z4]) (by rfl) (fun z hz => load_row_run rfl gx _ Try.underlying94 rfl i94 hz rfl rfl) ?_
                  simp only [Act.put, List.setIfInBounds_toArray, List.set_cons_zero, List.set_cons_succ]
                  iterate 2 (refine wpS_q ?_ (by rfl) ?_ ?_; rotate_left; (focus (intro z hz; (try dsimp only at hz); go_simp; rfl)); simp only [Act.put, List.setIfInBounds_toArray, List.set_cons_zero, List.set_cons_succ])
                  refine wpS_q (.agg #[.int .u8 (x1.toNat : Int), .slice A2 n2 z2, .int .u8 (x3.toNat : Int), .int .i8 x4, .slice A4 n4 z4]) (by rfl) (fun z hz => load_row_run rfl gx _ Try.underlying94 rfl i94 hz rfl rfl) ?_
                  simp only [Act.put, List.setIfInBounds_toArray, List.set_cons_zero, List.set_cons_succ]
                  refine wpS_l (by rfl) (fun K hK => ?_)
                  go_wp2_with fail
                  refine (HRAW.out _ (hR2.below (below_base hbb (drew_below (w := w7))).1)).mono ?_
                  rintro e w8 ⟨rfl, hb⟩
                  have hb3 : Below w7.heap.size w7 w8 := drew_below.trans hb
                  have hX := hX.below hb3 hX.lt
                  have hT := hT.below hb3
                  have hS := hS.below hb3
                  have hbb := below_base hbb hb3
                  refine hK _ _ _ hX (fun _ h => h) ?_
                  clear hK hb hb3 c2
                  refine wpS_l (by rfl) (fun K hK => ?_)
                  go_wp2_with fail
                  refine (gwrite _ base g _ _ hT.p hlg hbb.2 kq RW hrl (by omega)).mono ?_
                  rintro e w9 ⟨l9, rfl, hlg9, hD9, hm⟩
                  have hbb := base_moved hbb (Nat.le_of_eq HBASE.out) hT.p hm
                  have hX := hm.chg.blk hX hgf
                  have hS := hS.left hm
                  have hT := hT.left hm hD9
                  refine hK _ _ _ hX (fun _ h => h) ?_
                  clear hK hm
                  refine wpS_l (by rfl) (fun K hK => ?_)
                  go_wp2_with fail
                  refine (HRAW.out _ (hR2.below hbb.1)).mono ?_
                  rintro e w10 ⟨rfl, hb⟩
                  have hX := hX.below hb hX.lt
                  have hT : DiskAt w10 base l9 (writeD d kq RW) ∧ RDk w10 base L' d ∧ ∀ x, l9.fp x → ¬ L'.fp x := ⟨hT.1.below hb, hT.2.1.below hb, hT.2.2⟩
                  have hS := hS.below hb
                  have hbb := below_base hbb hb
                  refine hK _ _ _ hX (fun _ h => h) ?_
                  clear hK hb
                  refine wpS_l (by rfl) (fun K hK => ?_)
                  go_wp2_with fail
                  refine (rgwrite _ base G _ _ hT.2.1 hLG hbb.2 kq RW hrl (by omega)).mono ?_
                  rintro e w11 ⟨L9, rfl, hLG9, hR9, hm⟩
                  have hbb := below_rmoved hbb (Nat.le_of_eq HBASE.out) hT.2.1 hm
                  have hX := hm.chg.blk hX hgF
                  have hS := hS.right hm
                  have hT := Two.right hT hm hR9
                  refine hK _ _ _ hX (fun _ h => h) ?_
                  clear hK hm
                  obtain ⟨E2, hE2⟩ : ∃ x, writeE d kq = x := ⟨_, rfl⟩
                  have hEE3 : (E2 != E2) = false := by simp
                  rw [hE2]
                  clear hE2
                  repeat (first
                    | (refine wpS_skip (by rfl) ?_; simp only [Act.put, List.setIfInBounds_toArray, List.set_cons_zero, List.set_cons_succ])
                    | (refine wpS_q ?_ (by rfl) ?_ ?_; rotate_left; (focus (intro z hz; (try dsimp only at hz); go_simp; rfl)); simp only [Act.put, List.setIfInBounds_toArray, List.set_cons_zero, List.set_cons_succ]))
                  refine wpS_nil ?_
                  go_wp2_with fail
                  exact ⟨⟨kk + 1, _, l9, L9, E, by omega, congrArg (Value.int .i64) (by omega), rfl, rfl, hT, hlg9, hLG9, by omega, hbb.1, hbb.2, hS⟩, by simp only [intOf]; omega⟩
              · as_aux_lemma =>
                  go_wp2_with fail
                  clear hS
                  have hdlo : d.loose.length ≤ 1000 + 100 * kk := hlo
                  refine (bopen_any3 _ base _ d hT.p g hlg hbb.2 (by omega) p size).mono ?_
                  rintro e w20 ⟨l20, hlg2, hD20, hm20, (⟨hE, rfl⟩ | ⟨hE, k2, A5, N5, c5, ps5, rfl, hk2, hB2, hR2, hx2⟩)⟩
                  all_goals
                    simp only []
                    have hbb20 := base_moved hbb (Nat.le_of_eq HBASE.out) hT.p hm20
                    have hT20 := hT.left hm20 hD20
                    have hL0 : ∀ x, L'.fp x → x < _ := fun x hx => (hT.rfp hx).2
                    go_wp2_with fail
                    refine (ropen6_any _ base _ d hT20.2.1 G hLG hbb20.2 (by omega) p size).mono ?_
                  · rintro e w21 ⟨L21, hLG2, hR21, hm21, (⟨_, rfl⟩ | ⟨hE', _⟩)⟩
                    · simp only []
                      have hbb21 := below_rmoved hbb20 (Nat.le_of_eq HBASE.out) hT20.2.1 hm21
                      have hT21 := Two.right hT20 hm21 hR21
                      have hS : BState w21 base l20 L21 (.pointer none) (.slice none 0 0) (.pointer none) (.slice none 0 0) := .inl ⟨rfl, rfl, rfl, rfl⟩
                      have hdl := bopD_len d p size
                      clear hT20 hbb20 hm20 hm21 hD20 hR21 hT hbb hL0 hE
                      obtain ⟨d2, hd2⟩ : ∃ x, bopD d p size = x := ⟨_, rfl⟩
                      obtain ⟨E2, hE2⟩ : ∃ x, bopE d p size = x := ⟨_, rfl⟩
                      rw [hd2] at hT21 hdl
                      rw [hE2]
                      clear hd2 hE2
                      go_wp2_with fail
                      exact ⟨⟨kk + 1, d2, l20, L21, E2, by omega, congrArg (Value.int .i64) (by omega), rfl, rfl, hT21, hlg2, hLG2, by omega, hbb21.1, hbb21.2, hS⟩, by simp only [intOf]; omega⟩
                    · exact absurd hE' hE
                  · rintro e w21 ⟨L21, hLG2, hR21, hm21, (⟨hE', _⟩ | ⟨_, K2, A6, N6, c6, qs6, rfl, hK2, hX2, hQ2, hy2⟩)⟩
                    · exact absurd hE hE'
                    · simp only []
                      have hbb21 := below_rmoved hbb20 (Nat.le_of_eq HBASE.out) hT20.2.1 hm21
                      have hT21 := Two.right hT20 hm21 hR21
                      have hok := bop_ok hE
                      have hNN : N5 ≤ 100000 := by rw [← hR2.r.len, ← List.length_map (f := fun q : Pt => q.xs), hx2]; omega
                      have hS : BState w21 base l20 L21 (.pointer (some ⟨k2, 0, none⟩)) (.slice A5 N5 c5) (.pointer (some ⟨K2, 0, none⟩)) (.slice A6 N6 c6) := .inr ⟨k2, K2, _, A5, N5, c5, ps5, A6, N6, c6, qs6, rfl, rfl, rfl, rfl, BX.new hk2 hB2 hR2 hL0 hD20 hm21 hK2 hX2 hQ2, hok.1, hNN, hx2.trans hy2.symm⟩
                      have hdl := bopD_len d p size
                      clear hT20 hbb20 hm20 hm21 hD20 hR21 hT hbb hL0 hE hok hNN hB2 hR2 hX2 hQ2 hx2 hy2
                      obtain ⟨d2, hd2⟩ : ∃ x, bopD d p size = x := ⟨_, rfl⟩
                      rw [hd2] at hT21 hdl
                      clear hd2
                      go_wp2_with fail
                      exact ⟨⟨kk + 1, d2, l20, L21, 0, by omega, congrArg (Value.int .i64) (by omega), rfl, rfl, hT21, hlg2, hLG2, by omega, hbb21.1, hbb21.2, hS⟩, by simp only [intOf]; omega⟩
            · obtain rfl : kk = m := by omega
              have g1 : ((kk : Int) == (kk : Int)) = true := by simp
              go_wp2_with fail
              go_meet
              exact hbb.1
      case rest =>
        clear hT hbk hbks hS
        go_wp2_with (go_at_call 43; refine (works6_any _).mono ?_; rintro e w2 ⟨rfl, hb2⟩)
        go_ret
        exact ⟨rfl, below_next' hcut hb2⟩
theorem bookPlays_walk (w : World) (p : Int) (_ : -9223372036854775808 ≤ p ∧ p ≤ 9223372036854775807) (size : Int) (_ : -9223372036854775808 ≤ size ∧ size ≤ 9223372036854775807) (A : Option Addr) (m c : Nat) (l : List BStep) (_ : l.length = m) (hr : Reads w w.heap.size 5 A m (l.flatMap fun x => [Value.int .u8 (x.1.toNat : Int)] ++ ([x.2.1.v] ++ ([Value.int .u8 (x.2.2.1.toNat : Int)] ++ ([Value.int .i8 x.2.2.2.1] ++ [x.2.2.2.2.v]))))) (hi : ∀ a ∈ l, (True ∧ SB.ok w a.2.1 ∧ True ∧ (-128 ≤ a.2.2.2.1 ∧ a.2.2.2.1 ≤ 127) ∧ SB.ok w a.2.2.2.2) ∧ ([Value.int .u8 (a.1.toNat : Int)] ++ ([a.2.1.v] ++ ([Value.int .u8 (a.2.2.1.toNat : Int)] ++ ([Value.int .i8 a.2.2.2.1] ++ [a.2.2.2.2.v])))).length = 5) (_ : m ≤ c) (_ : c * 64 ≤ 140737488351232) :
    Calls Try.prog 16 #[.int .i64 p, .int .i64 size, .slice A m c] w fun e w' => e = .returned (.bool true) ∧ Below w.heap.size w w' :=
  bookPlays_any w p size A m c l hr (fun x hx => ⟨(hi x hx).1.2.1, (hi x hx).1.2.2.2.1, (hi x hx).1.2.2.2.2⟩)
end Go.Proofs.Ytmjdfajdompkeaa
