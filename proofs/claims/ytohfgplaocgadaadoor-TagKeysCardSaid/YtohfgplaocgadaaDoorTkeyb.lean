/- The law TagKeys, walked. -/
import Derived.Test.YtohfgplaocgadaaDoorTkeyc
import Derived.Test.YtohfgplaocgadaaDoorTl
import Derived.Test.YtohfgplaocgadaaDoorTplays
import Derived.Deep.DeepCutAuto
import Derived.Deep.CutBlock
namespace Go.Proofs.YtohfgplaocgadaaDoor
open Go.RowKit Go.Rat
set_option maxRecDepth 100000 in
set_option maxHeartbeats 16000000 in
theorem tagKeys_any (n : Nat) (hn64 : n = 64) (w : World) (tb : List Int) (htb : tblL = tb) (hT : Tab w tb) (A : Option Addr) (m c : Nat) (key : List UInt8) (hr : RB w A m key) (hmc : m ≤ c) (hm : m ≤ 140737488351232)
    (A' : Option Addr) (m' c' : Nat) (b : List UInt8) (hr' : RB w A' m' b) (hmc' : m' ≤ c') (hm' : m' ≤ 140737488351232) (i x : UInt8) :
    Calls Tryd.prog 10 #[.slice A m c, .slice A' m' c', .int .u8 (i.toNat : Int), .int .u8 (x.toNat : Int)] w fun e w' => e = .returned (.bool true) ∧ Below w.heap.size w w' := by
  have hne : ∀ j k, j < 19 → k < j → (allK n tb).getD j [] ≠ (allK n tb).getD k [] := by rw [hn64, ← htb]; exact allK_ne
  have HNE := Lib.hid hne
  have HN := Lib.hid hn64
  have HTB := Lib.hid htb
  clear hn64 htb hne
  have hl := hr.len
  have hl' := hr'.len
  obtain ⟨I, hI⟩ : ∃ I, i.toNat = I := ⟨_, rfl⟩
  obtain ⟨X, hX⟩ : ∃ X, x.toNat = X := ⟨_, rfl⟩
  have hI1 : I < 256 := by have := i.toNat_lt; omega
  have hX1 : X < 256 := by have := x.toNat_lt; omega
  rw [hI, hX]
  clear hI hX
  have h0 := Below.refl w.heap.size w
  go_enter Tryd.func10, Tryd.ntmps10
  by_cases hbig : 4096 < m + m'
  · have hbi : (4096 : Int) < (m : Int) + (m' : Int) := by omega
    go_wp2_with (go_at_call 17; refine (works3_any n HN.out w tb HTB.out hT).mono ?_; rintro e w2 ⟨rfl, hb2⟩)
    go_ret
    exact ⟨rfl, hb2⟩
  have hbi : ¬ (4096 : Int) < (m : Int) + (m' : Int) := by omega
  have hFl := ofF_length n tb key b
  have hkl := keyF_le n tb key
  have hof := ofF_noughts n tb key b 0 (by omega)
  have hfd : digest n tb (turnF n tb key 92 ++ digest n tb (turnF n tb key 54 ++ b)) = ofF n tb key b := rfl
  have ht1 : turnF n tb key 54 = (padK (keyF n tb key)).map (· ^^^ 54) := rfl
  have ht2 : turnF n tb key 92 = (padK (keyF n tb key)).map (· ^^^ 92) := rfl
  have hD1l := digest_length n tb (turnF n tb key 54 ++ b)
  have hpl := padK_length hkl
  rw [List.replicate_zero, List.append_nil] at hof
  rw [ht1, ht2] at hfd
  rw [ht1] at hD1l
  obtain ⟨ks, hks⟩ : ∃ ks, keyF n tb key = ks := ⟨_, rfl⟩
  obtain ⟨F, hF⟩ : ∃ F, ofF n tb key b = F := ⟨_, rfl⟩
  rw [hks] at hof hkl hfd hpl hD1l
  rw [hF] at hof hFl hfd
  obtain ⟨D1, hD1⟩ : ∃ D1, digest n tb ((padK ks).map (· ^^^ 54) ++ b) = D1 := ⟨_, rfl⟩
  rw [hD1] at hfd hD1l
  have hd1s : (bvs D1).toArray.size = 32 := by rw [bvs_size, hD1l]
  have keq := keq32 F hFl
  have HF := Lib.hid hF
  have HOF := Lib.hid hof
  have HFD := Lib.hid hfd
  have HD1 := Lib.hid hD1
  clear hF hof hFl hfd hD1 ht1 ht2
  go_upto_if 32 with (fail)
  go_cut [9] (fun s9 wx => ∃ AK NK cK, s9 = .slice AK NK cK ∧ RB wx AK NK ks ∧ NK ≤ 64 ∧ Below w.heap.size w wx)
  case first =>
    by_cases hbk : 64 < m
    · have hkd : digest n tb key = ks := by rw [← hks, keyF, if_pos (by omega)]
      have hkl32 : ks.length = 32 := by rw [← hkd, digest_length]
      have hd32 : (bvs ks).toArray.size = 32 := by rw [bvs_size, hkl32]
      have HKD := Lib.hid hkd
      clear hks hkd
      have hbi2 : (64 : Int) < (m : Int) := by omega
      repeat (first
        | (go_at_call 14; refine (sum_any n HN.out w A m c key tb hT hr hmc (by omega)).mono ?_; rw [HKD.out]; rintro e w3 ⟨rfl, hb3⟩; simp only [])
        | ((with_reducible refine wpl_store_fresh (bvs ks).toArray i32x8 ?_ hd32 (bvs_all _) ?_ ?_ ?_); (focus kernel_rfl); (focus rfl); (focus rfl); intro w4 hD4 hl4 hb4; have hbb4 := below_next hb3 hb4; have hrK := rb_row hD4 32 hkl32)
        | (go_at_call 18; ((with_reducible refine (of_any n HN.out w4 _ 32 32 ks hrK (by omega) (by omega) A' m' c' b (RB.below hr' hbb4) hmc' (by omega) tb (Tab.below hT hbb4)).mono ?_); rw [HOF.out]; rintro e w5 ⟨rfl, hb5⟩; simp only []; have hbb5 := below_next (a := w) hbb4 hb5))
        | (go_at_call 18; ((with_reducible refine (of_any n HN.out w5 A m c key (RB.below hr hbb5) hmc (by omega) A' m' c' b (RB.below hr' hbb5) hmc' (by omega) tb (Tab.below hT hbb5)).mono ?_); rw [HF.out]; rintro e w6 ⟨rfl, hb6⟩; simp only []; have hbb6 := below_next (a := w) hbb5 hb6))
        | go_values | go_skip | go_guarded | go_step | go_upon | go_back  | (simp only [Int.not_lt] at *; go_simp))
      go_meet
      exact ⟨_, _, _, rfl, RB.below hrK (below_next hb5 hb6), by omega, hbb6⟩
    · have hkd : ks = key := by rw [← hks]; exact keyF_short n tb key (by omega)
      have hbi2 : ¬ (64 : Int) < (m : Int) := by omega
      have hrK : RB w A m ks := by rw [hkd]; exact hr
      clear hks hkd
      go_wp2_with fail
      go_meet
      exact ⟨_, _, _, rfl, hrK, by omega, h0⟩
  case rest =>
    obtain ⟨AK, NK, cK, rfl, hrK, hNK, hbS⟩ := hcut
    obtain ⟨T1, hT1⟩ : ∃ T, (padK ks).map (· ^^^ (54 : UInt8)) = T := ⟨_, rfl⟩
    obtain ⟨T2, hT2⟩ : ∃ T, (padK ks).map (· ^^^ (92 : UInt8)) = T := ⟨_, rfl⟩
    have hs1 : ∀ j, j < 64 → T1.take j ++ [ks.getD j 0 ^^^ 54] = T1.take (j + 1) := fun j hj => by rw [← hT1, ← padK_get, map_take_snoc _ _ _ (by omega)]
    have hs2 : ∀ j, j < 64 → T2.take j ++ [ks.getD j 0 ^^^ 92] = T2.take (j + 1) := fun j hj => by rw [← hT2, ← padK_get, map_take_snoc _ _ _ (by omega)]
    have hl1 : T1.length = 64 := by rw [← hT1, List.length_map, hpl]
    have hl2 : T2.length = 64 := by rw [← hT2, List.length_map, hpl]
    have HFD2 : Hid (digest n tb (T2 ++ D1) = F) := by rw [← hT2]; exact HFD
    have HD12 : Hid (digest n tb (T1 ++ b) = D1) := by rw [← hT1]; exact HD1
    have HS1 := Lib.hid hs1
    have HS2 := Lib.hid hs2
    clear hs1 hs2 hT1 hT2 HFD HD1 hks HOF
    go_upto_block 0 with (fail)
    go_cut [11, 12] (fun a1 a2 wx => ∃ A1 c1 A2 c2, a1 = .slice A1 64 c1 ∧ a2 = .slice A2 64 c2 ∧ OB 5 wx w.heap.size A1 64 c1 T1 ∧ OB 5 wx w.heap.size A2 64 c2 T2 ∧ Apart A1 A2 ∧ Below w.heap.size w wx)
    case first =>
      go_wp2_with fail
      go_loopw [11, 12, 13] (fun a1 a2 i wr => ∃ A1 c1 A2 c2, ∃ j : Nat, j ≤ 64 ∧ a1 = .slice A1 j c1 ∧ a2 = .slice A2 j c2 ∧ i = .int .i64 (j : Int) ∧ OB 5 wr wc.heap.size A1 j c1 (T1.take j) ∧ OB 5 wr wc.heap.size A2 j c2 (T2.take j) ∧ Apart A1 A2 ∧ Below wc.heap.size wc wr) (fun _ _ i _ => 64 - (intOf i).toNat)
      case atStart => exact ⟨none, 0, none, 0, 0, by omega, rfl, rfl, rfl, OB.nil_ _ _ _, OB.nil_ _ _ _, Apart.none_left _, Below.refl _ _⟩
      case round =>
        obtain ⟨A1, c1, A2, c2, j, hj, rfl, rfl, rfl, hO1, hO2, hap, hbr⟩ := hrel
        have hrKr := hrK.below hbr
        have hbrs := hbr.size
        by_cases hj64 : j < 64
        · have g1 : (j : Int) < 64 := by omega
          have g0 : (0 : Int) ≤ (j : Int) := by omega
          have hst1 := HS1.out j hj64
          have hst2 := HS2.out j hj64
          obtain ⟨y, hy⟩ : ∃ y, ks.getD j 0 = y := ⟨_, rfl⟩
          rw [hy] at hst1 hst2
          have hx1 := xor8c y 54 54 rfl
          have hx2 := xor8c y 92 92 rfl
          have HX1 := Lib.hid hx1
          have HX2 := Lib.hid hx2
          have HST1 := Lib.hid hst1
          have HST2 := Lib.hid hst2
          clear hx1 hx2 hst1 hst2
          by_cases hjn : j < NK
          · obtain ⟨ad, e, _, hc⟩ := hrKr.at_ hjn
            rw [hy] at hc
            have g2 : (j : Int) < (NK : Int) := by omega
            clear hy
            cases e
            have HB1 : ∀ u : Unit, Value.int .u8 (bits .xor .u8 (y.toNat : Int) 54) = bv (y ^^^ 54) := fun _ => congrArg (Value.int .u8) HX1.out
            have HB2 : ∀ u : Unit, Value.int .u8 (bits .xor .u8 (y.toNat : Int) 92) = bv (y ^^^ 92) := fun _ => congrArg (Value.int .u8) HX2.out
            have HHB1 := Lib.hid HB1
            have HHB2 := Lib.hid HB2
            clear HB1 HB2
            go_wp2_with (first
              | (at_builtin; refine app_bytes rfl _ _ rfl wc.heap.size _ _ _ (T1.take j) rfl (hO1.alloc _) _ _ _ [y ^^^ 54] rfl (RB.one_ _ _ (HHB1.out ())) (by omega) (by simp; omega) ?_; intro A3 N3 c3 w3 hc3 hc4 hO3 hG3; rw [HST1.out] at hO3; have hb3 := hG3.own (below_alloc2 hbr (Nat.le_refl _) _) (Nat.le_refl _) (hO1.alloc _); have hO2g := OB.grown (hO2.alloc _) hG3.grown hap.ne; have hap3 := hap.grew hG3 (fun g hg => (OB.ge (hO2.alloc _) g hg).2); have hb3s := hb3.size; clear hO1)
              | (at_builtin; refine app_bytes rfl _ _ rfl wc.heap.size _ _ _ (T2.take j) rfl (hO2g.alloc _) _ _ _ [y ^^^ 92] rfl (RB.one_ _ _ (HHB2.out ())) (by omega) (by simp; omega) ?_; intro A4 N4 c4 w4 hc5 hc6 hO4 hG4; rw [HST2.out] at hO4; have hb4 := hG4.own (below_alloc2 hb3 (Nat.le_refl _) _) (Nat.le_refl _) (hO2g.alloc _); have hO3g := OB.grown (hO3.alloc _) hG4.grown hap3.symm.ne; have hap4 := (hap3.symm.grew hG4 (fun g hg => (OB.ge (hO3.alloc _) g hg).2)).symm; clear hO2g))
            have hN3 := hO3.len
            have hN4 := hO4.len
            rw [List.length_take] at hN3 hN4
            obtain rfl : N3 = j + 1 := by omega
            obtain rfl : N4 = j + 1 := by omega
            exact ⟨⟨A3, c3, A4, c4, j + 1, by omega, rfl, rfl, congrArg (Value.int .i64) (by omega), hO3g, hO4, hap4, hb4⟩, by simp only [intOf]; omega⟩
          · have g2 : ¬ (j : Int) < (NK : Int) := by omega
            have hy0 : y = 0 := by rw [← hy, List.getD_eq_getElem?_getD, List.getElem?_eq_none (by have := hrK.len; omega)]; rfl
            subst hy0
            clear hy
            have hz1 : bits .xor .u8 0 54 = 54 := by decide
            have hz2 : bits .xor .u8 0 92 = 92 := by decide
            go_wp2_with (first
              | (at_builtin; refine app_bytes rfl _ _ rfl wc.heap.size _ _ _ (T1.take j) rfl (hO1.alloc _) _ _ _ [0 ^^^ 54] rfl (RB.one_ _ _ rfl) (by omega) (by simp; omega) ?_; intro A3 N3 c3 w3 hc3 hc4 hO3 hG3; rw [HST1.out] at hO3; have hb3 := hG3.own (below_alloc2 hbr (Nat.le_refl _) _) (Nat.le_refl _) (hO1.alloc _); have hO2g := OB.grown (hO2.alloc _) hG3.grown hap.ne; have hap3 := hap.grew hG3 (fun g hg => (OB.ge (hO2.alloc _) g hg).2); have hb3s := hb3.size; clear hO1)
              | (at_builtin; refine app_bytes rfl _ _ rfl wc.heap.size _ _ _ (T2.take j) rfl (hO2g.alloc _) _ _ _ [0 ^^^ 92] rfl (RB.one_ _ _ rfl) (by omega) (by simp; omega) ?_; intro A4 N4 c4 w4 hc5 hc6 hO4 hG4; rw [HST2.out] at hO4; have hb4 := hG4.own (below_alloc2 hb3 (Nat.le_refl _) _) (Nat.le_refl _) (hO2g.alloc _); have hO3g := OB.grown (hO3.alloc _) hG4.grown hap3.symm.ne; have hap4 := (hap3.symm.grew hG4 (fun g hg => (OB.ge (hO3.alloc _) g hg).2)).symm; clear hO2g))
            have hN3 := hO3.len
            have hN4 := hO4.len
            rw [List.length_take] at hN3 hN4
            obtain rfl : N3 = j + 1 := by omega
            obtain rfl : N4 = j + 1 := by omega
            exact ⟨⟨A3, c3, A4, c4, j + 1, by omega, rfl, rfl, congrArg (Value.int .i64) (by omega), hO3g, hO4, hap4, hb4⟩, by simp only [intOf]; omega⟩
        · obtain rfl : j = 64 := by omega
          rw [List.take_of_length_le (by omega)] at hO1 hO2
          have g1 : ¬ ((64 : Nat) : Int) < 64 := by decide
          go_wp2_with fail
          go_meet
          exact ⟨A1, c1, A2, c2, rfl, rfl, OB.mono hO1 hbS.size, OB.mono hO2 hbS.size, hap, below_next hbS hbr⟩
    case rest =>
      obtain ⟨A1, c1, A2, c2, rfl, rfl, hO1, hO2, hap, hbS⟩ := hcut
      clear hrK
      repeat (first
        | (at_builtin; refine app_bytes rfl _ _ rfl w.heap.size _ _ _ T1 rfl hO1 _ _ _ b rfl (RB.below hr' hbS) (by omega) hbS.size ?_; intro A3 N3 c3 w3 hc3 hc4 hO3 hG3; have hb3 := hG3.own hbS (Nat.le_refl _) hO1; have hO23 := OB.grown hO2 hG3.grown hap.ne; have hr3 := hO3.reads; have hN3 : N3 ≤ 64 + m' := (by have := hr3.len; rw [List.length_append] at this; omega))
        | (go_at_call 14; refine (sum_any n HN.out w3 A3 N3 c3 _ tb (Tab.below hT hb3) hr3 hc3 (by omega)).mono ?_; rw [HD12.out]; rintro e w4 ⟨rfl, hb4⟩; simp only []; have hbb4 := below_next hb3 hb4)
        | ((with_reducible refine wpl_store_fresh (bvs D1).toArray i32x8 ?_ hd1s (bvs_all _) ?_ ?_ ?_); (focus kernel_rfl); (focus rfl); (focus rfl); intro w5 hD5 hl5 hb5; have hbb5 := below_next hbb4 hb5; have hO25 := OB.below (OB.below hO23 hb4) hb5; have hr5 := hr.below hbb5; have hr5' := hr'.below hbb5; have hT5 := Tab.below hT hbb5)
        | go_values | go_skip | go_guarded | go_step | go_upon | go_back)
      have hD5' : Blk w5.drew w4.heap.size 29 (bvs D1).toArray := hD5
      clear hO1 hO2 hap hbS hO3 hG3 hr3 hN3 hb3 hO23 hb4 hbb4 hb5 hD5
      generalize w4.heap.size = GD at *
      refine wp_region_plan [(0, true), (1, true), (3, true), (4, true), (2, false), (5, false), (6, false), (7, true)]
        (fun _ => True) (by kernel_rfl) (by kernel_rfl) (by kernel_rfl) (by kernel_rfl) (fun _ _ d _ _ h => by cases d <;> exact h) trivial ?_
      simp only [planOps, List.getElem?_toArray, List.getElem?_cons_zero, List.getElem?_cons_succ]
      repeat (first
        | (refine wpS_skip (by rfl) ?_; simp only [Act.put, List.setIfInBounds_toArray, List.set_cons_zero, List.set_cons_succ])
        | (refine wpS_q ?_ (by rfl) ?_ ?_; rotate_left; (focus (intro z hz; (try dsimp only at hz); go_simp; rfl)); simp only [Act.put, List.setIfInBounds_toArray, List.set_cons_zero, List.set_cons_succ]))
      refine wpS_l (by rfl) (fun Kq hK => ?_)
      go_wp2_with fail
      refine (of_any n HN.out w5.drew A m c key (by exact hr5) hmc (by omega) A' m' c' b (by exact hr5') hmc' (by omega) tb (by exact hT5)).mono ?_
      rw [HF.out]
      rintro e w6 ⟨rfl, hb6⟩
      have hbb6 : Below w.heap.size w w6 := below_next hbb5.drew hb6
      have hO26 : OB 5 w6 w.heap.size A2 64 c2 T2 := OB.below (w := w5.drew) hO25 hb6
      have hD6 := hD5'.below hb6 hD5'.lt
      have hrD := rb_row hD6 32 hD1l
      refine hK _ _ (fun _ => True) trivial (fun _ _ => trivial) ?_
      clear hK
      refine wpS_l (by rfl) (fun Kq hK => ?_)
      refine wp_appB _ _ (by rfl) w.heap.size A2 64 c2 T2 (by rfl) hO26 (some ⟨GD, 0, none⟩) 32 32 D1 (by rfl) hrD (by omega) hbb6.size ?_
      intro A7 N7 c7 w7 hc7 hc8 hO7 hG7
      have hbb7 := hG7.own hbb6 (Nat.le_refl _) hO26
      have hr7 := OB.reads hO7
      have hl7 : N7 ≤ 96 := by have := hr7.len; rw [List.length_append] at this; omega
      refine hK _ _ (fun _ => True) trivial (fun _ _ => trivial) ?_
      clear hK
      simp only [Act.put, List.setIfInBounds_toArray, List.set_cons_zero, List.set_cons_succ]
      refine wpS_l (by rfl) (fun Kq hK => ?_)
      go_wp2_with fail
      refine (sum_any n HN.out w7 A7 N7 c7 _ tb (Tab.below hT hbb7) hr7 hc7 (by omega)).mono ?_
      rw [HFD2.out]
      rintro e w8 ⟨rfl, hb8⟩
      have hbb8 := below_next hbb7 hb8
      refine hK _ _ (fun _ => True) trivial (fun _ _ => trivial) ?_
      clear hK
      repeat (first
        | (refine wpS_skip (by rfl) ?_; simp only [Act.put, List.setIfInBounds_toArray, List.set_cons_zero, List.set_cons_succ])
        | (refine wpS_q ?_ (by rfl) ?_ ?_; rotate_left; (focus (intro z hz; (try dsimp only at hz); go_simp; rfl)); simp only [Act.put, List.setIfInBounds_toArray, List.set_cons_zero, List.set_cons_succ]))
      refine wpS_nil ?_
      clear hO25 hr5 hr5' hT5 hbb5 hD5' hbb6 hO26 hD6 hrD hO7 hG7 hr7 hbb7 hb8 hb6 HFD2 HD12 HS1 HS2 hl1 hl2 hd1s hD1l hpl hkl
      go_upto_block 2 with (fail)
      have hbs8 := hbb8.size
      go_cut [16] (fun v wx => ∃ A c ps, v = .slice A 11 c ∧ Row wx w.heap.size A 11 c ps ∧ ps.map (·.xs) = (allK n tb).take 11 ∧ Below w.heap.size w wx)
      case first =>
        go_wp2_with fail
        go_loopw [16, 17] (fun v i wr => ∃ A c ps, ∃ j : Nat, j ≤ 11 ∧ v = .slice A j c ∧ i = .int .i64 ((j : Int) + 1) ∧ Row wr w.heap.size A j c ps ∧ Hid (ps.map (·.xs) = (allK n tb).take j) ∧ Below w.heap.size w wr) (fun _ i _ => 12 - (intOf i).toNat)
        case atStart => exact ⟨none, 0, [], 0, by omega, rfl, rfl, Row.nil _ _, rfl, hbb8⟩
        case round =>
          obtain ⟨Ar, cr, ps, j, hj, rfl, rfl, hRow, hps, hbr⟩ := hrel
          by_cases hj11 : j < 11
          · have g1 : (j : Int) + 1 ≤ 11 := by omega
            have hst := allK_rep n tb j hj11
            obtain ⟨K, hK⟩ : ∃ K, repK n tb ((j : Int) + 1) = K := ⟨_, rfl⟩
            rw [hK] at hst
            have HK := Lib.hid hK
            have HST := Lib.hid hst
            clear hK hst
            go_wp2_with (first
              | (go_at_call 21; refine (replica_any n HN.out wr _ tb (Tab.below hT hbr)).mono ?_; rw [HK.out]; rintro e w2 ⟨A2, m2, c2, rfl, hmc2, hm2, _, hO2, hb2⟩; simp only []; have hbb2 := below_next hbr hb2; have hap := hRow.apart_new (fun g hg => (OB.ge hO2 g hg).1); have hRow2 := hRow.below hb2)
              | (at_builtin; refine app_slice rfl _ _ rfl w.heap.size Ar j cr ps rfl hRow2 ⟨A2, m2, c2, K⟩ ⟨hO2.reads, hmc2⟩ (fun g hg => (OB.ge hO2 g hg).2) hap 28 _ rfl rfl (by omega) hbb2.size ?_; intro A3 c3 w3 hRow3 hb3))
            refine ⟨⟨A3, c3, ps ++ [⟨A2, m2, c2, K⟩], j + 1, by omega, rfl, congrArg (Value.int .i64) (by omega), hRow3, ?_, (below_alloc2 hbb2 (Nat.le_refl _) _).trans (hb3)⟩, by simp only [intOf]; omega⟩
            show List.map _ (_ ++ _) = _
            rw [List.map_append, hps.out, ← HST.out]
            rfl
          · obtain rfl : j = 11 := by omega
            have g1 : ¬ ((11 : Nat) : Int) + 1 ≤ 11 := by decide
            go_wp2_with fail
            go_meet
            exact ⟨Ar, cr, ps, rfl, hRow, hps.out, hbr⟩
      case rest =>
        obtain ⟨Ar, cr, ps, rfl, hRow, hps, hbS⟩ := hcut
        have HPS := Lib.hid hps
        clear hps hbb8 hbs8
        go_upto_block 4 with (fail)
        go_cut [16] (fun v wx => ∃ A c ps, v = .slice A 19 c ∧ Row wx w.heap.size A 19 c ps ∧ ps.map (·.xs) = allK n tb ∧ Below w.heap.size w wx)
        case first =>
          go_wp2_with fail
          go_loopw [16, 18] (fun v i wr => ∃ A c ps, ∃ j : Nat, j ≤ 8 ∧ v = .slice A (11 + j) c ∧ i = .int .i64 ((j : Int) + 1) ∧ Row wr w.heap.size A (11 + j) c ps ∧ Hid (ps.map (·.xs) = (allK n tb).take (11 + j)) ∧ Below w.heap.size w wr) (fun _ i _ => 9 - (intOf i).toNat)
          case atStart => exact ⟨Ar, cr, ps, 0, by omega, rfl, rfl, hRow, HPS, hbS⟩
          case round =>
            obtain ⟨Ar, cr, ps, j, hj, rfl, rfl, hRow, hps, hbr⟩ := hrel
            by_cases hj8 : j < 8
            · have g1 : (j : Int) + 1 ≤ 8 := by omega
              have hst := allK_cli n tb j hj8
              obtain ⟨K, hK⟩ : ∃ K, cliK n tb ((j : Int) + 1) = K := ⟨_, rfl⟩
              rw [hK] at hst
              have HK := Lib.hid hK
              have HST := Lib.hid hst
              clear hK hst
              go_wp2_with (first
                | (go_at_call 23; refine (client_any n HN.out wr _ tb (Tab.below hT hbr)).mono ?_; rw [HK.out]; rintro e w2 ⟨A2, m2, c2, rfl, hmc2, hm2, _, hO2, hb2⟩; simp only []; have hbb2 := below_next hbr hb2; have hap := hRow.apart_new (fun g hg => (OB.ge hO2 g hg).1); have hRow2 := hRow.below hb2)
                | (at_builtin; refine app_slice rfl _ _ rfl w.heap.size Ar (11 + j) cr ps rfl hRow2 ⟨A2, m2, c2, K⟩ ⟨hO2.reads, hmc2⟩ (fun g hg => (OB.ge hO2 g hg).2) hap 28 _ rfl rfl (by omega) hbb2.size ?_; intro A3 c3 w3 hRow3 hb3))
              refine ⟨⟨A3, c3, ps ++ [⟨A2, m2, c2, K⟩], j + 1, by omega, rfl, congrArg (Value.int .i64) (by omega), hRow3, ?_, (below_alloc2 hbb2 (Nat.le_refl _) _).trans (hb3)⟩, by simp only [intOf]; omega⟩
              show List.map _ (_ ++ _) = _
              rw [List.map_append, hps.out, show 11 + (j + 1) = 11 + j + 1 by omega, ← HST.out]
              rfl
            · obtain rfl : j = 8 := by omega
              have g1 : ¬ ((8 : Nat) : Int) + 1 ≤ 8 := by decide
              have hps2 : ps.map (·.xs) = allK n tb := by rw [hps.out, List.take_of_length_le (by rw [allK_length]; omega)]
              go_wp2_with fail
              go_meet
              exact ⟨Ar, cr, ps, rfl, hRow, hps2, hbr⟩
        case rest =>
          obtain ⟨Ar, cr, ps, rfl, hRow, hps, hbS⟩ := hcut
          have HPS := Lib.hid hps
          clear hps
          go_upto_block 6 with (fail)
          go_cut [] (fun wx => ∃ q, wx = wc.drewN q)
          case first =>
            have hpl := hRow.len
            go_wp2_with fail
            go_loopw [19] (fun i wr => ∃ j q : Nat, j ≤ 19 ∧ i = .int .i64 (j : Int) ∧ wr = wc.drewN q) (fun i _ => 19 - (intOf i).toNat)
            case atStart => exact ⟨0, 0, by omega, rfl, rfl⟩
            case round =>
              obtain ⟨j, q, hj, rfl, rfl⟩ := hrel
              by_cases hj19 : j < 19
              · have g1 : (j : Int) < 19 := by omega
                have g0 : (0 : Int) ≤ (j : Int) := by omega
                go_wp2_with fail
                go_loopw [20] (fun i wr => ∃ k q : Nat, k ≤ j ∧ i = .int .i64 (k : Int) ∧ wr = wc.drewN q) (fun i _ => j - (intOf i).toNat)
                case atStart => exact ⟨0, q, by omega, rfl, rfl⟩
                case round =>
                  obtain ⟨k, q2, hk, rfl, rfl⟩ := hrel
                  by_cases hkj : k < j
                  · obtain ⟨g, rfl, c1⟩ := hRow.at_ (k := j) (by omega)
                    obtain ⟨g', e, c2⟩ := hRow.at_ (k := k) (by omega)
                    cases e
                    have hx1 : ps[j].xs = (allK n tb).getD j [] := by rw [← HPS.out, List.getD_eq_getElem?_getD, List.getElem?_map, List.getElem?_eq_getElem (by omega)]; rfl
                    have hx2 : ps[k].xs = (allK n tb).getD k [] := by rw [← HPS.out, List.getD_eq_getElem?_getD, List.getElem?_map, List.getElem?_eq_getElem (by omega)]; rfl
                    have hne := HNE.out j k hj19 hkj
                    rw [← hx1, ← hx2] at hne
                    have hq := bstr_ne hne
                    have hr1 := (hRow.ok _ (List.getElem_mem (show j < ps.length by omega))).r
                    have hr2 := (hRow.ok _ (List.getElem_mem (show k < ps.length by omega))).r
                    clear hx1 hx2 hne
                    generalize ps[j] = p1 at *
                    generalize ps[k] = p2 at *
                    have v1 := fun q => conv_str (w := wc.drewN q) (by exact hr1) p1.c
                    have v2 := fun q => conv_str (w := wc.drewN q) (by exact hr2) p2.c
                    have g2 : (k : Int) < (j : Int) := by omega
                    have g3 : (0 : Int) ≤ (k : Int) := by omega
                    have g4 : (k : Int) < 19 := by omega
                    clear hRow hr hr' hT hpl hm hm'
                    go_wp2_with fail
                    go_quiet (fail)
                    go_wp2_with fail
                    exact ⟨⟨k + 1, q2 + nq, by omega, congrArg (Value.int .i64) (by omega), by first | rfl | rw [World.drewN_drewN]⟩, by simp only [intOf]; omega⟩
                  · obtain rfl : k = j := by omega
                    have g2 : ¬ (k : Int) < (k : Int) := by omega
                    go_wp2_with fail
                    exact ⟨⟨k + 1, q2, by omega, congrArg (Value.int .i64) (by omega), rfl⟩, by simp only [intOf]; omega⟩
              · obtain rfl : j = 19 := by omega
                have g1 : ¬ ((19 : Nat) : Int) < 19 := by decide
                go_wp2_with fail
                go_meet
                exact ⟨q, rfl⟩
          case rest =>
            obtain ⟨q, rfl⟩ := hcut
            have hbE : Below w.heap.size w (wc.drewN q) := below_next hbS below_drewN
            clear hRow hbS HPS
            generalize wc.drewN q = wE at *
            have hGl := numF_length n tb (1 + (I : Int) % 11) X b
            have hGF : ofF n tb (repK n tb (1 + (I : Int) % 11)) (be 8 X ++ b) = numF n tb (1 + (I : Int) % 11) X b := rfl
            obtain ⟨W, hW⟩ : ∃ W : Int, 1 + (I : Int) % 11 = W := ⟨_, rfl⟩
            rw [hW] at hGl hGF
            obtain ⟨G, hG⟩ : ∃ G, numF n tb W X b = G := ⟨_, rfl⟩
            rw [hG] at hGl hGF
            have keqG := keq32 G hGl
            have HG := Lib.hid hG
            have HGF := Lib.hid hGF
            have hX64 : X < 2 ^ 64 := by omega
            have HX := Lib.hid hX64
            have hw1 : (I : Int) % 11 < 11 := by omega
            have hw2 : 0 ≤ (I : Int) % 11 := by omega
            clear hG hGF hGl keq hX64
            go_wp2_with (first
              | (go_at_call 25; refine (numbered_any n HN.out wE W X HX.out A' m' c' b (RB.below hr' hbE) hmc' (by omega) tb (Tab.below hT hbE)).mono ?_; rw [HG.out]; rintro e wF ⟨rfl, hb1⟩; simp only []; have hbF := below_next hbE hb1)
              | (go_at_call 21; refine (replica_any n HN.out wF W tb (Tab.below hT hbF)).mono ?_; rintro e wG ⟨A2, m2, c2, rfl, hmc2, hm2, _, hO2, hb2⟩; simp only []; have hbG := below_next hbF hb2)
              | (go_at_call 27; refine (word_any wG none 0 0 [] X (RB.nil_ _ _) (by omega) HX.out).mono ?_; rintro e wH ⟨A3, N3, c3, rfl, hO3, hb3⟩; simp only []; have hbH := below_next hbG hb3; rw [List.nil_append] at hO3; obtain rfl : N3 = 8 := (hO3.len.symm.trans (be_length 8 X)); have hr2 := hO2.reads.below hb3; have hbs3 := hb3.size)
              | (at_builtin; refine app_bytes rfl _ _ rfl wG.heap.size _ _ _ (be 8 X) rfl hO3 _ _ _ b rfl (hr'.below hbH) (by omega) hbs3 ?_; intro A4 N4 c4 w4 hc4 hc4' hO4 hG4; have hb4 := hG4.own (Below.refl wG.heap.size wH) hbs3 hO3; have hbI := hbH.trans (hb4.mono hbG.size); have hr24 := RB.below (OB.reads hO2) (hb3.trans hb4); have hr4 := OB.reads hO4; have hl4 : N4 ≤ m' + 8 := (by have := hr4.len; rw [List.length_append, be_length] at this; omega))
              | (go_at_call 18; refine (of_any n HN.out w4 A2 m2 c2 _ hr24 hmc2 (by omega) A4 N4 c4 _ hr4 hc4 (by omega) tb (Tab.below hT hbI)).mono ?_; rw [HGF.out]; rintro e w5 ⟨rfl, hb5⟩; simp only []; have hbJ := below_next hbI hb5)
              | (go_at_call 17; refine (works3_any n HN.out _ tb HTB.out (Tab.below hT hbJ)).mono ?_; rintro e w6 ⟨rfl, hb6⟩; simp only []; have hbK := below_next hbJ hb6))
            go_ret
            exact ⟨rfl, hbK⟩
theorem tagKeys_walk (W : World) (hT : Tab W tblL) (A : Option Addr) (m c : Nat) (xs : List UInt8) (_ : xs.length = m) (hr : RB W A m xs) (hmc : m ≤ c) (hm : m ≤ 140737488351232) (_ : ∀ ad, A = some ad → ad.block < W.heap.size)
    (A' : Option Addr) (m' c' : Nat) (xs' : List UInt8) (_ : xs'.length = m') (hr' : RB W A' m' xs') (hmc' : m' ≤ c') (hm' : m' ≤ 140737488351232) (_ : ∀ ad, A' = some ad → ad.block < W.heap.size) (i x : UInt8) :
    Calls Tryd.prog 10 #[.slice A m c, .slice A' m' c', .int .u8 (i.toNat : Int), .int .u8 (x.toNat : Int)] W fun e w' => e = .returned (.bool true) ∧ Below W.heap.size W w' := tagKeys_any 64 rfl W tblL rfl hT A m c xs hr hmc hm A' m' c' xs' hr' hmc' hm' i x
end Go.Proofs.YtohfgplaocgadaaDoor
