/- The law UsigPlays, walked. -/
import Derived.Test.YtmjdfajdompkeaaGreatDoorZy
namespace Go.Proofs.YtmjdfajdompkeaaGreatDoor
open Go.RowKit Go.Rat
/-- What New gives, its pointer named. -/
def UNewV (w w' : World) (base : Nat) (l : DL) (who : Int) (d : DS) (u : Value) : Prop :=
  (newE who d 5 ≠ 0 ∧ u = .pointer none) ∨ (newE who d 5 = 0 ∧ ∃ k kc m b, u = .pointer (some ⟨k, 0, none⟩) ∧ usigF (openCell d 5).b = some (m, b) ∧ UsigAt w' base l k kc ⟨who, m, b, openCell d 5⟩ ∧ w.heap.size ≤ k ∧ w.heap.size ≤ kc)
def RNewV (w w' : World) (base : Nat) (l : RL) (who : Int) (d : DS) (u : Value) : Prop :=
  (newE who d 5 ≠ 0 ∧ u = .pointer none) ∨ (newE who d 5 = 0 ∧ ∃ k kc m b, u = .pointer (some ⟨k, 0, none⟩) ∧ usigF (openCell d 5).b = some (m, b) ∧ RUsigAt w' base l k kc ⟨who, m, b, openCell d 5⟩ ∧ w.heap.size ≤ k ∧ w.heap.size ≤ kc)
theorem unewV_any (n : Nat) (hn64 : n = 64) (w : World) (base : Nat) (l : DL) (d : DS) (hD : DiskAt w base l d) (g : Nat) (hg : l.g = g) (hbase : base ≤ w.heap.size) (who : Int) (tb : List Int) (hT : H.Tab w tb) :
    Calls Tryz.prog 10 #[.int .i64 who, .pointer (some ⟨g, 0, none⟩), .int .i64 5] w fun e w' => ∃ u, e = .returned (.tuple #[u, .int .i64 (newE who d 5)]) ∧ UNewV w w' base l who d u ∧ Below w.heap.size w w' := by
  refine (unew_any n hn64 w base l d hD g hg hbase who 5 (by omega) tb hT).mono ?_
  rintro e w2 ⟨(⟨h, rfl⟩ | ⟨h, k, kc, m, b, rfl, h1, h2, h3, h4⟩), hb⟩
  · exact ⟨_, rfl, .inl ⟨h, rfl⟩, hb⟩
  · exact ⟨_, by rw [h], .inr ⟨h, k, kc, m, b, rfl, h1, h2, h3, h4⟩, hb⟩
theorem rnewV_any (w : World) (base : Nat) (l : RL) (d : DS) (hD : RDk w base l d) (g : Nat) (hg : l.g = g) (hbase : base ≤ w.heap.size) (who : Int) :
    Calls Tryz.prog 11 #[.int .i64 who, .pointer (some ⟨g, 0, none⟩), .int .i64 5] w fun e w' => ∃ u, e = .returned (.tuple #[u, .int .i64 (newE who d 5)]) ∧ RNewV w w' base l who d u ∧ Below w.heap.size w w' := by
  refine (rnew7_any w base l d hD g hg hbase who 5 (by omega)).mono ?_
  rintro e w2 ⟨(⟨h, rfl⟩ | ⟨h, k, kc, m, b, rfl, h1, h2, h3, h4⟩), hb⟩
  · exact ⟨_, rfl, .inl ⟨h, rfl⟩, hb⟩
  · exact ⟨_, by rw [h], .inr ⟨h, k, kc, m, b, rfl, h1, h2, h3, h4⟩, hb⟩
theorem UNewV.join {w0 w1 w2 : World} {base : Nat} {l : DL} {L : RL} {who : Int} {d : DS} {u x : Value} (hl : ∀ x, l.fp x → x < w0.heap.size) (hL : ∀ x, L.fp x → x < w0.heap.size) (hb : Below w1.heap.size w1 w2)
    (h : UNewV w0 w1 base l who d u) (q : RNewV w1 w2 base L who d x) : UState w2 base l L u x := by
  rcases h with ⟨h, h1⟩ | ⟨h, k, kc, m, b, h1, h2, h3, h4, h5⟩
  · rcases q with ⟨_, q1⟩ | ⟨q, _⟩
    · exact .inl ⟨h1, q1⟩
    · exact absurd q h
  · rcases q with ⟨q, _⟩ | ⟨_, K, KC, m', b', q1, q2, q3, q4, q5⟩
    · exact absurd h q
    · obtain ⟨rfl, rfl⟩ : m = m' ∧ b = b' := by
        have := h2.symm.trans q2
        injection this with this
        injection this with e1 e2
        exact ⟨e1, e2⟩
      exact .inr ⟨k, kc, K, KC, _, h1, q1, UX.new hl hL h4 h5 h3 hb q4 q5 q3, rfl⟩
theorem usameS_any (n : Nat) (hn64 : n = 64) (w : World) (base : Nat) (l : DL) (L : RL) (u x : Value) (h : UState w base l L u x) (tb : List Int) (htb : H.tblL = tb) (hT : H.Tab w tb) :
    Calls Tryz.prog 12 #[u, x] w fun e w' => e = .returned (.bool true) ∧ Below w.heap.size w w' := by
  rcases h with ⟨rfl, rfl⟩ | ⟨k, kc, K, KC, s, rfl, rfl, h1, _⟩
  · refine (usame_none w).mono ?_
    rintro e w2 ⟨rfl, rfl⟩
    exact ⟨rfl, Below.refl _ _⟩
  · exact usame_any n hn64 w base l L k kc K KC s h1 tb htb hT
theorem base_chg {w0 a b : World} {base : Nat} {F : Nat → Prop} (h : Below w0.heap.size w0 a ∧ base ≤ a.heap.size) (hw : w0.heap.size ≤ base) (hc : Chg F a b) (hF : ∀ x, F x → base ≤ x) : Below w0.heap.size w0 b ∧ base ≤ b.heap.size :=
  ⟨h.1.trans (hc.below (fun x hx => Nat.le_trans hw (hF x hx)) h.1.size), Nat.le_trans h.2 hc.size⟩
set_option maxRecDepth 20000 in
set_option maxHeartbeats 8000000 in
theorem usigPlays_any (n : Nat) (hn64 : n = 64) (w : World) (tb : List Int) (htb : H.tblL = tb) (hTab : H.Tab w tb) (who : Int) (A : Option Addr) (m c : Nat) (l : List UStep) (hr : Reads w w.heap.size 6 A m (l.flatMap ustepC)) (hi : ∀ x ∈ l, ustepOk w x) :
    Calls Tryz.prog 3 #[.int .i64 who, .slice A m c] w fun e w' => e = .returned (.bool true) ∧ Below w.heap.size w w' := by
  obtain ⟨base, hbase⟩ : ∃ b, w.heap.size = b := ⟨_, rfl⟩
  have HBASE := Lib.hid hbase
  have HN := Lib.hid hn64
  have HTB := Lib.hid htb
  have HI := Lib.hid hi
  clear hi hn64 htb
  go_enter Tryz.func3, Tryz.ntmps3
  go_wp2_with fail
  refine (ufew_any w A m c l hr 30 (by omega)).mono ?_
  rintro e w1 ⟨(rfl | ⟨rfl, hm30, hpk⟩), rfl⟩
  · simp only []
    go_wp2_with (go_at_call 5; refine (works7_any n HN.out _ tb HTB.out hTab).mono ?_; rintro e w2 ⟨rfl, hb2⟩)
    go_ret
    exact ⟨rfl, hb2⟩
  simp only []
  have HPK := Lib.hid hpk
  clear hpk
  go_wp2_with fail
  refine (dnew_any w1).mono ?_
  rintro e w2 ⟨l0, rfl, hD, hb⟩
  have hbb : Below w1.heap.size w1 w2 ∧ base ≤ w2.heap.size := ⟨hb, by rw [← hbase]; exact hb.size⟩
  rw [hbase] at hD
  clear hb
  simp only []
  obtain ⟨g, hlg⟩ : ∃ g, l0.g = g := ⟨_, rfl⟩
  rw [hlg]
  go_wp2_with fail
  refine (rgnew w2).mono ?_
  rintro e w3 ⟨L0, rfl, hR, hLg, hb⟩
  have hT : Two w3 base l0 L0 ds0 := ⟨hD.below hb, hR.mono hbb.2, fun x hx hf => by
    have := (hD.fp_lt hx).2
    have := (hR.fp_lt hf).1
    omega⟩
  have hbb := below_base hbb hb
  clear hb hD hR hLg
  simp only []
  obtain ⟨G, hLG⟩ : ∃ g, L0.g = g := ⟨_, rfl⟩
  rw [hLG]
  obtain ⟨f1, _, f3, _, _⟩ := ucalm_format (d := ds0) (p := 5) (by omega) rfl rfl 1
  have hf1 := fun w l (h : DiskAt w base l ds0) hg hb => uformat_any w base l ds0 h g hg hb (by decide) 5 (by omega)
  have hf2 := fun w l (h : RDk w base l ds0) hg hb => rformat_any w base l ds0 h G hg hb (by decide) 5 (by omega)
  simp only [f1] at hf1 hf2
  obtain ⟨d, hd⟩ : ∃ x, (fmF ds0 5).1 = x := ⟨_, rfl⟩
  rw [hd] at f3
  simp only [hd] at hf1 hf2
  have HF1 := Lib.hid hf1
  have HF2 := Lib.hid hf2
  have hdl : d.loose.length = 0 := by rw [f3]; rfl
  clear hf1 hf2 f1 f3 hd
  go_wp2_with (go_at_call 8; refine (HF1.out w3 l0 hT.p hlg hbb.2).mono ?_; rintro e w4 ⟨l1, rfl, hlg1, hD1, hm⟩; simp only []; refine Hid.out ?_)
  refine Lib.hid ?_
  have hbb4 := base_moved hbb (Nat.le_of_eq HBASE.out) hT.p hm
  have hT4 := hT.left hm hD1
  clear hm hT hbb hD1 HF1
  go_wp2_with (go_at_call 9; refine (HF2.out w4 L0 hT4.2.1 hLG hbb4.2).mono ?_; rintro e w5 ⟨L1, rfl, hLG1, hR1, hm⟩; simp only []; refine Hid.out ?_)
  refine Lib.hid ?_
  have hbb := below_rmoved hbb4 (Nat.le_of_eq HBASE.out) hT4.2.1 hm
  have hT := Two.right hT4 hm hR1
  clear hm hT4 hbb4 hR1 hlg hLG HF2
  have hlg := hlg1
  have hLG := hLG1
  clear hlg1 hLG1
  go_wp2_with fail
  refine (unewV_any n HN.out _ base _ d hT.p g hlg hbb.2 who tb (H.Tab.below hTab hbb.1)).mono ?_
  rintro e w20 ⟨u20, rfl, hV20, hb20⟩
  simp only []
  have hfl : ∀ x, l1.fp x → x < _ := fun x hx => (hT.p.fp_lt hx).2
  have hfL : ∀ x, L1.fp x → x < _ := fun x hx => (hT.rfp hx).2
  have hT := hT.below hb20
  have hbb := below_base hbb hb20
  obtain ⟨E2, hE2⟩ : ∃ x, newE who d 5 = x := ⟨_, rfl⟩
  rw [hE2]
  have HE2 := Lib.hid hE2
  clear hE2
  go_wp2_with fail
  refine (rnewV_any _ base _ d hT.r G hLG hbb.2 who).mono ?_
  rw [HE2.out]
  rintro e w21 ⟨x21, rfl, hV21, hb21⟩
  simp only []
  have hS := UNewV.join hfl hfL hb21 hV20 hV21
  have hT := hT.below hb21
  have hbb := below_base hbb hb21
  clear hV20 hV21 hb20 hb21 hfl hfL HE2
  go_upto_block 0 with (fail)
  go_cut [] (fun wx => Below w1.heap.size w1 wx)
  case first =>
    go_wp2_with fail
    go_loopw [7, 8, 9, 10, 11] (fun u e x f i wr => ∃ (kk : Nat) (d : DS) (l' : DL) (L' : RL) (E : Int), kk ≤ m ∧ i = .int .i64 (kk : Int) ∧ e = .int .i64 E ∧ f = .int .i64 E ∧ Two wr base l' L' d ∧ l'.g = g ∧ L'.g = G ∧ d.loose.length ≤ 1000 + 100 * kk ∧ Below w1.heap.size w1 wr ∧ base ≤ wr.heap.size ∧ UState wr base l' L' u x) (fun _ _ _ _ i _ => m + 1 - (intOf i).toNat)
    case atStart => exact ⟨0, d, l1, L1, E2, Nat.zero_le _, rfl, rfl, rfl, hT, hlg, hLG, by omega, hbb.1, hbb.2, hS⟩
    case round =>
      clear hT hbb hS hLG hlg hdl
      obtain ⟨kk, d, l', L', E, hk, rfl, rfl, rfl, hT, hlg, hLG, hlo, hbk, hbks, hS⟩ := hrel
      have g0 : (kk : Int) ≤ (m : Int) := by omega
      have hEE : (E != E) = false := by simp
      have hbb : Below w1.heap.size w1 wr ∧ base ≤ wr.heap.size := ⟨hbk, hbks⟩
      clear hbk hbks
      go_wp2_with (go_at_call 12; refine (usameS_any n HN.out _ base l' L' _ _ hS tb HTB.out (H.Tab.below hTab hbb.1)).mono ?_; rintro e wc ⟨rfl, hb⟩; simp only []; refine Hid.out ?_)
      refine Lib.hid ?_
      have hT := hT.below hb
      have hS := hS.below hb
      have hbb := below_base hbb hb
      clear hb
      by_cases hkm : kk < m
      · obtain ⟨ad, ⟨x1, ⟨A2, n2, z2, bs⟩, x3, x4, x5, ⟨A6, n6, z6, ps⟩⟩, e, hxl, hg, hadl, hcs, _⟩ := ustep_at hr hkm
        cases e
        obtain ⟨hB2, hx5, hB6⟩ := HI.out _ hxl
        have hbd := HPK.out kk _ hkm hg
        simp only [] at hB2 hB6 hx5 hbd
        obtain ⟨hR2, hz2, hz2m⟩ := hB2
        obtain ⟨hR6, _, _⟩ := hB6
        obtain ⟨hn6, hn2⟩ := hbd
        simp only [] at hn2 hn6 hR2 hR6 hz2 hz2m
        obtain ⟨P, hP⟩ : ∃ P, ad.add (kk * 6) = P := ⟨_, rfl⟩
        rw [hP] at hadl hcs
        have hQ : ∀ j u, ([.int .u8 (x1.toNat : Int), .slice A2 n2 z2, .bool x3, .int .u64 (x4.toNat : Int), .int .i8 x5, .slice A6 n6 z6] : List Value)[j]? = some u → wc.cell? (P.add j) = some u := fun j u hu => (hbb.1.cell (by rw [block_of_add]; exact hadl)).trans (hcs j u hu)
        have HQ := Lib.hid hQ
        have g1 : ((kk : Int) == (m : Int)) = false := by simp; omega
        have g2 : (0 : Int) ≤ (kk : Int) := by omega
        have g3 : (kk : Int) < (m : Int) := by omega
        obtain ⟨q, hq⟩ : ∃ q, x1.toNat % 6 = q := ⟨_, rfl⟩
        have hq6 : q = 0 ∨ q = 1 ∨ q = 2 ∨ q = 3 ∨ q = 4 ∨ q = 5 := by omega
        have hq0 : (x1.toNat : Int) % 6 = (q : Int) := by omega
        have HQ0 := Lib.hid hq0
        have hal : ∀ {A9 : Option Addr} {n9 : Nat} {b9 : List UInt8}, RB w1 A9 n9 b9 → n9 ≠ 0 → ∀ x, A9.map (·.block) = some x → x < base := fun hR hn0 x hx => by
          obtain ⟨a1, hA, hlt, _⟩ := hR.2 (by omega)
          rw [hA] at hx
          have hxe : a1.block = x := Option.some.inj hx
          have hbe := HBASE.out
          omega
        have ha2 := hal hR2
        have ha6 := hal hR6
        clear hxl hcs hQ hg hq hq0 hal
        have h5 : (#[.int .u8 (x1.toNat : Int), .slice A2 n2 z2, .bool x3, .int .u64 (x4.toNat : Int), .int .i8 x5, .slice A6 n6 z6] : Array Value).all (·.oneCell') = true := by simp [Value.oneCell']
        repeat (first
          | ((with_reducible refine wpl_load_any P [.int .u8 (x1.toNat : Int), .slice A2 n2 z2, .bool x3, .int .u64 (x4.toNat : Int), .int .i8 x5, .slice A6 n6 z6] Tryz.underlying43 rfl iStep7 rfl HQ.out ?_ ?_); (focus rfl); simp only [Act.put, List.setIfInBounds_toArray, List.set_cons_zero, List.set_cons_succ])
          | ((with_reducible refine wpl_store_fresh #[.int .u8 (x1.toNat : Int), .slice A2 n2 z2, .bool x3, .int .u64 (x4.toNat : Int), .int .i8 x5, .slice A6 n6 z6] iStep7 ?_ rfl h5 ?_ ?_ ?_); (focus kernel_rfl); (focus rfl); (focus rfl); intro w7 hX hl7 hb7; simp only [Act.put]; refine Hid.out ?_)
          | go_values | go_skip | go_guarded | go_step | go_upon | go_back)
        refine Lib.hid ?_
        have hT0 := hT
        have hT := hT.below hb7
        have hbb := below_base hbb hb7
        have hS := hS.below hb7
        clear hb7 h5 HQ hadl
        obtain ⟨gx, hgx⟩ : ∃ x, wc.heap.size = x := ⟨_, rfl⟩
        rw [hgx] at hX hl7 ⊢
        have hgf : ¬ l'.fp gx := fun q => by have := (hT0.p.fp_lt q).2; omega
        have hgF : ¬ L'.fp gx := fun q => by have := (hT0.rfp q).2; omega
        clear hT0
        have c0 := hX.cell 0
        simp only [List.getElem?_toArray, List.getElem?_cons_zero] at c0
        go_upto_block 2 with (fail)
        have hq0 := HQ0.out
        rw [hq0]
        clear hq0 c0
        rcases hq6 with rfl | rfl | rfl | rfl | rfl | rfl
        · as_aux_lemma =>
            rcases hS with ⟨rfl, rfl⟩ | ⟨k, kc, K, KC, s, rfl, rfl, hX2, hp5⟩
            · go_wp2_with fail
              exact ⟨⟨kk + 1, _, l', L', E, by omega, congrArg (Value.int .i64) (by omega), rfl, rfl, hT, hlg, hLG, by omega, hbb.1, hbb.2, .inl ⟨rfl, rfl⟩⟩, by simp only [intOf]; omega⟩
            · obtain ⟨_, _, _, hkB, _, _⟩ := hX2.u.blk
              obtain ⟨_, _, _, hcB, _, _⟩ := hX2.u.cell.blk
              obtain ⟨_, _, _, hKB, _⟩ := hX2.x.blk
              obtain ⟨_, hCB⟩ := hX2.x.cell.blk
              have hkx : k ≠ gx := blk_ne hkB hX (by decide)
              have hcx : kc ≠ gx := blk_ne hcB hX (by decide)
              have hKx : K ≠ gx := blk_ne hKB hX (by decide)
              have hCx : KC ≠ gx := blk_ne hCB hX (by decide)
              clear hkB hcB hKB hCB
              have hnp := nextU_p n tb d s bs
              have hnl := nextU_len n tb d s bs
              have hnt := nextU_t n tb d s bs
              rw [hp5] at hnp
              obtain ⟨⟨d2, s2, nn, F, E2⟩, hnx⟩ : ∃ r, nextU n tb d s bs = r := ⟨_, rfl⟩
              rw [hnx] at hnp hnl hnt
              simp only at hnp hnl hnt
              have HNX := Lib.hid hnx
              clear hnx
              have hFs : (bvs F).toArray.size = 32 := by rw [bvs_size, hnt]
              have hx32 : ∀ w, (Op.equalIn 10000 44 (.agg (bvs F).toArray) (.agg (bvs F).toArray)).run Tryz.prog w = .ok true w := fun w => by rw [H.eql32 F F hnt hnt w, decide_eq_true rfl]
              have HX32 := Lib.hid hx32
              have hnn : ((nn : Int) != (nn : Int)) = false := by simp
              have hee2 : (E2 != E2) = false := by simp
              have hdl : d.loose.length < 800000000 := by omega
              have hpp : (0 : Int) ≤ s.c.p ∧ s.c.p + 20 ≤ 32768 := by omega
              clear hx32
              go_upto_region 29 with (fail)
              have hXA := hX.alloc (.cells #[] 5)
              have c1 := hXA.cell 1
              simp only [List.getElem?_toArray, List.getElem?_cons_zero, List.getElem?_cons_succ] at c1
              go_wp2_with (at_builtin; refine app_bytes rfl _ _ rfl w7.heap.size _ _ _ [] rfl (OB.empty _ _) _ _ _ bs rfl ((hR2.below hbb.1).below (below_alloc _ _)) (by omega) (by simp) ?_; intro A9 N9 c9 w9 hc9 hc9' hO9 hG9; refine Hid.out ?_)
              refine Lib.hid ?_
              have hb9 : Below w7.heap.size w7 w9 := hG9.below (below_alloc _ _) (by simp) (by simp)
              rw [List.nil_append] at hO9
              have hr9 := hO9.reads
              have hl9 := hO9.len
              have hl2 := hR2.len
              have ha9 : N9 ≠ 0 → ∀ x, A9.map (·.block) = some x → ¬ l'.fp x ∧ x ≠ k ∧ x ≠ kc := fun _ x hx => by
                have h1 := (OB.ge hO9 x hx).1
                have h2 := hX2.u.lt
                have h3 := hX2.u.cell.lt
                exact ⟨fun hf => by have := (hT.p.fp_lt hf).2; omega, by omega, by omega⟩
              have hX := hX.below hb9 hX.lt
              have hT := hT.below hb9
              have hbb := below_base hbb hb9
              have hX2 := hX2.below hb9
              clear hXA c1 hG9 hb9 hO9
              go_wp2_with (go_at_call 13; refine (unext_any n HN.out w9 base l' d hT.p g hlg hbb.2 (by omega) k kc s hX2.u hpp A9 N9 c9 bs hr9 (by omega) ha9 tb w1 hTab hbb.1 (Nat.le_of_eq HBASE.out)).mono ?_; rw [HNX.out]; rintro e w10 ⟨l10, rfl, hlg10, hD10, hU10, hm10⟩; simp only []; refine Hid.out ?_)
              refine Lib.hid ?_
              try simp only [] at hD10 hU10
              have hbb10 := base_umoved hbb (Nat.le_of_eq HBASE.out) hT.p hX2.u hm10
              have hT10 := hT.leftU hm10 hX2.kL hX2.cL hD10
              have hX210 := hX2.left hT.p hm10 hU10
              have hX10 := hm10.chg.blk hX (fun hf => by
                rcases hf with h | h | h
                · exact hgf h
                · exact hkx h.symm
                · exact hcx h.symm)
              clear hm10 hU10 hD10 hX2 hT hX hbb hr9 ha9
              repeat (first
                | ((with_reducible refine wpl_store_fresh (bvs F).toArray i32 ?_ hFs (bvs_all _) ?_ ?_ ?_); (focus kernel_rfl); (focus rfl); (focus rfl); intro w11 hS14 hl11 hb11; simp only [Act.put]; refine Hid.out ?_)
                | go_values | go_skip | go_guarded | go_step | go_upon | go_back)
              refine Lib.hid ?_
              have hbb11 := below_base hbb10 hb11
              have hX11 := hX10.below hb11 hX10.lt
              have hT11 : DiskAt w11 base l10 d2 ∧ RDk w11 base L' d ∧ ∀ x, l10.fp x → ¬ L'.fp x := ⟨hT10.1.below hb11, hT10.2.1.below hb11, hT10.2.2⟩
              have hX211 := hX210.below hb11
              obtain ⟨g14, hg14⟩ : ∃ x, w10.heap.size = x := ⟨_, rfl⟩
              rw [hg14] at hS14 ⊢
              have hg14l : ¬ L'.fp g14 := fun hf => by have := (hT10.2.1.fp_lt hf).2; omega
              have hg14K : g14 ≠ K := by have := hX210.x.lt; omega
              have hg14C : g14 ≠ KC := by have := hX210.x.cell.lt; omega
              clear hb11 hl11 hg14 hbb10 hX10 hT10 hX210
              have c1 := hX11.cell 1
              simp only [List.getElem?_toArray, List.getElem?_cons_zero, List.getElem?_cons_succ] at c1
              go_wp2_with (go_at_call 14; refine (rnext7_any n HN.out w11 base L' d hT11.2.1 G hLG hbb11.2 hdl K KC s hX211.x hpp A2 n2 z2 bs (hR2.below hbb11.1) (by omega) (fun hn0 x hx => ⟨fun hf => by have := ha2 hn0 x hx; have := (hT11.2.1.fp_lt hf).1; omega, by have := ha2 hn0 x hx; have := hX211.x.bk; omega, by have := ha2 hn0 x hx; have := hX211.x.cell.bk; omega⟩) tb HTB.out).mono ?_; rw [HNX.out]; rintro e w12 ⟨L12, rfl, hLG12, hR12, hU12, hm12⟩; simp only []; refine Hid.out ?_)
              refine Lib.hid ?_
              try simp only [] at hR12 hU12
              have hbb12 := base_rumoved hbb11 (Nat.le_of_eq HBASE.out) hT11.2.1 hX211.x hX211.x.cell.bk hm12
              have hT12 := Two.rightU hT11 hm12 hX211.Kl hX211.Cl hR12
              have hX212 := hX211.right hT11.2.1 hm12 hU12
              have hS14 := hm12.chg.blk hS14 (fun hf => by
                rcases hf with h | h | h
                · exact hg14l h
                · exact hg14K h
                · exact hg14C h)
              clear hm12 hU12 hR12 hX211 hT11 hbb11 hX11 c1
              repeat (first
                | ((with_reducible refine wpl_store_fresh (bvs F).toArray i32 ?_ hFs (bvs_all _) ?_ ?_ ?_); (focus kernel_rfl); (focus rfl); (focus rfl); intro w13 hS17 hl13 hb13; simp only [Act.put]; refine Hid.out ?_)
                | go_values | go_skip | go_guarded | go_step | go_upon | go_back)
              refine Lib.hid ?_
              have hbb := below_base hbb12 hb13
              have hT := hT12.below hb13
              have hX2 := hX212.below hb13
              have hS14 := hS14.below hb13 hS14.lt
              obtain ⟨g17, hg17⟩ : ∃ x, w12.heap.size = x := ⟨_, rfl⟩
              rw [hg17] at hS17 ⊢
              clear hb13 hl13 hg17 hbb12 hX212 hT12
              have hS : UState w13 base l10 L12 (.pointer (some ⟨k, 0, none⟩)) (.pointer (some ⟨K, 0, none⟩)) := .inr ⟨k, kc, K, KC, s2, rfl, rfl, hX2, hnp⟩
              have hx := HX32.out
              repeat (first
                | ((with_reducible refine wpl_loadG g14 _ _ Tryz.underlying44 i32 hS14 hFs ?_ ?_ ?_); (focus rfl); (focus rfl); simp only [Act.put, List.setIfInBounds_toArray, List.set_cons_zero, List.set_cons_succ])
                | ((with_reducible refine wpl_loadG g17 _ _ Tryz.underlying44 i32 hS17 hFs ?_ ?_ ?_); (focus rfl); (focus rfl); simp only [Act.put, List.setIfInBounds_toArray, List.set_cons_zero, List.set_cons_succ])
                | go_values | go_skip | go_guarded | go_step | go_upon | go_back)
              go_wp2_with fail
              exact ⟨⟨kk + 1, d2, l10, L12, E, by omega, congrArg (Value.int .i64) (by omega), rfl, rfl, hT, hlg10, hLG12, by omega, hbb.1, hbb.2, hS⟩, by simp only [intOf]; omega⟩
        · as_aux_lemma =>
            have c4 := hX.cell 4
            simp only [List.getElem?_toArray, List.getElem?_cons_zero, List.getElem?_cons_succ] at c4
            go_wp2_with fail
            refine (gfuse _ base g _ _ hT.p hlg x5 (by omega)).mono ?_
            rintro e w9 ⟨l9, rfl, hlg9, hD9, hm⟩
            have hbb := base_moved hbb (Nat.le_of_eq HBASE.out) hT.p hm
            have hX := hm.chg.blk hX hgf
            have hS := hS.left hT.p hm
            have hT := hT.left hm hD9
            have c4 := hX.cell 4
            simp only [List.getElem?_toArray, List.getElem?_cons_zero, List.getElem?_cons_succ] at c4
            simp only []
            obtain ⟨_, _, _, _, f3, u, cu⟩ := hT.2.1.cells
            have hR9 := hT.2.1.fuses x5 (by omega)
            have hgr := grownBy_set w9 L'.g 3 (.int .i64 (max x5 (-1)))
            have hm9 := RMoved.of_grown (l := L') hgr
            have hbb := below_rmoved hbb (Nat.le_of_eq HBASE.out) hT.2.1 hm9
            have hS := hS.right hT.2.1 hm9
            have hT := Two.right hT hm9 hR9
            rw [hLG] at f3 cu hT hbb hS
            clear hm hm9 hgr hR9
            have e : max x5 (-1) = if x5 < -1 then -1 else x5 := by split <;> omega
            rw [e] at hT hbb hS
            go_wp2_with fail
            exact ⟨⟨kk + 1, _, l9, L', E, by omega, congrArg (Value.int .i64) (by omega), rfl, rfl, hT, hlg9, hLG, Nat.le_trans hlo (by omega), hbb.1, hbb.2, hS⟩, by simp only [intOf]; omega⟩
        · as_aux_lemma =>
            go_wp2_with fail
            refine (goff _ base g _ _ hT.p hlg).mono ?_
            rintro e w9 ⟨l9, rfl, hlg9, hD9, hm⟩
            have hbb := base_moved hbb (Nat.le_of_eq HBASE.out) hT.p hm
            have hS := hS.left hT.p hm
            have hT := hT.left hm hD9
            simp only []
            clear hm
            go_wp2_with fail
            refine (rgoff _ base G _ _ hT.2.1 hLG).mono ?_
            rintro e w11 ⟨L9, rfl, hLG9, hR9, hm⟩
            have hbb := below_rmoved hbb (Nat.le_of_eq HBASE.out) hT.2.1 hm
            have hS := hS.right hT.2.1 hm
            have hT := Two.right hT hm hR9
            simp only []
            clear hm
            go_wp2_with fail
            exact ⟨⟨kk + 1, _, l9, L9, E, by omega, congrArg (Value.int .i64) (by omega), rfl, rfl, hT, hlg9, hLG9, Nat.le_trans hlo (by omega), hbb.1, hbb.2, hS⟩, by simp only [intOf]; omega⟩
        · as_aux_lemma =>
            have q5 : ∀ z, Blk z gx 43 #[.int .u8 (x1.toNat : Int), .slice A2 n2 z2, .bool x3, .int .u64 (x4.toNat : Int), .int .i8 x5, .slice A6 n6 z6] → z.cell? ⟨gx, 5, none⟩ = some (.slice A6 n6 z6) := fun z hz => hz.cell 5
            have hll := onAll_len d ps
            go_wp2_with fail
            refine wp_region_plan [(0, true), (1, true), (2, true), (4, true), (5, true), (6, true), (3, false), (7, false), (8, true)] (fun z => Blk z gx 43 #[.int .u8 (x1.toNat : Int), .slice A2 n2 z2, .bool x3, .int .u64 (x4.toNat : Int), .int .i8 x5, .slice A6 n6 z6]) (by kernel_rfl) (by kernel_rfl) (by kernel_rfl) (by kernel_rfl) (fun _ _ d _ _ h => by cases d <;> exact h) hX ?_
            simp only [planOps, List.getElem?_toArray, List.getElem?_cons_zero, List.getElem?_cons_succ]
            iterate 6 (refine wpS_q ?_ (by rfl) ?_ ?_; rotate_left; (focus (intro z hz; (try dsimp only at hz); go_simp; rfl)); simp only [Act.put, List.setIfInBounds_toArray, List.set_cons_zero, List.set_cons_succ])
            have hT := hT.below drew_below
            have hbb := below_base hbb (drew_below (w := w7))
            refine wpS_l (by rfl) (fun K hK => ?_)
            go_wp2_with fail
            refine (gonN _ base g _ _ hT.p hlg A6 n6 z6 ps (hR6.below hbb.1) (fun hn0 x hx hf => by have := ha6 hn0 x hx; have := (hT.p.fp_lt hf).1; omega)).mono ?_
            rintro e w9 ⟨l9, rfl, hlg9, hD9, hm⟩
            have hbb := base_moved hbb (Nat.le_of_eq HBASE.out) hT.p hm
            have hX := hm.chg.blk (show Blk w7.drew gx 43 #[.int .u8 (x1.toNat : Int), .slice A2 n2 z2, .bool x3, .int .u64 (x4.toNat : Int), .int .i8 x5, .slice A6 n6 z6] from hX) hgf
            have hT := hT.left hm hD9
            refine hK _ _ _ hX (fun _ h => h) ?_
            clear hK hm
            refine wpS_l (by rfl) (fun K hK => ?_)
            go_wp2_with fail
            refine (rgon _ base G _ _ hT.2.1 hLG hbb.2 A6 n6 z6 ps (hR6.below hbb.1) (fun hn0 x hx hf => by have := ha6 hn0 x hx; have := (hT.2.1.fp_lt hf).1; omega)).mono ?_
            rintro e w11 ⟨L9, rfl, hLG9, hR9, hm⟩
            have hbb := below_rmoved hbb (Nat.le_of_eq HBASE.out) hT.2.1 hm
            have hX := hm.chg.blk hX hgF
            have hT := Two.right hT hm hR9
            refine hK _ _ _ hX (fun _ h => h) ?_
            clear hK hm hS
            obtain ⟨dn, hdn⟩ : ∃ x, onAll d ps = x := ⟨_, rfl⟩
            rw [hdn] at hT hll
            clear hdn hlg hLG
            have hlg := hlg9
            have hLG := hLG9
            have hdlo : dn.loose.length ≤ 1000 + 100 * kk := by omega
            repeat (first
              | (refine wpS_skip (by rfl) ?_; simp only [Act.put, List.setIfInBounds_toArray, List.set_cons_zero, List.set_cons_succ])
              | (refine wpS_q ?_ (by rfl) ?_ ?_; rotate_left; (focus (intro z hz; (try dsimp only at hz); go_simp; rfl)); simp only [Act.put, List.setIfInBounds_toArray, List.set_cons_zero, List.set_cons_succ]))
            refine wpS_nil ?_

            go_wp2_with fail
            refine (unewV_any n HN.out _ base _ dn hT.p g hlg hbb.2 who tb (H.Tab.below hTab hbb.1)).mono ?_
            rintro e w20 ⟨u20, rfl, hV20, hb20⟩
            simp only []
            have hfl : ∀ x, l9.fp x → x < _ := fun x hx => (hT.p.fp_lt hx).2
            have hfL : ∀ x, L9.fp x → x < _ := fun x hx => (hT.rfp hx).2
            have hT := hT.below hb20
            have hbb := below_base hbb hb20
            obtain ⟨E2, hE2⟩ : ∃ x, newE who dn 5 = x := ⟨_, rfl⟩
            rw [hE2]
            have HE2 := Lib.hid hE2
            clear hE2
            go_wp2_with fail
            refine (rnewV_any _ base _ dn hT.r G hLG hbb.2 who).mono ?_
            rw [HE2.out]
            rintro e w21 ⟨x21, rfl, hV21, hb21⟩
            simp only []
            have hS := UNewV.join hfl hfL hb21 hV20 hV21
            have hT := hT.below hb21
            have hbb := below_base hbb hb21
            clear hV20 hV21 hb20 hb21 hfl hfL HE2
            go_wp2_with fail
            exact ⟨⟨kk + 1, _, l9, L9, E2, by omega, congrArg (Value.int .i64) (by omega), rfl, rfl, hT, hlg, hLG, by omega, hbb.1, hbb.2, hS⟩, by simp only [intOf]; omega⟩
        · as_aux_lemma =>
            clear hS

            go_wp2_with fail
            refine (unewV_any n HN.out _ base _ d hT.p g hlg hbb.2 who tb (H.Tab.below hTab hbb.1)).mono ?_
            rintro e w20 ⟨u20, rfl, hV20, hb20⟩
            simp only []
            have hfl : ∀ x, l'.fp x → x < _ := fun x hx => (hT.p.fp_lt hx).2
            have hfL : ∀ x, L'.fp x → x < _ := fun x hx => (hT.rfp hx).2
            have hT := hT.below hb20
            have hbb := below_base hbb hb20
            obtain ⟨E2, hE2⟩ : ∃ x, newE who d 5 = x := ⟨_, rfl⟩
            rw [hE2]
            have HE2 := Lib.hid hE2
            clear hE2
            go_wp2_with fail
            refine (rnewV_any _ base _ d hT.r G hLG hbb.2 who).mono ?_
            rw [HE2.out]
            rintro e w21 ⟨x21, rfl, hV21, hb21⟩
            simp only []
            have hS := UNewV.join hfl hfL hb21 hV20 hV21
            have hT := hT.below hb21
            have hbb := below_base hbb hb21
            clear hV20 hV21 hb20 hb21 hfl hfL HE2
            go_wp2_with fail
            exact ⟨⟨kk + 1, _, l', L', E2, by omega, congrArg (Value.int .i64) (by omega), rfl, rfl, hT, hlg, hLG, by omega, hbb.1, hbb.2, hS⟩, by simp only [intOf]; omega⟩
        · as_aux_lemma =>
            clear hS
            have hx4 := x4.toNat_lt
            have hfl7 : ∀ x, l'.fp x → x < w7.heap.size := fun x hx => (hT.p.fp_lt hx).2
            have hfL7 : ∀ x, L'.fp x → x < w7.heap.size := fun x hx => (hT.rfp hx).2
            have hl2 := hR2.len
            have c1 := hX.cell 1
            have c2 := hX.cell 2
            have c3 := hX.cell 3
            simp only [List.getElem?_toArray, List.getElem?_cons_zero, List.getElem?_cons_succ] at c1 c2 c3
            cases x3
            · as_aux_lemma =>
                have hr9 := hR2.below hbb.1
                have ha9 : n2 ≠ 0 → ∀ x, A2.map (·.block) = some x → x < w7.heap.size ∧ ¬ l'.fp x ∧ ¬ L'.fp x := fun hn0 x hx => by
                  have := ha2 hn0 x hx
                  exact ⟨by omega, fun hf => by have := (hT.p.fp_lt hf).1; omega, fun hf => by have := (hT.rfp hf).1; omega⟩
                have hN9 : n2 ≤ 1308 := by omega
                go_upto_region 21 with (fail)
                clear c1 c2 c3 hX
                have hdl : d.loose.length < 800000000 := by omega
                have hdlo : d.loose.length ≤ 1000 + 100 * kk := hlo
                have hop1 := fun w (h : DiskAt w base l' d) hb => copen_any w base l' d h g hlg hb 5 (by omega)
                have hop2 := fun w (h : RDk w base L' d) hb => ropen5_any w base L' d h G hLG hb 5 (by omega)
                have hcp : (openCell d 5).p = 5 := rfl
                have hcd : (openCell d 5).dead = false := rfl
                obtain ⟨s, hs⟩ : ∃ s, openCell d 5 = s := ⟨_, rfl⟩
                obtain ⟨oe, hoe⟩ : ∃ x, opE d 5 = x := ⟨_, rfl⟩
                rw [hs] at hcp hcd
                simp only [hs, hoe] at hop1 hop2
                have H1 := Lib.hid hop1
                have H2 := Lib.hid hop2
                clear hs hoe hop1 hop2
                have hfl : ∀ x, l'.fp x → x < w7.heap.size := fun x hx => (hT.p.fp_lt hx).2
                have hfL : ∀ x, L'.fp x → x < w7.heap.size := fun x hx => (hT.rfp hx).2
                go_wp2_with fail
                refine (H1.out w7 hT.p hbb.2).mono ?_
                rintro e w21 ⟨(⟨hE, rfl⟩ | ⟨hE, k9, rfl, hC9, hk9⟩), hb⟩
                · simp only []
                  have hT := hT.below hb
                  have hbb := below_base hbb hb
                  clear hb hfl hfL
                  go_wp2_with fail
                  refine (H2.out w21 hT.r hbb.2).mono ?_
                  rintro e w22 ⟨(⟨_, rfl⟩ | ⟨hE', _⟩), hb⟩
                  · simp only []
                    have hT := hT.below hb
                    have hbb := below_base hbb hb
                    have e1 : (oe != oe) = false := by simp
                    have e2 : (oe == 0) = false := by simpa using hE
                    clear hE hb H1 H2 hr9 ha9 hcp hcd
                    go_upto_region 25 with (fail)
                    go_wp2_with fail
                    refine (unewV_any n HN.out _ base _ d hT.p g hlg hbb.2 who tb (H.Tab.below hTab hbb.1)).mono ?_
                    rintro e w20 ⟨u20, rfl, hV20, hb20⟩
                    simp only []
                    have hfl : ∀ x, l'.fp x → x < _ := fun x hx => (hT.p.fp_lt hx).2
                    have hfL : ∀ x, L'.fp x → x < _ := fun x hx => (hT.rfp hx).2
                    have hT := hT.below hb20
                    have hbb := below_base hbb hb20
                    obtain ⟨E2, hE2⟩ : ∃ x, newE who d 5 = x := ⟨_, rfl⟩
                    rw [hE2]
                    have HE2 := Lib.hid hE2
                    clear hE2
                    go_wp2_with fail
                    refine (rnewV_any _ base _ d hT.r G hLG hbb.2 who).mono ?_
                    rw [HE2.out]
                    rintro e w21 ⟨x21, rfl, hV21, hb21⟩
                    simp only []
                    have hS := UNewV.join hfl hfL hb21 hV20 hV21
                    have hT := hT.below hb21
                    have hbb := below_base hbb hb21
                    clear hV20 hV21 hb20 hb21 hfl hfL HE2
                    go_wp2_with fail
                    exact ⟨⟨kk + 1, _, l', L', E2, by omega, congrArg (Value.int .i64) (by omega), rfl, rfl, hT, hlg, hLG, by omega, hbb.1, hbb.2, hS⟩, by simp only [intOf]; omega⟩
                  · exact absurd hE' hE
                · subst hE
                  simp only []
                  have hT := hT.below hb
                  have hbb := below_base hbb hb
                  have hr9 := hr9.below hb
                  have hs21 := hb.size
                  have hkL : ¬ L'.fp k9 := fun hf => by have := hfL k9 hf; omega
                  have hkl := hC9.lt
                  clear hb
                  go_wp2_with fail
                  refine (H2.out w21 hT.r hbb.2).mono ?_
                  rintro e w22 ⟨(⟨hE', _⟩ | ⟨_, K9, rfl, hR9, hK9⟩), hb⟩
                  · exact absurd rfl hE'
                  · simp only []
                    have hC9 := hC9.below hb
                    have hW9 := hR9.weak
                    have hT := hT.below hb
                    have hbb := below_base hbb hb
                    have hr9 := hr9.below hb
                    have hKl : ¬ l'.fp K9 := fun hf => by have := hfl K9 hf; omega
                    have hkK : k9 ≠ K9 := by omega
                    have hap1 : n2 ≠ 0 → ∀ x, A2.map (·.block) = some x → ¬ l'.fp x ∧ x ≠ k9 := fun hn0 x hx => ⟨(ha9 hn0 x hx).2.1, by have := (ha9 hn0 x hx).1; omega⟩
                    have hap2 : n2 ≠ 0 → ∀ x, A2.map (·.block) = some x → ¬ L'.fp x ∧ x ≠ K9 := fun hn0 x hx => ⟨(ha9 hn0 x hx).2.2, by have := (ha9 hn0 x hx).1; omega⟩
                    clear hb hR9 H1 H2 hfl hfL ha9 hk9 hK9 hkl hs21
                    by_cases hN : 1100 < n2
                    · clear hC9 hW9 hap1 hap2
                      go_upto_region 25 with (first | (go_at_call 23; refine (cput_many _ k9 A2 n2 z2 hN).mono ?_; rintro e w23 ⟨rfl, rfl⟩; simp only []) | (go_at_call 24; refine (rput5_many _ K9 A2 n2 z2 hN).mono ?_; rintro e w24 ⟨rfl, rfl⟩; simp only []))
                      go_wp2_with fail
                      refine (unewV_any n HN.out _ base _ d hT.p g hlg hbb.2 who tb (H.Tab.below hTab hbb.1)).mono ?_
                      rintro e w20 ⟨u20, rfl, hV20, hb20⟩
                      simp only []
                      have hfl : ∀ x, l'.fp x → x < _ := fun x hx => (hT.p.fp_lt hx).2
                      have hfL : ∀ x, L'.fp x → x < _ := fun x hx => (hT.rfp hx).2
                      have hT := hT.below hb20
                      have hbb := below_base hbb hb20
                      obtain ⟨E2, hE2⟩ : ∃ x, newE who d 5 = x := ⟨_, rfl⟩
                      rw [hE2]
                      have HE2 := Lib.hid hE2
                      clear hE2
                      go_wp2_with fail
                      refine (rnewV_any _ base _ d hT.r G hLG hbb.2 who).mono ?_
                      rw [HE2.out]
                      rintro e w21 ⟨x21, rfl, hV21, hb21⟩
                      simp only []
                      have hS := UNewV.join hfl hfL hb21 hV20 hV21
                      have hT := hT.below hb21
                      have hbb := below_base hbb hb21
                      clear hV20 hV21 hb20 hb21 hfl hfL HE2
                      go_wp2_with fail
                      exact ⟨⟨kk + 1, _, l', L', E2, by omega, congrArg (Value.int .i64) (by omega), rfl, rfl, hT, hlg, hLG, by omega, hbb.1, hbb.2, hS⟩, by simp only [intOf]; omega⟩
                    · have hpl := ptF_len d s.p s.which bs
                      obtain ⟨⟨d3, E3⟩, hpt⟩ : ∃ r, ptF d s.p s.which bs = r := ⟨_, rfl⟩
                      rw [hpt] at hpl
                      simp only at hpl
                      have HPT := Lib.hid hpt
                      clear hpt
                      have e3 : (E3 != E3) = false := by simp
                      go_wp2_with (go_at_call 23; refine (cput_any w22 base l' d hT.p g hlg hbb.2 (by omega) k9 s hC9 (by omega) hcd A2 n2 z2 bs hr9 (by omega) hap1).mono ?_; rw [HPT.out]; rintro e w23 ⟨l23, rfl, hlg23, hD23, _, hm23⟩; simp only []; refine Hid.out ?_)
                      refine Lib.hid ?_
                      try simp only [] at hD23
                      have hbb23 := base_chg hbb (Nat.le_of_eq HBASE.out) hm23.chg (fun x hx => hx.elim (fun h => (hT.p.fp_lt h).1) (fun e => e ▸ hC9.bk))
                      have hT23 := hT.leftU (UMoved.of_cell hm23 k9) hkL hkL hD23
                      have hW23 := hW9.kept hm23.chg (fun hf => hf.elim hKl (fun e => hkK e.symm)) rfl (fun _ hx => .inl hx)
                      have hr23 := hm23.chg.rbN hr9 (fun hn0 x hx hf => hf.elim (hap1 hn0 x hx).1 (hap1 hn0 x hx).2)
                      have hKl23 : ¬ l23.fp K9 := fun hf => by
                        rcases hm23.fp K9 hf with h | h
                        · exact hKl h
                        · have := hW9.lt
                          omega
                      clear hm23 hC9 hW9 hT hbb hr9 hD23 hap1
                      go_wp2_with (go_at_call 24; refine (rput5W_any w23 base L' d hT23.2.1 G hLG hbb23.2 hdl K9 s hW23 (by omega) hcd A2 n2 z2 bs hr23 (by omega) hap2).mono ?_; rw [HPT.out]; rintro e w24 ⟨L24, rfl, hLG24, hR24, _, hm24⟩; simp only []; refine Hid.out ?_)
                      refine Lib.hid ?_
                      try simp only [] at hR24
                      have hbb := base_chg hbb23 (Nat.le_of_eq HBASE.out) hm24.chg (fun x hx => hx.elim (fun h => (hT23.2.1.fp_lt h).1) (fun e => e ▸ hW23.bk))
                      have hT := Two.rightU hT23 (RUMoved.of_cell hm24 K9) hKl23 hKl23 hR24
                      clear hm24 hW23 hT23 hbb23 hr23 hR24 hap2 hlg hLG
                      have hlg := hlg23
                      have hLG := hLG24
                      clear hlg23 hLG24
                      go_upto_region 25 with (fail)
                      go_wp2_with fail
                      refine (unewV_any n HN.out _ base _ d3 hT.p g hlg hbb.2 who tb (H.Tab.below hTab hbb.1)).mono ?_
                      rintro e w20 ⟨u20, rfl, hV20, hb20⟩
                      simp only []
                      have hfl : ∀ x, l23.fp x → x < _ := fun x hx => (hT.p.fp_lt hx).2
                      have hfL : ∀ x, L24.fp x → x < _ := fun x hx => (hT.rfp hx).2
                      have hT := hT.below hb20
                      have hbb := below_base hbb hb20
                      obtain ⟨E2, hE2⟩ : ∃ x, newE who d3 5 = x := ⟨_, rfl⟩
                      rw [hE2]
                      have HE2 := Lib.hid hE2
                      clear hE2
                      go_wp2_with fail
                      refine (rnewV_any _ base _ d3 hT.r G hLG hbb.2 who).mono ?_
                      rw [HE2.out]
                      rintro e w21 ⟨x21, rfl, hV21, hb21⟩
                      simp only []
                      have hS := UNewV.join hfl hfL hb21 hV20 hV21
                      have hT := hT.below hb21
                      have hbb := below_base hbb hb21
                      clear hV20 hV21 hb20 hb21 hfl hfL HE2
                      go_wp2_with fail
                      exact ⟨⟨kk + 1, _, l23, L24, E2, by omega, congrArg (Value.int .i64) (by omega), rfl, rfl, hT, hlg, hLG, by omega, hbb.1, hbb.2, hS⟩, by simp only [intOf]; omega⟩
            · as_aux_lemma =>
                go_wp2_with (go_at_call 20; refine (rword_any w7 none 0 0 [] x4.toNat (RB.nil_ _ _) (by omega) (by omega)).mono ?_; rintro e w8 ⟨A8, N8, c8, rfl, hO8, hb8⟩; simp only []; refine Hid.out ?_)
                refine Lib.hid ?_
                rw [List.nil_append] at hO8
                obtain rfl : N8 = 8 := hO8.len.symm.trans (be_length 8 _)
                have hX8 := hX.below hb8 hX.lt
                clear c1 c2 c3
                have c1 := hX8.cell 1
                simp only [List.getElem?_toArray, List.getElem?_cons_zero, List.getElem?_cons_succ] at c1
                go_wp2_with (at_builtin; refine app_bytes rfl _ _ rfl w7.heap.size A8 8 c8 (be 8 x4.toNat) rfl hO8 A2 n2 z2 bs rfl ((hR2.below hbb.1).below hb8) (by omega) hb8.size ?_; intro A9 N9 c9 w9 hc9 hc9' hO9 hG9; refine Hid.out ?_)
                refine Lib.hid ?_
                have hb9 : Below w7.heap.size w7 w9 := hG9.own hb8 (Nat.le_refl _) hO8
                have hT := hT.below hb9
                have hbb7 := hbb
                have hbb := below_base hbb hb9
                have hr9 := hO9.reads
                have hl9 := hO9.len
                rw [List.length_append, be_length] at hl9
                have hN9 : N9 ≤ 1308 := by omega
                have hlt9 := fun x hx => OB.ge hO9 x hx
                have ha9 : N9 ≠ 0 → ∀ x, A9.map (·.block) = some x → x < w9.heap.size ∧ ¬ l'.fp x ∧ ¬ L'.fp x := fun _ x hx => by
                  have h1 := hlt9 x hx
                  exact ⟨h1.2, fun hf => by have := hfl7 x hf; omega, fun hf => by have := hfL7 x hf; omega⟩
                obtain ⟨bb, hbbe⟩ : ∃ x, be 8 x4.toNat ++ bs = x := ⟨_, rfl⟩
                rw [hbbe] at hr9
                clear hbbe hO9 hO8 hX8 hX hb8 hb9 hG9 hlt9 hbb7 c1 hl9
                go_upto_region 21 with (fail)
                have hdl : d.loose.length < 800000000 := by omega
                have hdlo : d.loose.length ≤ 1000 + 100 * kk := hlo
                have hop1 := fun w (h : DiskAt w base l' d) hb => copen_any w base l' d h g hlg hb 5 (by omega)
                have hop2 := fun w (h : RDk w base L' d) hb => ropen5_any w base L' d h G hLG hb 5 (by omega)
                have hcp : (openCell d 5).p = 5 := rfl
                have hcd : (openCell d 5).dead = false := rfl
                obtain ⟨s, hs⟩ : ∃ s, openCell d 5 = s := ⟨_, rfl⟩
                obtain ⟨oe, hoe⟩ : ∃ x, opE d 5 = x := ⟨_, rfl⟩
                rw [hs] at hcp hcd
                simp only [hs, hoe] at hop1 hop2
                have H1 := Lib.hid hop1
                have H2 := Lib.hid hop2
                clear hs hoe hop1 hop2
                have hfl : ∀ x, l'.fp x → x < w9.heap.size := fun x hx => (hT.p.fp_lt hx).2
                have hfL : ∀ x, L'.fp x → x < w9.heap.size := fun x hx => (hT.rfp hx).2
                go_wp2_with fail
                refine (H1.out w9 hT.p hbb.2).mono ?_
                rintro e w21 ⟨(⟨hE, rfl⟩ | ⟨hE, k9, rfl, hC9, hk9⟩), hb⟩
                · simp only []
                  have hT := hT.below hb
                  have hbb := below_base hbb hb
                  clear hb hfl hfL
                  go_wp2_with fail
                  refine (H2.out w21 hT.r hbb.2).mono ?_
                  rintro e w22 ⟨(⟨_, rfl⟩ | ⟨hE', _⟩), hb⟩
                  · simp only []
                    have hT := hT.below hb
                    have hbb := below_base hbb hb
                    have e1 : (oe != oe) = false := by simp
                    have e2 : (oe == 0) = false := by simpa using hE
                    clear hE hb H1 H2 hr9 ha9 hcp hcd
                    go_upto_region 25 with (fail)
                    go_wp2_with fail
                    refine (unewV_any n HN.out _ base _ d hT.p g hlg hbb.2 who tb (H.Tab.below hTab hbb.1)).mono ?_
                    rintro e w20 ⟨u20, rfl, hV20, hb20⟩
                    simp only []
                    have hfl : ∀ x, l'.fp x → x < _ := fun x hx => (hT.p.fp_lt hx).2
                    have hfL : ∀ x, L'.fp x → x < _ := fun x hx => (hT.rfp hx).2
                    have hT := hT.below hb20
                    have hbb := below_base hbb hb20
                    obtain ⟨E2, hE2⟩ : ∃ x, newE who d 5 = x := ⟨_, rfl⟩
                    rw [hE2]
                    have HE2 := Lib.hid hE2
                    clear hE2
                    go_wp2_with fail
                    refine (rnewV_any _ base _ d hT.r G hLG hbb.2 who).mono ?_
                    rw [HE2.out]
                    rintro e w21 ⟨x21, rfl, hV21, hb21⟩
                    simp only []
                    have hS := UNewV.join hfl hfL hb21 hV20 hV21
                    have hT := hT.below hb21
                    have hbb := below_base hbb hb21
                    clear hV20 hV21 hb20 hb21 hfl hfL HE2
                    go_wp2_with fail
                    exact ⟨⟨kk + 1, _, l', L', E2, by omega, congrArg (Value.int .i64) (by omega), rfl, rfl, hT, hlg, hLG, by omega, hbb.1, hbb.2, hS⟩, by simp only [intOf]; omega⟩
                  · exact absurd hE' hE
                · subst hE
                  simp only []
                  have hT := hT.below hb
                  have hbb := below_base hbb hb
                  have hr9 := hr9.below hb
                  have hs21 := hb.size
                  have hkL : ¬ L'.fp k9 := fun hf => by have := hfL k9 hf; omega
                  have hkl := hC9.lt
                  clear hb
                  go_wp2_with fail
                  refine (H2.out w21 hT.r hbb.2).mono ?_
                  rintro e w22 ⟨(⟨hE', _⟩ | ⟨_, K9, rfl, hR9, hK9⟩), hb⟩
                  · exact absurd rfl hE'
                  · simp only []
                    have hC9 := hC9.below hb
                    have hW9 := hR9.weak
                    have hT := hT.below hb
                    have hbb := below_base hbb hb
                    have hr9 := hr9.below hb
                    have hKl : ¬ l'.fp K9 := fun hf => by have := hfl K9 hf; omega
                    have hkK : k9 ≠ K9 := by omega
                    have hap1 : N9 ≠ 0 → ∀ x, A9.map (·.block) = some x → ¬ l'.fp x ∧ x ≠ k9 := fun hn0 x hx => ⟨(ha9 hn0 x hx).2.1, by have := (ha9 hn0 x hx).1; omega⟩
                    have hap2 : N9 ≠ 0 → ∀ x, A9.map (·.block) = some x → ¬ L'.fp x ∧ x ≠ K9 := fun hn0 x hx => ⟨(ha9 hn0 x hx).2.2, by have := (ha9 hn0 x hx).1; omega⟩
                    clear hb hR9 H1 H2 hfl hfL ha9 hk9 hK9 hkl hs21
                    by_cases hN : 1100 < N9
                    · clear hC9 hW9 hap1 hap2
                      go_upto_region 25 with (first | (go_at_call 23; refine (cput_many _ k9 A9 N9 c9 hN).mono ?_; rintro e w23 ⟨rfl, rfl⟩; simp only []) | (go_at_call 24; refine (rput5_many _ K9 A9 N9 c9 hN).mono ?_; rintro e w24 ⟨rfl, rfl⟩; simp only []))
                      go_wp2_with fail
                      refine (unewV_any n HN.out _ base _ d hT.p g hlg hbb.2 who tb (H.Tab.below hTab hbb.1)).mono ?_
                      rintro e w20 ⟨u20, rfl, hV20, hb20⟩
                      simp only []
                      have hfl : ∀ x, l'.fp x → x < _ := fun x hx => (hT.p.fp_lt hx).2
                      have hfL : ∀ x, L'.fp x → x < _ := fun x hx => (hT.rfp hx).2
                      have hT := hT.below hb20
                      have hbb := below_base hbb hb20
                      obtain ⟨E2, hE2⟩ : ∃ x, newE who d 5 = x := ⟨_, rfl⟩
                      rw [hE2]
                      have HE2 := Lib.hid hE2
                      clear hE2
                      go_wp2_with fail
                      refine (rnewV_any _ base _ d hT.r G hLG hbb.2 who).mono ?_
                      rw [HE2.out]
                      rintro e w21 ⟨x21, rfl, hV21, hb21⟩
                      simp only []
                      have hS := UNewV.join hfl hfL hb21 hV20 hV21
                      have hT := hT.below hb21
                      have hbb := below_base hbb hb21
                      clear hV20 hV21 hb20 hb21 hfl hfL HE2
                      go_wp2_with fail
                      exact ⟨⟨kk + 1, _, l', L', E2, by omega, congrArg (Value.int .i64) (by omega), rfl, rfl, hT, hlg, hLG, by omega, hbb.1, hbb.2, hS⟩, by simp only [intOf]; omega⟩
                    · have hpl := ptF_len d s.p s.which bb
                      obtain ⟨⟨d3, E3⟩, hpt⟩ : ∃ r, ptF d s.p s.which bb = r := ⟨_, rfl⟩
                      rw [hpt] at hpl
                      simp only at hpl
                      have HPT := Lib.hid hpt
                      clear hpt
                      have e3 : (E3 != E3) = false := by simp
                      go_wp2_with (go_at_call 23; refine (cput_any w22 base l' d hT.p g hlg hbb.2 (by omega) k9 s hC9 (by omega) hcd A9 N9 c9 bb hr9 (by omega) hap1).mono ?_; rw [HPT.out]; rintro e w23 ⟨l23, rfl, hlg23, hD23, _, hm23⟩; simp only []; refine Hid.out ?_)
                      refine Lib.hid ?_
                      try simp only [] at hD23
                      have hbb23 := base_chg hbb (Nat.le_of_eq HBASE.out) hm23.chg (fun x hx => hx.elim (fun h => (hT.p.fp_lt h).1) (fun e => e ▸ hC9.bk))
                      have hT23 := hT.leftU (UMoved.of_cell hm23 k9) hkL hkL hD23
                      have hW23 := hW9.kept hm23.chg (fun hf => hf.elim hKl (fun e => hkK e.symm)) rfl (fun _ hx => .inl hx)
                      have hr23 := hm23.chg.rbN hr9 (fun hn0 x hx hf => hf.elim (hap1 hn0 x hx).1 (hap1 hn0 x hx).2)
                      have hKl23 : ¬ l23.fp K9 := fun hf => by
                        rcases hm23.fp K9 hf with h | h
                        · exact hKl h
                        · have := hW9.lt
                          omega
                      clear hm23 hC9 hW9 hT hbb hr9 hD23 hap1
                      go_wp2_with (go_at_call 24; refine (rput5W_any w23 base L' d hT23.2.1 G hLG hbb23.2 hdl K9 s hW23 (by omega) hcd A9 N9 c9 bb hr23 (by omega) hap2).mono ?_; rw [HPT.out]; rintro e w24 ⟨L24, rfl, hLG24, hR24, _, hm24⟩; simp only []; refine Hid.out ?_)
                      refine Lib.hid ?_
                      try simp only [] at hR24
                      have hbb := base_chg hbb23 (Nat.le_of_eq HBASE.out) hm24.chg (fun x hx => hx.elim (fun h => (hT23.2.1.fp_lt h).1) (fun e => e ▸ hW23.bk))
                      have hT := Two.rightU hT23 (RUMoved.of_cell hm24 K9) hKl23 hKl23 hR24
                      clear hm24 hW23 hT23 hbb23 hr23 hR24 hap2 hlg hLG
                      have hlg := hlg23
                      have hLG := hLG24
                      clear hlg23 hLG24
                      go_upto_region 25 with (fail)
                      go_wp2_with fail
                      refine (unewV_any n HN.out _ base _ d3 hT.p g hlg hbb.2 who tb (H.Tab.below hTab hbb.1)).mono ?_
                      rintro e w20 ⟨u20, rfl, hV20, hb20⟩
                      simp only []
                      have hfl : ∀ x, l23.fp x → x < _ := fun x hx => (hT.p.fp_lt hx).2
                      have hfL : ∀ x, L24.fp x → x < _ := fun x hx => (hT.rfp hx).2
                      have hT := hT.below hb20
                      have hbb := below_base hbb hb20
                      obtain ⟨E2, hE2⟩ : ∃ x, newE who d3 5 = x := ⟨_, rfl⟩
                      rw [hE2]
                      have HE2 := Lib.hid hE2
                      clear hE2
                      go_wp2_with fail
                      refine (rnewV_any _ base _ d3 hT.r G hLG hbb.2 who).mono ?_
                      rw [HE2.out]
                      rintro e w21 ⟨x21, rfl, hV21, hb21⟩
                      simp only []
                      have hS := UNewV.join hfl hfL hb21 hV20 hV21
                      have hT := hT.below hb21
                      have hbb := below_base hbb hb21
                      clear hV20 hV21 hb20 hb21 hfl hfL HE2
                      go_wp2_with fail
                      exact ⟨⟨kk + 1, _, l23, L24, E2, by omega, congrArg (Value.int .i64) (by omega), rfl, rfl, hT, hlg, hLG, by omega, hbb.1, hbb.2, hS⟩, by simp only [intOf]; omega⟩
      · obtain rfl : kk = m := by omega
        have g1 : ((kk : Int) == (kk : Int)) = true := by simp
        go_wp2_with fail
        go_meet
        exact hbb.1
  case rest =>
    clear hT hbb hS
    go_wp2_with (go_at_call 5; refine (works7_any n HN.out _ tb HTB.out (H.Tab.below hTab hcut)).mono ?_; rintro e w2 ⟨rfl, hb2⟩)
    go_ret
    exact ⟨rfl, below_next' hcut hb2⟩
theorem usigPlays_walk (W : World) (hT : H.Tab W H.tblL) (who : Int) (_ : -9223372036854775808 ≤ who ∧ who ≤ 9223372036854775807) (A : Option Addr) (m c : Nat) (l : List UStep) (_ : l.length = m) (hr : Reads W W.heap.size 6 A m (l.flatMap fun x => [Value.int .u8 (x.1.toNat : Int)] ++ ([x.2.1.v] ++ ([Value.bool x.2.2.1] ++ ([Value.int .u64 (x.2.2.2.1.toNat : Int)] ++ ([Value.int .i8 x.2.2.2.2.1] ++ [x.2.2.2.2.2.v])))))) (hi : ∀ a ∈ l, (True ∧ SB.ok W a.2.1 ∧ True ∧ True ∧ (-128 ≤ a.2.2.2.2.1 ∧ a.2.2.2.2.1 ≤ 127) ∧ SB.ok W a.2.2.2.2.2) ∧ ([Value.int .u8 (a.1.toNat : Int)] ++ ([a.2.1.v] ++ ([Value.bool a.2.2.1] ++ ([Value.int .u64 (a.2.2.2.1.toNat : Int)] ++ ([Value.int .i8 a.2.2.2.2.1] ++ [a.2.2.2.2.2.v]))))).length = 6) (_ : m ≤ c) (_ : c * 80 ≤ 140737488351232) :
    Calls Tryz.prog 3 #[.int .i64 who, .slice A m c] W fun e w' => e = .returned (.bool true) ∧ Below W.heap.size W w' :=
  usigPlays_any 64 rfl W H.tblL rfl hT who A m c l hr (fun x hx => ⟨(hi x hx).1.2.1, (hi x hx).1.2.2.2.2.1, (hi x hx).1.2.2.2.2.2⟩)
end Go.Proofs.YtmjdfajdompkeaaGreatDoor
