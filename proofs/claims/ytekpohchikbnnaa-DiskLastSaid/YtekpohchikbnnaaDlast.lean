/- The law DiskLast, walked. -/
import Derived.Test.YtekpohchikbnnaaDl
namespace Go.Proofs.Ytekpohchikbnnaa
open Go.RowKit Go.Rat
theorem base_setRow {w a : World} {base gw : Nat} {cs : Array Value} (h : Below w.heap.size w a ∧ base ≤ a.heap.size) (hg : w.heap.size ≤ gw) : Below w.heap.size w (a.setRow gw cs) ∧ base ≤ (a.setRow gw cs).heap.size :=
  ⟨h.1.grown (grownBy_setRow _ _ _) (by have := h.1.size; simpa using this) (fun q hq => by cases hq; exact hg), by simpa using h.2⟩
set_option maxRecDepth 20000 in
set_option maxHeartbeats 8000000 in
theorem diskLast_any (w : World) (first : UInt8) (A : Option Addr) (m c : Nat) (l : List UInt8) (hr : RB w A m l) (A' : Option Addr) (m' c' : Nat) (ps : List UInt8) (hr' : RB w A' m' ps) (hat : ∀ x, A'.map (·.block) = some x → x < w.heap.size) :
    Calls Try.prog 3 #[.int .u8 (first.toNat : Int), .slice A m c, .slice A' m' c'] w fun e w' => e = .returned (.bool true) ∧ Below w.heap.size w w' := by
  have hl := hr.len
  have hl' := hr'.len
  by_cases hbig : 60 < m
  · have hbi : (60 : Int) < (m : Int) := by omega
    go_enter Try.func3, Try.ntmps3
    go_wp2_with (go_at_call 19; refine (works4_any w).mono ?_; rintro e w2 ⟨rfl, hb2⟩)
    go_ret
    exact ⟨rfl, hb2⟩
  have hbi : ¬ (60 : Int) < (m : Int) := by omega
  by_cases hbig' : 100 < m'
  · have hbi' : (100 : Int) < (m' : Int) := by omega
    go_enter Try.func3, Try.ntmps3
    go_wp2_with (go_at_call 19; refine (works4_any w).mono ?_; rintro e w2 ⟨rfl, hb2⟩)
    go_ret
    exact ⟨rfl, hb2⟩
  have hbi' : ¬ (100 : Int) < (m' : Int) := by omega
  obtain ⟨hinv0, hw0, hs0⟩ := last_start first l
  obtain ⟨d0, hd0⟩ : ∃ d, syncAll (writeD ds0 5 (rep first)) = d := ⟨_, rfl⟩
  rw [hd0] at hinv0
  have HD0 := Lib.hid hd0
  have HW0 := Lib.hid hw0
  have HS0 := Lib.hid hs0
  have HL := Lib.hid hl
  have HL' := Lib.hid hl'
  have hrfs : (bvs (rep first)).toArray.size = 128 := by rw [bvs_size, rep_length]
  have hr9 : (bvs (rep 9)).toArray.size = 128 := by rw [bvs_size, rep_length]
  have hlz : ds0.loose.length = 0 := rfl
  have HLZ := Lib.hid hlz
  clear hd0 hw0 hs0 hl hl' hlz
  obtain ⟨base, hbase⟩ : ∃ b, w.heap.size = b := ⟨_, rfl⟩
  have HBASE := Lib.hid hbase
  go_enter Try.func3, Try.ntmps3
  go_wp2_with fail
  refine (dnew_any w).mono ?_
  rintro e w1 ⟨l0, rfl, hD, hb⟩
  have hbb : Below w.heap.size w w1 ∧ base ≤ w1.heap.size := ⟨hb, by rw [← hbase]; exact hb.size⟩
  rw [hbase] at hD
  clear hb hbase
  simp only []
  obtain ⟨g, hlg⟩ : ∃ g, l0.g = g := ⟨_, rfl⟩
  rw [hlg]
  have HLG := Lib.hid hlg
  clear hlg
  go_wp2_with fail
  refine (bytes_any _ first).mono ?_
  rintro e w2 ⟨rfl, hb⟩
  have hD := hD.below hb
  have hbb := below_base hbb hb
  simp only []
  clear hb
  go_wp2_with fail
  refine (gwrite _ base g _ _ hD HLG.out hbb.2 5 (rep first) (rep_length first) (by rw [HLZ.out]; omega)).mono ?_
  rw [HW0.out]
  rintro e w3 ⟨l1, rfl, hlg2, hD2, hm⟩
  have hbb := base_moved hbb (Nat.le_of_eq HBASE.out) hD hm
  have HLG := Lib.hid hlg2
  have hD := hD2
  simp only []
  clear hD2 hm hlg2
  go_wp2_with fail
  refine (gsync _ base g _ _ hD HLG.out).mono ?_
  rw [HS0.out, HD0.out]
  rintro e w4 ⟨l2, rfl, hlg2, hD2, hm⟩
  have hbb := base_moved hbb (Nat.le_of_eq HBASE.out) hD hm
  have HLG := Lib.hid hlg2
  have hD := hD2
  simp only []
  clear hD2 hm hlg2
  go_wp2_with fail
  refine (bytes_any _ first).mono ?_
  rintro e w5 ⟨rfl, hb⟩
  have hD := hD.below hb
  have hbb := below_base hbb hb
  simp only []
  clear hb
  repeat (first
    | ((with_reducible refine wpl_store_fresh (bvs (rep first)).toArray i128 ?_ hrfs (bvs_all _) ?_ ?_ ?_); (focus kernel_rfl); (focus rfl); (focus rfl); intro w6 hS hl3 hb; simp only [Act.put]; refine Hid.out ?_)
    | go_values | go_skip | go_guarded | go_step | go_upon | go_back)
  refine Lib.hid ?_
  have hX := Out.new hD hS
  have hbb := below_base hbb hb
  have hD := hD.below hb
  clear hb hS hl3
  have hgb : base ≤ w5.heap.size := by have := hD.bg; have h1 := (hD.fp_lt (.inl rfl)).2; omega
  obtain ⟨gw, hgw⟩ : ∃ x, w5.heap.size = x := ⟨_, rfl⟩
  rw [hgw] at hX hgb ⊢
  clear hgw
  go_upto_block 0 with (fail)
  go_cut [9] (fun f wx => ∃ (d : DS) (l' : DL), LastInv first l m d ∧ f = .int .i64 (errS (lastS first l ps m)) ∧ DiskAt wx base l' d ∧ l'.g = g ∧ Out wx l' gw 28 (bvs (lastS first l ps m).b).toArray ∧ Below w.heap.size w wx ∧ base ≤ wx.heap.size)
  case first =>
    go_wp2_with fail
    go_loopw [9, 10] (fun f i wr => ∃ (k : Nat) (d : DS) (l' : DL), k ≤ m ∧ i = .int .i64 (k : Int) ∧ f = .int .i64 (errS (lastS first l ps k)) ∧ LastInv first l k d ∧ DiskAt wr base l' d ∧ l'.g = g ∧ Out wr l' gw 28 (bvs (lastS first l ps k).b).toArray ∧ Below w.heap.size w wr ∧ base ≤ wr.heap.size) (fun _ i _ => m - (intOf i).toNat)
    case atStart => exact ⟨0, d0, l2, Nat.zero_le _, rfl, rfl, hinv0, hD, HLG.out, hX, hbb.1, hbb.2⟩
    case round =>
      obtain ⟨k, d, l', hk, rfl, rfl, hinv, hDk, hlk, hXk, hbk, hbks⟩ := hrel
      clear hD hbb hX hinv0
      by_cases hkm : k < m
      · have hlen : d.loose.length < 1000000000 := by rw [hinv.loose, List.length_map, List.length_take, HL.out]; omega
        obtain ⟨hinv1, hwE⟩ := last_step hinv (by rw [HL.out]; exact hkm)
        have hrk := hr.below hbk
        obtain ⟨ad, e, hadl, hc⟩ := (hr.at_ hkm)
        cases e
        have hSl := (last_len first l ps k).1
        have hStep : lastS first l ps (k + 1) = if (ps.getD k 0).toNat % 4 = 0 then lastS first l ps k else if (ps.getD k 0).toNat % 4 = 2 then ⟨zs, true⟩ else ⟨rep (l.getD k 0), false⟩ := rfl
        have hadg : ad.block ≠ gw := by have := HBASE.out; omega
        obtain ⟨q, hq⟩ : ∃ q, (ps.getD k 0).toNat % 4 = q := ⟨_, rfl⟩
        rw [hq] at hStep
        obtain ⟨sk, hsk⟩ : ∃ s, lastS first l ps k = s := ⟨_, rfl⟩
        rw [hsk] at hStep hSl hXk
        have hcW : ∀ w', Below w.heap.size w w' → w'.cell? (ad.add k) = some (.int .u8 ((l.getD k 0).toNat : Int)) := fun w' hb => (hb.cell (by rw [block_of_add]; exact hadl)).trans hc
        have HCW := Lib.hid hcW
        generalize l.getD k 0 = x at *
        have HSTEP := Lib.hid hStep
        have HWE := Lib.hid hwE
        have HSK := Lib.hid hsk
        have HQ := Lib.hid hq
        have hck := HCW.out _ hbk
        clear hStep hwE hcW hc hsk hq
        have g1 : (k : Int) < (m : Int) := by omega
        have g0 : (0 : Int) ≤ (k : Int) := by omega
        have hrx : (bvs (rep x)).toArray.size = 128 := by rw [bvs_size, rep_length]
        have hr0s : (bvs (rep 0)).toArray.size = 128 := by rw [bvs_size, rep_length]
        have hsks : (bvs sk.b).toArray.size = 128 := by rw [bvs_size, hSl]
        go_wp2_with fail
        refine (bytes_any _ x).mono ?_
        rintro e w2 ⟨rfl, hb⟩
        have hDk := hDk.below hb
        have hXk := hXk.below hb
        have hbb := below_base ⟨hbk, hbks⟩ hb
        simp only []
        clear hb hck hbk hbks
        go_wp2_with fail
        refine (gwrite _ base g _ _ hDk hlk hbb.2 5 (rep x) (rep_length x) hlen).mono ?_
        rw [HWE.out]
        rintro e w3 ⟨l'', rfl, hlk2, hD2, hm⟩
        have hbb := base_moved hbb (Nat.le_of_eq HBASE.out) hDk hm
        have hXk := hXk.moved hm
        simp only []
        clear hm hDk
        have hlk2 := Lib.hid hlk2
        go_upto_if 57 with (fail)
        go_cut [11] (fun p wx => p = .int .u8 (q : Int) ∧ wx = w3)
        case first =>
          have hq := HQ.out
          by_cases hkp : k < m'
          · obtain ⟨ad', e, _, hc⟩ := (hr'.below hbb.1).at_ hkp
            cases e
            have hbp := (ps.getD k 0).toNat_lt
            generalize (ps.getD k 0).toNat = p at *
            have hpq : (p : Int) % 4 = (q : Int) := by omega
            have g2 : (k : Int) < (m' : Int) := by omega
            clear hq HQ
            go_wp2_with fail
            go_meet
            exact ⟨congrArg (Value.int .u8) hpq, rfl⟩
          · have hq0 : q = 0 := by rw [← hq, List.getD_eq_getElem?_getD, List.getElem?_eq_none (by rw [HL'.out]; omega)]; rfl
            subst hq0
            have g2 : ¬ (k : Int) < (m' : Int) := by omega
            go_wp2_with fail
            go_meet
            exact ⟨rfl, rfl⟩
        case rest =>
          obtain ⟨rfl, rfl⟩ := hcut
          have hwg : w.heap.size ≤ gw := by have := HBASE.out; omega
          by_cases hq0 : q = 0
          · have hst : lastS first l ps (k + 1) = lastS first l ps k := by rw [HSTEP.out, if_pos hq0, HSK.out]
            have g3 : ¬ (q : Int) = 2 := by omega
            have g4 : ¬ (0 : Int) < (q : Int) := by omega
            rw [← HSK.out] at hXk
            clear hq0 HQ
            go_wp2_with fail
            exact ⟨⟨k + 1, writeD d 5 (rep x), l'', by omega, congrArg (Value.int .i64) (by omega), by rw [hst], hinv1, hD2, hlk2.out, by rw [hst]; exact hXk, hbb.1, hbb.2⟩, by simp [intOf]; omega⟩
          · by_cases hq2 : q = 2
            · have hst : lastS first l ps (k + 1) = ⟨rep 0, true⟩ := by rw [HSTEP.out, if_neg hq0, if_pos hq2]; rfl
              subst hq2
              clear hq0 HQ
              go_wp2_with fail
              refine (bytes_lit _ 0 0 rfl).mono ?_
              rintro e w4 ⟨rfl, hb⟩
              have hD2 := hD2.below hb
              have hXk := hXk.below hb
              have hbb := below_base hbb hb
              have hXb := hXk.1
              simp only []
              clear hb
              repeat (first | ((with_reducible refine wpl_store gw _ _ (bvs (rep 0)).toArray i128 hXb hsks hr0s (bvs_all _) ?_ ?_ ?_); (focus rfl); (focus rfl); simp only [Act.put]; refine Hid.out ?_) | go_values | go_skip | go_guarded | go_step | go_upon | go_back)
              refine Lib.hid ?_
              have hD2 := hD2.beside (grownBy_setRow _ gw (bvs (rep 0)).toArray) hXk.2
              have hXk := hXk.set (bvs (rep 0)).toArray
              have hbb := base_setRow (gw := gw) (cs := (bvs (rep 0)).toArray) hbb hwg
              clear hXb
              go_wp2_with fail
              exact ⟨⟨k + 1, writeD d 5 (rep x), l'', by omega, congrArg (Value.int .i64) (by omega), by rw [hst]; rfl, hinv1, hD2, hlk2.out, by rw [hst]; exact hXk, hbb.1, hbb.2⟩, by simp [intOf]; omega⟩
            · have hst : lastS first l ps (k + 1) = ⟨rep x, false⟩ := by rw [HSTEP.out, if_neg hq0, if_neg hq2]
              have g3 : ¬ (q : Int) = 2 := by omega
              have g4 : (0 : Int) < (q : Int) := by omega
              have hck := HCW.out _ hbb.1
              clear hq0 hq2 HQ
              go_wp2_with fail
              refine (bytes_any _ x).mono ?_
              rintro e w4 ⟨rfl, hb⟩
              have hD2 := hD2.below hb
              have hXk := hXk.below hb
              have hbb := below_base hbb hb
              have hXb := hXk.1
              simp only []
              clear hb hck
              repeat (first | ((with_reducible refine wpl_store gw _ _ (bvs (rep x)).toArray i128 hXb hsks hrx (bvs_all _) ?_ ?_ ?_); (focus rfl); (focus rfl); simp only [Act.put]; refine Hid.out ?_) | go_values | go_skip | go_guarded | go_step | go_upon | go_back)
              refine Lib.hid ?_
              have hD2 := hD2.beside (grownBy_setRow _ gw (bvs (rep x)).toArray) hXk.2
              have hXk := hXk.set (bvs (rep x)).toArray
              have hbb := base_setRow (gw := gw) (cs := (bvs (rep x)).toArray) hbb hwg
              clear hXb
              go_wp2_with fail
              exact ⟨⟨k + 1, writeD d 5 (rep x), l'', by omega, congrArg (Value.int .i64) (by omega), by rw [hst]; rfl, hinv1, hD2, hlk2.out, by rw [hst]; exact hXk, hbb.1, hbb.2⟩, by simp [intOf]; omega⟩
      · obtain rfl : k = m := by omega
        have g1 : ¬ (k : Int) < (k : Int) := by omega
        go_wp2_with fail
        go_meet
        exact ⟨d, l', hinv, rfl, hDk, hlk, hXk, hbk, hbks⟩
  case rest =>
    obtain ⟨d, l', hinv, rfl, hDk, hlk, hXk, hbk, hbks⟩ := hcut
    clear hD hbb hX hinv0
    have hend := last_end (ps := ps) (by rw [HL.out]; exact hinv)
    rw [HL.out] at hend
    have hSl := (last_len first l ps m).1
    obtain ⟨S, hS⟩ : ∃ s, lastS first l ps m = s := ⟨_, rfl⟩
    rw [hS] at hend hXk hSl ⊢
    obtain ⟨hon, hrb, hre, hoff, hfuse, hloose⟩ := hend
    obtain ⟨hw5, hwe5⟩ := writeD_on hoff hfuse (a := 5) (by omega) (rep 9)
    have hbb : Below w.heap.size w wc ∧ base ≤ wc.heap.size := ⟨hbk, hbks⟩
    have HON := Lib.hid hon
    have HRB := Lib.hid hrb
    have HRE := Lib.hid hre
    have HW5 := Lib.hid hwe5
    have HLO : Hid ((onAll (offD d) ps).loose.length = 0) := Lib.hid (by rw [hloose]; rfl)
    have hr5 : readB (writeD (onAll (offD d) ps) 5 (rep 9)) 5 = rep 9 := by
      rw [hw5, readB, if_pos ⟨by show readyE (onAll (offD d) ps).off 5 = 0; rw [hoff]; exact readyE_ok (by omega), by simp [putD]⟩]
      simp [putD]
    have hre5 : readE (writeD (onAll (offD d) ps) 5 (rep 9)) 5 = 0 := by
      rw [hw5, readE, if_pos (by show readyE (onAll (offD d) ps).off 5 = 0; rw [hoff]; exact readyE_ok (by omega))]
      simp [putD]
    have HR5 := Lib.hid hr5
    have HRE5 := Lib.hid hre5
    obtain ⟨dw, hdw⟩ : ∃ x, writeD (onAll (offD d) ps) 5 (rep 9) = x := ⟨_, rfl⟩
    rw [hdw] at HR5 HRE5
    have HDW := Lib.hid hdw
    obtain ⟨E, hE⟩ : ∃ x, errS S = x := ⟨_, rfl⟩
    rw [hE] at HRE ⊢
    have hSs : (bvs S.b).toArray.size = 128 := by rw [bvs_size, hSl]
    have hxS : ∀ w, (Op.equalIn 10000 28 (.agg (bvs S.b).toArray) (.agg (bvs S.b).toArray)).run Try.prog w = .ok true w := fun w => by rw [eql128 S.b S.b hSl hSl w, decide_eq_true rfl]
    have hx9 : ∀ w, (Op.equalIn 10000 28 (.agg (bvs (rep 9)).toArray) (.agg (bvs (rep 9)).toArray)).run Try.prog w = .ok true w := fun w => by rw [eql128 (rep 9) (rep 9) (rep_length 9) (rep_length 9) w, decide_eq_true rfl]
    clear hon hrb hre hoff hfuse hloose hw5 hwe5 hr5 hre5 hdw hE hS hbk hbks hinv hSl
    go_wp2_with fail
    refine (goff _ base g _ _ hDk hlk).mono ?_
    rintro e w6 ⟨l3, rfl, hlg3, hD3, hm⟩
    have hXk := hXk.moved hm
    have hbb := base_moved hbb (Nat.le_of_eq HBASE.out) hDk hm
    simp only []
    clear hm hDk hlk
    go_wp2_with fail
    refine (gon _ base g _ _ hD3 hlg3 A' m' c' ps (hr'.below hbb.1) (fun x hx hf => by have h1 := hat x hx; have h2 := (hD3.fp_lt hf).1; have h3 := HBASE.out; omega)).mono ?_
    rw [HON.out]
    rintro e w7 ⟨l4, rfl, hlg4, hD4, hm⟩
    have hXk := hXk.moved hm
    have hbb := base_moved hbb (Nat.le_of_eq HBASE.out) hD3 hm
    simp only []
    clear hm hD3 hlg3
    go_wp2_with fail
    refine (gread _ base g _ _ hD4 hlg4 5).mono ?_
    rw [HRB.out, HRE.out]
    rintro e w8 ⟨rfl, hb⟩
    have hXk := hXk.below hb
    have hbb := below_base hbb hb
    have hbb0 := hbb
    have hD4 := hD4.below hb
    simp only []
    clear hb
    repeat (first | ((with_reducible refine wpl_store_fresh (bvs S.b).toArray i128 ?_ hSs (bvs_all _) ?_ ?_ ?_); (focus kernel_rfl); (focus rfl); (focus rfl); intro w9 hS hl3 hb; simp only [Act.put]; refine Hid.out ?_) | go_values | go_skip | go_guarded | go_step | go_upon | go_back)
    refine Lib.hid ?_
    have hXk := hXk.below hb
    have hY := Out.new hD4 hS
    have hbb := below_base hbb hb
    have hD4 := hD4.below hb
    clear hb hS hl3
    have hgyb : w.heap.size ≤ w8.heap.size := hbb0.1.size
    obtain ⟨gy, hgy⟩ : ∃ x, w8.heap.size = x := ⟨_, rfl⟩
    rw [hgy] at hY hgyb ⊢
    clear hgy
    have hXb := hXk.1
    have hYb := hY.1
    repeat (first | ((with_reducible refine wpl_load gw _ _ Try.underlying28 i128 hXb hSs ?_ ?_); (focus rfl); simp only [Act.put, List.setIfInBounds_toArray, List.set_cons_zero, List.set_cons_succ]) | ((with_reducible refine wpl_load gy _ _ Try.underlying28 i128 hYb hSs ?_ ?_); (focus rfl); simp only [Act.put, List.setIfInBounds_toArray, List.set_cons_zero, List.set_cons_succ]) | go_values | go_skip | go_guarded | go_step | go_upon | go_back)
    refine (bytes_lit _ 9 9 rfl).mono ?_
    rintro e w10 ⟨rfl, hb⟩
    have hD4 := hD4.below hb
    have hY := hY.below hb
    have hbb := below_base hbb hb
    simp only []
    clear hb hXk hXb hYb
    go_wp2_with fail
    refine (gwrite _ base g _ _ hD4 hlg4 hbb.2 5 (rep 9) (rep_length 9) (by rw [HLO.out]; omega)).mono ?_
    rw [HW5.out, HDW.out]
    rintro e w11 ⟨l5, rfl, hlg5, hD5, hm⟩
    have hY := hY.moved hm
    have hbb := base_moved hbb (Nat.le_of_eq HBASE.out) hD4 hm
    simp only []
    clear hm hD4 hlg4
    go_wp2_with fail
    refine (gread _ base g _ _ hD5 hlg5 5).mono ?_
    rw [HR5.out, HRE5.out]
    rintro e w12 ⟨rfl, hb⟩
    have hY := hY.below hb
    have hbb := below_base hbb hb
    have hYb := hY.1
    simp only []
    clear hb hD5
    repeat (first | ((with_reducible refine wpl_store gy _ _ (bvs (rep 9)).toArray i128 hYb hSs hr9 (bvs_all _) ?_ ?_ ?_); (focus rfl); (focus rfl); simp only [Act.put]; refine Hid.out ?_) | go_values | go_skip | go_guarded | go_step | go_upon | go_back)
    refine Lib.hid ?_
    have hY := hY.set (bvs (rep 9)).toArray
    have hbb := base_setRow (gw := gy) (cs := (bvs (rep 9)).toArray) hbb hgyb
    clear hYb
    go_wp2_with fail
    refine wp_region_plan [(0, true), (1, false), (2, true), (3, true), (4, true), (5, true), (6, true), (7, true), (8, false), (9, true), (10, true)]
      (fun z => Blk z gy 28 (bvs (rep 9)).toArray) (by kernel_rfl) (by kernel_rfl) (by kernel_rfl) (by kernel_rfl) (fun _ _ d _ _ h => by cases d <;> exact h) hY.1 ?_
    simp only [planOps, List.getElem?_toArray, List.getElem?_cons_zero, List.getElem?_cons_succ]
    refine wpS_q (.agg (bvs (rep 9)).toArray) (by rfl) (fun z hz => load_row_run rfl gy (bvs (rep 9)).toArray Try.underlying28 rfl i128 hz hr9 rfl) ?_
    simp only [Act.put, List.setIfInBounds_toArray, List.set_cons_zero, List.set_cons_succ]
    refine wpS_l (by rfl) (fun K hK => ?_)
    go_wp2_with fail
    refine (bytes_lit _ 9 9 rfl).mono ?_
    rintro e w13 ⟨rfl, hb⟩
    have hb3 : Below (w12.setRow gy (bvs (rep 9)).toArray).heap.size (w12.setRow gy (bvs (rep 9)).toArray) w13 := drew_below.trans hb
    have hY := hY.below hb3
    have hbb := below_base hbb hb3
    refine hK _ _ _ hY.1 (fun _ h => h) ?_
    clear hK hb hb3
    iterate 6 (refine wpS_q ?_ (by rfl) ?_ ?_; rotate_left; (focus (intro z hz; (try dsimp only at hz); go_simp; rfl)); simp only [Act.put, List.setIfInBounds_toArray, List.set_cons_zero, List.set_cons_succ])
    refine wpS_l (by rfl) (fun K hK => ?_)
    go_wp2_with fail
    refine (works4_any _).mono ?_
    rintro e w14 ⟨rfl, hb⟩
    refine hK _ _ _ (hY.below hb).1 (fun _ h => h) ?_
    have hbb := below_base hbb hb
    clear hK hb hY
    iterate 2 (refine wpS_q ?_ (by rfl) ?_ ?_; rotate_left; (focus (intro z hz; (try dsimp only at hz); go_simp; rfl)); simp only [Act.put, List.setIfInBounds_toArray, List.set_cons_zero, List.set_cons_succ])
    refine wpS_nil ?_
    go_wp2_with fail
    go_ret
    exact ⟨rfl, hbb.1⟩
theorem diskLast_walk (W : World) (x : UInt8) (A : Option Addr) (m c : Nat) (xs : List UInt8) (_ : xs.length = m) (hr : RB W A m xs) (_ : m ≤ c) (_ : m ≤ 140737488351232) (_ : ∀ ad, A = some ad → ad.block < W.heap.size)
    (A' : Option Addr) (m' c' : Nat) (xs' : List UInt8) (_ : xs'.length = m') (hr' : RB W A' m' xs') (_ : m' ≤ c') (_ : m' ≤ 140737488351232) (hat : ∀ ad, A' = some ad → ad.block < W.heap.size) :
    Calls Try.prog 3 #[.int .u8 (x.toNat : Int), .slice A m c, .slice A' m' c'] W fun e w' => e = .returned (.bool true) ∧ Below W.heap.size W w' :=
  diskLast_any W x A m c xs hr A' m' c' xs' hr' (fun b hb => by cases A' with | none => cases hb | some ad => cases hb; exact hat ad rfl)
end Go.Proofs.Ytekpohchikbnnaa
