/- The law UsigLost, walked. -/
import Derived.Test.YtmjdfajdompkeaaDoorVi
import Derived.Test.YtmjdfajdompkeaaDoorUo
namespace Go.Proofs.YtmjdfajdompkeaaDoor
open Go.RowKit Go.Rat
theorem sb_atB {w : World} {A : Option Addr} {n : Nat} {l : List SB} (h : Reads w w.heap.size 1 A n (l.flatMap fun x => [x.v])) {k : Nat} (hk : k < n) :
    ∃ ad x, A = some ad ∧ x ∈ l ∧ l[k]? = some x ∧ (ad.add k).block < w.heap.size ∧ w.cell? (ad.add k) = some x.v := by
  obtain ⟨ad, rfl, hb, hc⟩ := h.2 (by omega)
  have hlen := flat_len (fun x : SB => [x.v]) 1 (fun _ => rfl) l
  have hkl : k < l.length := by have := h.1; omega
  have hg : l[k]? = some l[k] := List.getElem?_eq_getElem hkl
  have F := flat_get (fun x : SB => [x.v]) 1 (fun _ => rfl) l k
  refine ⟨ad, l[k], rfl, List.getElem_mem hkl, hg, by rw [block_of_add]; exact hb, ?_⟩
  exact hc _ _ (by have := F 0 _ hg (by omega); simpa using this)
theorem bstr_eqb (xs ys : List UInt8) : ((bstr xs).toList == (bstr ys).toList) = decide (xs = ys) := by
  rw [ByteArray.toList_eq, ByteArray.toList_eq, data_bstr, data_bstr]
  by_cases h : xs = ys
  · subst h; simp
  · simp [h]
def eeC : Nat := 17216961135462248174
theorem ee_cnt : cntB (rep 0xee) = eeC := by decide +kernel
theorem slot_mixed {V : Nat → Option (List UInt8)} {i j : Nat} (hi : i < 10) (hj : j < 10) {t : List UInt8} (hV : V j = some t) (hne : ∀ s, V i = some s → cntB s ≠ cntB t) : (rdF V).1 = 0 := by
  refine Classical.byContradiction fun h => ?_
  obtain ⟨s, h1, h2⟩ := rdF_of h i hi
  obtain ⟨u, h3, h4⟩ := rdF_of h j hj
  rw [hV] at h3
  cases h3
  exact hne s h1 (h2.trans h4.symm)
theorem other (j : Nat) : ∃ i, i < 10 ∧ i ≠ j := by
  by_cases h : j = 0
  · exact ⟨1, by omega, by omega⟩
  · exact ⟨0, by omega, by omega⟩
/-- A sector of the slot that it does not have is spoilt. -/
theorem CellSt.spoil1 {d : DS} {which n : Nat} {has : List UInt8} {K : Nat} (h : CellSt d 0 which n has K) (hK : K < eeC) (hf : d.fuse = -1) {j : Nat} (hj : j < 10) {a : Int} (ha : a = (((1 - which) * 10 + j : Nat) : Int)) :
    writeE d a = 0 ∧ writeD d a (rep 0xee) = putD d a (rep 0xee) ∧ CellSt (putD d a (rep 0xee)) 0 which n has eeC ∧ (slotV (putD d a (rep 0xee)) 0 (1 - which)).1 = 0 := by
  have hw := h.wh
  obtain ⟨_, _, h3⟩ := write_eff (d := d) (rep 0xee) h.off (a := a) (by omega)
  obtain ⟨h3, h4⟩ := h3 (by rw [hf]; omega)
  have ho : (putD d a (rep 0xee)).off = false := h.off
  have hout : ∀ i : Nat, i < 20 → i ≠ (1 - which) * 10 + j → viewD (putD d a (rep 0xee)) 0 i = viewD d 0 i := fun i hi hne => view_same h.off ho (by omega) (if_neg (by omega))
  have hin : viewD (putD d a (rep 0xee)) 0 ((1 - which) * 10 + j) = some (rep 0xee) := view_is ho (by omega) (if_pos (by omega))
  have hz : (slotV (putD d a (rep 0xee)) 0 (1 - which)).1 = 0 := by
    obtain ⟨i, hi, hij⟩ := other j
    refine slot_mixed (i := i) (j := j) hi hj (t := rep 0xee) (by rw [view_add]; exact hin) fun s hs => ?_
    rw [view_add, hout _ (by omega) (by omega)] at hs
    have := h.top _ _ (by omega) hs
    rw [ee_cnt]
    omega
  refine ⟨h3, h4, ⟨ho, h.at_, hw, fun i hi => by rw [hout _ (by omega) (by omega)]; exact h.own i hi, ?_, fun i s hi hs => ?_, h.len, by have := h.nK; omega, by decide⟩, hz⟩
  · rw [hz]
    have := h.oth
    omega
  · by_cases hc : i = (1 - which) * 10 + j
    · rw [hc, hin] at hs
      cases hs
      rw [ee_cnt]
      exact Nat.le_refl _
    · rw [hout i hi hc] at hs
      have := h.top _ _ hi hs
      omega
/-- Of both. -/
theorem CellSt.spoil2 {d : DS} {which n : Nat} {has : List UInt8} {K : Nat} (h : CellSt d 0 which n has K) (hn : n < eeC) (h0 : (slotV d 0 (1 - which)).1 = 0) (hf : d.fuse = -1) {j : Nat} (hj : j < 10) {a : Int} (ha : a = ((which * 10 + j : Nat) : Int)) :
    writeE d a = 0 ∧ writeD d a (rep 0xee) = putD d a (rep 0xee) ∧ opE (putD d a (rep 0xee)) 0 = 9 := by
  have hw := h.wh
  obtain ⟨_, _, h3⟩ := write_eff (d := d) (rep 0xee) h.off (a := a) (by omega)
  obtain ⟨h3, h4⟩ := h3 (by rw [hf]; omega)
  have ho : (putD d a (rep 0xee)).off = false := h.off
  have hout : ∀ i : Nat, i < 20 → i ≠ which * 10 + j → viewD (putD d a (rep 0xee)) 0 i = viewD d 0 i := fun i hi hne => view_same h.off ho (by omega) (if_neg (by omega))
  have hin : viewD (putD d a (rep 0xee)) 0 (which * 10 + j) = some (rep 0xee) := view_is ho (by omega) (if_pos (by omega))
  have hz : (slotV (putD d a (rep 0xee)) 0 which).1 = 0 := by
    obtain ⟨i, hi, hij⟩ := other j
    refine slot_mixed (i := i) (j := j) hi hj (t := rep 0xee) (by rw [view_add]; exact hin) fun s hs => ?_
    rw [view_add, hout _ (by omega) (by omega), h.own i hi] at hs
    cases hs
    rw [cntB_secB (by have := h.nK; have := h.K64; omega), ee_cnt]
    omega
  have hz2 : (slotV (putD d a (rep 0xee)) 0 (1 - which)).1 = 0 := by
    rw [slotV_ext (d := d) fun i hi => hout _ (by omega) (by omega)]
    exact h0
  refine ⟨h3, h4, ?_⟩
  rw [opE, ho, if_neg (by decide), if_pos]
  by_cases e : which = 0
  · subst e; exact ⟨hz, hz2⟩
  · obtain rfl : which = 1 := by omega
    exact ⟨hz2, hz⟩
structure LostSt (d d1 d2 : DS) (s : US) (a1 a2 : Int) : Prop where
  w1 : writeE d a1 = 0
  e1 : writeD d a1 (rep 0xee) = d1
  n1 : newE 1 d1 0 = 0
  o1 : openCell d1 0 = s.c
  l1 : d1.loose.length ≤ d.loose.length + 1
  w2 : writeE d1 a2 = 0
  e2 : writeD d1 a2 (rep 0xee) = d2
  n2 : newE 1 d2 0 = 9
theorem UCalm.lost {d : DS} {s : US} {K : Nat} (h : UCalm d 0 s K) (hK : K < 1000) {j1 j2 : Nat} (h1 : j1 < 10) (h2 : j2 < 10) {a1 a2 : Int} (ha1 : a1 = (((1 - s.c.which) * 10 + j1 : Nat) : Int)) (ha2 : a2 = ((s.c.which * 10 + j2 : Nat) : Int)) : ∃ d1 d2, LostSt d d1 d2 s a1 a2 := by
  have hE : (1000 : Nat) < eeC := by decide
  obtain ⟨N, hc⟩ := h.cell
  obtain ⟨p1, p2, p3, p4⟩ := hc.spoil1 (by omega) h.fuse h1 ha1
  have hf : (putD d a1 (rep 0xee)).fuse = -1 := h.fuse
  obtain ⟨q1, q2, q3⟩ := p3.spoil2 (by have := hc.nK; omega) p4 hf h2 ha2
  have hu : UCalm (putD d a1 (rep 0xee)) 0 s eeC := ⟨⟨N, p3⟩, h.p_, h.dead, hf, h.has⟩
  refine ⟨_, _, ⟨p1, p2, (hu.new (by decide)).1, hu.opens.2, by simp [putD], q1, q2, ?_⟩⟩
  rw [newE, if_neg (by decide), q3, if_pos (by decide)]
set_option maxRecDepth 20000 in
set_option maxHeartbeats 8000000 in
theorem usigLost_any (n : Nat) (hn64 : n = 64) (w : World) (tb : List Int) (htb : H.tblL = tb) (hT : H.Tab w tb) (A : Option Addr) (m c : Nat) (l : List SB) (hr : Reads w w.heap.size 1 A m (l.flatMap fun x => [x.v])) (hi : ∀ x ∈ l, SB.ok w x) (one two : UInt8) :
    Calls Tryd.prog 7 #[.slice A m c, .int .u8 (one.toNat : Int), .int .u8 (two.toNat : Int)] w fun e w' => e = .returned (.bool true) ∧ Below w.heap.size w w' := by
  by_cases hbig : 10 < m
  · have hbi : (10 : Int) < (m : Int) := by omega
    go_enter Tryd.func7, Tryd.ntmps7
    go_wp2_with (go_at_call 9; refine (works7_any n hn64 w tb htb hT).mono ?_; rintro e w2 ⟨rfl, hb2⟩)
    go_ret
    exact ⟨rfl, hb2⟩
  have hbi : ¬ (10 : Int) < (m : Int) := by omega
  obtain ⟨f1, f2, f3, f4, f5⟩ := ucalm_format (d := ds0) (p := 0) (by omega) rfl rfl 1
  obtain ⟨n1, u1⟩ := f2.new (i := 1) (by decide)
  have o1 := f2.opens.2
  obtain ⟨d1, hd1⟩ : ∃ x, (fmF ds0 0).1 = x := ⟨_, rfl⟩
  rw [hd1] at f2 f3 n1 o1
  obtain ⟨base, hbase⟩ : ∃ b, w.heap.size = b := ⟨_, rfl⟩
  have HBASE := Lib.hid hbase
  have HN64 := Lib.hid hn64
  have HTB := Lib.hid htb
  have HF1 := Lib.hid f1
  have HD1 := Lib.hid hd1
  have HL1 := Lib.hid f3
  have HU1 := Lib.hid f2
  have HN1 := Lib.hid n1
  have HO1 := Lib.hid o1
  have HI := Lib.hid hi
  clear f1 f2 f3 f4 f5 n1 u1 o1 hd1 hn64 htb hi
  go_enter Tryd.func7, Tryd.ntmps7
  go_wp2_with fail
  refine (dnew_any w).mono ?_
  rintro e w1 ⟨l0, rfl, hD, hb⟩
  have hbb : Below w.heap.size w w1 ∧ base ≤ w1.heap.size := ⟨hb, by rw [← hbase]; exact hb.size⟩
  rw [hbase] at hD
  clear hb hbase
  simp only []
  obtain ⟨g, hlg⟩ : ∃ g, l0.g = g := ⟨_, rfl⟩
  rw [hlg]
  go_wp2_with fail
  refine (uformat_any w1 base l0 ds0 hD g hlg hbb.2 (by decide) 0 (by omega)).mono ?_
  rw [HF1.out, HD1.out]
  rintro e w2 ⟨l1, rfl, hlg1, hD1, hm⟩
  have hbb := base_moved hbb (Nat.le_of_eq HBASE.out) hD hm
  simp only []
  clear hm hD hlg
  go_wp2_with fail
  refine (unew_any n HN64.out w2 base l1 d1 hD1 g hlg1 hbb.2 1 0 (by omega) tb (H.Tab.below hT hbb.1)).mono ?_
  rw [HN1.out, HO1.out]
  rintro e w3 ⟨(⟨h, _⟩ | ⟨_, k1, c1, m0, b0, rfl, hus, hU, _, _⟩), hb⟩
  · exact absurd rfl h
  obtain ⟨rfl, rfl⟩ : m0 = 0 ∧ b0 = [] := by
    have := hus.symm.trans (show usigF ([] : List UInt8) = some (0, []) from rfl)
    injection this with this
    injection this with e1 e2
    exact ⟨e1, e2⟩
  have hbb := below_base hbb hb
  have hD1 := hD1.below hb
  simp only []
  clear hb hus
  go_upto_block 0 with (fail)
  have hbb1 := hbb.1
  have hbb2 := hbb.2
  go_cut [] (fun wx => ∃ (d : DS) (l' : DL) (s : US), UCalm d 0 s (2 + m) ∧ s.n = m ∧ s.c.which = m % 2 ∧ (∀ x, 0 < m → l[m - 1]? = some x → s.b = x.xs) ∧ d.loose = [] ∧ DiskAt wx base l' d ∧ l'.g = g ∧ Below w.heap.size w wx ∧ base ≤ wx.heap.size)
  case first =>
    go_wp2_with fail
    go_loopw [10] (fun i wr => ∃ (k : Nat) (d : DS) (l' : DL) (s : US), k ≤ m ∧ i = .int .i64 (k : Int) ∧ UCalm d 0 s (2 + k) ∧ s.n = k ∧ s.c.which = k % 2 ∧ Hid (∀ x, 0 < k → l[k - 1]? = some x → s.b = x.xs) ∧ d.loose = [] ∧ DiskAt wr base l' d ∧ l'.g = g ∧ UsigAt wr base l' k1 c1 s ∧ Below w.heap.size w wr ∧ base ≤ wr.heap.size) (fun i _ => m - (intOf i).toNat)
    case atStart => exact ⟨0, d1, l1, _, Nat.zero_le _, rfl, HU1.out, rfl, rfl, Lib.hid (fun x h => absurd h (by omega)), HL1.out, hD1, hlg1, hU, hbb1, hbb2⟩
    case round =>
      clear hbb hbb1 hbb2 hD1 hU hlg1
      obtain ⟨k, d, l', s, hk, rfl, hUC, hsn, hwh, hlast, hL, hD, hlg, hU, hbk, hbks⟩ := hrel
      have hbb : Below w.heap.size w wr ∧ base ≤ wr.heap.size := ⟨hbk, hbks⟩
      clear hbk hbks
      by_cases hkm : k < m
      · obtain ⟨ad, ⟨A1, n1, z1, b⟩, e, hxl, hg, hadl, q0⟩ := sb_atB hr hkm
        cases e
        obtain ⟨hR1, hnc1, _⟩ := HI.out _ hxl
        simp only [SB.v] at q0 hR1 hnc1
        have hl1 := hR1.len
        obtain ⟨P, hP⟩ : ∃ P, ad.add k = P := ⟨_, rfl⟩
        have Q0 : Hid (∀ z, Below w.heap.size w z → z.cell? P = some (.slice A1 n1 z1)) := Lib.hid (fun z hz => by rw [hP] at hadl q0; exact (hz.cell hadl).trans q0)
        have HL := Lib.hid hl1
        have HG := Lib.hid hg
        have g1 : (k : Int) < (m : Int) := by omega
        have g0 : (0 : Int) ≤ (k : Int) := by omega
        clear hxl q0 hl1 hadl hg
        have c0 := Q0.out _ hbb.1
        by_cases hb1 : 1024 < n1
        · have hb1' : (1024 : Int) < (n1 : Int) := by omega
          clear hb1
          go_wp2_with (go_at_call 9; refine (works7_any n HN64.out _ tb HTB.out (H.Tab.below hT hbb.1)).mono ?_; rintro e w2 ⟨rfl, hb2⟩)
          go_ret
          exact ⟨rfl, below_next' hbb.1 hb2⟩
        have hb1' : ¬ (1024 : Int) < (n1 : Int) := by omega
        have hbl : b.length ≤ 1024 := by have := HL.out; omega
        have h64 : (2 : Nat) ^ 64 = 18446744073709551616 := by decide
        obtain ⟨d', c', e1, e2, e3, _, e5⟩ := hUC.next n tb hbl (by omega) (by omega)
        have hol := H.numF_length n tb s.i (s.n + 1) b
        have hp := hUC.p_
        have HE1 := Lib.hid e1
        have HE2 := Lib.hid e2
        have HE3 := Lib.hid e3
        have HE5 := Lib.hid e5
        have HWH := Lib.hid hwh
        clear hb1 e1 e2 e3 e5 h64 hwh
        go_wp2_with fail
        refine (unext_any n HN64.out wr base l' d hD g hlg hbb.2 (by rw [hL]; decide) k1 c1 s hU (by omega) A1 n1 z1 b (hR1.below hbb.1) hnc1 (arg_out hR1 (Nat.le_of_eq HBASE.out) hD hU) tb w hT hbb.1 (Nat.le_of_eq HBASE.out)).mono ?_
        rw [HE1.out]
        rintro e w7 ⟨l3, rfl, hlg3, hD3, hU3, hm⟩
        have hbb := base_umoved hbb (Nat.le_of_eq HBASE.out) hD hU hm
        simp only [] at hD3 hU3 ⊢
        rw [hsn]
        obtain ⟨F, hF⟩ : ∃ F, H.numF n tb s.i (s.n + 1) b = F := ⟨_, rfl⟩
        rw [hsn] at hF hol
        rw [hF] at hol ⊢
        have hFs : (bvs F).toArray.size = 32 := by rw [bvs_size, hol]
        have hN1 : ((k + 1 : Nat) : Int) = (k : Int) + 1 := by omega
        rw [hN1]
        clear hm hD hU hF hlg hN1 c0
        repeat (first
          | ((with_reducible refine wpl_store_fresh (bvs F).toArray i32 ?_ hFs (bvs_all _) ?_ ?_ ?_); (focus kernel_rfl); (focus rfl); (focus rfl); intro w8 hS8 hl8 hb8; simp only [Act.put]; refine Hid.out ?_)
          | go_values | go_skip | go_guarded | go_step | go_upon | go_back)
        refine Lib.hid ?_
        have hbb := below_base hbb hb8
        have hD3 := hD3.below hb8
        have hU3 := hU3.below hb8
        obtain ⟨g12, hg12⟩ : ∃ x, w7.heap.size = x := ⟨_, rfl⟩
        rw [hg12]
        clear hb8 hS8 hl8 hg12
        go_wp2_with fail
        exact ⟨⟨k + 1, d', l3, _, by omega, congrArg (Value.int .i64) (by omega), HE2.out, by simp only; omega, by have := HE5.out; have := HWH.out; simp only; omega, Lib.hid (fun x _ hx => by rw [Nat.add_sub_cancel, HG.out] at hx; cases hx; rfl), HE3.out, hD3, hlg3, hU3, hbb.1, hbb.2⟩, by simp only [intOf]; omega⟩
      · obtain rfl : k = m := by omega
        have g1 : ¬ (k : Int) < (k : Int) := by omega
        go_wp2_with fail
        go_meet
        exact ⟨d, l', s, hUC, hsn, hwh, hlast.out, hL, hD, hlg, hbb.1, hbb.2⟩
  case rest =>
    clear hbb hbb1 hbb2 hD1 hU hlg1
    obtain ⟨d, l', s, hUC, hsn, hwh, hlast, hL, hD, hlg, hbk, hbks⟩ := hcut
    have hbb : Below w.heap.size w wc ∧ base ≤ wc.heap.size := ⟨hbk, hbks⟩
    have hm10 : m ≤ 10 := by omega
    obtain ⟨j1, hj1⟩ : ∃ j, one.toNat % 10 = j := ⟨_, rfl⟩
    obtain ⟨j2, hj2⟩ : ∃ j, two.toNat % 10 = j := ⟨_, rfl⟩
    have hq1 : (one.toNat : Int) % 10 = (j1 : Int) := by omega
    have hq2 : (two.toNat : Int) % 10 = (j2 : Int) := by omega
    have hol := one.toNat_lt
    have htl := two.toNat_lt
    have hj1l : j1 < 10 := by omega
    have hj2l : j2 < 10 := by omega
    obtain ⟨r, hr2⟩ : ∃ r, m % 2 = r := ⟨_, rfl⟩
    have hr01 : r = 0 ∨ r = 1 := by omega
    have hmr : (m : Int) % 2 = (r : Int) := by omega
    have hus : usigF s.c.b = some (s.n, s.b) := hUC.has
    rw [hr2] at hwh
    have hls := fun (a1 a2 : Int) h1 h2 => hUC.lost (by omega) hj1l hj2l (a1 := a1) (a2 := a2) h1 h2
    rw [hwh] at hls
    have HLS := Lib.hid hls
    have HUS := Lib.hid hus
    have HLAST := Lib.hid hlast
    have HL := Lib.hid hL
    clear hbk hbks hj1 hj2 hr2 hls hus hlast hUC hL
    have hLL : d.loose.length = 0 := by rw [HL.out]; rfl
    have HLL := Lib.hid hLL
    clear hLL
    rcases hr01 with rfl | rfl
    · obtain ⟨d1', d2', ls⟩ := HLS.out (10 + (j1 : Int)) ((j2 : Int)) (by omega) (by omega)
      have LS := Lib.hid ls
      clear ls HLS
      go_wp2_with fail
      refine (bytes_lit _ 0xee 238 rfl).mono ?_
      rintro e w4 ⟨rfl, hb⟩
      have hD := hD.below hb
      have hbb := below_base hbb hb
      simp only []
      clear hb
      go_wp2_with fail
      refine (gwrite w4 base g l' d hD hlg hbb.2 (10 + (j1 : Int)) (rep 0xee) (rep_length _) (by rw [HLL.out]; decide)).mono ?_
      rw [LS.out.w1, LS.out.e1]
      rintro e w5 ⟨l5, rfl, hlg5, hD5, hm⟩
      have hbb := base_moved hbb (Nat.le_of_eq HBASE.out) hD hm
      have hlo5 : d1'.loose.length < 800000000 := by have := LS.out.l1; have := HLL.out; omega
      simp only []
      clear hm hD hlg
      go_wp2_with fail
      refine (unew_any n HN64.out w5 base l5 d1' hD5 g hlg5 hbb.2 1 0 (by omega) tb (H.Tab.below hT hbb.1)).mono ?_
      rw [LS.out.n1, LS.out.o1]
      rintro e w6 ⟨(⟨h, _⟩ | ⟨_, k2, c2, m0, b0, rfl, hus, hU, _, _⟩), hb⟩
      · exact absurd rfl h
      obtain ⟨rfl, rfl⟩ : m0 = s.n ∧ b0 = s.b := by
        have := hus.symm.trans HUS.out
        injection this with this
        injection this with e1 e2
        exact ⟨e1, e2⟩
      have hbb := below_base hbb hb
      have hD5 := hD5.below hb
      simp only []
      clear hb hus
      go_wp2_with fail
      refine (ulast_any n HN64.out w6 base l5 k2 c2 _ hU tb (H.Tab.below hT hbb.1)).mono ?_
      have htl2 : (lastT n tb ⟨1, s.n, s.b, s.c⟩).length = 32 := by
        rw [lastT]
        split
        · exact z32_length
        · exact H.numF_length _ _ _ _ _
      obtain ⟨T, hTT⟩ : ∃ T, lastT n tb ⟨1, s.n, s.b, s.c⟩ = T := ⟨_, rfl⟩
      have hlB : lastB ⟨1, s.n, s.b, s.c⟩ = if m = 0 then [] else s.b := by rw [lastB, hsn]
      rw [hTT] at htl2 ⊢
      rw [hlB, hsn]
      have hTs : (bvs T).toArray.size = 32 := by rw [bvs_size, htl2]
      rintro e w7 ⟨A7, N7, c7, rfl, hO7, hb⟩
      have hbb := below_base hbb hb
      have hD5 := hD5.below hb
      have hr7 := hO7.reads
      simp only []
      clear hb hU hTT hlB htl2 hO7
      repeat (first
        | ((with_reducible refine wpl_store_fresh (bvs T).toArray i32 ?_ hTs (bvs_all _) ?_ ?_ ?_); (focus kernel_rfl); (focus rfl); (focus rfl); intro w8 hS8 hl8 hb8; simp only [Act.put]; refine Hid.out ?_)
        | go_values | go_skip | go_guarded | go_step | go_upon | go_back)
      refine Lib.hid ?_
      have hbb := below_base hbb hb8
      have hD5 := hD5.below hb8
      have hr7 := hr7.below hb8
      obtain ⟨g19, hg19⟩ : ∃ x, w7.heap.size = x := ⟨_, rfl⟩
      rw [hg19]
      clear hb8 hS8 hl8 hg19
      go_upto_region 24 with (fail)
      have hbb1 := hbb.1
      have hbb2 := hbb.2
      go_cut [118] (fun t wx => t = .bool false ∧ DiskAt wx base l5 d1' ∧ Below w.heap.size w wx ∧ base ≤ wx.heap.size)
      case first =>
        clear hbb1 hbb2
        by_cases hm0 : m = 0
        · subst hm0
          go_wp2_with fail
          refine wp_region_plan [(0, true), (1, true), (2, true), (3, true), (4, true), (5, true), (6, true), (7, true), (8, true), (9, true), (10, true), (11, true), (12, true), (13, true), (14, true), (15, true), (16, true), (17, true), (18, true), (19, true), (20, true)] (fun z => Below w.heap.size w z) (by kernel_rfl) (by kernel_rfl) (by kernel_rfl) (by kernel_rfl) (fun _ _ d _ _ h => by cases d <;> exact h) hbb.1.drew ?_
          simp only [planOps, List.getElem?_toArray, List.getElem?_cons_zero, List.getElem?_cons_succ]
          repeat (first
            | (refine wpS_skip (by rfl) ?_; simp only [Act.put, List.setIfInBounds_toArray, List.set_cons_zero, List.set_cons_succ])
            | (refine wpS_q ?_ (by rfl) ?_ ?_; rotate_left; (focus (intro z hz; (try dsimp only at hz); go_simp; rfl)); simp only [Act.put, List.setIfInBounds_toArray, List.set_cons_zero, List.set_cons_succ]))
          refine wpS_nil ?_
          go_wp2_with fail
          go_meet
          exact ⟨rfl, hD5.below drew_below, (below_base hbb drew_below).1, (below_base hbb drew_below).2⟩
        · rw [if_neg hm0] at hr7
          obtain ⟨q, hq⟩ : ∃ q, m - 1 = q := ⟨_, rfl⟩
          have hqm : q < m := by omega
          obtain ⟨ad, ⟨A1, n1, z1, b⟩, e, hxl, hg, hadl, q0⟩ := sb_atB hr hqm
          subst e
          obtain ⟨hR1, hnc1, _⟩ := HI.out _ hxl
          have hsb := HLAST.out _ (by omega) (by rw [hq]; exact hg)
          simp only [SB.v] at q0 hR1 hnc1 hsb
          rw [hsb] at hr7
          have q1 : (ad.add q).block < w.heap.size := hadl
          have g1 : (q : Int) < (m : Int) := by omega
          have g0 : (0 : Int) ≤ (q : Int) := by omega
          have g2 : (m : Int) - 1 = (q : Int) := by omega
          have g3 : (0 : Int) < (m : Int) := by omega
          have gw : IntKind.u64.wrap (m : Int) = (m : Int) := IntWalk.u64_in _ (by omega)
          have g5 : 0 < m := by omega
          have gi : IntKind.i64.wrap (q : Int) = (q : Int) := IntWalk.i64_in _ (by omega)
          have gd : decide (0 < m) = true := decide_eq_true g5
          clear hm0 hq hqm hxl hg hsb hadl
          go_wp2_with fail
          refine wp_region_plan [(0, true), (1, true), (2, true), (3, true), (4, true), (5, true), (6, true), (7, true), (8, true), (9, true), (10, true), (11, true), (12, true), (13, true), (14, true), (15, true), (16, true), (17, true), (18, true), (19, true), (20, true)] (fun z => z.cell? (ad.add q) = some (.slice A1 n1 z1) ∧ RB z A7 N7 b ∧ RB z A1 n1 b) (by kernel_rfl) (by kernel_rfl) (by kernel_rfl) (by kernel_rfl) (fun _ _ d _ _ h => by cases d <;> exact h) ⟨(hbb.1.drew.cell q1).trans q0, hr7.below drew_below, hR1.below hbb.1.drew⟩ ?_
          simp only [planOps, List.getElem?_toArray, List.getElem?_cons_zero, List.getElem?_cons_succ]
          iterate 10 (refine wpS_q ?_ (by rfl) ?_ ?_; rotate_left; (focus (intro z hz; (try dsimp only at hz); go_simp; rfl)); simp only [Act.put, List.setIfInBounds_toArray, List.set_cons_zero, List.set_cons_succ])
          refine wpS_q (.string (bstr b)) (by rfl) (fun z hz => by have hcv := conv_str hz.2.1 c7; go_simp) ?_
          simp only [Act.put, List.setIfInBounds_toArray, List.set_cons_zero, List.set_cons_succ]
          iterate 6 (refine wpS_q ?_ (by rfl) ?_ ?_; rotate_left; (focus (intro z hz; (try dsimp only at hz); go_simp; rfl)); simp only [Act.put, List.setIfInBounds_toArray, List.set_cons_zero, List.set_cons_succ])
          refine wpS_q (.string (bstr b)) (by rfl) (fun z hz => by have hcv := conv_str hz.2.2 z1; go_simp) ?_
          simp only [Act.put, List.setIfInBounds_toArray, List.set_cons_zero, List.set_cons_succ]
          have hne : ((bstr b).toList != (bstr b).toList) = false := by simp
          iterate 3 (refine wpS_q ?_ (by rfl) ?_ ?_; rotate_left; (focus (intro z hz; (try dsimp only at hz); go_simp; rfl)); simp only [Act.put, List.setIfInBounds_toArray, List.set_cons_zero, List.set_cons_succ])
          refine wpS_nil ?_
          go_wp2_with fail
          go_meet
          exact ⟨rfl, hD5.below drew_below, (below_base hbb drew_below).1, (below_base hbb drew_below).2⟩
      case rest =>
        clear hbb hD5 hr7
        obtain ⟨rfl, hD5, hbk, hbks⟩ := hcut
        have hbb : Below w.heap.size w wc ∧ base ≤ wc.heap.size := ⟨hbk, hbks⟩
        clear hbk hbks hbb1 hbb2
        go_wp2_with fail
        refine (bytes_lit _ 0xee 238 rfl).mono ?_
        rintro e w4 ⟨rfl, hb⟩
        have hD5 := hD5.below hb
        have hbb := below_base hbb hb
        simp only []
        clear hb
        go_wp2_with fail
        refine (gwrite w4 base g l5 d1' hD5 hlg5 hbb.2 ((j2 : Int)) (rep 0xee) (rep_length _) (by omega)).mono ?_
        rw [LS.out.w2, LS.out.e2]
        rintro e w5 ⟨l6, rfl, hlg6, hD6, hm⟩
        have hbb := base_moved hbb (Nat.le_of_eq HBASE.out) hD5 hm
        simp only []
        clear hm hD5 hlg5
        go_upto_block 2 with (fail)
        have hbb1 := hbb.1
        have hbb2 := hbb.2
        go_cut [] (fun wx => Below w.heap.size w wx ∧ base ≤ wx.heap.size)
        case first =>
          clear hbb
          go_wp2_with fail
          go_loopw [20] (fun i wr => ∃ k : Nat, k ≤ 3 ∧ i = .int .i64 (k : Int) ∧ DiskAt wr base l6 d2' ∧ Below w.heap.size w wr ∧ base ≤ wr.heap.size) (fun i _ => 3 - (intOf i).toNat)
          case atStart => exact ⟨0, by omega, rfl, hD6, hbb1, hbb2⟩
          case round =>
            clear hD6 hbb1 hbb2
            obtain ⟨k, hk, rfl, hD6, hbk, hbks⟩ := hrel
            have hbb : Below w.heap.size w wr ∧ base ≤ wr.heap.size := ⟨hbk, hbks⟩
            clear hbk hbks
            by_cases hkm : k < 3
            · have g1 : (k : Int) < 3 := by omega
              go_wp2_with fail
              refine (unew_any n HN64.out wr base l6 d2' hD6 g hlg6 hbb.2 1 0 (by omega) tb (H.Tab.below hT hbb.1)).mono ?_
              rw [LS.out.n2]
              rintro e w6 ⟨(⟨_, rfl⟩ | ⟨h, _⟩), hb⟩
              · have hbb := below_base hbb hb
                have hD6 := hD6.below hb
                simp only []
                clear hb
                go_wp2_with fail
                exact ⟨⟨k + 1, by omega, congrArg (Value.int .i64) (by omega), hD6, hbb.1, hbb.2⟩, by simp only [intOf]; omega⟩
              · exact absurd h (by decide)
            · obtain rfl : k = 3 := by omega
              go_wp2_with fail
              go_meet
              exact ⟨hbb.1, hbb.2⟩
        case rest =>
          clear hbb
          go_wp2_with (go_at_call 9; refine (works7_any n HN64.out _ tb HTB.out (H.Tab.below hT hcut.1)).mono ?_; rintro e w2 ⟨rfl, hb2⟩)
          go_ret
          exact ⟨rfl, below_next' hcut.1 hb2⟩
    · obtain ⟨d1', d2', ls⟩ := HLS.out ((j1 : Int)) (10 + (j2 : Int)) (by omega) (by omega)
      have LS := Lib.hid ls
      clear ls HLS
      go_wp2_with fail
      refine (bytes_lit _ 0xee 238 rfl).mono ?_
      rintro e w4 ⟨rfl, hb⟩
      have hD := hD.below hb
      have hbb := below_base hbb hb
      simp only []
      clear hb
      go_wp2_with fail
      refine (gwrite w4 base g l' d hD hlg hbb.2 ((j1 : Int)) (rep 0xee) (rep_length _) (by rw [HLL.out]; decide)).mono ?_
      rw [LS.out.w1, LS.out.e1]
      rintro e w5 ⟨l5, rfl, hlg5, hD5, hm⟩
      have hbb := base_moved hbb (Nat.le_of_eq HBASE.out) hD hm
      have hlo5 : d1'.loose.length < 800000000 := by have := LS.out.l1; have := HLL.out; omega
      simp only []
      clear hm hD hlg
      go_wp2_with fail
      refine (unew_any n HN64.out w5 base l5 d1' hD5 g hlg5 hbb.2 1 0 (by omega) tb (H.Tab.below hT hbb.1)).mono ?_
      rw [LS.out.n1, LS.out.o1]
      rintro e w6 ⟨(⟨h, _⟩ | ⟨_, k2, c2, m0, b0, rfl, hus, hU, _, _⟩), hb⟩
      · exact absurd rfl h
      obtain ⟨rfl, rfl⟩ : m0 = s.n ∧ b0 = s.b := by
        have := hus.symm.trans HUS.out
        injection this with this
        injection this with e1 e2
        exact ⟨e1, e2⟩
      have hbb := below_base hbb hb
      have hD5 := hD5.below hb
      simp only []
      clear hb hus
      go_wp2_with fail
      refine (ulast_any n HN64.out w6 base l5 k2 c2 _ hU tb (H.Tab.below hT hbb.1)).mono ?_
      have htl2 : (lastT n tb ⟨1, s.n, s.b, s.c⟩).length = 32 := by
        rw [lastT]
        split
        · exact z32_length
        · exact H.numF_length _ _ _ _ _
      obtain ⟨T, hTT⟩ : ∃ T, lastT n tb ⟨1, s.n, s.b, s.c⟩ = T := ⟨_, rfl⟩
      have hlB : lastB ⟨1, s.n, s.b, s.c⟩ = if m = 0 then [] else s.b := by rw [lastB, hsn]
      rw [hTT] at htl2 ⊢
      rw [hlB, hsn]
      have hTs : (bvs T).toArray.size = 32 := by rw [bvs_size, htl2]
      rintro e w7 ⟨A7, N7, c7, rfl, hO7, hb⟩
      have hbb := below_base hbb hb
      have hD5 := hD5.below hb
      have hr7 := hO7.reads
      simp only []
      clear hb hU hTT hlB htl2 hO7
      repeat (first
        | ((with_reducible refine wpl_store_fresh (bvs T).toArray i32 ?_ hTs (bvs_all _) ?_ ?_ ?_); (focus kernel_rfl); (focus rfl); (focus rfl); intro w8 hS8 hl8 hb8; simp only [Act.put]; refine Hid.out ?_)
        | go_values | go_skip | go_guarded | go_step | go_upon | go_back)
      refine Lib.hid ?_
      have hbb := below_base hbb hb8
      have hD5 := hD5.below hb8
      have hr7 := hr7.below hb8
      obtain ⟨g19, hg19⟩ : ∃ x, w7.heap.size = x := ⟨_, rfl⟩
      rw [hg19]
      clear hb8 hS8 hl8 hg19
      go_upto_region 24 with (fail)
      have hbb1 := hbb.1
      have hbb2 := hbb.2
      go_cut [118] (fun t wx => t = .bool false ∧ DiskAt wx base l5 d1' ∧ Below w.heap.size w wx ∧ base ≤ wx.heap.size)
      case first =>
        clear hbb1 hbb2
        by_cases hm0 : m = 0
        · subst hm0
          go_wp2_with fail
          refine wp_region_plan [(0, true), (1, true), (2, true), (3, true), (4, true), (5, true), (6, true), (7, true), (8, true), (9, true), (10, true), (11, true), (12, true), (13, true), (14, true), (15, true), (16, true), (17, true), (18, true), (19, true), (20, true)] (fun z => Below w.heap.size w z) (by kernel_rfl) (by kernel_rfl) (by kernel_rfl) (by kernel_rfl) (fun _ _ d _ _ h => by cases d <;> exact h) hbb.1.drew ?_
          simp only [planOps, List.getElem?_toArray, List.getElem?_cons_zero, List.getElem?_cons_succ]
          repeat (first
            | (refine wpS_skip (by rfl) ?_; simp only [Act.put, List.setIfInBounds_toArray, List.set_cons_zero, List.set_cons_succ])
            | (refine wpS_q ?_ (by rfl) ?_ ?_; rotate_left; (focus (intro z hz; (try dsimp only at hz); go_simp; rfl)); simp only [Act.put, List.setIfInBounds_toArray, List.set_cons_zero, List.set_cons_succ]))
          refine wpS_nil ?_
          go_wp2_with fail
          go_meet
          exact ⟨rfl, hD5.below drew_below, (below_base hbb drew_below).1, (below_base hbb drew_below).2⟩
        · rw [if_neg hm0] at hr7
          obtain ⟨q, hq⟩ : ∃ q, m - 1 = q := ⟨_, rfl⟩
          have hqm : q < m := by omega
          obtain ⟨ad, ⟨A1, n1, z1, b⟩, e, hxl, hg, hadl, q0⟩ := sb_atB hr hqm
          subst e
          obtain ⟨hR1, hnc1, _⟩ := HI.out _ hxl
          have hsb := HLAST.out _ (by omega) (by rw [hq]; exact hg)
          simp only [SB.v] at q0 hR1 hnc1 hsb
          rw [hsb] at hr7
          have q1 : (ad.add q).block < w.heap.size := hadl
          have g1 : (q : Int) < (m : Int) := by omega
          have g0 : (0 : Int) ≤ (q : Int) := by omega
          have g2 : (m : Int) - 1 = (q : Int) := by omega
          have g3 : (0 : Int) < (m : Int) := by omega
          have gw : IntKind.u64.wrap (m : Int) = (m : Int) := IntWalk.u64_in _ (by omega)
          have g5 : 0 < m := by omega
          have gi : IntKind.i64.wrap (q : Int) = (q : Int) := IntWalk.i64_in _ (by omega)
          have gd : decide (0 < m) = true := decide_eq_true g5
          clear hm0 hq hqm hxl hg hsb hadl
          go_wp2_with fail
          refine wp_region_plan [(0, true), (1, true), (2, true), (3, true), (4, true), (5, true), (6, true), (7, true), (8, true), (9, true), (10, true), (11, true), (12, true), (13, true), (14, true), (15, true), (16, true), (17, true), (18, true), (19, true), (20, true)] (fun z => z.cell? (ad.add q) = some (.slice A1 n1 z1) ∧ RB z A7 N7 b ∧ RB z A1 n1 b) (by kernel_rfl) (by kernel_rfl) (by kernel_rfl) (by kernel_rfl) (fun _ _ d _ _ h => by cases d <;> exact h) ⟨(hbb.1.drew.cell q1).trans q0, hr7.below drew_below, hR1.below hbb.1.drew⟩ ?_
          simp only [planOps, List.getElem?_toArray, List.getElem?_cons_zero, List.getElem?_cons_succ]
          iterate 10 (refine wpS_q ?_ (by rfl) ?_ ?_; rotate_left; (focus (intro z hz; (try dsimp only at hz); go_simp; rfl)); simp only [Act.put, List.setIfInBounds_toArray, List.set_cons_zero, List.set_cons_succ])
          refine wpS_q (.string (bstr b)) (by rfl) (fun z hz => by have hcv := conv_str hz.2.1 c7; go_simp) ?_
          simp only [Act.put, List.setIfInBounds_toArray, List.set_cons_zero, List.set_cons_succ]
          iterate 6 (refine wpS_q ?_ (by rfl) ?_ ?_; rotate_left; (focus (intro z hz; (try dsimp only at hz); go_simp; rfl)); simp only [Act.put, List.setIfInBounds_toArray, List.set_cons_zero, List.set_cons_succ])
          refine wpS_q (.string (bstr b)) (by rfl) (fun z hz => by have hcv := conv_str hz.2.2 z1; go_simp) ?_
          simp only [Act.put, List.setIfInBounds_toArray, List.set_cons_zero, List.set_cons_succ]
          have hne : ((bstr b).toList != (bstr b).toList) = false := by simp
          iterate 3 (refine wpS_q ?_ (by rfl) ?_ ?_; rotate_left; (focus (intro z hz; (try dsimp only at hz); go_simp; rfl)); simp only [Act.put, List.setIfInBounds_toArray, List.set_cons_zero, List.set_cons_succ])
          refine wpS_nil ?_
          go_wp2_with fail
          go_meet
          exact ⟨rfl, hD5.below drew_below, (below_base hbb drew_below).1, (below_base hbb drew_below).2⟩
      case rest =>
        clear hbb hD5 hr7
        obtain ⟨rfl, hD5, hbk, hbks⟩ := hcut
        have hbb : Below w.heap.size w wc ∧ base ≤ wc.heap.size := ⟨hbk, hbks⟩
        clear hbk hbks hbb1 hbb2
        go_wp2_with fail
        refine (bytes_lit _ 0xee 238 rfl).mono ?_
        rintro e w4 ⟨rfl, hb⟩
        have hD5 := hD5.below hb
        have hbb := below_base hbb hb
        simp only []
        clear hb
        go_wp2_with fail
        refine (gwrite w4 base g l5 d1' hD5 hlg5 hbb.2 (10 + (j2 : Int)) (rep 0xee) (rep_length _) (by omega)).mono ?_
        rw [LS.out.w2, LS.out.e2]
        rintro e w5 ⟨l6, rfl, hlg6, hD6, hm⟩
        have hbb := base_moved hbb (Nat.le_of_eq HBASE.out) hD5 hm
        simp only []
        clear hm hD5 hlg5
        go_upto_block 2 with (fail)
        have hbb1 := hbb.1
        have hbb2 := hbb.2
        go_cut [] (fun wx => Below w.heap.size w wx ∧ base ≤ wx.heap.size)
        case first =>
          clear hbb
          go_wp2_with fail
          go_loopw [20] (fun i wr => ∃ k : Nat, k ≤ 3 ∧ i = .int .i64 (k : Int) ∧ DiskAt wr base l6 d2' ∧ Below w.heap.size w wr ∧ base ≤ wr.heap.size) (fun i _ => 3 - (intOf i).toNat)
          case atStart => exact ⟨0, by omega, rfl, hD6, hbb1, hbb2⟩
          case round =>
            clear hD6 hbb1 hbb2
            obtain ⟨k, hk, rfl, hD6, hbk, hbks⟩ := hrel
            have hbb : Below w.heap.size w wr ∧ base ≤ wr.heap.size := ⟨hbk, hbks⟩
            clear hbk hbks
            by_cases hkm : k < 3
            · have g1 : (k : Int) < 3 := by omega
              go_wp2_with fail
              refine (unew_any n HN64.out wr base l6 d2' hD6 g hlg6 hbb.2 1 0 (by omega) tb (H.Tab.below hT hbb.1)).mono ?_
              rw [LS.out.n2]
              rintro e w6 ⟨(⟨_, rfl⟩ | ⟨h, _⟩), hb⟩
              · have hbb := below_base hbb hb
                have hD6 := hD6.below hb
                simp only []
                clear hb
                go_wp2_with fail
                exact ⟨⟨k + 1, by omega, congrArg (Value.int .i64) (by omega), hD6, hbb.1, hbb.2⟩, by simp only [intOf]; omega⟩
              · exact absurd h (by decide)
            · obtain rfl : k = 3 := by omega
              go_wp2_with fail
              go_meet
              exact ⟨hbb.1, hbb.2⟩
        case rest =>
          clear hbb
          go_wp2_with (go_at_call 9; refine (works7_any n HN64.out _ tb HTB.out (H.Tab.below hT hcut.1)).mono ?_; rintro e w2 ⟨rfl, hb2⟩)
          go_ret
          exact ⟨rfl, below_next' hcut.1 hb2⟩
theorem usigLost_walk (W : World) (hT : H.Tab W H.tblL) (A : Option Addr) (m c : Nat) (l : List SB) (_ : l.length = m) (hr : Reads W W.heap.size 1 A m (l.flatMap fun x => [x.v])) (hi : ∀ a ∈ l, SB.ok W a ∧ [a.v].length = 1) (_ : m ≤ c) (_ : c * 24 ≤ 140737488351232) (one two : UInt8) :
    Calls Tryd.prog 7 #[.slice A m c, .int .u8 (one.toNat : Int), .int .u8 (two.toNat : Int)] W fun e w' => e = .returned (.bool true) ∧ Below W.heap.size W w' :=
  usigLost_any 64 rfl W H.tblL rfl hT A m c l hr (fun x hx => (hi x hx).1) one two
end Go.Proofs.YtmjdfajdompkeaaDoor
