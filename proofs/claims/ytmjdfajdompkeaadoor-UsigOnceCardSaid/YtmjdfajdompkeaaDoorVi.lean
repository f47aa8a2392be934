/- The law UsigEnds, walked. -/
import Derived.Test.YtmjdfajdompkeaaDoorVf
namespace Go.Proofs.YtmjdfajdompkeaaDoor
open Go.RowKit Go.Rat
/-- An argument's bytes lie ahead of all that the call makes. -/
theorem arg_out {w : World} {base : Nat} {l : DL} {d : DS} {wx : World} {A : Option Addr} {m k kc : Nat} {b : List UInt8} {s : US} (hr : RB w A m b) (hw : w.heap.size ≤ base) (hD : DiskAt wx base l d) (hU : UsigAt wx base l k kc s) : m ≠ 0 → ∀ x, A.map (·.block) = some x → ¬ l.fp x ∧ x ≠ k ∧ x ≠ kc := fun hm0 x hx => by
  obtain ⟨a1, hA, hlt, _⟩ := hr.2 (by omega)
  rw [hA] at hx
  have hxe : a1.block = x := Option.some.inj hx
  have h1 := hU.bk
  have h2 := hU.cell.bk
  refine ⟨fun hf => ?_, by omega, by omega⟩
  have := (hD.fp_lt hf).1
  omega
set_option maxRecDepth 20000 in
set_option maxHeartbeats 8000000 in
theorem usigEnds_any (n : Nat) (hn64 : n = 64) (w : World) (tb : List Int) (htb : H.tblL = tb) (hT : H.Tab w tb) (back : UInt8) (A : Option Addr) (m cap : Nat) (b : List UInt8) (hr : RB w A m b) (hmc : m ≤ cap) :
    Calls Tryd.prog 4 #[.int .u8 (back.toNat : Int), .slice A m cap] w fun e w' => e = .returned (.bool true) ∧ Below w.heap.size w w' := by
  by_cases hbig : 1024 < m
  · have hbi : (1024 : Int) < (m : Int) := by omega
    go_enter Tryd.func4, Tryd.ntmps4
    go_wp2_with (go_at_call 9; refine (works7_any n hn64 w tb htb hT).mono ?_; rintro e w2 ⟨rfl, hb2⟩)
    go_ret
    exact ⟨rfl, hb2⟩
  have hbi : ¬ (1024 : Int) < (m : Int) := by omega
  have hml : b.length = m := hr.len
  have hbl : b.length ≤ 1024 := by omega
  obtain ⟨f1, f2, f3, f4, f5⟩ := ucalm_format (d := ds0) (p := 0) (by omega) rfl rfl 1
  obtain ⟨o1, o2⟩ := f2.opens
  obtain ⟨N0, hc0⟩ := f2.cell
  have hc0 : CellSt (fmF ds0 0).1 0 0 N0 [] 2 := hc0
  obtain ⟨q, hq⟩ : ∃ q, back.toNat % 4 = q := ⟨_, rfl⟩
  have hq4 : q < 4 := by omega
  have hq0 : (back.toNat : Int) % 4 = (q : Int) := by omega
  obtain ⟨a0, ha0⟩ : ∃ a, 65536 - q = a := ⟨_, rfl⟩
  have ha : 65533 ≤ a0 ∧ a0 ≤ 65536 := by omega
  have hai : (65536 : Int) - (q : Int) = (a0 : Int) := by omega
  have hbk := back.toNat_lt
  obtain ⟨k1, k2, k3, k4, k5, _⟩ := put_calm (b := be 8 a0) f2.fuse hc0 (by decide) (by rw [be_length]; omega)
  have hu2 : UCalm (ptF (fmF ds0 0).1 0 0 (be 8 a0)).1 0 ⟨1, a0, [], ⟨0, be 8 a0, 1, false⟩⟩ 3 := ⟨⟨_, k5⟩, rfl, rfl, k3, by
    have := usigF_put a0 (by omega) [] (by simp)
    rwa [List.append_nil] at this⟩
  obtain ⟨n1, n2⟩ := hu2.new (i := 1) (by decide)
  have o3 := hu2.opens.2
  obtain ⟨d1, hd1⟩ : ∃ x, (fmF ds0 0).1 = x := ⟨_, rfl⟩
  rw [hd1] at f2 f3 o1 o2 k1 k4 hu2 n1 n2 o3
  obtain ⟨d2, hd2⟩ : ∃ x, (ptF d1 0 0 (be 8 a0)).1 = x := ⟨_, rfl⟩
  rw [hd2] at k4 hu2 n1 n2 o3
  have hpt : ptF d1 0 0 (be 8 a0) = (d2, 0) := Prod.ext hd2 k1
  have HF1 := Lib.hid f1
  have HD1 := Lib.hid hd1
  have HL1 := Lib.hid f3
  have HO1 := Lib.hid o1
  have HO2 := Lib.hid o2
  have HPT := Lib.hid hpt
  have HL2 := Lib.hid k4
  have HU2 := Lib.hid hu2
  have HN1 := Lib.hid n1
  have HN2 := Lib.hid n2
  have HO3 := Lib.hid o3
  have HBL := Lib.hid hbl
  obtain ⟨base, hbase⟩ : ∃ b, w.heap.size = b := ⟨_, rfl⟩
  have HBASE := Lib.hid hbase
  have HN64 := Lib.hid hn64
  have HTB := Lib.hid htb
  have hz32s : (bvs z32).toArray.size = 32 := by rw [bvs_size, z32_length]
  clear f1 f2 f3 f4 f5 o1 o2 hc0 k1 k2 k3 k4 k5 hu2 n1 n2 o3 hd1 hd2 hpt hq ha0 hn64 htb hbig hbl hml
  go_enter Tryd.func4, Tryd.ntmps4
  go_wp2_with fail
  refine (dnew_any w).mono ?_
  rintro e w1 ⟨l0, rfl, hD, hb⟩
  have hbb : Below w.heap.size w w1 ∧ base ≤ w1.heap.size := ⟨hb, by rw [← hbase]; exact hb.size⟩
  rw [hbase] at hD
  clear hb hbase
  simp only []
  obtain ⟨g, hlg⟩ : ∃ g, l0.g = g := ⟨_, rfl⟩
  rw [hlg]
  go_wp2_with fail
  refine (uformat_any w1 base l0 ds0 hD g hlg hbb.2 (by decide) 0 (by omega)).mono ?_
  rw [HF1.out, HD1.out]
  rintro e w2 ⟨l1, rfl, hlg1, hD1, hm⟩
  have hbb := base_moved hbb (Nat.le_of_eq HBASE.out) hD hm
  simp only []
  clear hm hD hlg
  go_wp2_with fail
  refine (copen_any w2 base l1 d1 hD1 g hlg1 hbb.2 0 (by omega)).mono ?_
  rw [HO1.out, HO2.out]
  rintro e w3 ⟨(⟨h, _⟩ | ⟨_, kq, rfl, hC, hkq⟩), hb⟩
  · exact absurd rfl h
  have hbb := below_base hbb hb
  have hD1 := hD1.below hb
  simp only []
  clear hb
  go_wp2_with fail
  refine (word_any w3 none 0 0 [] a0 (RB.nil_ _ _) (by omega) (by omega)).mono ?_
  rintro e w4 ⟨A4, N4, c4, rfl, hO4, hb⟩
  rw [List.nil_append] at hO4
  obtain rfl : N4 = 8 := hO4.len.symm.trans (be_length 8 _)
  have hap : 8 ≠ 0 → ∀ x, A4.map (·.block) = some x → ¬ l1.fp x ∧ x ≠ kq := fun _ x hx => by
    have h1 := (hO4.ge x hx).1
    exact ⟨fun hf => by have := (hD1.fp_lt hf).2; omega, by have := hC.lt; omega⟩
  have hbb := below_base hbb hb
  have hD1 := hD1.below hb
  have hC := hC.below hb
  have hr4 := hO4.reads
  simp only []
  clear hb hO4
  go_wp2_with fail
  refine (cput_any w4 base l1 d1 hD1 g hlg1 hbb.2 (by rw [HL1.out]; decide) kq _ hC (show (0 : Int) ≤ 0 ∧ (0 : Int) + 20 ≤ 32768 by omega) rfl A4 8 c4 (be 8 a0) hr4 (by omega) hap).mono ?_
  simp only []
  rw [HPT.out]
  rintro e w5 ⟨l2, rfl, hlg2, hD2, _, hm⟩
  have hbb : Below w.heap.size w w5 ∧ base ≤ w5.heap.size := by
    have h1 := HBASE.out
    refine ⟨hbb.1.trans (hm.chg.below (fun x hx => ?_) hbb.1.size), Nat.le_trans hbb.2 hm.chg.size⟩
    rcases hx with hx | hx
    · have := (hD1.fp_lt hx).1
      omega
    · have := hC.bk
      omega
  simp only [] at hD2 ⊢
  clear hm hD1 hC hap hr4 hkq
  go_wp2_with fail
  refine (unew_any n HN64.out w5 base l2 d2 hD2 g hlg2 hbb.2 1 0 (by omega) tb (H.Tab.below hT hbb.1)).mono ?_
  rw [HN1.out, HO3.out]
  rintro e w6 ⟨(⟨h, _⟩ | ⟨_, k, kc, m0, b0, rfl, hus, hU, hk, hkc⟩), hb⟩
  · exact absurd rfl h
  obtain ⟨rfl, rfl⟩ : m0 = a0 ∧ b0 = [] := by
    have := hus.symm.trans HU2.out.has
    injection this with this
    injection this with e1 e2
    exact ⟨e1, e2⟩
  have hbb := below_base hbb hb
  have hD2 := hD2.below hb
  simp only []
  clear hb hk hkc hus
  go_upto_block 0 with (fail)
  have hbb1 := hbb.1
  have hbb2 := hbb.2
  have hL2 := HL2.out
  have hUC := HU2.out
  go_cut [] (fun wx => ∃ (K : Nat) (d : DS) (l' : DL) (s : US), s.n = 65536 ∧ DiskAt wx base l' d ∧ l'.g = g ∧ UsigAt wx base l' k kc s ∧ d.loose = [] ∧ s.c.p = 0 ∧ Below w.heap.size w wx ∧ base ≤ wx.heap.size)
  case first =>
    go_wp2_with fail
    go_loopw [8] (fun v wr => ∃ (N K : Nat) (d : DS) (l' : DL) (s : US), v = .int .u64 (N : Int) ∧ N ≤ 65536 ∧ s.n = N ∧ K + 65533 ≤ N + 3 ∧ UCalm d 0 s K ∧ d.loose = [] ∧ DiskAt wr base l' d ∧ l'.g = g ∧ UsigAt wr base l' k kc s ∧ Below w.heap.size w wr ∧ base ≤ wr.heap.size) (fun v _ => 65536 - (intOf v).toNat)
    case atStart => exact ⟨m0, 3, d2, l2, _, rfl, ha.2, rfl, by omega, hUC, hL2, hD2, hlg2, hU, hbb1, hbb2⟩
    case round =>
      clear hbb hbb1 hbb2 hD2 hU hL2 hUC hlg2
      obtain ⟨N, K, d, l', s, rfl, hN, hsn, hKN, hUC, hL, hD, hlg, hU, hbk1, hbk2⟩ := hrel
      by_cases hlt : N < 65536
      · have g1 : (N : Int) < 65536 := by omega
        obtain ⟨d', c', e1, e2, e3, e4, _⟩ := hUC.next n tb (b := b) HBL.out (by omega) (by omega)
        have HE1 := Lib.hid e1
        have HE2 := Lib.hid e2
        have HE3 := Lib.hid e3
        have hol := H.numF_length n tb s.i (s.n + 1) b
        have hp := hUC.p_
        have hbb : Below w.heap.size w wr ∧ base ≤ wr.heap.size := ⟨hbk1, hbk2⟩
        clear e1 e2 e3 e4 hbk1 hbk2
        go_wp2_with fail
        refine (unext_any n HN64.out wr base l' d hD g hlg hbb.2 (by rw [hL]; decide) k kc s hU (by omega) A m cap b (hr.below hbb.1) hmc (arg_out hr (Nat.le_of_eq HBASE.out) hD hU) tb w hT hbb.1 (Nat.le_of_eq HBASE.out)).mono ?_
        rw [HE1.out]
        rintro e w7 ⟨l3, rfl, hlg3, hD3, hU3, hm⟩
        have hbb := base_umoved hbb (Nat.le_of_eq HBASE.out) hD hU hm
        simp only [] at hD3 hU3 ⊢
        rw [hsn]
        obtain ⟨F, hF⟩ : ∃ F, H.numF n tb s.i (s.n + 1) b = F := ⟨_, rfl⟩
        rw [hsn] at hF hol
        rw [hF] at hol ⊢
        have hFs : (bvs F).toArray.size = 32 := by rw [bvs_size, hol]
        have hN1 : ((N + 1 : Nat) : Int) = (N : Int) + 1 := by omega
        rw [hN1]
        clear hm hD hU hF hlg hN1
        repeat (first
          | ((with_reducible refine wpl_store_fresh (bvs F).toArray i32 ?_ hFs (bvs_all _) ?_ ?_ ?_); (focus kernel_rfl); (focus rfl); (focus rfl); intro w8 hS8 hl8 hb8; simp only [Act.put]; refine Hid.out ?_)
          | go_values | go_skip | go_guarded | go_step | go_upon | go_back)
        refine Lib.hid ?_
        have hbb := below_base hbb hb8
        have hD3 := hD3.below hb8
        have hU3 := hU3.below hb8
        obtain ⟨g12, hg12⟩ : ∃ x, w7.heap.size = x := ⟨_, rfl⟩
        rw [hg12]
        clear hb8 hS8 hl8 hg12
        go_wp2_with fail
        exact ⟨⟨N + 1, K + 1, d', l3, _, by first | rfl | exact congrArg (Value.int .u64) (by omega), by omega, by simp only; omega, by omega, HE2.out, HE3.out, hD3, hlg3, hU3, hbb.1, hbb.2⟩, by simp only [intOf]; omega⟩
      · obtain rfl : N = 65536 := by omega
        have g1 : ¬ ((65536 : Nat) : Int) < 65536 := by decide
        go_wp2_with fail
        go_meet
        exact ⟨K, d, l', s, hsn, hD, hlg, hU, hL, hUC.p_, hbk1, hbk2⟩
  case rest =>
    clear hbb hbb1 hbb2 hD2 hU hL2 hUC hlg2
    obtain ⟨K, d, l', s, hsn, hD, hlg, hU, hL, hp, hbk1, hbk2⟩ := hcut
    have hbb : Below w.heap.size w wc ∧ base ≤ wc.heap.size := ⟨hbk1, hbk2⟩
    have hnx : nextU n tb d s b = (d, s, 0, z32, 10) := by rw [nextU, if_neg (by have := HBL.out; omega), if_pos (by omega)]
    have HNX := Lib.hid hnx
    clear hbk1 hbk2 hnx
    go_wp2_with fail
    refine (unext_any n HN64.out wc base l' d hD g hlg hbb.2 (by rw [hL]; decide) k kc s hU (by omega) A m cap b (hr.below hbb.1) hmc (arg_out hr (Nat.le_of_eq HBASE.out) hD hU) tb w hT hbb.1 (Nat.le_of_eq HBASE.out)).mono ?_
    rw [HNX.out]
    rintro e w7 ⟨l3, rfl, hlg3, hD3, hU3, hm⟩
    have hbb := base_umoved hbb (Nat.le_of_eq HBASE.out) hD hU hm
    simp only [] at hD3 hU3 ⊢
    clear hm hD hU hlg
    repeat (first
      | ((with_reducible refine wpl_store_fresh (bvs z32).toArray i32 ?_ hz32s (bvs_all _) ?_ ?_ ?_); (focus kernel_rfl); (focus rfl); (focus rfl); intro w8 hS8 hl8 hb8; simp only [Act.put]; refine Hid.out ?_)
      | go_values | go_skip | go_guarded | go_step | go_upon | go_back)
    refine Lib.hid ?_
    have hbb := below_base hbb hb8
    have hU3 := hU3.below hb8
    obtain ⟨g15, hg15⟩ : ∃ x, w7.heap.size = x := ⟨_, rfl⟩
    rw [hg15]
    clear hb8 hS8 hl8 hg15 hD3
    go_wp2_with fail
    refine (ulast_any n HN64.out w8 base l3 k kc s hU3 tb (H.Tab.below hT hbb.1)).mono ?_
    have htl : (lastT n tb s).length = 32 := by
      rw [lastT, if_neg (by omega)]
      exact H.numF_length _ _ _ _ _
    obtain ⟨T, hTT⟩ : ∃ T, lastT n tb s = T := ⟨_, rfl⟩
    rw [hTT] at htl ⊢
    have hTs : (bvs T).toArray.size = 32 := by rw [bvs_size, htl]
    rw [hsn]
    rintro e w9 ⟨A9, N9, c9, rfl, _, hb⟩
    have hbb := below_base hbb hb
    simp only []
    clear hb hU3 hTT
    repeat (first
      | ((with_reducible refine wpl_store_fresh (bvs T).toArray i32 ?_ hTs (bvs_all _) ?_ ?_ ?_); (focus kernel_rfl); (focus rfl); (focus rfl); intro w10 hS10 hl10 hb10; simp only [Act.put]; refine Hid.out ?_)
      | go_values | go_skip | go_guarded | go_step | go_upon | go_back)
    refine Lib.hid ?_
    have hbb := below_base hbb hb10
    obtain ⟨g19, hg19⟩ : ∃ x, w9.heap.size = x := ⟨_, rfl⟩
    rw [hg19]
    clear hb10 hS10 hl10 hg19
    go_wp2_with (go_at_call 9; refine (works7_any n HN64.out w10 tb HTB.out (H.Tab.below hT hbb.1)).mono ?_; rintro e w11 ⟨rfl, hb11⟩)
    go_ret
    exact ⟨rfl, (below_base hbb hb11).1⟩
theorem usigEnds_walk (W : World) (hT : H.Tab W H.tblL) (back : UInt8) (A : Option Addr) (m c : Nat) (b : List UInt8) (_ : b.length = m) (hr : RB W A m b) (hmc : m ≤ c) (_ : m ≤ 140737488351232) (_ : ∀ ad, A = some ad → ad.block < W.heap.size) :
    Calls Tryd.prog 4 #[.int .u8 (back.toNat : Int), .slice A m c] W fun e w' => e = .returned (.bool true) ∧ Below W.heap.size W w' :=
  usigEnds_any 64 rfl W H.tblL rfl hT back A m c b hr hmc
end Go.Proofs.YtmjdfajdompkeaaDoor
