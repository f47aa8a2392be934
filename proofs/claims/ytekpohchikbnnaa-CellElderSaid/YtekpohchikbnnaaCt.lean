/- The law CellElder, walked. -/
import Derived.Test.YtekpohchikbnnaaCs
namespace Go.Proofs.Ytekpohchikbnnaa
open Go.RowKit Go.Rat
theorem sb_at {w : World} {A : Option Addr} {n : Nat} {l : List SB} (h : Reads w w.heap.size 1 A n (l.flatMap fun x => [x.v])) {k : Nat} (hk : k < n) :
    ∃ ad x, A = some ad ∧ x ∈ l ∧ (ad.add k).block < w.heap.size ∧ w.cell? (ad.add k) = some x.v := by
  obtain ⟨ad, rfl, hb, hc⟩ := h.2 (by omega)
  have hlen := flat_len (fun x : SB => [x.v]) 1 (fun _ => rfl) l
  have hkl : k < l.length := by have := h.1; omega
  have hg : l[k]? = some l[k] := List.getElem?_eq_getElem hkl
  have F := flat_get (fun x : SB => [x.v]) 1 (fun _ => rfl) l k
  refine ⟨ad, l[k], rfl, List.getElem_mem hkl, by rw [block_of_add]; exact hb, ?_⟩
  exact hc _ _ (by have := F 0 _ hg (by omega); simpa using this)
def xb : List UInt8 := [120]
set_option maxRecDepth 20000 in
set_option maxHeartbeats 8000000 in
theorem cellElder_walk (w : World) (A : Option Addr) (m c : Nat) (l : List SB) (_ : l.length = m) (hr : Reads w w.heap.size 1 A m (l.flatMap fun x => [x.v])) (hi : ∀ x ∈ l, SB.ok w x) (lost other : UInt8) :
    Calls Try.prog 10 #[.slice A m c, .int .u8 (lost.toNat : Int), .int .u8 (other.toNat : Int)] w fun e w' => e = .returned (.bool true) ∧ Below w.heap.size w w' := by
  by_cases hbig : 20 < m
  · have hbi : (20 : Int) < (m : Int) := by omega
    go_enter Try.func10, Try.ntmps10
    go_wp2_with (go_at_call 37; refine (works5_any w).mono ?_; rintro e w2 ⟨rfl, hb2⟩)
    go_ret
    exact ⟨rfl, hb2⟩
  have hbi : ¬ (20 : Int) < (m : Int) := by omega
  by_cases hzz : m = 0
  · subst hzz
    go_enter Try.func10, Try.ntmps10
    go_wp2_with (go_at_call 37; refine (works5_any w).mono ?_; rintro e w2 ⟨rfl, hb2⟩)
    go_ret
    exact ⟨rfl, hb2⟩
  have hzi : ¬ (m : Int) = 0 := by omega
  obtain ⟨base, hbase⟩ : ∃ b, w.heap.size = b := ⟨_, rfl⟩
  have HBASE := Lib.hid hbase
  obtain ⟨hf0, hst⟩ := el_start
  obtain ⟨d0, hd0⟩ : ∃ d, (fmF ds0 0).1 = d := ⟨_, rfl⟩
  rw [hd0] at hst
  have HST := Lib.hid hst
  obtain ⟨ho0, ho1⟩ := hst.st.open_
  have hoc : openCell d0 0 = ⟨0, [], 0, false⟩ := by rw [openCell, ho1]
  have HD0 := Lib.hid hd0
  have HF0 := Lib.hid hf0
  have HI := Lib.hid hi
  have HO0 := Lib.hid ho0
  have HOC := Lib.hid hoc
  clear hd0 hf0 hi ho0 ho1 hoc hst hbig hzz
  go_enter Try.func10, Try.ntmps10
  go_wp2_with fail
  refine (dnew_any w).mono ?_
  rintro e w1 ⟨l0, rfl, hD, hb⟩
  have hbb : Below w.heap.size w w1 ∧ base ≤ w1.heap.size := ⟨hb, by rw [← hbase]; exact hb.size⟩
  rw [hbase] at hD
  clear hb hbase
  simp only []
  obtain ⟨g, hlg⟩ : ∃ g, l0.g = g := ⟨_, rfl⟩
  rw [hlg]
  go_wp2_with fail
  refine (cformat_any w1 base l0 ds0 hD g hlg hbb.2 (by decide) 0 (by omega)).mono ?_
  rw [HF0.out, HD0.out]
  rintro e w2 ⟨l1, rfl, hlg1, hD1, hm⟩
  have hbb := base_moved hbb (Nat.le_of_eq HBASE.out) hD hm
  simp only []
  clear hm hD hlg
  go_wp2_with fail
  refine (copen_any w2 base l1 d0 hD1 g hlg1 hbb.2 0 (by omega)).mono ?_
  rw [HO0.out, HOC.out]
  rintro e w3 ⟨(⟨h, _⟩ | ⟨_, k0, rfl, hC, _⟩), hb⟩
  · exact absurd rfl h
  have hbb := below_base hbb hb
  have hD3 := hD1.below hb
  simp only []
  clear hb hD1
  go_upto_block 0 with (fail)
  have hbb1 := hbb.1
  have hbb2 := hbb.2
  go_cut [10] (fun s wx => ∃ (d : DS) (l' : DL) (now was : List UInt8) (n1 m1 : Nat), s = .string (bstr was) ∧ ElSt d (m % 2) n1 m1 now was (2 + m) ∧ DiskAt wx base l' d ∧ l'.g = g ∧ CellAt wx base l' k0 ⟨0, now, m % 2, false⟩ ∧ Below w.heap.size w wx ∧ base ≤ wx.heap.size)
  case first =>
    go_wp2_with fail
    go_loopw [10, 11, 12] (fun s t i wr => ∃ (k : Nat) (d : DS) (l' : DL) (now was : List UInt8) (n1 m1 : Nat), k ≤ m ∧ i = .int .i64 (k : Int) ∧ s = .string (bstr was) ∧ t = .string (bstr now) ∧ ElSt d (k % 2) n1 m1 now was (2 + k) ∧ DiskAt wr base l' d ∧ l'.g = g ∧ CellAt wr base l' k0 ⟨0, now, k % 2, false⟩ ∧ Below w.heap.size w wr ∧ base ≤ wr.heap.size) (fun _ _ i _ => m - (intOf i).toNat)
    case atStart => exact ⟨0, d0, l1, [], [], 2, 1, Nat.zero_le _, rfl, rfl, rfl, HST.out, hD3, hlg1, hC, hbb1, hbb2⟩
    case round =>
      clear hbb hD3 hbb1 hbb2 hC
      obtain ⟨k, d, l', now, was, n1, m1, hk, rfl, rfl, rfl, hinv, hDk, hlk, hCk, hbk, hbks⟩ := hrel
      by_cases hkm : k < m
      · obtain ⟨ad, ⟨A1, n, z1, b⟩, e, hxl, hadl, q0⟩ := sb_at hr hkm
        cases e
        obtain ⟨hR1, _, _⟩ := HI.out _ hxl
        simp only [SB.v] at q0 hR1
        have hl1 := hR1.len
        obtain ⟨P, hP⟩ : ∃ P, ad.add k = P := ⟨_, rfl⟩
        have Q0 : Hid (∀ z, Below w.heap.size w z → z.cell? P = some (.slice A1 n z1)) := Lib.hid (fun z hz => by rw [hP] at hadl q0; exact (hz.cell hadl).trans q0)
        have HL1 := Lib.hid hl1
        have hbb : Below w.heap.size w wr ∧ base ≤ wr.heap.size := ⟨hbk, hbks⟩
        have g1 : (k : Int) < (m : Int) := by omega
        have g0 : (0 : Int) ≤ (k : Int) := by omega
        clear hxl q0 hl1 hbk hbks hadl
        have c0 := Q0.out _ hbb.1
        by_cases hb1 : 1100 < n
        · have hb1' : (1100 : Int) < (n : Int) := by omega
          clear hb1
          go_wp2_with (go_at_call 37; refine (works5_any _).mono ?_; rintro e w2 ⟨rfl, hb2⟩)
          go_ret
          exact ⟨rfl, below_next' hbb.1 hb2⟩
        · have hb1' : ¬ (1100 : Int) < (n : Int) := by omega
          have hbl : b.length ≤ 1100 := by have := HL1.out; omega
          have hn1 : n ≤ 1100 := by omega
          obtain ⟨e1, n', hstep⟩ := hinv.step (by omega) hbl
          have hlo := hinv.loose
          obtain ⟨⟨dr, E⟩, hre⟩ : ∃ r, ptF d 0 (k % 2) b = r := ⟨_, rfl⟩
          rw [hre] at e1 hstep
          simp only at e1 hstep
          subst e1
          have HRE := Lib.hid hre
          have HLO := Lib.hid hlo
          have HSTEP := Lib.hid hstep
          clear hre hlo hstep hinv hb1
          have hap : n ≠ 0 → ∀ x, A1.map (·.block) = some x → ¬ l'.fp x ∧ x ≠ k0 := fun hn0 x hx => by
            obtain ⟨a1, hA, hlt, _⟩ := hR1.2 (by omega)
            rw [hA] at hx
            have hxe : a1.block = x := Option.some.inj hx
            have hbe := HBASE.out
            have hkb := hCk.bk
            refine ⟨fun hf => ?_, by omega⟩
            have := (hDk.fp_lt hf).1
            omega
          go_wp2_with fail
          refine (cput_any wr base l' d hDk g hlk hbb.2 (by rw [HLO.out]; decide) k0 _ hCk (show (0 : Int) ≤ 0 ∧ (0 : Int) + 20 ≤ 32768 by omega) rfl A1 n z1 b (hR1.below hbb.1) hn1 hap).mono ?_
          simp only []
          rw [HRE.out]
          rintro e w6 ⟨l6, rfl, hlg6, hD6, hC6, hm6⟩
          have hbb : Below w.heap.size w w6 ∧ base ≤ w6.heap.size := by
            have h1 := HBASE.out
            refine ⟨hbb.1.trans (hm6.chg.below (fun x hx => ?_) hbb.1.size), Nat.le_trans hbb.2 hm6.chg.size⟩
            rcases hx with hx | hx
            · have := (hDk.fp_lt hx).1
              omega
            · have := hCk.bk
              omega
          have hC6 : CellAt w6 base l6 k0 ⟨0, b, 1 - k % 2, false⟩ := by simp only [] at hC6; rw [putCell, if_pos rfl] at hC6; exact hC6
          simp only [] at hD6 ⊢
          clear hm6 hDk hCk c0 hap
          have c0 := Q0.out _ hbb.1
          have hcb := conv_str (hR1.below hbb.1) z1
          go_wp2_with fail
          have he : 1 - k % 2 = (k + 1) % 2 := by omega
          have HS := HSTEP.out
          rw [he] at HS hC6
          exact ⟨⟨k + 1, dr, l6, b, now, n', n1, by omega, congrArg (Value.int .i64) (by omega), rfl, rfl, HS, hD6, hlg6, hC6, hbb.1, hbb.2⟩, by simp [intOf]; omega⟩
      · obtain rfl : k = m := by omega
        have g1 : ¬ (k : Int) < (k : Int) := by omega
        go_wp2_with fail
        go_meet
        exact ⟨d, l', now, was, n1, m1, rfl, hinv, hDk, hlk, hCk, hbk, hbks⟩
  case rest =>
    clear hbb hD3 hbb1 hbb2 hC
    obtain ⟨d, l', now, was, n1, m1, rfl, hinv, hD, hlk, hC, hbk, hbks⟩ := hcut
    have hbb : Below w.heap.size w wc ∧ base ≤ wc.heap.size := ⟨hbk, hbks⟩
    clear hbk hbks
    have hm2 : m % 2 ≤ 1 := by omega
    have hj1 := lost.toNat_lt
    have hj2 := other.toNat_lt
    have hE1 := hinv.lost (j := lost.toNat % 10) (by omega)
    have hE2 := hE1.lost (j := other.toNat % 10) (by omega)
    have hE3 := hE2.put (b := xb) (by decide)
    have L1 := lose_is hinv.st.off hinv.fuse (a := ((10 * (m % 2) + lost.toNat % 10 : Nat) : Int)) (by omega)
    have L2 := lose_is hE1.off hE1.fuse (a := ((10 * (1 - m % 2) + other.toNat % 10 : Nat) : Int)) (by omega)
    obtain ⟨a1, ha1⟩ : ∃ a, 10 * ((m : Int) % 2) + (lost.toNat : Int) % 10 = a := ⟨_, rfl⟩
    obtain ⟨a2, ha2⟩ : ∃ a, 10 - 10 * ((m : Int) % 2) + (other.toNat : Int) % 10 = a := ⟨_, rfl⟩
    have ea1 : ((10 * (m % 2) + lost.toNat % 10 : Nat) : Int) = a1 := by omega
    have ea2 : ((10 * (1 - m % 2) + other.toNat % 10 : Nat) : Int) = a2 := by omega
    rw [ea1] at hE1 hE2 L1 L2 hE3
    rw [ea2] at hE2 L2 hE3
    obtain ⟨d1, hd1⟩ : ∃ x, loseD d a1 = x := ⟨_, rfl⟩
    rw [hd1] at hE1 hE2 L2 hE3
    obtain ⟨d2, hd2⟩ : ∃ x, loseD d1 a2 = x := ⟨_, rfl⟩
    rw [hd2] at hE2 hE3
    obtain ⟨⟨d3, E⟩, hd3⟩ : ∃ x, ptF d2 0 (m % 2) xb = x := ⟨_, rfl⟩
    rw [hd3] at hE3
    obtain ⟨e0, o3, o4⟩ := hE3
    simp only at e0 o3 o4
    subst e0
    obtain ⟨o1, o2⟩ := hE1.op
    have o5 := hE2.op
    have o6 := hE2.loose
    have hc1 : openCell d1 0 = ⟨0, was, 1 - m % 2, false⟩ := by rw [openCell, o2]
    have hc3 : openCell d3 0 = ⟨0, xb, 1 - m % 2, false⟩ := by rw [openCell, o4]
    have HA1 := Lib.hid ha1
    have HA2 := Lib.hid ha2
    have HD1 := Lib.hid hd1
    have HD2 := Lib.hid hd2
    have HD3 := Lib.hid hd3
    have HO1 := Lib.hid o1
    have HO3 := Lib.hid o3
    have HO5 := Lib.hid o5
    have HO6 := Lib.hid o6
    have HC1 := Lib.hid hc1
    have HC3 := Lib.hid hc3
    have HL1 := Lib.hid L1
    have HL2 := Lib.hid L2
    have HI1 := Lib.hid hinv
    clear ha1 ha2 ea1 ea2 hd1 hd2 hd3 o1 o2 o3 o4 o5 o6 hc1 hc3 L1 L2 hE1 hE2 hinv
    go_wp2_with fail
    rw [HA1.out]
    refine (lose_any _ base l' d hD g hlk hbb.2 a1 HL1.out).mono ?_
    rw [HD1.out]
    rintro e w1 ⟨l2, rfl, hlg2, hD2, hm⟩
    have hbb := base_moved hbb (Nat.le_of_eq HBASE.out) hD hm
    have hC := hC.moved hm
    simp only []
    clear hm hD
    go_wp2_with fail
    refine (copen_any _ base l2 d1 hD2 g hlg2 hbb.2 0 (by omega)).mono ?_
    rw [HO1.out, HC1.out]
    rintro e w3 ⟨(⟨h, _⟩ | ⟨_, k1, rfl, hC1, _⟩), hb⟩
    · exact absurd rfl h
    have hbb := below_base hbb hb
    have hD3 := hD2.below hb
    have hC := hC.below hb
    simp only []
    clear hb hD2
    go_wp2_with fail
    refine (cget_any _ base l2 k1 _ hC1).mono ?_
    rintro e w4 ⟨A4, z4, rfl, hO4, hb⟩
    have hcv := conv_str hO4.reads z4
    have hbb := below_base hbb hb
    have hD4 := hD3.below hb
    have hC := hC.below hb
    simp only [] at hcv ⊢
    clear hb hD3 hC1 hO4
    go_wp2_with fail
    rw [HA2.out]
    refine (lose_any _ base l2 d1 hD4 g hlg2 hbb.2 a2 HL2.out).mono ?_
    rw [HD2.out]
    rintro e w5 ⟨l5, rfl, hlg5, hD5, hm⟩
    have hbb := base_moved hbb (Nat.le_of_eq HBASE.out) hD4 hm
    have hC := hC.moved hm
    simp only []
    clear hm hD4 hcv
    go_wp2_with fail
    refine (copen_any _ base l5 d2 hD5 g hlg5 hbb.2 0 (by omega)).mono ?_
    rw [HO5.out]
    rintro e w6 ⟨(⟨_, rfl⟩ | ⟨h, _⟩), hb⟩
    rotate_left
    · exact absurd h (by decide)
    have hbb := below_base hbb hb
    have hD6 := hD5.below hb
    have hC := hC.below hb
    simp only []
    clear hb hD5
    have kc := fun (w : World) (C : Array Value) (n c : Nat) => Lib.run_convert_bytes_const (P := Try.prog) w 22 5 C n c Try.underlying22 Try.underlying5
    go_wp2_with fail
    clear kc
    have hap : 1 ≠ 0 → ∀ x, (some (⟨w6.heap.size, 0, none⟩ : Addr)).map (·.block) = some x → ¬ l5.fp x ∧ x ≠ k0 := fun _ x hx => by
      have hxe : w6.heap.size = x := Option.some.inj hx
      have hkl := hC.lt
      refine ⟨fun hf => ?_, by omega⟩
      have := (hD6.fp_lt hf).2
      omega
    have hb := below_alloc w6 (.cells #[.int .u8 120] 5 (1, 2))
    have hrx : RB (w6.alloc (.cells #[.int .u8 120] 5 (1, 2))) (some ⟨w6.heap.size, 0, none⟩) 1 xb := rb_lit w6 5 (1, 2) xb
    have hbb := below_base hbb hb
    have hD7 := hD6.below hb
    have hC := hC.below hb
    clear hb
    refine (cput_any _ base l5 d2 hD7 g hlg5 hbb.2 (by rw [HO6.out]; decide) k0 _ hC (show (0 : Int) ≤ 0 ∧ (0 : Int) + 20 ≤ 32768 by omega) rfl (some ⟨w6.heap.size, 0, none⟩) 1 1 xb hrx (by omega) hap).mono ?_
    simp only []
    rw [HD3.out]
    rintro e w8 ⟨l8, rfl, hlg8, hD8, hC8, hm8⟩
    have hbb : Below w.heap.size w w8 ∧ base ≤ w8.heap.size := by
      have h1 := HBASE.out
      refine ⟨hbb.1.trans (hm8.chg.below (fun x hx => ?_) hbb.1.size), Nat.le_trans hbb.2 hm8.chg.size⟩
      rcases hx with hx | hx
      · have := (hD7.fp_lt hx).1
        omega
      · have := hC.bk
        omega
    simp only [] at hD8 ⊢
    clear hm8 hD7 hC hC8 hD6 hap
    go_wp2_with fail
    refine (copen_any _ base l8 d3 hD8 g hlg8 hbb.2 0 (by omega)).mono ?_
    rw [HO3.out, HC3.out]
    rintro e w9 ⟨(⟨h, _⟩ | ⟨_, k9, rfl, hC9, _⟩), hb⟩
    · exact absurd rfl h
    have hbb := below_base hbb hb
    simp only []
    clear hb hD8
    go_wp2_with fail
    refine (cget_any _ base l8 k9 _ hC9).mono ?_
    rintro e w10 ⟨A9, z9, rfl, hO9, hb⟩
    have hcv := conv_str hO9.reads z9
    have hbs : bstr xb = ⟨#[120]⟩ := rfl
    simp only [hbs] at hcv
    clear hbs
    have hbb := below_base hbb hb
    simp only []
    clear hb hC9 hO9
    go_wp2_with (go_at_call 37; refine (works5_any _).mono ?_; rintro e w2 ⟨rfl, hb2⟩)
    go_ret
    exact ⟨rfl, below_next' hbb.1 hb2⟩
end Go.Proofs.Ytekpohchikbnnaa
