/- The law BookLives, walked. -/
import Derived.Test.YtmjdfajdompkeaaBkv
namespace Go.Proofs.Ytmjdfajdompkeaa
open Go.RowKit Go.Rat
theorem be_last (x : Nat) (hx : x < 256) : ((be 8 x).getD 7 0).toNat = x := by
  have h : (be 8 x).getD 7 0 = UInt8.ofNat x := by simp [be, List.getD_eq_getElem?_getD]
  rw [h, UInt8.toNat_ofNat']
  omega
structure LvSt (d : DS) (k : Nat) (rs : List (List UInt8)) (q : Int) (z : Nat) : Prop where
  st : ∃ M, M ≤ k + 1 ∧ BookSt d 0 1000 k M (2 + k) rs q z
  f : d.fuse = -1
  l : d.loose = []
  q_ : q ≤ 20 + 3 * (k : Int)
theorem lives_start : ∃ d1, fmF ds0 0 = (d1, 0) ∧ LvSt d1 0 [] 20 1 := by
  obtain ⟨h1, h2, h3, h4, _⟩ := book_format (d := ds0) (p := 0) (lim := 1000) (by omega) rfl rfl (fun _ _ _ => rfl)
  exact ⟨_, Prod.ext rfl h1, ⟨⟨1, Nat.le_refl _, h2⟩, h3, h4, by decide⟩⟩
theorem Row.cmoved {w w' : World} {l l' : DL} {base N c k : Nat} {A : Option Addr} {ps : List Pt} (h : Row w l base A N c ps) (hm : CMoved w w' l l' k) (hA : ∀ x, A.map (·.block) = some x → x ≠ k) (hps : ∀ p ∈ ps, ∀ x, p.A.map (·.block) = some x → x ≠ k) : Row w' l' base A N c ps :=
  ⟨hm.chg.own h.own (fun x hx hf => hf.elim (h.outA x hx) (hA x hx)), h.len, fun p hp => ⟨hm.chg.rb (h.ok p hp).r (fun x hx hf => hf.elim (h.out p hp x hx) (hps p hp x hx)), (h.ok p hp).c⟩, h.apart, fun p hp g hg => Nat.lt_of_lt_of_le (h.lt p hp g hg) hm.chg.size,
    fun p hp g hg hf => by
      rcases hm.fp g hf with h1 | h1
      · exact h.out p hp g hg h1
      · have := h.lt p hp g hg
        omega,
    fun g hg hf => by
      rcases hm.fp g hf with h1 | h1
      · exact h.outA g hg h1
      · have := h.ltA g hg
        omega⟩
set_option maxRecDepth 20000 in
set_option maxHeartbeats 8000000 in
theorem bookLives_walk (w : World) (A : Option Addr) (m c : Nat) (l : List SB) (_ : l.length = m) (hr : Reads w w.heap.size 1 A m (l.flatMap fun x => [x.v])) (hi : ∀ x ∈ l, SB.ok w x) :
    Calls Try.prog 14 #[.slice A m c] w fun e w' => e = .returned (.bool true) ∧ Below w.heap.size w w' := by
  by_cases hbig : 30 < m
  · have hbi : (30 : Int) < (m : Int) := by omega
    go_enter Try.func14, Try.ntmps14
    go_wp2_with (go_at_call 43; refine (works6_any w).mono ?_; rintro e w2 ⟨rfl, hb2⟩)
    go_ret
    exact ⟨rfl, hb2⟩
  have hbi : ¬ (30 : Int) < (m : Int) := by omega
  obtain ⟨d1, hf, hst0⟩ := lives_start
  have HF := Lib.hid hf
  have HST := Lib.hid hst0
  have HI := Lib.hid hi
  obtain ⟨base, hbase⟩ : ∃ b, w.heap.size = b := ⟨_, rfl⟩
  have HBASE := Lib.hid hbase
  clear hf hst0 hi
  go_enter Try.func14, Try.ntmps14
  go_wp2_with fail
  refine (dnew_any w).mono ?_
  rintro e w1 ⟨l0, rfl, hD, hb⟩
  have hbb : Below w.heap.size w w1 ∧ base ≤ w1.heap.size := ⟨hb, by rw [← hbase]; exact hb.size⟩
  rw [hbase] at hD
  clear hb hbase
  simp only []
  obtain ⟨g, hlg⟩ : ∃ g, l0.g = g := ⟨_, rfl⟩
  rw [hlg]
  go_wp2_with fail
  refine (bformat_any w1 base l0 ds0 hD g hlg hbb.2 (by decide) 0 (by omega)).mono ?_
  rw [HF.out]
  rintro e w2 ⟨l1, rfl, hlg1, hD1, hm⟩
  have hbb := base_moved hbb (Nat.le_of_eq HBASE.out) hD hm
  simp only [] at hD1 ⊢
  clear hm hD hlg
  go_wp2_with fail
  go_loopw [4, 5] (fun rv iv wr => ∃ (k : Nat) (d : DS) (l' : DL) (rs : List (List UInt8)) (q : Int) (z : Nat) (A' : Option Addr) (N c' : Nat) (ps : List Pt), k ≤ m ∧ iv = .int .i64 (k : Int) ∧ rv = .slice A' N c' ∧ LvSt d k rs q z ∧ DiskAt wr base l' d ∧ l'.g = g ∧ Row wr l' base A' N c' ps ∧ ps.map (·.xs) = rs ∧ Below w.heap.size w wr ∧ base ≤ wr.heap.size) (fun _ iv _ => m - (intOf iv).toNat)
  case atStart => exact ⟨0, d1, l1, [], 20, 1, none, 0, 0, [], Nat.zero_le _, rfl, rfl, HST.out, hD1, hlg1, Row.nil _ _ _, rfl, hbb.1, hbb.2⟩
  case round =>
    clear hbb hD1 hlg1
    obtain ⟨k, d, l', rs, q, z, A', N, c', ps, hk, rfl, rfl, hst, hDk, hlk, hRow, hxs, hbk, hbks⟩ := hrel
    by_cases hkm : k < m
    · obtain ⟨ad, ⟨A1, n, z1, b⟩, e, hxl, hadl, q0⟩ := sb_atB hr hkm
      cases e
      obtain ⟨hR1, hnz, _⟩ := HI.out _ hxl
      simp only [SB.v] at q0 hR1 hnz
      have hl1 := hR1.len
      obtain ⟨Pa, hPa⟩ : ∃ P, ad.add k = P := ⟨_, rfl⟩
      have Q0 : Hid (∀ z, Below w.heap.size w z → z.cell? Pa = some (.slice A1 n z1)) := Lib.hid (fun z hz => by rw [hPa] at hadl q0; exact (hz.cell hadl).trans q0)
      have HL1 := Lib.hid hl1
      have g1 : (k : Int) < (m : Int) := by omega
      have g0 : (0 : Int) ≤ (k : Int) := by omega
      clear hxl q0 hl1 hadl
      have c0 := Q0.out _ hbk
      by_cases hb1 : 300 < n
      · have hb1' : (300 : Int) < (n : Int) := by omega
        clear hb1
        go_wp2_with (go_at_call 43; refine (works6_any _).mono ?_; rintro e w2 ⟨rfl, hb2⟩)
        go_ret
        exact ⟨rfl, below_next' hbk hb2⟩
      have hb1' : ¬ (300 : Int) < (n : Int) := by omega
      obtain ⟨M, hM, hst1⟩ := hst.st
      have hqk := hst.q_
      obtain ⟨d', op⟩ := hst1.op hst.f (by omega) (by omega) 1000 (by omega)
      have HOP := Lib.hid op
      have hqq := hst1.q_
      have hlo : d.loose.length < 900000000 := by rw [hst.l]; decide
      have hob : openCell d' 0 = ⟨0, be 8 (k + 1), (opF d' 0).1, false⟩ := by rw [openCell, op.of_]
      have HOB := Lib.hid hob
      clear op hst1 hst hob
      go_wp2_with fail
      refine (bopen_any wr base l' d hDk g hlk hbks hlo 0 1000).mono ?_
      rw [HOP.out.e, HOP.out.d_, HOP.out.s, HOP.out.a]
      rintro e w4 ⟨l3, hlg3, hD3, hm, (⟨h, _⟩ | ⟨_, k2, A2, N2, c2, ps2, rfl, hk2, hB2, hR2, hxs2⟩)⟩
      · exact absurd rfl h
      have hbb := base_moved ⟨hbk, hbks⟩ (Nat.le_of_eq HBASE.out) hDk hm
      have hkA : ∀ x, A'.map (·.block) = some x → x ≠ k2 := fun x hx => by have := (hRow.ltA x hx).2; omega
      have hkP : ∀ p ∈ ps, ∀ x, p.A.map (·.block) = some x → x ≠ k2 := fun p hp x hx => by have := hRow.lt p hp x hx; omega
      have hRow := hRow.moved hm
      have hN2 : N2 ≤ 100000 := by
        have h1 := hR2.len
        have h2 := congrArg List.length hxs2
        rw [List.length_map] at h2
        simp only at h2
        omega
      simp only []
      clear hm hDk hlk hlo hbk hbks c0 hk2
      go_wp2_with fail
      refine (same_any w4 A2 N2 c2 ps2 hR2.reads A' N c' ps hRow.reads hN2 (hxs2.trans hxs.symm)).mono ?_
      rintro e w5 ⟨rfl, hb5⟩
      have hbb := below_base hbb hb5
      have hD3 := hD3.below hb5
      have hRow := hRow.below hb5
      have hB2 := hB2.below hb5
      simp only []
      clear hb5 hR2 hxs2
      go_wp2_with fail
      refine (copen_any w5 base l3 d' hD3 g hlg3 hbb.2 0 (by omega)).mono ?_
      rw [HOP.out.oe, HOB.out]
      rintro e w6 ⟨(⟨h, _⟩ | ⟨_, k3, rfl, hC, _⟩), hb6⟩
      · exact absurd rfl h
      have hbb := below_base hbb hb6
      have hD3 := hD3.below hb6
      have hRow := hRow.below hb6
      have hB2 := hB2.below hb6
      simp only []
      clear hb6
      go_wp2_with fail
      refine (cget_any w6 base l3 k3 _ hC).mono ?_
      simp only [be_length]
      rintro e w7 ⟨A7, c7, rfl, _, hb7⟩
      have hbb := below_base hbb hb7
      have hD3 := hD3.below hb7
      have hRow := hRow.below hb7
      have hB2 := hB2.below hb7
      have hC := hC.below hb7
      clear hb7
      go_wp2_with fail
      refine (cget_any w7 base l3 k3 _ hC).mono ?_
      simp only [be_length]
      rintro e w8 ⟨A8, c8, rfl, hO8, hb8⟩
      have hbb := below_base hbb hb8
      have hD3 := hD3.below hb8
      have hRow := hRow.below hb8
      have hB2 := hB2.below hb8
      obtain ⟨gA, hA8⟩ := OB.at0 hO8 (by decide)
      subst hA8
      obtain ⟨ad8, e8, _, hc8⟩ := hO8.reads.at_ (k := 7) (by decide)
      cases e8
      have h7 : (⟨gA, 0, none⟩ : Addr).add 7 = ⟨gA, 7, none⟩ := by unfold Addr.add; split <;> simp_all
      rw [h7, be_last (k + 1) (by omega)] at hc8
      clear h7
      have c0 := Q0.out _ hbb.1
      clear hb8 hO8 hC
      have hbb0 := hbb
      by_cases hz0 : n = 0
      · subst hz0
        clear hB2
        go_wp2_with fail
        obtain ⟨M', hst2⟩ : ∃ M', BookSt d' 0 1000 (k + 1) M' (2 + (k + 1)) rs q z ∧ M' ≤ k + 1 + 1 := ⟨k + 1, HOP.out.st, by omega⟩
        exact ⟨⟨k + 1, d', l3, rs, q, z, A', N, c', ps, by omega, congrArg (Value.int .i64) (by omega), rfl, ⟨⟨M', hst2.2, hst2.1⟩, HOP.out.f, HOP.out.l, by omega⟩, hD3, hlg3, hRow, hxs, hbb.1, hbb.2⟩, by simp only [intOf]; omega⟩
      · have hnp : (0 : Int) < (n : Int) := by omega
        have hbl : b.length ≤ 300 := by have := HL1.out; omega
        have hP3 : pagesN b.length ≤ 3 := by unfold pagesN; omega
        obtain ⟨d3, ap⟩ := HOP.out.st.ap (Nat.le_refl _) (by omega) HOP.out.f (by omega) (by omega : q + (pagesN b.length : Int) ≤ 1000)
        have hae := ap.e
        have HAE := Lib.hid hae
        have HAP := Lib.hid ap
        have hbnd : 0 ≤ q ∧ q ≤ 32768 ∧ (1000 : Int) ≤ 32768 ∧ rs.length ≤ 32767 ∧ k + 1 < 2 ^ 64 := by omega
        have HB := Lib.hid hbnd
        have HP3 := Lib.hid hP3
        have hlo : d'.loose.length < 800000000 := by rw [HOP.out.l]; decide
        have hrb := hR1.below hbb.1
        clear hae ap hbnd hP3
        go_wp2_with fail
        refine (bappend_any w8 base l3 d' hD3 hbb.2 hlo k2 _ hB2 HB.out A1 n z1 b hrb (by omega)).mono ?_
        rw [HAE.out]
        rintro e w9 ⟨l4, rfl, hl4, hD4, hB4, hm4⟩
        have hbb := base_cmoved hbb (Nat.le_of_eq HBASE.out) hD3 hB2 hm4
        have hRow := hRow.cmoved hm4 hkA hkP
        have c0 := Q0.out _ hbb.1
        have hwb := HBASE.out
        have hA1b : ∀ x, A1.map (·.block) = some x → x < w.heap.size := fun x hx => by
          obtain ⟨ad1, e, hlt, _⟩ := hR1.2 (by omega)
          rw [e] at hx
          cases hx
          exact hlt
        have hlt4 : ∀ x, l4.fp x → x < w9.heap.size := fun x hx => (hD4.fp_lt hx).2
        have hpt : PtOk w9 ⟨A1, n, z1, b⟩ := ⟨hR1.below hbb.1, hnz⟩
        have hpn : ∀ x, A1.map (·.block) = some x → x < w9.heap.size ∧ ¬ l4.fp x := fun x hx => ⟨by have h1 := hA1b x hx; have h2 := hbb.2; omega, fun hf => by have h1 := hA1b x hx; have h2 := (hD4.fp_lt hf).1; omega⟩
        have hap : Apart A' A1 := fun x hx hx1 => by have h1 := hA1b x hx1; have h2 := (hRow.ltA x hx).1; omega
        have hNl : N < 1000000 := by
          have h1 := hRow.len
          have h2 := congrArg List.length hxs
          rw [List.length_map] at h2
          omega
        simp only [] at hD4 ⊢
        clear hD3 hB2 hm4 hlo hrb hB4 hbb0
        go_wp2_with (at_builtin; refine app_slice rfl _ _ rfl l4 hlt4 base A' N c' ps rfl hRow ⟨A1, n, z1, b⟩ hpt hpn hap 22 _ rfl rfl hNl hbb.2 ?_; intro A9 c9 w10 hR10 hb10 hg10)
        have hb9 := below_alloc w9 (.cells #[(⟨A1, n, z1, b⟩ : Pt).v] 22)
        have hD10 : DiskAt w10 base l4 d3 := (hD4.below hb9).kept (Chg.of_grown' (F := fun x => A'.map (·.block) = some x) hg10 (fun g hg => hg)) (fun x hx hf => hRow.outA x hf hx)
        have hbw : Below w.heap.size w w10 := (below_next' hbb.1 hb9).trans (hb10.mono (Nat.le_of_eq hwb))
        exact ⟨⟨k + 1, d3, l4, rs ++ [b], q + (pagesN b.length : Int), k + 1, A9, N + 1, c9, ps ++ [⟨A1, n, z1, b⟩], by omega, congrArg (Value.int .i64) (by omega), rfl, ⟨⟨k + 1, by omega, HAP.out.st⟩, HAP.out.f, HAP.out.l, by have := HP3.out; omega⟩, hD10, hl4.trans hlg3, hR10, by rw [List.map_append, hxs]; rfl, hbw, by rw [← hwb]; exact hbw.size⟩, by simp only [intOf]; omega⟩
    · have g1 : ¬ (k : Int) < (m : Int) := by omega
      have hbk := hbk
      go_wp2_with (go_at_call 43; refine (works6_any _).mono ?_; rintro e w2 ⟨rfl, hb2⟩)
      go_ret
      exact ⟨rfl, below_next' hbk hb2⟩
end Go.Proofs.Ytmjdfajdompkeaa
