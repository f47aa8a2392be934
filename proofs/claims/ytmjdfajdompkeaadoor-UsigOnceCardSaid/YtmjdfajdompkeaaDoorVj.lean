/- The law UsigApart, walked. -/
import Derived.Test.YtmjdfajdompkeaaDoorVi
import Derived.Test.YtmjdfajdompkeaaDoorUo
namespace Go.Proofs.YtmjdfajdompkeaaDoor
open Go.RowKit Go.Rat
theorem UCalm.up {d : DS} {p : Int} {s : US} {K K' : Nat} (h : UCalm d p s K) (hk : K ≤ K') (h6 : K' + 1 < 2 ^ 64) : UCalm d p s K' := by
  obtain ⟨N, hc⟩ := h.cell
  exact ⟨⟨N, hc.up hk h6⟩, h.p_, h.dead, h.fuse, h.has⟩
/-- Two counters on one disk. -/
structure Ap7 (d : DS) (sa sb : US) (K : Nat) : Prop where
  a : UCalm d 0 sa K
  b : UCalm d 20 sb K
  ia : sa.i = 1
  ib : sb.i = 2
  l : d.loose = []
theorem ap7_start : ∃ d0 d1, fmF ds0 0 = (d0, 0) ∧ fmF d0 20 = (d1, 0) ∧ d0.loose = [] ∧ Ap7 d1 ⟨1, 0, [], ⟨0, [], 0, false⟩⟩ ⟨2, 0, [], ⟨20, [], 0, false⟩⟩ 2 := by
  obtain ⟨f1, f2, f3, f4, f5⟩ := ucalm_format (d := ds0) (p := 0) (by omega) rfl rfl 1
  obtain ⟨g1, g2, g3, g4, g5⟩ := ucalm_format (d := (fmF ds0 0).1) (p := 20) (by omega) f5 f2.fuse 2
  exact ⟨_, _, Prod.ext rfl f1, Prod.ext rfl g1, f3, f2.keep g5 g2.fuse (fun a h1 h2 => g4 a (by omega)), g2, rfl, rfl, g3⟩
theorem Ap7.na {d : DS} {sa sb : US} {K : Nat} (h : Ap7 d sa sb K) (n : Nat) (tb : List Int) {b : List UInt8} (hb : b.length ≤ 1024) (hn : sa.n < 1000) (hK : K < 1000) :
    ∃ d' c', nextU n tb d sa b = (d', ⟨1, sa.n + 1, b, c'⟩, sa.n + 1, H.numF n tb 1 (sa.n + 1) b, 0) ∧ Ap7 d' ⟨1, sa.n + 1, b, c'⟩ sb (K + 1) := by
  have h64 : (2 : Nat) ^ 64 = 18446744073709551616 := by decide
  obtain ⟨d', c', e1, e2, e3, e4, _⟩ := h.a.next n tb hb (by omega) (by omega)
  have hi := h.ia
  refine ⟨d', c', by rw [← hi]; exact e1, by rw [← hi]; exact e2, (h.b.keep e2.off e2.fuse (fun a h1 h2 => e4 a (by omega))).up (Nat.le_succ K) (by omega), rfl, h.ib, e3⟩
theorem Ap7.nb {d : DS} {sa sb : US} {K : Nat} (h : Ap7 d sa sb K) (n : Nat) (tb : List Int) {b : List UInt8} (hb : b.length ≤ 1024) (hn : sb.n < 1000) (hK : K < 1000) :
    ∃ d' c', nextU n tb d sb b = (d', ⟨2, sb.n + 1, b, c'⟩, sb.n + 1, H.numF n tb 2 (sb.n + 1) b, 0) ∧ Ap7 d' sa ⟨2, sb.n + 1, b, c'⟩ (K + 1) := by
  have h64 : (2 : Nat) ^ 64 = 18446744073709551616 := by decide
  obtain ⟨d', c', e1, e2, e3, e4, _⟩ := h.b.next n tb hb (by omega) (by omega)
  have hi := h.ib
  refine ⟨d', c', by rw [← hi]; exact e1, (h.a.keep e2.off e2.fuse (fun a h1 h2 => e4 a (by omega))).up (Nat.le_succ K) (by omega), by rw [← hi]; exact e2, h.ia, rfl, e3⟩
abbrev Turn := Bool × SB
def turnC (x : Turn) : List Value := [.bool x.1] ++ [x.2.v]
theorem turn_at {w : World} {A : Option Addr} {n : Nat} {l : List Turn} (h : Reads w w.heap.size 2 A n (l.flatMap turnC)) {k : Nat} (hk : k < n) :
    ∃ ad x, A = some ad ∧ x ∈ l ∧ (ad.add (k * 2)).block < w.heap.size ∧ w.cell? (ad.add (k * 2)) = some (.bool x.1) ∧ w.cell? ⟨(ad.add (k * 2)).block, (ad.add (k * 2)).off + 1, none⟩ = some x.2.v := by
  obtain ⟨ad, rfl, hb, hc⟩ := h.2 (by omega)
  have hlen := flat_len turnC 2 (fun _ => rfl) l
  have hkl : k < l.length := by have := h.1; omega
  have hg : l[k]? = some l[k] := List.getElem?_eq_getElem hkl
  have F := flat_get turnC 2 (fun _ => rfl) l k
  refine ⟨ad, l[k], rfl, List.getElem_mem hkl, by rw [block_of_add]; exact hb, ?_, ?_⟩
  · exact hc _ _ (by have := F 0 _ hg (by omega); simpa [turnC] using this)
  · rw [add_field _ _ _ (by omega)]
    exact hc _ _ (by have := F 1 _ hg (by omega); simpa [turnC] using this)
theorem arr2_ne8 : (48 : TypeId) ≠ 5 := by decide
theorem arr2_neU : (48 : TypeId) ≠ 85 := by decide
theorem arr2_neC : (48 : TypeId) ≠ 76 := by decide
/-- Where the two counters stand, and how many each gave. -/
structure Ap7At (w : World) (base : Nat) (l : DL) (d : DS) (g k1 c1 k2 c2 gm : Nat) (sa sb : US) (cs : Array Value) : Prop where
  D : DiskAt w base l d
  g : l.g = g
  A : UsigAt w base l k1 c1 sa
  B : UsigAt w base l k2 c2 sb
  M : Blk w gm 48 cs
  nf : ¬ l.fp gm
  gb : base ≤ gm
  ne : k1 ≠ k2
  nc : c1 ≠ c2
section
variable {w w' : World} {base : Nat} {l l' : DL} {d d' : DS} {g k1 c1 k2 c2 gm : Nat} {sa sb s' : US} {cs : Array Value}
theorem Ap7At.below (h : Ap7At w base l d g k1 c1 k2 c2 gm sa sb cs) (hb : Below w.heap.size w w') : Ap7At w' base l d g k1 c1 k2 c2 gm sa sb cs :=
  ⟨h.D.below hb, h.g, h.A.below hb, h.B.below hb, h.M.below hb h.M.lt, h.nf, h.gb, h.ne, h.nc⟩
theorem UMoved.blk {k kc x : Nat} {T : TypeId} {cs : Array Value} {s : US} (hm : UMoved w w' l l' k kc) (hU : UsigAt w base l k kc s) (hB : Blk w x T cs) (hf : ¬ l.fp x) (h1 : T ≠ 85) (h2 : T ≠ 76) : Blk w' x T cs ∧ ¬ l'.fp x := by
  obtain ⟨_, _, _, b1, _⟩ := hU.blk
  obtain ⟨_, _, _, b2, _⟩ := hU.cell.blk
  refine ⟨hm.chg.blk hB ?_, fun q => ?_⟩
  · rintro (q | q | q)
    · exact hf q
    · exact blk_type_ne hB b1 h1 q
    · exact blk_type_ne hB b2 h2 q
  · rcases hm.fp x q with q | q
    · exact hf q
    · have := hB.lt
      omega
theorem Ap7At.na (h : Ap7At w base l d g k1 c1 k2 c2 gm sa sb cs) (hm : UMoved w w' l l' k1 c1) (hD : DiskAt w' base l' d') (hg : l'.g = g) (hU : UsigAt w' base l' k1 c1 s') : Ap7At w' base l' d' g k1 c1 k2 c2 gm s' sb cs := by
  obtain ⟨q1, q2⟩ := hm.blk h.A h.M h.nf arr2_neU arr2_neC
  exact ⟨hD, hg, hU, h.B.beside h.A hm (fun e => h.ne e.symm) (fun e => h.nc e.symm), q1, q2, h.gb, h.ne, h.nc⟩
theorem Ap7At.nb (h : Ap7At w base l d g k1 c1 k2 c2 gm sa sb cs) (hm : UMoved w w' l l' k2 c2) (hD : DiskAt w' base l' d') (hg : l'.g = g) (hU : UsigAt w' base l' k2 c2 s') : Ap7At w' base l' d' g k1 c1 k2 c2 gm sa s' cs := by
  obtain ⟨q1, q2⟩ := hm.blk h.B h.M h.nf arr2_neU arr2_neC
  exact ⟨hD, hg, h.A.beside h.B hm h.ne h.nc, hU, q1, q2, h.gb, h.ne, h.nc⟩
theorem Ap7At.set (h : Ap7At w base l d g k1 c1 k2 c2 gm sa sb cs) (i : Nat) (v : Value) : Ap7At (w.setCell ⟨gm, i, none⟩ v) base l d g k1 c1 k2 c2 gm sa sb (cs.setIfInBounds i v) := by
  have hg := grownBy_set w gm i v
  have hc : Chg (fun x => x = gm) w (w.setCell ⟨gm, i, none⟩ v) := Chg.of_grown hg rfl
  obtain ⟨_, _, _, b1, _⟩ := h.A.blk
  obtain ⟨_, _, _, b2, _⟩ := h.A.cell.blk
  obtain ⟨_, _, _, b3, _⟩ := h.B.blk
  obtain ⟨_, _, _, b4, _⟩ := h.B.cell.blk
  refine ⟨h.D.beside hg h.nf, h.g, h.A.kept hc (fun e => blk_type_ne h.M b1 arr2_neU e.symm) (fun e => blk_type_ne h.M b2 arr2_neC e.symm) (fun x hx => ?_) rfl (fun _ q => .inl q), h.B.kept hc (fun e => blk_type_ne h.M b3 arr2_neU e.symm) (fun e => blk_type_ne h.M b4 arr2_neC e.symm) (fun x hx => ?_) rfl (fun _ q => .inl q), h.M.set_ i v, h.nf, h.gb, h.ne, h.nc⟩
  · subst hx
    exact .inr ⟨_, _, h.M, arr2_ne8⟩
  · subst hx
    exact .inr ⟨_, _, h.M, arr2_ne8⟩
end
theorem check_own {n : Nat} {tb : List Int} {i : Int} {x : Nat} {b : List UInt8} (hi : repB i = true) (hx : 1 ≤ x ∧ x ≤ 65536) (hb : b.length ≤ 1024) : checkU n tb i x b (H.numF n tb i x b) = true := by
  unfold checkU
  rw [hi, numB, decide_eq_true hx, decide_eq_true hb, decide_eq_true rfl]
  rfl
theorem check_who {n : Nat} {tb : List Int} {i : Int} {x : Nat} {b t : List UInt8} (hi : repB i = false) : checkU n tb i x b t = false := by
  unfold checkU
  rw [hi]
  rfl
theorem check_zero {n : Nat} {tb : List Int} {i : Int} {b t : List UInt8} : checkU n tb i 0 b t = false := by
  unfold checkU
  rw [show numB 0 = false from rfl]
  simp
set_option maxRecDepth 20000 in
set_option maxHeartbeats 8000000 in
theorem usigApart_any (n : Nat) (hn64 : n = 64) (w : World) (tb : List Int) (htb : H.tblL = tb) (hT : H.Tab w tb) (A : Option Addr) (m c : Nat) (l : List Turn) (hr : Reads w w.heap.size 2 A m (l.flatMap turnC)) (hi : ∀ x ∈ l, SB.ok w x.2) :
    Calls Tryd.prog 6 #[.slice A m c] w fun e w' => e = .returned (.bool true) ∧ Below w.heap.size w w' := by
  by_cases hbig : 40 < m
  · have hbi : (40 : Int) < (m : Int) := by omega
    go_enter Tryd.func6, Tryd.ntmps6
    go_wp2_with (go_at_call 9; refine (works7_any n hn64 w tb htb hT).mono ?_; rintro e w2 ⟨rfl, hb2⟩)
    go_ret
    exact ⟨rfl, hb2⟩
  have hbi : ¬ (40 : Int) < (m : Int) := by omega
  obtain ⟨d0, d1, f1, f2, f3, hst⟩ := ap7_start
  obtain ⟨n1, u1⟩ := hst.a.new (i := 1) (by decide)
  obtain ⟨n2, u2⟩ := hst.b.new (i := 2) (by decide)
  have o1 := hst.a.opens.2
  have o2 := hst.b.opens.2
  have hbl0 : d1.loose = [] := hst.l
  obtain ⟨base, hbase⟩ : ∃ b, w.heap.size = b := ⟨_, rfl⟩
  have HBASE := Lib.hid hbase
  have HN64 := Lib.hid hn64
  have HTB := Lib.hid htb
  have HF1 := Lib.hid f1
  have HF2 := Lib.hid f2
  have HF3 := Lib.hid f3
  have HST := Lib.hid hst
  have HN1 := Lib.hid n1
  have HN2 := Lib.hid n2
  have HO1 := Lib.hid o1
  have HO2 := Lib.hid o2
  have HI := Lib.hid hi
  clear f1 f2 f3 hst n1 n2 o1 o2 u1 u2 hn64 htb hi hbl0
  go_enter Tryd.func6, Tryd.ntmps6
  go_wp2_with fail
  refine (dnew_any w).mono ?_
  rintro e w1 ⟨l0, rfl, hD, hb⟩
  have hbb : Below w.heap.size w w1 ∧ base ≤ w1.heap.size := ⟨hb, by rw [← hbase]; exact hb.size⟩
  rw [hbase] at hD
  clear hb hbase
  simp only []
  obtain ⟨g, hlg⟩ : ∃ g, l0.g = g := ⟨_, rfl⟩
  rw [hlg]
  go_wp2_with fail
  refine (uformat_any w1 base l0 ds0 hD g hlg hbb.2 (by decide) 0 (by omega)).mono ?_
  rw [HF1.out]
  rintro e w2 ⟨l1, rfl, hlg1, hD1, hm⟩
  have hbb := base_moved hbb (Nat.le_of_eq HBASE.out) hD hm
  simp only []
  clear hm hD hlg
  go_wp2_with fail
  refine (uformat_any w2 base l1 d0 hD1 g hlg1 hbb.2 (by rw [HF3.out]; decide) 20 (by omega)).mono ?_
  rw [HF2.out]
  rintro e w3 ⟨l2, rfl, hlg2, hD2, hm⟩
  have hbb := base_moved hbb (Nat.le_of_eq HBASE.out) hD1 hm
  simp only [] at hD2 ⊢
  clear hm hD1 hlg1
  go_wp2_with fail
  refine (unew_any n HN64.out w3 base l2 d1 hD2 g hlg2 hbb.2 1 0 (by omega) tb (H.Tab.below hT hbb.1)).mono ?_
  rw [HN1.out, HO1.out]
  rintro e w4 ⟨(⟨h, _⟩ | ⟨_, k1, c1, m0, b0, rfl, hus, hU1, _, _⟩), hb⟩
  · exact absurd rfl h
  obtain ⟨rfl, rfl⟩ : m0 = 0 ∧ b0 = [] := by
    have := hus.symm.trans (show usigF ([] : List UInt8) = some (0, []) from rfl)
    injection this with this
    injection this with e1 e2
    exact ⟨e1, e2⟩
  have hbb := below_base hbb hb
  have hD2 := hD2.below hb
  simp only []
  clear hb hus
  go_wp2_with fail
  refine (unew_any n HN64.out w4 base l2 d1 hD2 g hlg2 hbb.2 2 20 (by omega) tb (H.Tab.below hT hbb.1)).mono ?_
  rw [HN2.out, HO2.out]
  rintro e w5 ⟨(⟨h, _⟩ | ⟨_, k2, c2, m0, b0, rfl, hus, hU2, hk2, hc2⟩), hb⟩
  · exact absurd rfl h
  obtain ⟨rfl, rfl⟩ : m0 = 0 ∧ b0 = [] := by
    have := hus.symm.trans (show usigF ([] : List UInt8) = some (0, []) from rfl)
    injection this with this
    injection this with e1 e2
    exact ⟨e1, e2⟩
  have hne : k1 ≠ k2 := by have := hU1.lt; omega
  have hnc : c1 ≠ c2 := by have := hU1.cell.lt; omega
  have hbb := below_base hbb hb
  have hD2 := hD2.below hb
  have hU1 := hU1.below hb
  simp only []
  clear hb hus hk2 hc2
  go_upto_region 11 with (fail)
  have hM := Blk.new w5 48 #[.int .u64 0, .int .u64 0]
  have hb := below_alloc w5 (.cells #[.int .u64 0, .int .u64 0] 48)
  have hmf : ¬ l2.fp w5.heap.size := fun hf => by have := (hD2.fp_lt hf).2; omega
  have hmb := hbb.2
  obtain ⟨w6, hw6⟩ : ∃ x, w5.alloc (.cells #[.int .u64 0, .int .u64 0] 48) = x := ⟨_, rfl⟩
  rw [hw6] at hM hb ⊢
  have hAp : Ap7At w6 base l2 d1 g k1 c1 k2 c2 w5.heap.size ⟨1, 0, [], ⟨0, [], 0, false⟩⟩ ⟨2, 0, [], ⟨20, [], 0, false⟩⟩ #[.int .u64 ((0 : Nat) : Int), .int .u64 ((0 : Nat) : Int)] :=
    ⟨hD2.below hb, hlg2, hU1.below hb, hU2.below hb, hM, hmf, hmb, hne, hnc⟩
  have hbb := below_base hbb hb
  obtain ⟨gm, hgm⟩ : ∃ x, w5.heap.size = x := ⟨_, rfl⟩
  rw [hgm] at hAp ⊢
  clear hb hM hmf hmb hw6 hgm hD2 hU1 hU2 hne hnc hlg2
  go_upto_block 0 with (fail)
  have hbb1 := hbb.1
  have hbb2 := hbb.2
  go_cut [] (fun wx => ∃ (d : DS) (l' : DL) (sa sb : US), Ap7At wx base l' d g k1 c1 k2 c2 gm sa sb #[.int .u64 (sa.n : Int), .int .u64 (sb.n : Int)] ∧ Below w.heap.size w wx ∧ base ≤ wx.heap.size)
  case first =>
    go_wp2_with fail
    go_loopw [9] (fun i wr => ∃ (k : Nat) (d : DS) (l' : DL) (sa sb : US), k ≤ m ∧ i = .int .i64 (k : Int) ∧ Ap7 d sa sb (2 + k) ∧ sa.n ≤ k ∧ sb.n ≤ k ∧ Ap7At wr base l' d g k1 c1 k2 c2 gm sa sb #[.int .u64 (sa.n : Int), .int .u64 (sb.n : Int)] ∧ Below w.heap.size w wr ∧ base ≤ wr.heap.size) (fun i _ => m - (intOf i).toNat)
    case atStart => exact ⟨0, d1, l2, _, _, Nat.zero_le _, rfl, HST.out, Nat.le_refl _, Nat.le_refl _, hAp, hbb1, hbb2⟩
    case round =>
      clear hbb hbb1 hbb2 hAp
      obtain ⟨k, d, l', sa, sb, hk, rfl, hst, hna, hnb, hAp, hbk, hbks⟩ := hrel
      by_cases hkm : k < m
      · obtain ⟨ad, ⟨sec, ⟨A1, n1, z1, b⟩⟩, e, hxl, hadl, q0, q1⟩ := turn_at hr hkm
        cases e
        obtain ⟨hR1, hnc1, _⟩ := HI.out _ hxl
        simp only [SB.v] at q0 q1 hR1 hnc1
        have hl1 := hR1.len
        obtain ⟨P, hP⟩ : ∃ P, ad.add (k * 2) = P := ⟨_, rfl⟩
        rw [hP] at hadl q0 q1
        have Q0 : Hid (∀ z, Below w.heap.size w z → z.cell? P = some (.bool sec)) := Lib.hid (fun z hz => (hz.cell hadl).trans q0)
        have Q1 : Hid (∀ z, Below w.heap.size w z → z.cell? ⟨P.block, P.off + 1, none⟩ = some (.slice A1 n1 z1)) := Lib.hid (fun z hz => (hz.cell (p := ⟨P.block, P.off + 1, none⟩) hadl).trans q1)
        have HL1 := Lib.hid hl1
        have HSTK := Lib.hid hst
        have hbb : Below w.heap.size w wr ∧ base ≤ wr.heap.size := ⟨hbk, hbks⟩
        have g1 : (k : Int) < (m : Int) := by omega
        have g0 : (0 : Int) ≤ (k : Int) := by omega
        clear hxl q0 q1 hl1 hbk hbks hst hadl
        have c0 := Q0.out _ hbb.1
        have c1' := Q1.out _ hbb.1
        by_cases hb1 : 1024 < n1
        · have hb1' : (1024 : Int) < (n1 : Int) := by omega
          clear hb1
          go_wp2_with (go_at_call 9; refine (works7_any n HN64.out _ tb HTB.out (H.Tab.below hT hbb.1)).mono ?_; rintro e w2 ⟨rfl, hb2⟩)
          go_ret
          exact ⟨rfl, below_next' hbb.1 hb2⟩
        · have hb1' : ¬ (1024 : Int) < (n1 : Int) := by omega
          have hbl : b.length ≤ 1024 := by have := HL1.out; omega
          clear hb1
          cases sec
          · obtain ⟨d', c', e1, e2⟩ := HSTK.out.na n tb hbl (by omega) (by omega)
            have hp := HSTK.out.a.p_
            have hL := HSTK.out.l
            obtain ⟨N, hN⟩ : ∃ N, sa.n = N := ⟨_, rfl⟩
            have hol := H.numF_length n tb 1 (N + 1) b
            have hk1 : checkU n tb 1 (N + 1) b (H.numF n tb 1 (N + 1) b) = true := check_own (by decide) (by omega) hbl
            rw [hN] at e1 e2
            obtain ⟨F, hF⟩ : ∃ F, H.numF n tb 1 (N + 1) b = F := ⟨_, rfl⟩
            rw [hF] at e1 hol hk1
            have hk2 : checkU n tb 0 (N + 1) b F = false := check_who (by decide)
            have hk3 : checkU n tb 1 0 b F = false := check_zero
            have HE1 := Lib.hid e1
            have HE2 := Lib.hid e2
            have HK1 := Lib.hid hk1
            have HK2 := Lib.hid hk2
            have HK3 := Lib.hid hk3
            have HN := Lib.hid hN
            have hFs : (bvs F).toArray.size = 32 := by rw [bvs_size, hol]
            have hNb : N ≤ k := by rw [← hN]; assumption
            clear e1 e2 hk1 hk2 hk3 hF
            go_wp2_with fail
            refine (unext_any n HN64.out wr base l' d hAp.D g hAp.g hbb.2 (by rw [hL]; decide) k1 c1 sa hAp.A (by omega) A1 n1 z1 b (hR1.below hbb.1) hnc1 (arg_out hR1 (Nat.le_of_eq HBASE.out) hAp.D hAp.A) tb w hT hbb.1 (Nat.le_of_eq HBASE.out)).mono ?_
            rw [HE1.out]
            rintro e w7 ⟨l3, rfl, hlg3, hD3, hU3, hm⟩
            have hbb := base_umoved hbb (Nat.le_of_eq HBASE.out) hAp.D hAp.A hm
            simp only [] at hD3 hU3 ⊢
            have hAp := hAp.na hm hD3 hlg3 hU3
            have hAp7 := hAp
            have hN1 : ((N + 1 : Nat) : Int) = (N : Int) + 1 := by omega
            rw [hN1]
            rw [hN] at hAp
            clear hm hD3 hU3 hlg3 c0 c1' hN1
            repeat (first
              | ((with_reducible refine wpl_store_fresh (bvs F).toArray i32 ?_ hFs (bvs_all _) ?_ ?_ ?_); (focus kernel_rfl); (focus rfl); (focus rfl); intro w8 hS8 hl8 hb8; simp only [Act.put]; refine Hid.out ?_)
              | go_values | go_skip | go_guarded | go_step | go_upon | go_back)
            refine Lib.hid ?_
            have hbb := below_base hbb hb8
            have hAp := hAp.below hb8
            have hgF : ¬ l3.fp w7.heap.size := fun hf => by have := (hAp7.D.fp_lt hf).2; omega
            obtain ⟨g13, hg13⟩ : ∃ x, w7.heap.size = x := ⟨_, rfl⟩
            rw [hg13] at hS8 hgF ⊢
            have hne13 : g13 ≠ gm := fun e => blk_type_ne hS8 hAp.M (by decide) e
            clear hb8 hl8 hg13 hAp7
            have m0 := hAp.M.cell 0
            have mf := hAp.M.frozen 0
            simp only [List.getElem?_toArray, List.getElem?_cons_zero] at m0
            go_wp2_with fail
            have hAp := hAp.set 0 (.int .u64 ((N : Int) + 1))
            simp only [List.setIfInBounds_toArray, List.set_cons_zero] at hAp
            have hgs := grownBy_set w8 gm 0 (.int .u64 ((N : Int) + 1))
            have hbb : Below w.heap.size w (w8.setCell ⟨gm, 0, none⟩ (.int .u64 ((N : Int) + 1))) ∧ base ≤ (w8.setCell ⟨gm, 0, none⟩ (.int .u64 ((N : Int) + 1))).heap.size :=
              ⟨hbb.1.grown hgs hbb.1.size (fun q hq => by cases hq; exact Nat.le_trans (Nat.le_of_eq HBASE.out) hAp.gb), Nat.le_trans hbb.2 hgs.size⟩
            have hS8 := hS8.grown hgs (by intro e; injection e with e; exact hne13 e)
            obtain ⟨w9, hw9⟩ : ∃ x, w8.setCell ⟨gm, 0, none⟩ (.int .u64 ((N : Int) + 1)) = x := ⟨_, rfl⟩
            rw [hw9] at hAp hbb hS8 ⊢
            clear hw9 hgs m0 mf
            have m0 := hAp.M.cell 0
            simp only [List.getElem?_toArray, List.getElem?_cons_zero] at m0
            have QS : ∀ z, (Below w.heap.size w z ∧ Blk z g13 24 (bvs F).toArray ∧ z.cell? ⟨gm, 0, none⟩ = some (.int .u64 ((N : Int) + 1))) → z.cell? ⟨P.block, P.off + 1, none⟩ = some (.slice A1 n1 z1) := fun z hz => Q1.out z hz.1
            refine wp_region_plan [(0, true), (1, true), (2, true), (3, true), (4, true), (5, true), (6, true), (7, true), (8, true), (9, true), (10, true), (11, true), (12, true), (13, true), (14, true), (15, true), (16, true), (17, true), (18, true), (19, false), (20, true), (21, true), (22, true), (23, true), (24, true), (25, true), (26, true), (27, true), (28, true), (29, true), (30, false), (31, true), (32, true), (33, true), (34, true), (35, true), (36, true), (37, true), (38, true), (39, true), (40, true), (41, false), (42, true)] (fun z => Below w.heap.size w z ∧ Blk z g13 24 (bvs F).toArray ∧ z.cell? ⟨gm, 0, none⟩ = some (.int .u64 ((N : Int) + 1))) (by kernel_rfl) (by kernel_rfl) (by kernel_rfl) (by kernel_rfl) (fun _ _ d _ _ h => by cases d <;> exact h) ⟨hbb.1.drew, hS8, m0⟩ ?_
            simp only [planOps, List.getElem?_toArray, List.getElem?_cons_zero, List.getElem?_cons_succ]
            iterate 17 (refine wpS_q ?_ (by rfl) ?_ ?_; rotate_left; (focus (intro z hz; (try dsimp only at hz); go_simp; rfl)); simp only [Act.put, List.setIfInBounds_toArray, List.set_cons_zero, List.set_cons_succ])
            refine wpS_q (.slice A1 n1 z1) (by rfl) (fun z hz => by have := QS z hz; go_simp) ?_
            simp only [Act.put, List.setIfInBounds_toArray, List.set_cons_zero, List.set_cons_succ]
            refine wpS_q (.agg (bvs F).toArray) (by rfl) (fun z hz => load_row_run rfl g13 (bvs F).toArray Tryd.underlying24 rfl i32 hz.2.1 hFs rfl) ?_
            simp only [Act.put, List.setIfInBounds_toArray, List.set_cons_zero, List.set_cons_succ]
            have hN1 : ((N + 1 : Nat) : Int) = (N : Int) + 1 := by omega
            have hbd := below_base hbb (drew_below (w := w9))
            have hck := ucheck_any n HN64.out w9.drew 1 (N + 1) A1 n1 z1 b (hR1.below hbd.1) hnc1 F hol tb (H.Tab.below hT hbd.1)
            rw [hN1, HK1.out] at hck
            have hAp := hAp.below drew_below
            have hS8 := hS8.below drew_below hS8.lt
            clear m0 hbb
            refine wpS_l (by rfl) (fun K hK => ?_)
            go_wp2_with fail
            refine hck.mono ?_
            rintro e w10 ⟨rfl, hb10⟩
            have hbb := below_base hbd hb10
            have hAp := hAp.below hb10
            have hS8 := hS8.below hb10 hS8.lt
            have m0 := hAp.M.cell 0
            simp only [List.getElem?_toArray, List.getElem?_cons_zero] at m0
            refine hK _ _ _ ⟨hbb.1, hS8, m0⟩ (fun _ h => h) ?_
            clear hK hck hb10 hbd m0
            iterate 8 (refine wpS_q ?_ (by rfl) ?_ ?_; rotate_left; (focus (intro z hz; (try dsimp only at hz); go_simp; rfl)); simp only [Act.put, List.setIfInBounds_toArray, List.set_cons_zero, List.set_cons_succ])
            refine wpS_q (.slice A1 n1 z1) (by rfl) (fun z hz => by have := QS z hz; go_simp) ?_
            simp only [Act.put, List.setIfInBounds_toArray, List.set_cons_zero, List.set_cons_succ]
            refine wpS_q (.agg (bvs F).toArray) (by rfl) (fun z hz => load_row_run rfl g13 (bvs F).toArray Tryd.underlying24 rfl i32 hz.2.1 hFs rfl) ?_
            simp only [Act.put, List.setIfInBounds_toArray, List.set_cons_zero, List.set_cons_succ]
            have hck := ucheck_any n HN64.out w10 0 (N + 1) A1 n1 z1 b (hR1.below hbb.1) hnc1 F hol tb (H.Tab.below hT hbb.1)
            rw [hN1, HK2.out] at hck
            refine wpS_l (by rfl) (fun K hK => ?_)
            go_wp2_with fail
            refine hck.mono ?_
            rintro e w11 ⟨rfl, hb11⟩
            have hbb := below_base hbb hb11
            have hAp := hAp.below hb11
            have hS8 := hS8.below hb11 hS8.lt
            have m0 := hAp.M.cell 0
            simp only [List.getElem?_toArray, List.getElem?_cons_zero] at m0
            refine hK _ _ _ ⟨hbb.1, hS8, m0⟩ (fun _ h => h) ?_
            clear hK hck hb11 m0
            iterate 8 (refine wpS_q ?_ (by rfl) ?_ ?_; rotate_left; (focus (intro z hz; (try dsimp only at hz); go_simp; rfl)); simp only [Act.put, List.setIfInBounds_toArray, List.set_cons_zero, List.set_cons_succ])
            refine wpS_q (.slice A1 n1 z1) (by rfl) (fun z hz => by have := QS z hz; go_simp) ?_
            simp only [Act.put, List.setIfInBounds_toArray, List.set_cons_zero, List.set_cons_succ]
            refine wpS_q (.agg (bvs F).toArray) (by rfl) (fun z hz => load_row_run rfl g13 (bvs F).toArray Tryd.underlying24 rfl i32 hz.2.1 hFs rfl) ?_
            simp only [Act.put, List.setIfInBounds_toArray, List.set_cons_zero, List.set_cons_succ]
            have hck := ucheck_any n HN64.out w11 1 0 A1 n1 z1 b (hR1.below hbb.1) hnc1 F hol tb (H.Tab.below hT hbb.1)
            rw [HK3.out] at hck
            refine wpS_l (by rfl) (fun K hK => ?_)
            go_wp2_with fail
            refine hck.mono ?_
            rintro e w12 ⟨rfl, hb12⟩
            have hbb := below_base hbb hb12
            have hAp := hAp.below hb12
            have hS8 := hS8.below hb12 hS8.lt
            have m0 := hAp.M.cell 0
            simp only [List.getElem?_toArray, List.getElem?_cons_zero] at m0
            refine hK _ _ _ ⟨hbb.1, hS8, m0⟩ (fun _ h => h) ?_
            clear hK hck hb12 m0
            iterate 1 (refine wpS_q ?_ (by rfl) ?_ ?_; rotate_left; (focus (intro z hz; (try dsimp only at hz); go_simp; rfl)); simp only [Act.put, List.setIfInBounds_toArray, List.set_cons_zero, List.set_cons_succ])
            refine wpS_nil ?_
            rw [← hN1] at hAp
            go_wp2_with fail
            exact ⟨⟨k + 1, d', l3, _, sb, by omega, congrArg (Value.int .i64) (by omega), HE2.out, by simp only; omega, by omega, hAp, hbb.1, hbb.2⟩, by simp only [intOf]; omega⟩
          · obtain ⟨d', c', e1, e2⟩ := HSTK.out.nb n tb hbl (by omega) (by omega)
            have hp := HSTK.out.b.p_
            have hL := HSTK.out.l
            obtain ⟨N, hN⟩ : ∃ N, sb.n = N := ⟨_, rfl⟩
            have hol := H.numF_length n tb 2 (N + 1) b
            have hk1 : checkU n tb 2 (N + 1) b (H.numF n tb 2 (N + 1) b) = true := check_own (by decide) (by omega) hbl
            rw [hN] at e1 e2
            obtain ⟨F, hF⟩ : ∃ F, H.numF n tb 2 (N + 1) b = F := ⟨_, rfl⟩
            rw [hF] at e1 hol hk1
            have hk2 : checkU n tb 0 (N + 1) b F = false := check_who (by decide)
            have hk3 : checkU n tb 2 0 b F = false := check_zero
            have HE1 := Lib.hid e1
            have HE2 := Lib.hid e2
            have HK1 := Lib.hid hk1
            have HK2 := Lib.hid hk2
            have HK3 := Lib.hid hk3
            have HN := Lib.hid hN
            have hFs : (bvs F).toArray.size = 32 := by rw [bvs_size, hol]
            have hNb : N ≤ k := by rw [← hN]; assumption
            clear e1 e2 hk1 hk2 hk3 hF
            go_wp2_with fail
            refine (unext_any n HN64.out wr base l' d hAp.D g hAp.g hbb.2 (by rw [hL]; decide) k2 c2 sb hAp.B (by omega) A1 n1 z1 b (hR1.below hbb.1) hnc1 (arg_out hR1 (Nat.le_of_eq HBASE.out) hAp.D hAp.B) tb w hT hbb.1 (Nat.le_of_eq HBASE.out)).mono ?_
            rw [HE1.out]
            rintro e w7 ⟨l3, rfl, hlg3, hD3, hU3, hm⟩
            have hbb := base_umoved hbb (Nat.le_of_eq HBASE.out) hAp.D hAp.B hm
            simp only [] at hD3 hU3 ⊢
            have hAp := hAp.nb hm hD3 hlg3 hU3
            have hAp7 := hAp
            have hN1 : ((N + 1 : Nat) : Int) = (N : Int) + 1 := by omega
            rw [hN1]
            rw [hN] at hAp
            clear hm hD3 hU3 hlg3 c0 c1' hN1
            repeat (first
              | ((with_reducible refine wpl_store_fresh (bvs F).toArray i32 ?_ hFs (bvs_all _) ?_ ?_ ?_); (focus kernel_rfl); (focus rfl); (focus rfl); intro w8 hS8 hl8 hb8; simp only [Act.put]; refine Hid.out ?_)
              | go_values | go_skip | go_guarded | go_step | go_upon | go_back)
            refine Lib.hid ?_
            have hbb := below_base hbb hb8
            have hAp := hAp.below hb8
            have hgF : ¬ l3.fp w7.heap.size := fun hf => by have := (hAp7.D.fp_lt hf).2; omega
            obtain ⟨g13, hg13⟩ : ∃ x, w7.heap.size = x := ⟨_, rfl⟩
            rw [hg13] at hS8 hgF ⊢
            have hne13 : g13 ≠ gm := fun e => blk_type_ne hS8 hAp.M (by decide) e
            clear hb8 hl8 hg13 hAp7
            have m1 := hAp.M.cell 1
            have mf := hAp.M.frozen 1
            simp only [List.getElem?_toArray, List.getElem?_cons_zero, List.getElem?_cons_succ] at m1
            go_wp2_with fail
            have hAp := hAp.set 1 (.int .u64 ((N : Int) + 1))
            simp only [List.setIfInBounds_toArray, List.set_cons_zero, List.set_cons_succ] at hAp
            have hgs := grownBy_set w8 gm 1 (.int .u64 ((N : Int) + 1))
            have hbb : Below w.heap.size w (w8.setCell ⟨gm, 1, none⟩ (.int .u64 ((N : Int) + 1))) ∧ base ≤ (w8.setCell ⟨gm, 1, none⟩ (.int .u64 ((N : Int) + 1))).heap.size :=
              ⟨hbb.1.grown hgs hbb.1.size (fun q hq => by cases hq; exact Nat.le_trans (Nat.le_of_eq HBASE.out) hAp.gb), Nat.le_trans hbb.2 hgs.size⟩
            have hS8 := hS8.grown hgs (by intro e; injection e with e; exact hne13 e)
            obtain ⟨w9, hw9⟩ : ∃ x, w8.setCell ⟨gm, 1, none⟩ (.int .u64 ((N : Int) + 1)) = x := ⟨_, rfl⟩
            rw [hw9] at hAp hbb hS8 ⊢
            clear hw9 hgs m1 mf
            have m1 := hAp.M.cell 1
            simp only [List.getElem?_toArray, List.getElem?_cons_zero, List.getElem?_cons_succ] at m1
            have QS : ∀ z, (Below w.heap.size w z ∧ Blk z g13 24 (bvs F).toArray ∧ z.cell? ⟨gm, 1, none⟩ = some (.int .u64 ((N : Int) + 1))) → z.cell? ⟨P.block, P.off + 1, none⟩ = some (.slice A1 n1 z1) := fun z hz => Q1.out z hz.1
            refine wp_region_plan [(0, true), (1, true), (2, true), (3, true), (4, true), (5, true), (6, true), (7, true), (8, true), (9, true), (10, true), (11, true), (12, true), (13, true), (14, true), (15, true), (16, true), (17, true), (18, true), (19, false), (20, true), (21, true), (22, true), (23, true), (24, true), (25, true), (26, true), (27, true), (28, true), (29, true), (30, false), (31, true), (32, true), (33, true), (34, true), (35, true), (36, true), (37, true), (38, true), (39, true), (40, true), (41, false), (42, true)] (fun z => Below w.heap.size w z ∧ Blk z g13 24 (bvs F).toArray ∧ z.cell? ⟨gm, 1, none⟩ = some (.int .u64 ((N : Int) + 1))) (by kernel_rfl) (by kernel_rfl) (by kernel_rfl) (by kernel_rfl) (fun _ _ d _ _ h => by cases d <;> exact h) ⟨hbb.1.drew, hS8, m1⟩ ?_
            simp only [planOps, List.getElem?_toArray, List.getElem?_cons_zero, List.getElem?_cons_succ]
            iterate 17 (refine wpS_q ?_ (by rfl) ?_ ?_; rotate_left; (focus (intro z hz; (try dsimp only at hz); go_simp; rfl)); simp only [Act.put, List.setIfInBounds_toArray, List.set_cons_zero, List.set_cons_succ])
            refine wpS_q (.slice A1 n1 z1) (by rfl) (fun z hz => by have := QS z hz; go_simp) ?_
            simp only [Act.put, List.setIfInBounds_toArray, List.set_cons_zero, List.set_cons_succ]
            refine wpS_q (.agg (bvs F).toArray) (by rfl) (fun z hz => load_row_run rfl g13 (bvs F).toArray Tryd.underlying24 rfl i32 hz.2.1 hFs rfl) ?_
            simp only [Act.put, List.setIfInBounds_toArray, List.set_cons_zero, List.set_cons_succ]
            have hN1 : ((N + 1 : Nat) : Int) = (N : Int) + 1 := by omega
            have hbd := below_base hbb (drew_below (w := w9))
            have hck := ucheck_any n HN64.out w9.drew 2 (N + 1) A1 n1 z1 b (hR1.below hbd.1) hnc1 F hol tb (H.Tab.below hT hbd.1)
            rw [hN1, HK1.out] at hck
            have hAp := hAp.below drew_below
            have hS8 := hS8.below drew_below hS8.lt
            clear m1 hbb
            refine wpS_l (by rfl) (fun K hK => ?_)
            go_wp2_with fail
            refine hck.mono ?_
            rintro e w10 ⟨rfl, hb10⟩
            have hbb := below_base hbd hb10
            have hAp := hAp.below hb10
            have hS8 := hS8.below hb10 hS8.lt
            have m1 := hAp.M.cell 1
            simp only [List.getElem?_toArray, List.getElem?_cons_zero, List.getElem?_cons_succ] at m1
            refine hK _ _ _ ⟨hbb.1, hS8, m1⟩ (fun _ h => h) ?_
            clear hK hck hb10 hbd m1
            iterate 8 (refine wpS_q ?_ (by rfl) ?_ ?_; rotate_left; (focus (intro z hz; (try dsimp only at hz); go_simp; rfl)); simp only [Act.put, List.setIfInBounds_toArray, List.set_cons_zero, List.set_cons_succ])
            refine wpS_q (.slice A1 n1 z1) (by rfl) (fun z hz => by have := QS z hz; go_simp) ?_
            simp only [Act.put, List.setIfInBounds_toArray, List.set_cons_zero, List.set_cons_succ]
            refine wpS_q (.agg (bvs F).toArray) (by rfl) (fun z hz => load_row_run rfl g13 (bvs F).toArray Tryd.underlying24 rfl i32 hz.2.1 hFs rfl) ?_
            simp only [Act.put, List.setIfInBounds_toArray, List.set_cons_zero, List.set_cons_succ]
            have hck := ucheck_any n HN64.out w10 0 (N + 1) A1 n1 z1 b (hR1.below hbb.1) hnc1 F hol tb (H.Tab.below hT hbb.1)
            rw [hN1, HK2.out] at hck
            refine wpS_l (by rfl) (fun K hK => ?_)
            go_wp2_with fail
            refine hck.mono ?_
            rintro e w11 ⟨rfl, hb11⟩
            have hbb := below_base hbb hb11
            have hAp := hAp.below hb11
            have hS8 := hS8.below hb11 hS8.lt
            have m1 := hAp.M.cell 1
            simp only [List.getElem?_toArray, List.getElem?_cons_zero, List.getElem?_cons_succ] at m1
            refine hK _ _ _ ⟨hbb.1, hS8, m1⟩ (fun _ h => h) ?_
            clear hK hck hb11 m1
            iterate 8 (refine wpS_q ?_ (by rfl) ?_ ?_; rotate_left; (focus (intro z hz; (try dsimp only at hz); go_simp; rfl)); simp only [Act.put, List.setIfInBounds_toArray, List.set_cons_zero, List.set_cons_succ])
            refine wpS_q (.slice A1 n1 z1) (by rfl) (fun z hz => by have := QS z hz; go_simp) ?_
            simp only [Act.put, List.setIfInBounds_toArray, List.set_cons_zero, List.set_cons_succ]
            refine wpS_q (.agg (bvs F).toArray) (by rfl) (fun z hz => load_row_run rfl g13 (bvs F).toArray Tryd.underlying24 rfl i32 hz.2.1 hFs rfl) ?_
            simp only [Act.put, List.setIfInBounds_toArray, List.set_cons_zero, List.set_cons_succ]
            have hck := ucheck_any n HN64.out w11 2 0 A1 n1 z1 b (hR1.below hbb.1) hnc1 F hol tb (H.Tab.below hT hbb.1)
            rw [HK3.out] at hck
            refine wpS_l (by rfl) (fun K hK => ?_)
            go_wp2_with fail
            refine hck.mono ?_
            rintro e w12 ⟨rfl, hb12⟩
            have hbb := below_base hbb hb12
            have hAp := hAp.below hb12
            have hS8 := hS8.below hb12 hS8.lt
            have m1 := hAp.M.cell 1
            simp only [List.getElem?_toArray, List.getElem?_cons_zero, List.getElem?_cons_succ] at m1
            refine hK _ _ _ ⟨hbb.1, hS8, m1⟩ (fun _ h => h) ?_
            clear hK hck hb12 m1
            iterate 1 (refine wpS_q ?_ (by rfl) ?_ ?_; rotate_left; (focus (intro z hz; (try dsimp only at hz); go_simp; rfl)); simp only [Act.put, List.setIfInBounds_toArray, List.set_cons_zero, List.set_cons_succ])
            refine wpS_nil ?_
            rw [← hN1] at hAp
            go_wp2_with fail
            exact ⟨⟨k + 1, d', l3, sa, _, by omega, congrArg (Value.int .i64) (by omega), HE2.out, by omega, by simp only; omega, hAp, hbb.1, hbb.2⟩, by simp only [intOf]; omega⟩
      · obtain rfl : k = m := by omega
        have g1 : ¬ (k : Int) < (k : Int) := by omega
        go_wp2_with fail
        go_meet
        exact ⟨d, l', sa, sb, hAp, hbk, hbks⟩
  case rest =>
    clear hbb hbb1 hbb2 hAp
    obtain ⟨d, l', sa, sb, hAp, hbk, hbks⟩ := hcut
    have hbb : Below w.heap.size w wc ∧ base ≤ wc.heap.size := ⟨hbk, hbks⟩
    clear hbk hbks
    have hF1 : (lastT n tb sa).length = 32 := by
      rw [lastT]
      split
      · exact z32_length
      · exact H.numF_length _ _ _ _ _
    have hF2 : (lastT n tb sb).length = 32 := by
      rw [lastT]
      split
      · exact z32_length
      · exact H.numF_length _ _ _ _ _
    have hl1 := fun w (h : UsigAt w base l' k1 c1 sa) hT => ulast_any n HN64.out w base l' k1 c1 sa h tb hT
    have hl2 := fun w (h : UsigAt w base l' k2 c2 sb) hT => ulast_any n HN64.out w base l' k2 c2 sb h tb hT
    generalize lastT n tb sa = T1 at *
    generalize lastT n tb sb = T2 at *
    have hs1 : (bvs T1).toArray.size = 32 := by rw [bvs_size, hF1]
    have hs2 : (bvs T2).toArray.size = 32 := by rw [bvs_size, hF2]
    have HL1 := Lib.hid hl1
    have HL2 := Lib.hid hl2
    clear hl1 hl2
    go_wp2_with fail
    refine (HL1.out _ hAp.A (H.Tab.below hT hbb.1)).mono ?_
    rintro e w8 ⟨A8, N8, c8, rfl, _, hb8⟩
    have hAp := hAp.below hb8
    have hbb := below_base hbb hb8
    simp only []
    clear hb8
    repeat (first
      | ((with_reducible refine wpl_store_fresh (bvs T1).toArray i32 ?_ hs1 (bvs_all _) ?_ ?_ ?_); (focus kernel_rfl); (focus rfl); (focus rfl); intro w9 hS9 hl9 hb9; simp only [Act.put]; refine Hid.out ?_)
      | go_values | go_skip | go_guarded | go_step | go_upon | go_back)
    refine Lib.hid ?_
    have hAp := hAp.below hb9
    have hbb := below_base hbb hb9
    obtain ⟨g17, hg17⟩ : ∃ x, w8.heap.size = x := ⟨_, rfl⟩
    rw [hg17]
    clear hb9 hS9 hl9 hg17
    go_wp2_with fail
    refine (HL2.out _ hAp.B (H.Tab.below hT hbb.1)).mono ?_
    rintro e w10 ⟨A10, N10, c10, rfl, _, hb10⟩
    have hAp := hAp.below hb10
    have hbb := below_base hbb hb10
    simp only []
    clear hb10
    repeat (first
      | ((with_reducible refine wpl_store_fresh (bvs T2).toArray i32 ?_ hs2 (bvs_all _) ?_ ?_ ?_); (focus kernel_rfl); (focus rfl); (focus rfl); intro w11 hS11 hl11 hb11; simp only [Act.put]; refine Hid.out ?_)
      | go_values | go_skip | go_guarded | go_step | go_upon | go_back)
    refine Lib.hid ?_
    have hAp := hAp.below hb11
    have hbb := below_base hbb hb11
    obtain ⟨g20, hg20⟩ : ∃ x, w10.heap.size = x := ⟨_, rfl⟩
    rw [hg20]
    clear hb11 hS11 hl11 hg20
    have m0 := hAp.M.cell 0
    have m1 := hAp.M.cell 1
    simp only [List.getElem?_toArray, List.getElem?_cons_zero, List.getElem?_cons_succ] at m0 m1
    go_wp2_with (go_at_call 9; refine (works7_any n HN64.out _ tb HTB.out (H.Tab.below hT hbb.1)).mono ?_; rintro e w12 ⟨rfl, hb12⟩)
    go_ret
    exact ⟨rfl, (below_base hbb hb12).1⟩
theorem usigApart_walk (W : World) (hT : H.Tab W H.tblL) (A : Option Addr) (m c : Nat) (l : List Turn) (_ : l.length = m) (hr : Reads W W.heap.size 2 A m (l.flatMap fun x => [Value.bool x.1] ++ [x.2.v])) (hi : ∀ a ∈ l, (True ∧ SB.ok W a.2) ∧ ([Value.bool a.1] ++ [a.2.v]).length = 2) (_ : m ≤ c) (_ : c * 32 ≤ 140737488351232) :
    Calls Tryd.prog 6 #[.slice A m c] W fun e w' => e = .returned (.bool true) ∧ Below W.heap.size W w' :=
  usigApart_any 64 rfl W H.tblL rfl hT A m c l hr (fun x hx => (hi x hx).1.2)
end Go.Proofs.YtmjdfajdompkeaaDoor
