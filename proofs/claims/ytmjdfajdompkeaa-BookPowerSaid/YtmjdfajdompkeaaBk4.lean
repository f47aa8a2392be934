/- book: Open and Append of a book that stands on a disk, in plain words; where there is no book, no disk. -/
import Derived.Test.YtmjdfajdompkeaaBk3
namespace Go.Proofs.Ytmjdfajdompkeaa
open Go.RowKit Go.Rat
section
variable {d : DS} {p lim : Int} {life M K : Nat} {rs : List (List UInt8)} {q : Int} {z : Nat}
/-- Open. -/
structure OpOf (d d' : DS) (p size lim : Int) (life K : Nat) (rs : List (List UInt8)) (q : Int) (z : Nat) : Prop where
  e : bopE d p size = 0
  d_ : bopD d p size = d'
  a : bopA d p size = (rs, q, rs.length)
  s : bopS d p size = ⟨q, lim, life + 1, rs.length, false⟩
  st : BookSt d' p lim (life + 1) (life + 1) (K + 1) rs q z
  f : d'.fuse = -1
  l : d'.loose = []
  now : ∀ a, ¬ (p ≤ a ∧ a < p + 20) → d'.now a = d.now a
  oe : opE d' p = 0
  of_ : (opF d' p).2 = be 8 (life + 1)
theorem may_ok {size : Int} (hp : 0 ≤ p ∧ p + 20 < lim ∧ lim ≤ 32768) (hsz : p + size = lim) : bmayE p size = 0 := by
  rw [bmayE, if_neg (by omega)]
theorem BookSt.op (h : BookSt d p lim life M K rs q z) (hf : d.fuse = -1) (hl : life + 1 < 2 ^ 62) (hK : K + 2 < 2 ^ 64) (size : Int) (hsz : p + size = lim) : ∃ d', OpOf d d' p size lim life K rs q z := by
  obtain ⟨h1, h2, h3, h4, h5, h6, h7, h8⟩ := h.opens hf hl hK
  have hlim := h.lim_
  have hm := may_ok hlim hsz
  have hq := h.q_
  have hA : bopA d p size = (rs, q, rs.length) := by
    rw [bopA, h1, hsz]
    exact h5 _ (by omega)
  refine ⟨(liveF d p).1, ⟨?_, ?_, hA, ?_, h2, h3, h4, h6, h7, h8⟩⟩
  · rw [bopE, if_neg (by rw [hm]; decide), h1]
  · rw [bopD, if_neg (by rw [hm]; decide)]
  · rw [bopS, hA, h1, hsz]
/-- Append of a record whose pages are there. -/
structure ApOf (d d' : DS) (p lim : Int) (life K : Nat) (rs : List (List UInt8)) (q : Int) (r : List UInt8) : Prop where
  e : bapR d ⟨q, lim, life, rs.length, false⟩ r = (d', ⟨q + (pagesN r.length : Int), lim, life, rs.length + 1, false⟩, 0)
  st : BookSt d' p lim life life K (rs ++ [r]) (q + (pagesN r.length : Int)) life
  f : d'.fuse = -1
  l : d'.loose = []
  now : ∀ a, ¬ (q ≤ a ∧ a < q + (pagesN r.length : Int)) → d'.now a = d.now a
theorem BookSt.ap (h : BookSt d p lim life M K rs q z) (hM : M ≤ life) (hl1 : 1 ≤ life) (hf : d.fuse = -1) {r : List UInt8} (hr : r.length ≤ 4096) (hq : q + (pagesN r.length : Int) ≤ lim) : ∃ d', ApOf d d' p lim life K rs q r := by
  obtain ⟨h1, h2, h3, h4, h5⟩ := h.appends hM hl1 hf hr hq
  refine ⟨(apL d q (recP life (rs.length + 1) r) (pagesN r.length)).1, ⟨?_, h2, h3, h4, h5⟩⟩
  rw [bapR, if_neg (by omega), if_neg (by simp), if_neg (by simp only; omega)]
  simp only [h1, if_true]
theorem bap_full {r : List UInt8} (hr : r.length ≤ 4096) {n : Nat} (hq : lim < q + (pagesN r.length : Int)) : bapR d ⟨q, lim, life, n, false⟩ r = (d, ⟨q, lim, life, n, false⟩, 7) := by
  rw [bapR, if_neg (by omega), if_neg (by simp), if_pos hq]
end
theorem bappend_nil (w : World) (A : Option Addr) (n c : Nat) (hn : n ≤ 140737488000000) : Calls Try.prog 45 #[.pointer none, .slice A n c] w fun e w' => e = .returned (.int .i64 2) ∧ Below w.heap.size w w' := by
  go_enter Try.func45, Try.ntmps45
  go_upto_region 1 with (fail)
  have hP := Blk.new w 75 #[.pointer none]
  have hb1 := below_alloc w (.cells #[.pointer none] 75)
  obtain ⟨w1, hw1⟩ : ∃ x, w.alloc (.cells #[.pointer none] 75) = x := ⟨_, rfl⟩
  rw [hw1] at hP hb1 ⊢
  obtain ⟨gb, hgb⟩ : ∃ x, w.heap.size = x := ⟨_, rfl⟩
  rw [hgb] at hP ⊢
  clear hw1 hgb
  go_wp2_with fail
  refine (bpages_any w1 n (by omega)).mono ?_
  rintro e w1' ⟨rfl, rfl⟩
  simp only []
  go_upto_block 0 with (fail)
  have hb2 := below_alloc w1 (.cells #[.int .i64 (pagesN n : Int)] 3)
  have hP2 := hP.below hb2 hP.lt
  obtain ⟨w2, hw2⟩ : ∃ x, w1.alloc (.cells #[.int .i64 (pagesN n : Int)] 3) = x := ⟨_, rfl⟩
  rw [hw2] at hP2 hb2 ⊢
  have hbw := below_next' hb1 hb2
  have cb := hP2.cell 0
  simp only [List.getElem?_toArray, List.getElem?_cons_zero] at cb
  clear hw2 hP hb1 hb2
  go_wp2_with fail
  go_ret
  exact ⟨rfl, hbw⟩
theorem bformat_nil (w : World) (p : Int) : Calls Try.prog 47 #[.pointer none, .int .i64 p] w fun e w' => e = .returned (.int .i64 2) ∧ Below w.heap.size w w' := by
  go_enter Try.func47, Try.ntmps47
  go_wp2_with fail
  refine (cformat_nil w p).mono ?_
  rintro e w2 ⟨rfl, hb⟩
  simp only []
  go_wp2_with fail
  go_ret
  exact ⟨rfl, hb⟩
theorem bopen_nil (w : World) (p size : Int) : Calls Try.prog 44 #[.pointer none, .int .i64 p, .int .i64 size] w fun e w' => e = .returned (.tuple #[.pointer none, .slice none 0 0, .int .i64 2]) ∧ w = w' := by
  go_enter Try.func44, Try.ntmps44
  go_wp2_with fail
  refine (bmay_nil w p size).mono ?_
  rintro e w2 ⟨rfl, rfl⟩
  simp only []
  go_wp2_with fail
  go_ret3
  exact ⟨rfl, rfl⟩
end Go.Proofs.Ytmjdfajdompkeaa
namespace Go.Proofs.Ytmjdfajdompkeaa
open Go.RowKit Go.Rat
structure Wk6 (d1 d2 d3 d4 : DS) : Prop where
  f1 : fmF ds0 0 = (d1, 0)
  l1 : d1.loose = []
  o1 : OpOf d1 d2 0 40 40 0 2 [] 20 1
  a1 : ApOf d2 d3 0 40 1 3 [] 20 ab
  o2 : OpOf d3 d4 0 40 40 1 3 [ab] 21 1
theorem wk6 : ∃ d1 d2 d3 d4, Wk6 d1 d2 d3 d4 := by
  obtain ⟨h1, h2, h3, h4, _⟩ := book_format (d := ds0) (p := 0) (lim := 40) (by omega) rfl rfl (fun _ _ _ => rfl)
  obtain ⟨d2, o1⟩ := h2.op h3 (by decide) (by decide) 40 (by decide)
  obtain ⟨d3, a1⟩ := o1.st.ap (Nat.le_refl _) (by decide) o1.f (r := ab) (by decide) (by decide)
  obtain ⟨d4, o2⟩ := a1.st.op a1.f (by decide) (by decide) 40 (by decide)
  exact ⟨_, d2, d3, d4, ⟨Prod.ext rfl h1, h4, o1, a1, o2⟩⟩
theorem base_cmoved {w a b : World} {base : Nat} {l l' : DL} {d : DS} {k : Nat} {s : BS} (h : Below w.heap.size w a ∧ base ≤ a.heap.size) (hw : w.heap.size ≤ base) (hD : DiskAt a base l d) (hB : BookAt a base l k s) (hm : CMoved a b l l' k) : Below w.heap.size w b ∧ base ≤ b.heap.size := by
  refine ⟨h.1.trans (hm.chg.below (fun x hx => ?_) h.1.size), Nat.le_trans h.2 hm.chg.size⟩
  rcases hx with hx | hx
  · have := (hD.fp_lt hx).1
    omega
  · have := hB.bk
    omega
set_option maxRecDepth 20000 in
set_option maxHeartbeats 8000000 in
theorem works6_any (w : World) : Calls Try.prog 43 #[] w fun e w' => e = .returned (.bool true) ∧ Below w.heap.size w w' := by
  obtain ⟨d1, d2, d3, d4, H⟩ := wk6
  have HF1 := Lib.hid H.f1
  have HL1 := Lib.hid H.l1
  have HO1 := Lib.hid H.o1
  have HA1 := Lib.hid H.a1
  have HO2 := Lib.hid H.o2
  clear H
  obtain ⟨base, hbase⟩ : ∃ b, w.heap.size = b := ⟨_, rfl⟩
  have HBASE := Lib.hid hbase
  go_enter Try.func43, Try.ntmps43
  go_wp2_with fail
  refine (dnew_any w).mono ?_
  rintro e w1 ⟨l0, rfl, hD, hb⟩
  have hbb : Below w.heap.size w w1 ∧ base ≤ w1.heap.size := ⟨hb, by rw [← hbase]; exact hb.size⟩
  rw [hbase] at hD
  clear hb hbase
  simp only []
  obtain ⟨g, hlg⟩ : ∃ g, l0.g = g := ⟨_, rfl⟩
  rw [hlg]
  go_wp2_with fail
  refine (bformat_any w1 base l0 ds0 hD g hlg hbb.2 (by decide) 0 (by omega)).mono ?_
  rw [HF1.out]
  rintro e w2 ⟨l1, rfl, hlg1, hD1, hm⟩
  have hbb := base_moved hbb (Nat.le_of_eq HBASE.out) hD hm
  simp only []
  clear hm hD hlg
  go_wp2_with fail
  refine (bopen_any w2 base l1 d1 hD1 g hlg1 hbb.2 (by rw [HL1.out]; decide) 0 40).mono ?_
  rw [HO1.out.e, HO1.out.d_, HO1.out.s, HO1.out.a]
  rintro e w3 ⟨l2, hlg2, hD2, hm, (⟨h, _⟩ | ⟨_, k, A, N, c, ps, rfl, hk, hB, hR, hxs⟩)⟩
  · exact absurd rfl h
  have hbb := base_moved hbb (Nat.le_of_eq HBASE.out) hD1 hm
  have hN0 : N = 0 := by
    have h1 := hR.len
    have h2 := congrArg List.length hxs
    rw [List.length_map] at h2
    simp only [List.length_nil] at h2
    omega
  subst hN0
  simp only []
  clear hm hD1 hlg1 hR hxs hk
  go_upto_region 6 with (fail)
  have kc := fun (w : World) (C : Array Value) (n c : Nat) => Lib.run_convert_bytes_const (P := Try.prog) w 22 5 C n c Try.underlying22 Try.underlying5
  go_wp2_with fail
  have hrab := rb_lit w3 5 (2, 3) ab
  have hb := below_alloc w3 (.cells (bvs ab).toArray 5 (2, 3))
  have hab : (.cells #[.int .u8 97, .int .u8 98] 5 (2, 3) : Obj) = .cells (bvs ab).toArray 5 (2, 3) := rfl
  rw [hab]
  have hD2' := hD2.below hb
  have hB' := hB.below hb
  have hbb' := below_base hbb hb
  obtain ⟨w4, hw4⟩ : ∃ x, w3.alloc (.cells (bvs ab).toArray 5 (2, 3)) = x := ⟨_, rfl⟩
  rw [hw4] at hrab hD2' hB' hbb' ⊢
  clear hb hab hw4 hbb hD2 hB kc
  refine (bappend_any w4 base l2 d2 hD2' hbb'.2 (by rw [HO1.out.l]; decide) k _ hB' (by decide) _ 2 2 ab hrab (by decide)).mono ?_
  have he := HA1.out.e
  simp only [List.length_nil] at he ⊢
  rw [he]
  rintro e w5 ⟨l3, rfl, hlg3, hD3, hB3, hm⟩
  have hbb := base_cmoved hbb' (Nat.le_of_eq HBASE.out) hD2' hB' hm
  have hlg3 := hlg3.trans hlg2
  simp only []
  clear hm hD2' hB' hrab hbb' hlg2 he
  go_wp2_with fail
  refine (bopen_any w5 base l3 d3 hD3 g hlg3 hbb.2 (by rw [HA1.out.l]; decide) 0 40).mono ?_
  rw [HO2.out.e, HO2.out.d_, HO2.out.s, HO2.out.a]
  rintro e w6 ⟨l4, hlg4, hD4, hm, (⟨h, _⟩ | ⟨_, k2, A, N, c, ps, rfl, hk, hB4, hR, hxs⟩)⟩
  · exact absurd rfl h
  have hbb := base_moved hbb (Nat.le_of_eq HBASE.out) hD3 hm
  have hB3 := hB3.moved hm
  have hl1 : ps.length = 1 := by
    have h2 := congrArg List.length hxs
    rwa [List.length_map] at h2
  have hN1 : N = 1 := by rw [← hR.len]; exact hl1
  subst hN1
  obtain ⟨pt, rfl⟩ : ∃ pt, ps = [pt] := by
    match ps, hl1 with
    | [pt], _ => exact ⟨pt, rfl⟩
  have hpx : pt.xs = ab := by simpa using hxs
  obtain ⟨gA, _, hv, _, _⟩ := World.ownsRow.form hR.own (by decide)
  have hae : A = some ⟨gA, 0, none⟩ := by injection hv
  subst hae
  obtain ⟨ad, hade, hcell⟩ := hR.reads.cells (by decide)
  cases hade
  have hc0 := hcell 0 pt rfl
  have hok := (hR.ok pt (by simp)).r
  rw [hpx] at hok
  obtain ⟨A2, n2, c2, xs2⟩ := pt
  simp only [Pt.v] at hc0 hok
  have hcv := conv_str hok c2
  have hbs : bstr ab = ⟨#[97, 98]⟩ := rfl
  simp only [hbs] at hcv
  have had0 : (⟨gA, 0, none⟩ : Addr).add 0 = ⟨gA, 0, none⟩ := by unfold Addr.add; split <;> rfl
  rw [had0] at hc0
  simp only []
  clear hm hD3 hlg3 hR hxs hk hcell hbs hok hpx hl1 had0 hv
  go_wp2_with fail
  refine (blen_any w6 base l4 k2 _ hB4).mono ?_
  rintro e w6' ⟨rfl, rfl⟩
  simp only []
  go_wp2_with fail
  refine (blen_any w6 base l4 k _ hB3).mono ?_
  rintro e w6' ⟨rfl, rfl⟩
  simp only []
  go_wp2_with fail
  go_ret
  exact ⟨rfl, hbb.1⟩
end Go.Proofs.Ytmjdfajdompkeaa
