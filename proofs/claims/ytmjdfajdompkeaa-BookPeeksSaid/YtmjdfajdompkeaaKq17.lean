/- book: Open and Append of a book that stands on a disk, in plain words; where there is no book, no disk. -/
import Derived.Test.YtmjdfajdompkeaaKq16
namespace Go.Proofs.Ytmjdfajdompkeaa
open Go.RowKit Go.Rat
section
variable {d : DS} {p lim : Int} {life M K : Nat} {rs : List (List UInt8)} {q : Int} {z : Nat}
/-- Open. -/
structure OpOf (d d' : DS) (p size lim : Int) (life K : Nat) (rs : List (List UInt8)) (q : Int) (z : Nat) : Prop where
  e : bopE d p size = 0
  d_ : bopD d p size = d'
  a : bopA d p size = (rs, q, rs.length)
  s : bopS d p size = ⟨q, lim, life + 1, rs.length, false⟩
  st : BookSt d' p lim (life + 1) (life + 1) (K + 1) rs q z
  f : d'.fuse = -1
  l : d'.loose = []
  now : ∀ a, ¬ (p ≤ a ∧ a < p + 20) → d'.now a = d.now a
  oe : opE d' p = 0
  of_ : (opF d' p).2 = be 8 (life + 1)
theorem may_ok {size : Int} (hp : 0 ≤ p ∧ p + 20 < lim ∧ lim ≤ 32768) (hsz : p + size = lim) : bmayE p size = 0 := by
  rw [bmayE, if_neg (by omega)]
theorem BookSt.op (h : BookSt d p lim life M K rs q z) (hf : d.fuse = -1) (hl : life + 1 < 2 ^ 62) (hK : K + 2 < 2 ^ 64) (size : Int) (hsz : p + size = lim) : ∃ d', OpOf d d' p size lim life K rs q z := by
  obtain ⟨h1, h2, h3, h4, h5, h6, h7, h8⟩ := h.opens hf hl hK
  have hlim := h.lim_
  have hm := may_ok hlim hsz
  have hq := h.q_
  have hA : bopA d p size = (rs, q, rs.length) := by
    rw [bopA, h1, hsz]
    exact h5 _ (by omega)
  refine ⟨(liveF d p).1, ⟨?_, ?_, hA, ?_, h2, h3, h4, h6, h7, h8⟩⟩
  · rw [bopE, if_neg (by rw [hm]; decide), h1]
  · rw [bopD, if_neg (by rw [hm]; decide)]
  · rw [bopS, hA, h1, hsz]
/-- Append of a record whose pages are there. -/
structure ApOf (d d' : DS) (p lim : Int) (life K : Nat) (rs : List (List UInt8)) (q : Int) (r : List UInt8) : Prop where
  e : bapR d ⟨q, lim, life, rs.length, false⟩ r = (d', ⟨q + (pagesN r.length : Int), lim, life, rs.length + 1, false⟩, 0)
  st : BookSt d' p lim life life K (rs ++ [r]) (q + (pagesN r.length : Int)) life
  f : d'.fuse = -1
  l : d'.loose = []
  now : ∀ a, ¬ (q ≤ a ∧ a < q + (pagesN r.length : Int)) → d'.now a = d.now a
theorem BookSt.ap (h : BookSt d p lim life M K rs q z) (hM : M ≤ life) (hl1 : 1 ≤ life) (hf : d.fuse = -1) {r : List UInt8} (hr : r.length ≤ 4096) (hq : q + (pagesN r.length : Int) ≤ lim) : ∃ d', ApOf d d' p lim life K rs q r := by
  obtain ⟨h1, h2, h3, h4, h5⟩ := h.appends hM hl1 hf hr hq
  refine ⟨(apL d q (recP life (rs.length + 1) r) (pagesN r.length)).1, ⟨?_, h2, h3, h4, h5⟩⟩
  rw [bapR, if_neg (by omega), if_neg (by simp), if_neg (by simp only; omega)]
  simp only [h1, if_true]
theorem bap_full {r : List UInt8} (hr : r.length ≤ 4096) {n : Nat} (hq : lim < q + (pagesN r.length : Int)) : bapR d ⟨q, lim, life, n, false⟩ r = (d, ⟨q, lim, life, n, false⟩, 7) := by
  rw [bapR, if_neg (by omega), if_neg (by simp), if_pos hq]
end
theorem bappend_nil (w : World) (A : Option Addr) (n c : Nat) (hn : n ≤ 140737488000000) : Calls Try.prog 45 #[.pointer none, .slice A n c] w fun e w' => e = .returned (.int .i64 2) ∧ Below w.heap.size w w' := by
  go_enter Try.func45, Try.ntmps45
  go_upto_region 1 with (fail)
  have hP := Blk.new w 75 #[.pointer none]
  have hb1 := below_alloc w (.cells #[.pointer none] 75)
  obtain ⟨w1, hw1⟩ : ∃ x, w.alloc (.cells #[.pointer none] 75) = x := ⟨_, rfl⟩
  rw [hw1] at hP hb1 ⊢
  obtain ⟨gb, hgb⟩ : ∃ x, w.heap.size = x := ⟨_, rfl⟩
  rw [hgb] at hP ⊢
  clear hw1 hgb
  go_wp2_with fail
  refine (bpages_any w1 n (by omega)).mono ?_
  rintro e w1' ⟨rfl, rfl⟩
  simp only []
  go_upto_block 0 with (fail)
  have hb2 := below_alloc w1 (.cells #[.int .i64 (pagesN n : Int)] 3)
  have hP2 := hP.below hb2 hP.lt
  obtain ⟨w2, hw2⟩ : ∃ x, w1.alloc (.cells #[.int .i64 (pagesN n : Int)] 3) = x := ⟨_, rfl⟩
  rw [hw2] at hP2 hb2 ⊢
  have hbw := below_next' hb1 hb2
  have cb := hP2.cell 0
  simp only [List.getElem?_toArray, List.getElem?_cons_zero] at cb
  clear hw2 hP hb1 hb2
  go_wp2_with fail
  go_ret
  exact ⟨rfl, hbw⟩
theorem bformat_nil (w : World) (p : Int) : Calls Try.prog 47 #[.pointer none, .int .i64 p] w fun e w' => e = .returned (.int .i64 2) ∧ Below w.heap.size w w' := by
  go_enter Try.func47, Try.ntmps47
  go_wp2_with fail
  refine (cformat_nil w p).mono ?_
  rintro e w2 ⟨rfl, hb⟩
  simp only []
  go_wp2_with fail
  go_ret
  exact ⟨rfl, hb⟩
theorem bopen_nil (w : World) (p size : Int) : Calls Try.prog 44 #[.pointer none, .int .i64 p, .int .i64 size] w fun e w' => e = .returned (.tuple #[.pointer none, .slice none 0 0, .int .i64 2]) ∧ w = w' := by
  go_enter Try.func44, Try.ntmps44
  go_wp2_with fail
  refine (bmay_nil w p size).mono ?_
  rintro e w2 ⟨rfl, rfl⟩
  simp only []
  go_wp2_with fail
  go_ret3
  exact ⟨rfl, rfl⟩
end Go.Proofs.Ytmjdfajdompkeaa
namespace Go.Proofs.Ytmjdfajdompkeaa
open Go.RowKit Go.Rat
structure Wk6 (d1 d2 d3 d4 : DS) : Prop where
  f1 : fmF ds0 0 = (d1, 0)
  l1 : d1.loose = []
  o1 : OpOf d1 d2 0 40 40 0 2 [] 20 1
  a1 : ApOf d2 d3 0 40 1 3 [] 20 ab
  o2 : OpOf d3 d4 0 40 40 1 3 [ab] 21 1
theorem wk6 : ∃ d1 d2 d3 d4, Wk6 d1 d2 d3 d4 := by
  obtain ⟨h1, h2, h3, h4, _⟩ := book_format (d := ds0) (p := 0) (lim := 40) (by omega) rfl rfl (fun _ _ _ => rfl)
  obtain ⟨d2, o1⟩ := h2.op h3 (by decide) (by decide) 40 (by decide)
  obtain ⟨d3, a1⟩ := o1.st.ap (Nat.le_refl _) (by decide) o1.f (r := ab) (by decide) (by decide)
  obtain ⟨d4, o2⟩ := a1.st.op a1.f (by decide) (by decide) 40 (by decide)
  exact ⟨_, d2, d3, d4, ⟨Prod.ext rfl h1, h4, o1, a1, o2⟩⟩
theorem base_cmoved {w a b : World} {base : Nat} {l l' : DL} {d : DS} {k : Nat} {s : BS} (h : Below w.heap.size w a ∧ base ≤ a.heap.size) (hw : w.heap.size ≤ base) (hD : DiskAt a base l d) (hB : BookAt a base l k s) (hm : CMoved a b l l' k) : Below w.heap.size w b ∧ base ≤ b.heap.size := by
  refine ⟨h.1.trans (hm.chg.below (fun x hx => ?_) h.1.size), Nat.le_trans h.2 hm.chg.size⟩
  rcases hx with hx | hx
  · have := (hD.fp_lt hx).1
    omega
  · have := hB.bk
    omega
set_option maxRecDepth 20000 in
set_option maxHeartbeats 8000000 in
theorem works6_any (w : World) : Calls Try.prog 43 #[] w fun e w' => e = .returned (.bool true) ∧ Below w.heap.size w w' := by
  obtain ⟨d1, d2, d3, d4, H⟩ := wk6
  have HF1 := Lib.hid H.f1
  have HL1 := Lib.hid H.l1
  have HO1 := Lib.hid H.o1
  have HA1 := Lib.hid H.a1
  have HO2 := Lib.hid H.o2
  clear H
  obtain ⟨base, hbase⟩ : ∃ b, w.heap.size = b := ⟨_, rfl⟩
  have HBASE := Lib.hid hbase
  go_enter Try.func43, Try.ntmps43
  go_wp2_with fail
  refine (dnew_any w).mono ?_
  rintro e w1 ⟨l0, rfl, hD, hb⟩
  have hbb : Below w.heap.size w w1 ∧ base ≤ w1.heap.size := ⟨hb, by rw [← hbase]; exact hb.size⟩
  rw [hbase] at hD
  clear hb hbase
  simp only []
  obtain ⟨g, hlg⟩ : ∃ g, l0.g = g := ⟨_, rfl⟩
  rw [hlg]
  go_wp2_with fail
  refine (bformat_any w1 base l0 ds0 hD g hlg hbb.2 (by decide) 0 (by omega)).mono ?_
  rw [HF1.out]
  rintro e w2 ⟨l1, rfl, hlg1, hD1, hm⟩
  have hbb := base_moved hbb (Nat.le_of_eq HBASE.out) hD hm
  simp only []
  clear hm hD hlg
  go_wp2_with fail
  refine (bopen_any w2 base l1 d1 hD1 g hlg1 hbb.2 (by rw [HL1.out]; decide) 0 40).mono ?_
  rw [HO1.out.e, HO1.out.d_, HO1.out.s, HO1.out.a]
  rintro e w3 ⟨l2, hlg2, hD2, hm, (⟨h, _⟩ | ⟨_, k, A, N, c, ps, rfl, hk, hB, hR, hxs⟩)⟩
  · exact absurd rfl h
  have hbb := base_moved hbb (Nat.le_of_eq HBASE.out) hD1 hm
  have hN0 : N = 0 := by
    have h1 := hR.len
    have h2 := congrArg List.length hxs
    rw [List.length_map] at h2
    simp only [List.length_nil] at h2
    omega
  subst hN0
  simp only []
  clear hm hD1 hlg1 hR hxs hk
  go_upto_region 6 with (fail)
  have kc := fun (w : World) (C : Array Value) (n c : Nat) => Lib.run_convert_bytes_const (P := Try.prog) w 22 5 C n c Try.underlying22 Try.underlying5
  go_wp2_with fail
  have hrab := rb_lit w3 5 (2, 3) ab
  have hb := below_alloc w3 (.cells (bvs ab).toArray 5 (2, 3))
  have hab : (.cells #[.int .u8 97, .int .u8 98] 5 (2, 3) : Obj) = .cells (bvs ab).toArray 5 (2, 3) := rfl
  rw [hab]
  have hD2' := hD2.below hb
  have hB' := hB.below hb
  have hbb' := below_base hbb hb
  obtain ⟨w4, hw4⟩ : ∃ x, w3.alloc (.cells (bvs ab).toArray 5 (2, 3)) = x := ⟨_, rfl⟩
  rw [hw4] at hrab hD2' hB' hbb' ⊢
  clear hb hab hw4 hbb hD2 hB kc
  refine (bappend_any w4 base l2 d2 hD2' hbb'.2 (by rw [HO1.out.l]; decide) k _ hB' (by decide) _ 2 2 ab hrab (by decide)).mono ?_
  have he := HA1.out.e
  simp only [List.length_nil] at he ⊢
  rw [he]
  rintro e w5 ⟨l3, rfl, hlg3, hD3, hB3, hm⟩
  have hbb := base_cmoved hbb' (Nat.le_of_eq HBASE.out) hD2' hB' hm
  have hlg3 := hlg3.trans hlg2
  simp only []
  clear hm hD2' hB' hrab hbb' hlg2 he
  go_wp2_with fail
  refine (bopen_any w5 base l3 d3 hD3 g hlg3 hbb.2 (by rw [HA1.out.l]; decide) 0 40).mono ?_
  rw [HO2.out.e, HO2.out.d_, HO2.out.s, HO2.out.a]
  rintro e w6 ⟨l4, hlg4, hD4, hm, (⟨h, _⟩ | ⟨_, k2, A, N, c, ps, rfl, hk, hB4, hR, hxs⟩)⟩
  · exact absurd rfl h
  have hbb := base_moved hbb (Nat.le_of_eq HBASE.out) hD3 hm
  have hB3 := hB3.moved hm
  have hl1 : ps.length = 1 := by
    have h2 := congrArg List.length hxs
    rwa [List.length_map] at h2
  have hN1 : N = 1 := by rw [← hR.len]; exact hl1
  subst hN1
  obtain ⟨pt, rfl⟩ : ∃ pt, ps = [pt] := by
    match ps, hl1 with
    | [pt], _ => exact ⟨pt, rfl⟩
  have hpx : pt.xs = ab := by simpa using hxs
  obtain ⟨gA, _, hv, _, _⟩ := World.ownsRow.form hR.own (by decide)
  have hae : A = some ⟨gA, 0, none⟩ := by injection hv
  subst hae
  obtain ⟨ad, hade, hcell⟩ := hR.reads.cells (by decide)
  cases hade
  have hc0 := hcell 0 pt rfl
  have hok := (hR.ok pt (by simp)).r
  rw [hpx] at hok
  obtain ⟨A2, n2, c2, xs2⟩ := pt
  simp only [Pt.v] at hc0 hok
  have hcv := conv_str hok c2
  have hbs : bstr ab = ⟨#[97, 98]⟩ := rfl
  simp only [hbs] at hcv
  have had0 : (⟨gA, 0, none⟩ : Addr).add 0 = ⟨gA, 0, none⟩ := by unfold Addr.add; split <;> rfl
  rw [had0] at hc0
  simp only []
  clear hm hD3 hlg3 hR hxs hk hcell hbs hok hpx hl1 had0 hv
  go_wp2_with fail
  refine (blen_any w6 base l4 k2 _ hB4).mono ?_
  rintro e w6' ⟨rfl, rfl⟩
  simp only []
  go_wp2_with fail
  refine (blen_any w6 base l4 k _ hB3).mono ?_
  rintro e w6' ⟨rfl, rfl⟩
  simp only []
  go_wp2_with fail
  go_ret
  exact ⟨rfl, hbb.1⟩
end Go.Proofs.Ytmjdfajdompkeaa
namespace Go.Proofs.Ytmjdfajdompkeaa
open Go.RowKit Go.Rat
theorem blk_dropN {w : World} {g : Nat} {T : TypeId} {s : List UInt8} (hB : Blk w g T (bvs s).toArray) {m k r : Nat} (hs : s.length = m) (hr : m - k = r) : RB w (some ⟨g, k, none⟩) r (s.drop k) := by
  refine ⟨by rw [bvs_length, List.length_drop, hs, hr, Nat.mul_one], fun _ => ⟨_, rfl, hB.lt, fun j u hu => ?_⟩⟩
  have ha : ((⟨g, k, none⟩ : Addr).add j) = ⟨g, k + j, none⟩ := by
    simp only [Addr.add]
    split
    · next h => subst h; rfl
    · rfl
  rw [ha, hB.cell (k + j), List.getElem?_toArray, ← hu, bvs, bvs, List.map_drop, List.getElem?_drop]
theorem gatF_at {V : Int → Option (List UInt8)} {p : Int} : ∀ (m : Nat) (all : List UInt8), gatF V p m = some all → ∀ k : Nat, k < m → ∃ t, V (p + (k : Int)) = some t
  | 0, _, _, k, hk => by omega
  | m + 1, all, h, k, hk => by
    rw [gatF] at h
    split at h
    · next a s h1 h2 =>
      by_cases e : k = m
      · subst e
        exact ⟨s, h2⟩
      · exact gatF_at m a h1 k (by omega)
    · cases h
theorem rest_two {s s4 : List UInt8} (h4 : s4.length = 108) (h : takeF s4 false 108 = (restR s, [], false)) : num (s4.take 2) = num ((restR s).take 2) := by
  have h5 : takeF s4 false 108 = (s4.take 108, s4.drop 108, false) := takeF_ok (k := 108) (by omega)
  rw [h5] at h
  have h6 : s4.take 108 = restR s := congrArg Prod.fst h
  rw [← h6, List.take_take]
  rfl
set_option maxRecDepth 20000 in
set_option maxHeartbeats 8000000 in
theorem rrecord_any (w : World) (base : Nat) (l : RL) (d : DS) (hD : RDk w base l d) (g : Nat) (hg : l.g = g) (p lim : Int) (n nn fr life : Nat) (hb : 0 ≤ p ∧ p ≤ 32768 ∧ lim ≤ 32768) (hnn : nn = n + 1) (hn : nn < 2 ^ 64) (hfr : 1 ≤ fr ∧ fr < 2 ^ 64) (_hlf : life < 2 ^ 64) :
    Calls Try.prog 99 #[.pointer (some ⟨g, 0, none⟩), .int .i64 p, .int .i64 lim, .int .u64 (nn : Int), .int .u64 (fr : Int), .int .u64 (life : Int)] w fun e w' =>
      ((readF (seeD d) lim p n fr life = none ∧ e = .returned (.tuple #[.slice none 0 0, .int .u64 0, .int .i64 0])) ∨
       (∃ r h A N c, readF (seeD d) lim p n fr life = some (r, h) ∧ e = .returned (.tuple #[.slice A N c, .int .u64 (h.life : Int), .int .i64 (h.pages : Int)]) ∧ RB w' A N r ∧ N ≤ c ∧ (∀ x, A.map (·.block) = some x → w.heap.size ≤ x ∧ x < w'.heap.size))) ∧ Below w.heap.size w w' := by
  have hV : ∀ a s, seeD d a = some s → s.length = 128 := fun a s hs => by
    unfold seeD at hs
    split at hs
    · cases hs
      exact hD.len a
    · cases hs
  have hVv : ∀ a, seeD d a = if readE d a = 0 then some (readB d a) else none := fun a => rfl
  obtain ⟨V, hVe⟩ : ∃ V, seeD d = V := ⟨_, rfl⟩
  rw [hVe] at hV hVv ⊢
  obtain ⟨RF, hRF⟩ : ∃ R, readF V lim p n fr life = R := ⟨_, rfl⟩
  rw [hRF]
  have HRF := Lib.hid hRF
  have HV := Lib.hid hV
  have HVV := Lib.hid hVv
  have HNN := Lib.hid hnn
  clear hRF hV hVv hVe hnn
  by_cases hpl : lim ≤ p
  · have hno : RF = none := HRF.out.symm.trans (ref_none1 hpl)
    have HNO := Lib.hid hno
    clear hno
    go_enter Try.func99, Try.ntmps99
    go_wp2_with fail
    go_ret3
    exact ⟨.inl ⟨HNO.out, rfl⟩, Below.refl _ _⟩
  have hsl := hD.len p
  have hVp := HVV.out p
  obtain ⟨s, hs⟩ : ∃ s, readB d p = s := ⟨_, rfl⟩
  obtain ⟨E, hE⟩ : ∃ E, readE d p = E := ⟨_, rfl⟩
  rw [hs] at hVp hsl
  rw [hE] at hVp
  have HS := Lib.hid hs
  have HE := Lib.hid hE
  have HVP := Lib.hid hVp
  have hsz : (bvs s).toArray.size = 128 := by rw [bvs_size, hsl]
  clear hs hE hVp
  go_enter Try.func99, Try.ntmps99
  go_wp2_with fail
  refine (rgread _ base g _ _ hD hg p).mono ?_
  rw [HS.out, HE.out]
  rintro e w3 ⟨rfl, hb3⟩
  simp only []
  repeat (first | ((with_reducible refine wpl_store_fresh (bvs s).toArray i128 ?_ hsz (bvs_all _) ?_ ?_ ?_); (focus kernel_rfl); (focus rfl); (focus rfl); intro w4 hB hl4 hb4; simp only [Act.put]; refine Hid.out ?_) | go_values | go_skip | go_guarded | go_step | go_upon | go_back)
  refine Lib.hid ?_
  have hbb := below_next' hb3 hb4
  have hs3 := hb3.size
  clear hb3 hb4
  obtain ⟨gx, hgx⟩ : ∃ x, w3.heap.size = x := ⟨_, rfl⟩
  rw [hgx] at hB hl4 hs3 ⊢
  clear hgx
  by_cases hE0 : E = 0
  · subst hE0
    have hsome : V p = some s := HVP.out.trans (if_pos rfl)
    have HSM := Lib.hid hsome
    obtain ⟨s1, s2, s3, s4, t1, t2, t3, t4, t5, hh, l4, lr⟩ := page_cuts hsl
    have t6 : takeF s4 false 2 = (s4.take 2, s4.drop 2, false) := takeF_ok (k := 2) (by omega)
    have hzz := rest_two l4 t5
    have hlife : (headR s).life = num (s.take 8) := by rw [hh]
    have hpages : (headR s).pages = num (s3.take 2) := by rw [hh]
    have hll : (headR s).life < 2 ^ 64 := by rw [hlife]; exact num_lt64 (by rw [List.length_take]; omega)
    have hpl' : (headR s).pages < 65536 := by rw [hpages]; exact num_lt16 (by rw [List.length_take]; omega)
    have hzl : num (s4.take 2) < 65536 := num_lt16 (by rw [List.length_take]; omega)
    rw [← hlife.symm] at hll
    rw [← hpages.symm] at hpl'
    have hok := fun (V : Int → Option (List UInt8)) hV hfr (hs : V p = some s) => ref_none3 (lim := lim) (n := n) (fr := fr) (life := life) hV hfr hs
    obtain ⟨L, hL⟩ : ∃ x, num (s.take 8) = x := ⟨_, rfl⟩
    obtain ⟨M, hM⟩ : ∃ x, num (s3.take 2) = x := ⟨_, rfl⟩
    obtain ⟨Z, hZ⟩ : ∃ x, num (s4.take 2) = x := ⟨_, rfl⟩
    rw [hL] at hlife hll
    rw [hM] at hpages hpl'
    rw [hZ] at hzz hzl
    have hbad : (L < 1 ∨ L < fr ∨ life < L ∨ 4096 < Z ∨ pagesN Z ≠ M ∨ lim < p + (M : Int)) → RF = none := fun h => HRF.out.symm.trans (ref_none3 HV.out hfr.1 HSM.out (by rw [hlife, ← hzz, hpages]; exact h))
    have HBAD := Lib.hid hbad
    have HHL := Lib.hid hlife
    have HHP := Lib.hid hpages
    have HZZ := Lib.hid hzz
    have HL := Lib.hid hL
    have HM := Lib.hid hM
    have HZ := Lib.hid hZ
    have T1 := Lib.hid t1
    have T2 := Lib.hid t2
    have T3 := Lib.hid t3
    have T4 := Lib.hid t4
    have T6 := Lib.hid t6
    clear hsome t1 t2 t3 t4 t5 t6 hh l4 lr hzz hlife hpages hL hM hZ hok hbad
    go_upto_region 7 with (fail)
    have hC0 := Blk.new w4 177 #[.slice (some ⟨gx, 0, none⟩) 128 128, .bool false]
    have hb5 := below_alloc w4 (.cells #[.slice (some ⟨gx, 0, none⟩) 128 128, .bool false] 177)
    have hB5 := hB.below hb5 hB.lt
    have hbb := below_next' hbb hb5
    obtain ⟨w5, hw5⟩ : ∃ x, w4.alloc (.cells #[.slice (some ⟨gx, 0, none⟩) 128 128, .bool false] 177) = x := ⟨_, rfl⟩
    rw [hw5] at hC0 hB5 hbb ⊢
    obtain ⟨gc, hgc⟩ : ∃ x, w4.heap.size = x := ⟨_, rfl⟩
    rw [hgc] at hC0 hl4 ⊢
    have hC : CutAt w5 gc 177 (some gx) s false := ⟨some ⟨gx, 0, none⟩, 128, 128, hC0, rb_row hB5 128 hsl, by omega, by omega, rfl, fun e => by injection e with e; omega⟩
    have hwc : w.heap.size ≤ gc := by omega
    clear hC0 hB5 hb5 hw5 hgc hB hl4
    go_wp2_with fail
    refine (rcword_any w5 gc (some gx) s false hC).mono ?_
    rw [T1.out, HL.out]
    rintro e w6 ⟨rfl, hC, hg6⟩
    simp only []
    have hbb := hbb.grown hg6 hbb.size (fun q hq => by cases hq; exact hwc)
    clear hg6
    go_wp2_with fail
    refine (rcword_any w6 gc (some gx) s1 false hC).mono ?_
    rw [T2.out]
    rintro e w7 ⟨rfl, hC, hg6⟩
    simp only []
    have hbb := hbb.grown hg6 hbb.size (fun q hq => by cases hq; exact hwc)
    clear hg6
    go_wp2_with fail
    refine (rchalf_any w7 gc (some gx) s2 false hC).mono ?_
    rw [T3.out]
    rintro e w8 ⟨rfl, hC, hg6⟩
    simp only []
    have hbb := hbb.grown hg6 hbb.size (fun q hq => by cases hq; exact hwc)
    clear hg6
    go_wp2_with fail
    refine (rchalf_any w8 gc (some gx) s3 false hC).mono ?_
    rw [T4.out, HM.out]
    rintro e w9 ⟨rfl, hC, hg6⟩
    simp only []
    have hbb := hbb.grown hg6 hbb.size (fun q hq => by cases hq; exact hwc)
    clear hg6
    go_wp2_with fail
    refine (rchalf_any w9 gc (some gx) s4 false hC).mono ?_
    rw [T6.out, HZ.out]
    rintro e w10 ⟨rfl, hC, hg6⟩
    simp only []
    have hbb := hbb.grown hg6 hbb.size (fun q hq => by cases hq; exact hwc)
    clear hg6 hC
    have hpg := fun w => rpages_any w Z (by omega)
    obtain ⟨PZ, hPZ⟩ : ∃ x, pagesN Z = x := ⟨_, rfl⟩
    rw [hPZ] at hpg HBAD
    have HPG := Lib.hid hpg
    have HPZ := Lib.hid hPZ
    clear hpg hPZ
    by_cases hbad : L < 1 ∨ L < fr ∨ life < L ∨ 4096 < Z ∨ PZ ≠ M ∨ lim < p + (M : Int)
    · have hno : RF = none := HBAD.out hbad
      have HNO := Lib.hid hno
      have hcs : L < 1 ∨ (¬ L < 1 ∧ L < fr) ∨ (¬ L < 1 ∧ ¬ L < fr ∧ life < L) ∨ (¬ L < 1 ∧ ¬ L < fr ∧ ¬ life < L ∧ 4096 < Z) ∨ (¬ L < 1 ∧ ¬ L < fr ∧ ¬ life < L ∧ ¬ 4096 < Z ∧ PZ ≠ M) ∨ (¬ L < 1 ∧ ¬ L < fr ∧ ¬ life < L ∧ ¬ 4096 < Z ∧ PZ = M ∧ lim < p + (M : Int)) := by omega
      clear hbad hno
      rcases hcs with c1 | ⟨c1, c2⟩ | ⟨c1, c2, c3⟩ | ⟨c1, c2, c3, c4⟩ | ⟨c1, c2, c3, c4, c5⟩ | ⟨c1, c2, c3, c4, c5, c6⟩
      · have e1 : (L : Int) < 1 := by omega
        go_wp2_with fail
        go_ret3
        exact ⟨.inl ⟨HNO.out, rfl⟩, hbb⟩
      · have e1 : ¬ (L : Int) < 1 := by omega
        have e2 : (L : Int) < (fr : Int) := by omega
        go_wp2_with fail
        go_ret3
        exact ⟨.inl ⟨HNO.out, rfl⟩, hbb⟩
      · have e1 : ¬ (L : Int) < 1 := by omega
        have e2 : ¬ (L : Int) < (fr : Int) := by omega
        have e3 : (life : Int) < (L : Int) := by omega
        go_wp2_with fail
        go_ret3
        exact ⟨.inl ⟨HNO.out, rfl⟩, hbb⟩
      · have e1 : ¬ (L : Int) < 1 := by omega
        have e2 : ¬ (L : Int) < (fr : Int) := by omega
        have e3 : ¬ (life : Int) < (L : Int) := by omega
        have e4 : (4096 : Int) < (Z : Int) := by omega
        go_wp2_with fail
        go_ret3
        exact ⟨.inl ⟨HNO.out, rfl⟩, hbb⟩
      · have e1 : ¬ (L : Int) < 1 := by omega
        have e2 : ¬ (L : Int) < (fr : Int) := by omega
        have e3 : ¬ (life : Int) < (L : Int) := by omega
        have e4 : ¬ (4096 : Int) < (Z : Int) := by omega
        have e5 : ((PZ : Int) != (M : Int)) = true := by simp; omega
        go_wp2_with fail
        refine (HPG.out _).mono ?_
        rintro e w11 ⟨rfl, rfl⟩
        simp only []
        go_wp2_with fail
        go_ret3
        exact ⟨.inl ⟨HNO.out, rfl⟩, hbb⟩
      · have e1 : ¬ (L : Int) < 1 := by omega
        have e2 : ¬ (L : Int) < (fr : Int) := by omega
        have e3 : ¬ (life : Int) < (L : Int) := by omega
        have e4 : ¬ (4096 : Int) < (Z : Int) := by omega
        have e5 : ((PZ : Int) != (M : Int)) = false := by rw [c5]; simp
        go_wp2_with fail
        refine (HPG.out _).mono ?_
        rintro e w11 ⟨rfl, rfl⟩
        simp only []
        go_wp2_with fail
        go_ret3
        exact ⟨.inl ⟨HNO.out, rfl⟩, hbb⟩
    · have HOK := Lib.hid hbad
      have e1 : ¬ (L : Int) < 1 := by omega
      have e2 : ¬ (L : Int) < (fr : Int) := by omega
      have e3 : ¬ (life : Int) < (L : Int) := by omega
      have e4 : ¬ (4096 : Int) < (Z : Int) := by omega
      have e5 : ((PZ : Int) != (M : Int)) = false := by rw [show PZ = M by omega]; simp
      have e6 : ¬ lim < p + (M : Int) := by omega
      have hM1 : 1 ≤ M := by have := (pagesN_room Z).2; have := HPZ.out; omega
      have hroom : 2 + Z ≤ M * 108 := by have := (pagesN_room Z).1; have := HPZ.out; rw [show M = PZ by omega, ← this]; omega
      have hM38 : M ≤ 38 := by have h1 := HPZ.out; unfold pagesN at h1; omega
      clear hbad
      go_wp2_with fail
      refine (HPG.out _).mono ?_
      rintro e w11 ⟨rfl, rfl⟩
      simp only []
      go_upto_block 0 with (fail)
      have hDk0 := hD.below hbb
      have hbs := hbb.size
      obtain ⟨NN, hNN⟩ : ∃ x, M * 108 = x := ⟨_, rfl⟩
      rw [hNN] at hroom
      have HNW := Lib.hid hNN
      clear T1 T2 T3 T4 T6 HL HM HZ HVP HBAD HPG HS HE hNN
      go_cut [21] (fun al wx => ∃ (all : List UInt8) (A : Option Addr) (c : Nat), al = .slice A NN c ∧ gatF V p M = some all ∧ OB 5 wx w10.heap.size A NN c all ∧ Below w10.heap.size w10 wx)
      case first =>
        go_wp2_with fail
        go_loopw [21, 22] (fun al i wr => ∃ (k : Nat) (all : List UInt8) (A : Option Addr) (N c : Nat), k ≤ M ∧ i = .int .i64 (k : Int) ∧ al = .slice A N c ∧ gatF V p k = some all ∧ OB 5 wr w10.heap.size A N c all ∧ Below w10.heap.size w10 wr) (fun _ i _ => M - (intOf i).toNat)
        case atStart => exact ⟨0, [], none, 0, 0, by omega, rfl, rfl, rfl, OB.nil_ _ _ _, Below.refl _ _⟩
        case round =>
          obtain ⟨k, all, A, N, c, hk, rfl, rfl, hga, hO, hbk⟩ := hrel
          have hal := gatF_len HV.out k all hga
          have hNl := hO.len
          have HGA := Lib.hid hga
          clear hga
          by_cases hkM : k < M
          · have hDk := hDk0.below hbk
            have hVk := HVV.out (p + (k : Int))
            have hsk := hDk.len (p + (k : Int))
            obtain ⟨s', hs'⟩ : ∃ s, readB d (p + (k : Int)) = s := ⟨_, rfl⟩
            obtain ⟨E, hE⟩ : ∃ E, readE d (p + (k : Int)) = E := ⟨_, rfl⟩
            rw [hs'] at hVk hsk
            rw [hE] at hVk
            have HS' := Lib.hid hs'
            have HE' := Lib.hid hE
            have HVK := Lib.hid hVk
            have hszk : (bvs s').toArray.size = 128 := by rw [bvs_size, hsk]
            have g1 : (k : Int) < (M : Int) := by omega
            have hwp : IntKind.i64.wrap (p + (k : Int)) = p + (k : Int) := IntWalk.i64_in _ (by omega)
            have hN12 : N ≤ 5000 := by omega
            clear hs' hE hVk hal hNl
            go_wp2_with fail
            refine (rgread _ base g _ _ hDk hg (p + (k : Int))).mono ?_
            rw [HS'.out, HE'.out]
            rintro e w12 ⟨rfl, hb⟩
            simp only []
            have hO := OB.grown hO (grownBy_of_below hb none) (.inr rfl)
            have hbk := hbk.trans (hb.mono hbk.size)
            clear hb hDk
            repeat (first | ((with_reducible refine wpl_store_fresh (bvs s').toArray i128 ?_ hszk (bvs_all _) ?_ ?_ ?_); (focus kernel_rfl); (focus rfl); (focus rfl); intro w13 hB hl3 hb; simp only [Act.put]; refine Hid.out ?_) | go_values | go_skip | go_guarded | go_step | go_upon | go_back)
            refine Lib.hid ?_
            have hO := OB.grown hO (grownBy_of_below hb none) (.inr rfl)
            have hbk := hbk.trans (hb.mono hbk.size)
            clear hb hl3
            obtain ⟨gB, hgB⟩ : ∃ x, w12.heap.size = x := ⟨_, rfl⟩
            rw [hgB] at hB ⊢
            clear hgB
            by_cases hE0 : E = 0
            · subst hE0
              have hnx := gatF_next HGA.out (HVK.out.trans (if_pos rfl))
              have HNX := Lib.hid hnx
              have hR20 := blk_dropN hB (m := 128) (k := 20) (r := 108) hsk rfl
              clear hnx
              go_wp2_with (at_builtin; refine app_bytes rfl _ _ rfl w10.heap.size A N c all rfl hO (some ⟨gB, 20, none⟩) 108 108 (s'.drop 20) rfl hR20 (by omega) hbk.size ?_; intro A2 N2 c2 w14 hc2 hc2' hO2 hG2)
              have hbk := hG2.own hbk (Nat.le_refl _) hO
              exact ⟨⟨k + 1, all ++ s'.drop 20, A2, N2, c2, by omega, congrArg (Value.int .i64) (by omega), rfl, HNX.out, hO2, hbk⟩, by simp only [intOf]; omega⟩
            · have hno : RF = none := HRF.out.symm.trans (ref_none4 HV.out HSM.out (k := k) (by rw [HHP.out]; exact hkM) (HVK.out.trans (if_neg hE0)))
              have HNO := Lib.hid hno
              have hne : (E != 0) = true := by simpa using hE0
              clear hno hE0
              go_wp2_with fail
              go_ret3
              exact ⟨.inl ⟨HNO.out, rfl⟩, hbb.trans (hbk.mono hbs)⟩
          · obtain rfl : k = M := by omega
            have g1 : ¬ ((k : Nat) : Int) < (k : Int) := by omega
            have hnn2 := HNW.out
            obtain rfl : N = NN := by omega
            clear hnn2
            go_wp2_with fail
            go_meet
            exact ⟨all, A, c, rfl, HGA.out, hO, hbk⟩
      case rest =>
        obtain ⟨all, A, c, rfl, hga, hO, hbk⟩ := hcut
        obtain ⟨a, ha⟩ : ∃ a, A = some a := by
          obtain ⟨g3, cap3, hv, _, _⟩ := World.ownsRow.form hO (by omega)
          injection hv with hv
          exact ⟨_, hv⟩
        subst ha
        have hal := gatF_len HV.out M all hga
        have hcap := (OB.cap hO).1
        have hge := OB.ge hO
        have hR := hO.reads
        have hbbc := hbb.trans (hbk.mono hbs)
        have HGA := Lib.hid hga
        have hNN3 : 3 ≤ NN := by have := HNW.out; omega
        have m7 : ¬ c = 2 := by omega
        have m8 : ((2 : Int) + (Z : Int)).toNat - 2 = Z := by omega
        have m4 : (2 : Int) ≤ 2 + (Z : Int) := by omega
        have m3 : 2 + (Z : Int) ≤ (c : Int) := by omega
        have v5 : IntKind.i64.wrap (2 + (Z : Int)) = 2 + (Z : Int) := IntWalk.i64_in _ (by omega)
        have hpart : RB wc (some (a.add 2)) Z ((all.drop 2).take Z) := by
          have h1 := Reads.cut hR (k := 2) (cap := c) (by omega) hcap
          rw [if_neg m7] at h1
          have h2 := Reads.take_ h1 (k := Z) (by omega)
          have he : bvs ((all.drop 2).take Z) = ((bvs all).drop (2 * 1)).take (Z * 1) := by
            simp only [bvs, List.map_take, List.map_drop, Nat.mul_one]
          unfold RB
          rw [he]
          simpa using h2
        have ha2 : a.add 2 = ⟨a.block, a.off + 2, none⟩ := by simp [Addr.add]
        rw [ha2] at hpart
        obtain ⟨r, hr⟩ : ∃ r, (all.drop 2).take Z = r := ⟨_, rfl⟩
        rw [hr] at hpart
        have HR := Lib.hid hr
        have hDc := hDk0.below hbk
        have hges : ∀ x, (some (⟨a.block, a.off + 2, none⟩ : Addr)).map (·.block) = some x → w.heap.size ≤ x ∧ x < wc.heap.size := fun x hx => by
          have := hge x hx
          exact ⟨by omega, this.2⟩
        clear hga ha2 hr hO hge hR hDk0 hbk hbb hD
        go_wp2_with fail
        go_loopw [26] (fun i wr => ∃ k : Nat, k ≤ M ∧ i = .int .i64 (k : Int) ∧ (∀ j : Nat, j < k → V (p + (j : Int)) = some (recP L nn r j)) ∧ Below wc.heap.size wc wr) (fun i _ => M - (intOf i).toNat)
        case atStart => exact ⟨0, by omega, rfl, fun j hj => absurd hj (Nat.not_lt_zero _), Below.refl _ _⟩
        case round =>
          obtain ⟨k, hk, rfl, hall, hbk⟩ := hrel
          have HALL := Lib.hid hall
          clear hall
          by_cases hkM : k < M
          · have hDk := hDc.below hbk
            obtain ⟨t, ht⟩ := gatF_at M all HGA.out k hkM
            have hVk := HVV.out (p + (k : Int))
            rw [ht] at hVk
            have hek : readE d (p + (k : Int)) = 0 ∧ readB d (p + (k : Int)) = t := by
              by_cases h0 : readE d (p + (k : Int)) = 0
              · rw [if_pos h0] at hVk
                exact ⟨h0, (Option.some.inj hVk).symm⟩
              · rw [if_neg h0] at hVk
                cases hVk
            have hsk := HV.out _ _ ht
            have HEK := Lib.hid hek
            have HT := Lib.hid ht
            have hszk : (bvs t).toArray.size = 128 := by rw [bvs_size, hsk]
            have g1 : (k : Int) < (M : Int) := by omega
            have hwp : IntKind.i64.wrap (p + (k : Int)) = p + (k : Int) := IntWalk.i64_in _ (by omega)
            have hpk := hpart.below hbk
            have hkp : k < pagesN Z := by rw [HPZ.out]; have := HOK.out; omega
            have hrl := recP_length L nn r (k := k) (by rw [hpart.len]; exact hkp)
            obtain ⟨RR, hRR⟩ : ∃ x, recP L nn r k = x := ⟨_, rfl⟩
            have hpage := fun w (hr : RB w (some ⟨a.block, a.off + 2, none⟩) Z r) => rpage_any w L nn k hll hn (some ⟨a.block, a.off + 2, none⟩) Z (c - 2) r hr (by omega) hkp
            rw [hRR] at hrl
            simp only [hRR] at hpage
            have HRR := Lib.hid hRR
            have HPAGE := Lib.hid hpage
            have hx : ∀ w, (Op.equalIn 10000 28 (.agg (bvs t).toArray) (.agg (bvs RR).toArray)).run Try.prog w = .ok (decide (t = RR)) w := fun w => eql128 t RR hsk hrl w
            clear hVk hek ht hRR hpage
            go_wp2_with fail
            refine (rgread _ base g _ _ hDk hg (p + (k : Int))).mono ?_
            rw [HEK.out.1, HEK.out.2]
            rintro e w12 ⟨rfl, hb⟩
            simp only []
            have hpk := hpk.below hb
            have hbk := hbk.trans (hb.mono hbk.size)
            clear hb hDk
            repeat (first | ((with_reducible refine wpl_store_fresh (bvs t).toArray i128 ?_ hszk (bvs_all _) ?_ ?_ ?_); (focus kernel_rfl); (focus rfl); (focus rfl); intro w13 hB hl3 hb; simp only [Act.put]; refine Hid.out ?_) | go_values | go_skip | go_guarded | go_step | go_upon | go_back)
            refine Lib.hid ?_
            have hpk := hpk.below hb
            have hbk := hbk.trans (hb.mono hbk.size)
            clear hb hl3
            obtain ⟨gB, hgB⟩ : ∃ x, w12.heap.size = x := ⟨_, rfl⟩
            rw [hgB] at hB ⊢
            clear hgB
            go_upto_region 27 with (fail)
            refine wp_region_plan [(0, true), (1, true), (2, true), (3, true), (4, true), (5, false), (6, true)] (fun z => Blk z gB 28 (bvs t).toArray) (by kernel_rfl) (by kernel_rfl) (by kernel_rfl) (by kernel_rfl) (fun _ _ d _ _ h => by cases d <;> exact h) hB ?_
            simp only [planOps, List.getElem?_toArray, List.getElem?_cons_zero, List.getElem?_cons_succ]
            refine wpS_q (.agg (bvs t).toArray) (by rfl) (fun z hz => load_row_run rfl gB _ Try.underlying28 rfl i128 hz hszk rfl) ?_
            simp only [Act.put, List.setIfInBounds_toArray, List.set_cons_zero, List.set_cons_succ]
            iterate 4 (refine wpS_q ?_ (by rfl) ?_ ?_; rotate_left; (focus (intro z hz; (try dsimp only at hz); go_simp; rfl)); simp only [Act.put, List.setIfInBounds_toArray, List.set_cons_zero, List.set_cons_succ])
            refine wpS_l (by rfl) (fun K hK => ?_)
            go_wp2_with fail
            refine (HPAGE.out _ (hpk.below drew_below)).mono ?_
            rintro e w14 ⟨rfl, hb⟩
            have hb : Below w13.heap.size w13 w14 := drew_below.trans hb
            have hB14 := hB.below hb hB.lt
            have hbk := hbk.trans (hb.mono hbk.size)
            refine hK _ _ _ hB14 (fun _ h => h) ?_
            clear hK hb hpk hB
            by_cases heq : t = RR
            · obtain rfl : t = RR := heq
              rw [decide_eq_true rfl] at hx
              iterate 1 (refine wpS_q ?_ (by rfl) ?_ ?_; rotate_left; (focus (intro z hz; (try dsimp only at hz); go_simp; rfl)); simp only [Act.put, List.setIfInBounds_toArray, List.set_cons_zero, List.set_cons_succ])
              refine wpS_nil ?_
              go_wp2_with fail
              exact ⟨⟨k + 1, by omega, congrArg (Value.int .i64) (by omega), fun j hj => by
                by_cases e : j < k
                · exact HALL.out j e
                · obtain rfl : j = k := by omega
                  rw [HRR.out]
                  exact HT.out, hbk⟩, by simp only [intOf]; omega⟩
            · rw [decide_eq_false heq] at hx
              have hno : RF = none := HRF.out.symm.trans (ref_none5 HV.out HSM.out (k := k) (by rw [HHP.out]; exact hkM) (by rw [HHP.out]; exact HGA.out) HT.out (by rw [HHL.out, ← HZZ.out, HR.out, ← HNN.out, HRR.out]; exact heq))
              have HNO := Lib.hid hno
              clear heq hno
              iterate 1 (refine wpS_q ?_ (by rfl) ?_ ?_; rotate_left; (focus (intro z hz; (try dsimp only at hz); go_simp; rfl)); simp only [Act.put, List.setIfInBounds_toArray, List.set_cons_zero, List.set_cons_succ])
              refine wpS_nil ?_
              go_wp2_with fail
              go_ret3
              exact ⟨.inl ⟨HNO.out, rfl⟩, hbbc.trans (hbk.mono hbbc.size)⟩
          · obtain rfl : k = M := by omega
            have g1 : ¬ ((k : Nat) : Int) < (k : Int) := by omega
            have hfin := ref_some (lim := lim) (n := n) (fr := fr) (life := life) HV.out (by have := HNN.out; omega) HSM.out (by rw [HHL.out, HHP.out, ← HZZ.out, HPZ.out]; exact HOK.out) (by rw [HHP.out]; exact HGA.out) (by rw [HHP.out, HHL.out, ← HZZ.out, HR.out, ← HNN.out]; exact HALL.out)
            rw [HHL.out, HHP.out, ← HZZ.out, HR.out] at hfin
            have HFIN := Lib.hid (HRF.out.symm.trans hfin)
            clear hfin
            go_wp2_with fail
            go_ret3
            exact ⟨.inr ⟨r, ⟨L, n + 1, 0, k⟩, HFIN.out, some ⟨a.block, a.off + 2, none⟩, Z, c - 2, rfl, hpart.below hbk, by omega, fun x hx => ⟨(hges x.block (by rw [hx]; rfl)).1, Nat.lt_of_lt_of_le (hges x.block (by rw [hx]; rfl)).2 hbk.size⟩⟩, hbbc.trans (hbk.mono hbbc.size)⟩
  · have hno : RF = none := HRF.out.symm.trans (ref_none2 (HVP.out.trans (if_neg hE0)))
    have HNO := Lib.hid hno
    have hne : (E != 0) = true := by simpa using hE0
    clear hno hE0
    go_wp2_with fail
    go_ret3
    exact ⟨.inl ⟨HNO.out, rfl⟩, hbb⟩
end Go.Proofs.Ytmjdfajdompkeaa
namespace Go.Proofs.Ytmjdfajdompkeaa
open Go.RowKit Go.Rat
/-- A book of the document's, beside its disk. -/
structure RBookAt (w : World) (base : Nat) (l : RL) (k : Nat) (s : BS) : Prop where
  blk : Blk w k 92 #[.pointer (some ⟨l.g, 0, none⟩), .int .i64 s.next, .int .i64 s.lim, .int .u64 (s.life : Int), .int .i64 (s.n : Int), .bool s.dead]
  out : ¬ l.fp k
  bk : base ≤ k
theorem RBookAt.kept {w w' : World} {base : Nat} {l l' : RL} {k : Nat} {s : BS} {F : Nat → Prop} (h : RBookAt w base l k s) (hc : Chg F w w') (hk : ¬ F k) (hg : l'.g = l.g) (hfp : ∀ x, l'.fp x → l.fp x ∨ w.heap.size ≤ x) : RBookAt w' base l' k s := by
  refine ⟨by rw [hg]; exact hc.blk h.blk hk, fun q => ?_, h.bk⟩
  rcases hfp k q with h1 | h1
  · exact h.out h1
  · have := h.blk.lt
    omega
theorem RBookAt.moved {w w' : World} {base : Nat} {l l' : RL} {k : Nat} {s : BS} (h : RBookAt w base l k s) (hm : RMoved w w' l l') : RBookAt w' base l' k s := h.kept hm.chg h.out hm.g hm.fp
theorem RBookAt.below {w w' : World} {base : Nat} {l : RL} {k : Nat} {s : BS} (h : RBookAt w base l k s) (hb : Below w.heap.size w w') : RBookAt w' base l k s := h.moved (RMoved.of_below hb)
/-- One block alone, as if it were a disk's. -/
def oneDL (k : Nat) : DL := ⟨k, k, k, none, 0⟩
theorem oneDL_fp {k x : Nat} : (oneDL k).fp x ↔ x = k := by
  simp [DL.fp, oneDL]
set_option maxRecDepth 20000 in
set_option maxHeartbeats 8000000 in
theorem rall_any (w : World) (base : Nat) (l : RL) (d : DS) (hD : RDk w base l d) (g : Nat) (hlg : l.g = g) (k : Nat) (s : BS) (hB : RBookAt w base l k s) (hs : 0 ≤ s.next ∧ s.next ≤ 32768 ∧ s.lim ≤ 32768 ∧ (s.n : Int) ≤ s.next ∧ s.life < 2 ^ 64) (f : Nat) (hf : (s.lim - s.next).toNat ≤ f) :
    Calls Try.prog 79 #[.pointer (some ⟨k, 0, none⟩)] w fun e w' => ∃ A N c ps, e = .returned (.slice A N c) ∧ Row w' (oneDL k) w.heap.size A N c ps ∧ (∀ q ∈ ps, ∀ g, q.A.map (·.block) = some g → w.heap.size ≤ g) ∧ ps.map (·.xs) = (allF (seeD d) s.lim s.life f s.next s.n 1).1 ∧
      RBookAt w' base l k { s with next := (allF (seeD d) s.lim s.life f s.next s.n 1).2.1, n := (allF (seeD d) s.lim s.life f s.next s.n 1).2.2 } ∧ w.grownBy w' (some k) := by
  obtain ⟨TOT, hT⟩ : ∃ T, allF (seeD d) s.lim s.life f s.next s.n 1 = T := ⟨_, rfl⟩
  rw [hT]
  have HT := Lib.hid hT
  clear hT
  have hkf : ∀ x, l.fp x → ¬ x = k := fun x hx e => hB.out (e ▸ hx)
  have hkw : k < w.heap.size := hB.blk.lt
  go_enter Try.func79, Try.ntmps79
  go_wp2_with fail
  go_loopw [3, 4] (fun rv fv wr => ∃ (p : Int) (n fr f' : Nat) (A : Option Addr) (N c : Nat) (ps : List Pt), rv = .slice A N c ∧ fv = .int .u64 (fr : Int) ∧ 1 ≤ fr ∧ fr < 2 ^ 64 ∧ Row wr (oneDL k) w.heap.size A N c ps ∧ RBookAt wr base l k { s with next := p, n := n } ∧ (s.lim - p).toNat ≤ f' ∧
    ps.map (·.xs) ++ (allF (seeD d) s.lim s.life f' p n fr).1 = TOT.1 ∧ (allF (seeD d) s.lim s.life f' p n fr).2 = TOT.2 ∧ w.grownBy wr (some k) ∧ 0 ≤ p ∧ p ≤ 32768 ∧ (n : Int) ≤ p ∧ N ≤ n ∧ ∀ q ∈ ps, ∀ g, q.A.map (·.block) = some g → w.heap.size ≤ g) (fun rv _ _ => 40000 - lenOf rv)
  case atStart => exact ⟨s.next, s.n, 1, f, none, 0, 0, [], rfl, rfl, by decide, by decide, Row.nil _ _ _, hB, hf, by rw [HT.out]; rfl, by rw [HT.out], World.grownBy.refl _ _, hs.1, hs.2.1, hs.2.2.2.1, Nat.zero_le _, by simp⟩
  case round =>
    obtain ⟨p, n, fr, f', A, N, c, ps, rfl, rfl, hfr1, hfr, hR, hBr, hf', ht1, ht2, hg, hp0, hp1, hnp, hNn, hge⟩ := hrel
    have hDr : RDk wr base l d := hD.kept (Chg.of_grown (F := fun x => x = k) hg rfl) (fun x hx e => hkf x hx e)
    have HT1 := Lib.hid ht1
    have HT2 := Lib.hid ht2
    have hsz := hg.size
    have hR0 := hR
    have hK := hBr.blk
    rw [hlg] at hK
    simp only at hK
    obtain ⟨lim, hlim⟩ : ∃ x, s.lim = x := ⟨_, rfl⟩
    obtain ⟨life, hlife⟩ : ∃ x, s.life = x := ⟨_, rfl⟩
    have hrec := fun w1 (h1 : RDk w1 base l d) => rrecord_any w1 base l d h1 g hlg p s.lim n (n + 1) fr s.life ⟨hp0, hp1, hs.2.2.1⟩ rfl (by omega) ⟨hfr1, hfr⟩ hs.2.2.2.2
    rw [hlim, hlife] at hrec hK
    have hc1 : ((n + 1 : Nat) : Int) = (n : Int) + 1 := rfl
    have HREC := Lib.hid hrec
    have HLIM := Lib.hid hlim
    have HLIFE := Lib.hid hlife
    have k0 := hK.cell 0
    have k1 := hK.cell 1
    have k2 := hK.cell 2
    have k3 := hK.cell 3
    have k4 := hK.cell 4
    simp only [List.getElem?_toArray, List.getElem?_cons_zero, List.getElem?_cons_succ] at k0 k1 k2 k3 k4
    have v1 : IntKind.u64.wrap ((n : Int) + 1) = (n : Int) + 1 := IntWalk.u64_in _ (by omega)
    clear ht1 ht2 hlim hlife hrec
    go_upto_region 3 with (fail)
    refine wp_region_plan [(0, true), (1, true), (2, true), (3, true), (4, true), (5, true), (6, true), (7, true), (8, true), (9, true), (10, true), (11, true), (12, true), (13, true), (14, true), (15, true), (16, true), (17, true), (18, true), (19, true), (20, true), (21, true), (22, true), (23, false), (24, true), (25, true), (26, true), (27, true), (28, true), (29, true), (30, true)]
      (fun z => z.cell? ⟨k, 0, none⟩ = some (.pointer (some ⟨g, 0, none⟩)) ∧ z.cell? ⟨k, 1, none⟩ = some (.int .i64 p) ∧ z.cell? ⟨k, 2, none⟩ = some (.int .i64 lim) ∧ z.cell? ⟨k, 3, none⟩ = some (.int .u64 (life : Int)) ∧ z.cell? ⟨k, 4, none⟩ = some (.int .i64 (n : Int))) (by kernel_rfl) (by kernel_rfl) (by kernel_rfl) (by kernel_rfl) (fun _ _ d _ _ h => by cases d <;> exact h) ⟨k0, k1, k2, k3, k4⟩ ?_
    simp only [planOps, List.getElem?_toArray, List.getElem?_cons_zero, List.getElem?_cons_succ]
    iterate 23 (refine wpS_q ?_ (by rfl) ?_ ?_; rotate_left; (focus (intro z hz; (try dsimp only at hz); go_simp; rfl)); simp only [Act.put, List.setIfInBounds_toArray, List.set_cons_zero, List.set_cons_succ])
    refine wpS_l (by rfl) (fun K hK2 => ?_)
    go_wp2_with fail
    refine (HREC.out _ (hDr.below drew_below)).mono ?_
    rintro e wa ⟨(⟨hrf, rfl⟩ | ⟨r, h, A1, N1, c1, hrf, rfl, hRB, hnc, hgeA⟩), hba⟩
    all_goals
      rw [← HLIM.out, ← HLIFE.out] at hrf
      have hba : Below wr.heap.size wr wa := drew_below.trans hba
      have hKa := hK.below hba hK.lt
      clear k0 k1 k2 k3 k4 HREC hK
      have k0 := hKa.cell 0
      have k1 := hKa.cell 1
      have k2 := hKa.cell 2
      have k3 := hKa.cell 3
      have k4 := hKa.cell 4
      simp only [List.getElem?_toArray, List.getElem?_cons_zero, List.getElem?_cons_succ] at k0 k1 k2 k3 k4
      refine hK2 _ _ _ ⟨k0, k1, k2, k3, k4⟩ (fun _ h => h) ?_
      clear hK2
      iterate 7 (refine wpS_q ?_ (by rfl) ?_ ?_; rotate_left; (focus (intro z hz; (try dsimp only at hz); go_simp; rfl)); simp only [Act.put, List.setIfInBounds_toArray, List.set_cons_zero, List.set_cons_succ])
      refine wpS_nil ?_
      clear k0 k1 k2 k3 k4 hKa
    · have hRF := allF_none hrf f'
      have hx1 := HT1.out
      have hx2 := HT2.out
      rw [hRF] at hx1 hx2
      rw [List.append_nil] at hx1
      have HX1 := Lib.hid hx1
      have HX2 := Lib.hid hx2
      have hR := hR.below hba
      have hBr := hBr.below hba
      have hg := hg.trans (grownBy_of_below hba (some k))
      clear hrf hRF hx1 hx2 hba hDr
      go_wp2_with fail
      go_ret
      exact ⟨A, N, c, rfl, ps, hR, fun q hq x hx => hge q hq x.block (by rw [hx]; rfl), HX1.out, by rw [← HX2.out]; exact hBr, hg⟩
    · have hrf0 := hrf
      obtain ⟨b1, b2, b3, b4, b5, _, _, _⟩ := readF_pages hrf
      obtain ⟨f2, rfl⟩ : ∃ f2, f' = f2 + 1 := ⟨f' - 1, by omega⟩
      have hRF := allF_some hrf f2
      have hx1 := HT1.out
      have hx2 := HT2.out
      rw [hRF] at hx1 hx2
      simp only at hx1 hx2
      have HX1 := Lib.hid hx1
      have HX2 := Lib.hid hx2
      have hhl : h.life < 2 ^ 64 := by have := hs.2.2.2.2; omega
      have hR := hR.below hba
      have hBr := hBr.below hba
      have hg := hg.trans (grownBy_of_below hba (some k))
      have hsa : wr.heap.size ≤ wa.heap.size := hba.size
      have hdr : wr.heap.size ≤ wr.drew.heap.size := (drew_below (w := wr)).size
      have hAA1 : Apart A A1 := fun x hx hx1 => by
        have h1 := (hR0.ltA x hx).2
        have h2 := (hgeA x hx1).1
        omega
      have hA1l : ∀ x, A1.map (·.block) = some x → x < wa.heap.size ∧ wr.heap.size ≤ x := fun x hx => ⟨(hgeA x hx).2, by have := (hgeA x hx).1; omega⟩
      have hltb : ∀ x, (oneDL k).fp x → x < wa.heap.size := fun x hx => by have := oneDL_fp.1 hx; omega
      have hpt : PtOk wa ⟨A1, N1, c1, r⟩ := ⟨hRB, hnc⟩
      have hpn : ∀ g, A1.map (·.block) = some g → g < wa.heap.size ∧ ¬ (oneDL k).fp g := fun x hx => ⟨(hA1l x hx).1, fun hf => by have h1 := oneDL_fp.1 hf; have h2 := (hA1l x hx).2; omega⟩
      have hAk : A.map (·.block) ≠ some k := fun e => by have := (hR0.ltA _ e).1; omega
      have hNl : N < 1000000 := by omega
      have hwb : w.heap.size ≤ wa.heap.size := by omega
      have hpz : ((h.pages : Int) == 0) = false := by simp; omega
      clear hrf hRF hx1 hx2 hba hDr HT1 HT2
      go_wp2_with (at_builtin; refine app_slice rfl _ _ rfl (oneDL k) hltb w.heap.size A N c ps rfl hR ⟨A1, N1, c1, r⟩ hpt hpn hAA1 22 _ rfl rfl hNl hwb ?_; intro A2 c2 wc hR2 hbc hgc; refine Hid.out ?_)
      refine Lib.hid ?_
      have hBc := (Blk.alloc hBr.blk (.cells #[(⟨A1, N1, c1, r⟩ : Pt).v] 22)).grown hgc (Ne.symm hAk)
      have hw2 : IntKind.i64.wrap (p + (h.pages : Int)) = p + (h.pages : Int) := IntWalk.i64_in _ (by omega)
      simp only at hBc
      have c1' := hBc.cell 1
      have f1 := hBc.frozen 1
      simp only [List.getElem?_toArray, List.getElem?_cons_zero, List.getElem?_cons_succ] at c1'
      have hB2 := hBc.set_ 1 (.int .i64 (p + (h.pages : Int)))
      simp only [List.setIfInBounds_toArray, List.set_cons_zero, List.set_cons_succ] at hB2
      have hg2 := grownBy_set wc k 1 (.int .i64 (p + (h.pages : Int)))
      have hg3 : w.grownBy (wc.setCell ⟨k, 1, none⟩ (.int .i64 (p + (h.pages : Int)))) (some k) := andThen_grown (andThen_grown (hg.trans (grownBy_of_below (below_alloc wa _) (some k))) hgc (fun x hx => .inl (hR0.ltA x hx).1)) hg2 (fun x hx => .inr hx)
      have hge2 : ∀ q ∈ ps ++ [⟨A1, N1, c1, r⟩], ∀ g, q.A.map (·.block) = some g → w.heap.size ≤ g := by
        intro q hq x hx
        rcases List.mem_append.1 hq with h1 | h1
        · exact hge q h1 x hx
        · obtain rfl : q = ⟨A1, N1, c1, r⟩ := by simpa using h1
          have := (hA1l x hx).2
          omega
      have hR3 := hR2.chg (Chg.of_grown (F := fun x => x = k) hg2 rfl) (fun x hx e => by omega) hge2
      have c4 := hB2.cell 4
      have f4 := hB2.frozen 4
      simp only [List.getElem?_toArray, List.getElem?_cons_zero, List.getElem?_cons_succ] at c4
      have hg4 := grownBy_set (wc.setCell ⟨k, 1, none⟩ (.int .i64 (p + (h.pages : Int)))) k 4 (.int .i64 ((n : Int) + 1))
      have hR4 := hR3.chg (Chg.of_grown (F := fun x => x = k) hg4 rfl) (fun x hx e => by omega) hge2
      have hB4 := hB2.set_ 4 (.int .i64 ((n : Int) + 1))
      simp only [List.setIfInBounds_toArray, List.set_cons_zero, List.set_cons_succ] at hB4
      clear hR2 hbc hgc hg2 hg hR hBr hRB hpt hpn
      go_wp2_with fail
      refine ⟨⟨p + (h.pages : Int), n + 1, h.life, f2, A2, N + 1, c2, ps ++ [⟨A1, N1, c1, r⟩], rfl, rfl, by omega, hhl, hR4, ⟨hB4, hB.out, hB.bk⟩, by omega, ?_, HX2.out, hg3.trans hg4, by omega, by omega, by omega, by omega, hge2⟩, by simp only [lenOf]; omega⟩
      rw [List.map_append, List.append_assoc]
      exact HX1.out
end Go.Proofs.Ytmjdfajdompkeaa
