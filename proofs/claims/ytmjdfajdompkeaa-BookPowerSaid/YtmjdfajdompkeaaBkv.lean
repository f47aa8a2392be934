/- The law BookRoom, walked. -/
import Derived.Test.YtmjdfajdompkeaaBku
import Derived.Test.YtmjdfajdompkeaaRds
namespace Go.Proofs.Ytmjdfajdompkeaa
open Go.RowKit Go.Rat
theorem sb_atB {w : World} {A : Option Addr} {n : Nat} {l : List SB} (h : Reads w w.heap.size 1 A n (l.flatMap fun x => [x.v])) {k : Nat} (hk : k < n) :
    ∃ ad x, A = some ad ∧ x ∈ l ∧ (ad.add k).block < w.heap.size ∧ w.cell? (ad.add k) = some x.v := by
  obtain ⟨ad, rfl, hb, hc⟩ := h.2 (by omega)
  have hlen := flat_len (fun x : SB => [x.v]) 1 (fun _ => rfl) l
  have hkl : k < l.length := by have := h.1; omega
  have hg : l[k]? = some l[k] := List.getElem?_eq_getElem hkl
  have F := flat_get (fun x : SB => [x.v]) 1 (fun _ => rfl) l k
  refine ⟨ad, l[k], rfl, List.getElem_mem hkl, by rw [block_of_add]; exact hb, ?_⟩
  exact hc _ _ (by have := F 0 _ hg (by omega); simpa using this)
theorem room_start (S : Nat) (hS : S < 256) : ∃ d1 d2, fmF ds0 3 = (d1, 0) ∧ d1.loose = [] ∧ OpOf d1 d2 3 (21 + (S : Int)) (24 + (S : Int)) 0 2 [] 23 1 ∧ d2.now (24 + (S : Int)) = zsec := by
  obtain ⟨h1, h2, h3, h4, h5⟩ := book_format (d := ds0) (p := 3) (lim := 24 + (S : Int)) (by omega) rfl rfl (fun _ _ _ => rfl)
  obtain ⟨d2, o1⟩ := h2.op h3 (by decide) (by decide) (21 + (S : Int)) (by omega)
  exact ⟨_, d2, Prod.ext rfl h1, h4, o1, by rw [o1.now _ (by omega), h5 _ (by omega)]; rfl⟩
structure RmSt (d : DS) (lim : Int) (rs : List (List UInt8)) (q : Int) (z : Nat) : Prop where
  st : BookSt d 3 lim 1 1 3 rs q z
  f : d.fuse = -1
  l : d.loose = []
  now : d.now lim = zsec
set_option maxRecDepth 20000 in
set_option maxHeartbeats 8000000 in
theorem bookRoom_walk (w : World) (size : UInt8) (A : Option Addr) (m c : Nat) (l : List SB) (_ : l.length = m) (hr : Reads w w.heap.size 1 A m (l.flatMap fun x => [x.v])) (hi : ∀ x ∈ l, SB.ok w x) :
    Calls Try.prog 13 #[.int .u8 (size.toNat : Int), .slice A m c] w fun e w' => e = .returned (.bool true) ∧ Below w.heap.size w w' := by
  by_cases hbig : 60 < m
  · have hbi : (60 : Int) < (m : Int) := by omega
    go_enter Try.func13, Try.ntmps13
    go_wp2_with (go_at_call 43; refine (works6_any w).mono ?_; rintro e w2 ⟨rfl, hb2⟩)
    go_ret
    exact ⟨rfl, hb2⟩
  have hbi : ¬ (60 : Int) < (m : Int) := by omega
  obtain ⟨S, hS⟩ : ∃ S, size.toNat = S := ⟨_, rfl⟩
  have hS1 : S < 256 := by have := size.toNat_lt; omega
  rw [hS]
  obtain ⟨d1, d2, hf, hl1, ho, hnow⟩ := room_start S hS1
  have HF := Lib.hid hf
  have HL1 := Lib.hid hl1
  have HO := Lib.hid ho
  have HNOW := Lib.hid hnow
  have HI := Lib.hid hi
  obtain ⟨base, hbase⟩ : ∃ b, w.heap.size = b := ⟨_, rfl⟩
  have HBASE := Lib.hid hbase
  clear hf hl1 ho hnow hS hi
  go_enter Try.func13, Try.ntmps13
  go_wp2_with fail
  refine (dnew_any w).mono ?_
  rintro e w1 ⟨l0, rfl, hD, hb⟩
  have hbb : Below w.heap.size w w1 ∧ base ≤ w1.heap.size := ⟨hb, by rw [← hbase]; exact hb.size⟩
  rw [hbase] at hD
  clear hb hbase
  simp only []
  obtain ⟨g, hlg⟩ : ∃ g, l0.g = g := ⟨_, rfl⟩
  rw [hlg]
  go_wp2_with fail
  refine (bformat_any w1 base l0 ds0 hD g hlg hbb.2 (by decide) 3 (by omega)).mono ?_
  rw [HF.out]
  rintro e w2 ⟨l1, rfl, hlg1, hD1, hm⟩
  have hbb := base_moved hbb (Nat.le_of_eq HBASE.out) hD hm
  simp only []
  clear hm hD hlg
  go_wp2_with fail
  refine (bopen_any w2 base l1 d1 hD1 g hlg1 hbb.2 (by rw [HL1.out]; decide) 3 (21 + (S : Int))).mono ?_
  rw [HO.out.e, HO.out.d_, HO.out.s, HO.out.a]
  rintro e w3 ⟨l2, hlg2, hD2, hm, (⟨h, _⟩ | ⟨_, kb, A', N, c', ps, rfl, hk, hB, hR, hxs⟩)⟩
  · exact absurd rfl h
  have hbb := base_moved hbb (Nat.le_of_eq HBASE.out) hD1 hm
  have hN0 : N = 0 := by
    have h1 := hR.len
    have h2 := congrArg List.length hxs
    rw [List.length_map] at h2
    simp only [List.length_nil] at h2
    omega
  subst hN0
  simp only []
  clear hm hD1 hlg1 hR hxs hk
  go_upto_block 0 with (fail)
  have hbb1 := hbb.1
  have hbb2 := hbb.2
  go_cut [10, 11] (fun lv tv wx => ∃ (d : DS) (l' : DL) (rs : List (List UInt8)) (q : Int) (z : Nat), lv = .int .i64 (24 + (S : Int) - q) ∧ tv = .int .i64 (rs.length : Int) ∧ RmSt d (24 + (S : Int)) rs q z ∧ DiskAt wx base l' d ∧ l'.g = g ∧ BookAt wx base l' kb ⟨q, 24 + (S : Int), 1, rs.length, false⟩ ∧ Below w.heap.size w wx ∧ base ≤ wx.heap.size)
  case first =>
    go_wp2_with fail
    go_loopw [10, 11, 12] (fun lv tv iv wr => ∃ (k : Nat) (d : DS) (l' : DL) (rs : List (List UInt8)) (q : Int) (z : Nat), k ≤ m ∧ iv = .int .i64 (k : Int) ∧ lv = .int .i64 (24 + (S : Int) - q) ∧ tv = .int .i64 (rs.length : Int) ∧ RmSt d (24 + (S : Int)) rs q z ∧ DiskAt wr base l' d ∧ l'.g = g ∧ BookAt wr base l' kb ⟨q, 24 + (S : Int), 1, rs.length, false⟩ ∧ Below w.heap.size w wr ∧ base ≤ wr.heap.size) (fun _ _ iv _ => m - (intOf iv).toNat)
    case atStart => exact ⟨0, d2, l2, [], 23, 1, Nat.zero_le _, rfl, congrArg (Value.int .i64) (by omega), rfl, ⟨HO.out.st, HO.out.f, HO.out.l, HNOW.out⟩, hD2, hlg2, hB, hbb1, hbb2⟩
    case round =>
      clear hbb hD2 hbb1 hbb2 hB
      obtain ⟨k, d, l', rs, q, z, hk, rfl, rfl, rfl, hst, hDk, hlk, hBk, hbk, hbks⟩ := hrel
      have hqq := hst.st.q_
      by_cases hkm : k < m
      · obtain ⟨ad, ⟨A1, n, z1, b⟩, e, hxl, hadl, q0⟩ := sb_atB hr hkm
        cases e
        obtain ⟨hR1, _, _⟩ := HI.out _ hxl
        simp only [SB.v] at q0 hR1
        have hl1 := hR1.len
        obtain ⟨Pa, hPa⟩ : ∃ P, ad.add k = P := ⟨_, rfl⟩
        have Q0 : Hid (∀ z, Below w.heap.size w z → z.cell? Pa = some (.slice A1 n z1)) := Lib.hid (fun z hz => by rw [hPa] at hadl q0; exact (hz.cell hadl).trans q0)
        have HL1 := Lib.hid hl1
        have g1 : (k : Int) < (m : Int) := by omega
        have g0 : (0 : Int) ≤ (k : Int) := by omega
        clear hxl q0 hl1 hadl
        have c0 := Q0.out _ hbk
        by_cases hb1 : 4096 < n
        · have hb1' : (4096 : Int) < (n : Int) := by omega
          clear hb1 hqq
          go_wp2_with (go_at_call 43; refine (works6_any _).mono ?_; rintro e w2 ⟨rfl, hb2⟩)
          go_ret
          exact ⟨rfl, below_next' hbk hb2⟩
        · have hb1' : ¬ (4096 : Int) < (n : Int) := by omega
          have hbl : b.length ≤ 4096 := by have := HL1.out; omega
          have hn1 : n ≤ 4096 := by omega
          obtain ⟨P, hP⟩ : ∃ P, pagesN n = P := ⟨_, rfl⟩
          have hPb : pagesN b.length = P := by rw [HL1.out]; exact hP
          have hP38 : P ≤ 38 := by rw [← hP]; unfold pagesN; omega
          have HP := Lib.hid hP
          have hbnd : 0 ≤ q ∧ q ≤ 32768 ∧ 24 + (S : Int) ≤ 32768 ∧ rs.length ≤ 32767 ∧ 1 < 2 ^ 64 := by omega
          have HB := Lib.hid hbnd
          have hlo : d.loose.length < 800000000 := by rw [hst.l]; decide
          have hqi : q ≤ 24 + (S : Int) ∧ 23 ≤ q ∧ rs.length ≤ 300 := by omega
          have hrb := hR1.below hbk
          clear hb1 hP hbnd hqq
          go_wp2_with fail
          refine (lpages_any wr n (by omega)).mono ?_
          rw [HP.out]
          rintro e wr' ⟨rfl, rfl⟩
          simp only []
          by_cases hfull : 24 + (S : Int) - q < (P : Int)
          · have hbe := bap_full (d := d) (lim := 24 + (S : Int)) (q := q) (life := 1) (n := rs.length) hbl (by rw [hPb]; omega)
            have HBE := Lib.hid hbe
            clear hbe
            go_wp2_with fail
            refine (bappend_any wr base l' d hDk hbks hlo kb _ hBk HB.out A1 n z1 b hrb (by omega)).mono ?_
            rw [HBE.out]
            rintro e w4 ⟨l4, rfl, hl4, hD4, hB4, hm4⟩
            have hbb4 := base_cmoved ⟨hbk, hbks⟩ (Nat.le_of_eq HBASE.out) hDk hBk hm4
            simp only []
            clear hDk hBk hm4 hrb hlo
            go_wp2_with fail
            exact ⟨⟨k + 1, d, l4, rs, q, z, by omega, congrArg (Value.int .i64) (by omega), rfl, rfl, hst, hD4, hl4.trans hlk, hB4, hbb4.1, hbb4.2⟩, by simp only [intOf]; omega⟩
          · obtain ⟨d', ap⟩ := hst.st.ap (Nat.le_refl _) (Nat.le_refl _) hst.f hbl (by rw [hPb]; omega)
            have hae := ap.e
            have hast := ap.st
            have hanow := ap.now (24 + (S : Int)) (by rw [hPb]; omega)
            rw [hPb] at hae hast
            have hst' : RmSt d' (24 + (S : Int)) (rs ++ [b]) (q + (P : Int)) 1 := ⟨hast, ap.f, ap.l, hanow.trans hst.now⟩
            have HAE := Lib.hid hae
            have hlen' : (rs ++ [b]).length = rs.length + 1 := by simp
            have HLEN := Lib.hid hlen'
            clear hae hast hanow ap hlen' hPb
            go_wp2_with fail
            refine (bappend_any wr base l' d hDk hbks hlo kb _ hBk HB.out A1 n z1 b hrb (by omega)).mono ?_
            rw [HAE.out]
            rintro e w4 ⟨l4, rfl, hl4, hD4, hB4, hm4⟩
            have hbb4 := base_cmoved ⟨hbk, hbks⟩ (Nat.le_of_eq HBASE.out) hDk hBk hm4
            simp only [] at hD4 hB4 ⊢
            have c0 := Q0.out _ hbb4.1
            clear hDk hBk hm4 hrb hlo hst
            go_wp2_with fail
            refine (lpages_any w4 n (by omega)).mono ?_
            rw [HP.out]
            rintro e w4' ⟨rfl, rfl⟩
            simp only []
            go_wp2_with fail
            exact ⟨⟨k + 1, d', l4, rs ++ [b], q + (P : Int), 1, by omega, congrArg (Value.int .i64) (by omega), congrArg (Value.int .i64) (by omega), congrArg (Value.int .i64) (by rw [HLEN.out]; omega), hst', hD4, hl4.trans hlk, by rw [HLEN.out]; exact hB4, hbb4.1, hbb4.2⟩, by simp only [intOf]; omega⟩
      · obtain rfl : k = m := by omega
        have g1 : ¬ (k : Int) < (k : Int) := by omega
        go_wp2_with fail
        go_meet
        exact ⟨d, l', rs, q, z, rfl, rfl, hst, hDk, hlk, hBk, hbk, hbks⟩
  case rest =>
    obtain ⟨d, l', rs, q, z, rfl, rfl, hst, hDk, hlk, hBk, hbk, hbks⟩ := hcut
    obtain ⟨d', op⟩ := hst.st.op hst.f (by decide) (by decide) (21 + (S : Int)) (by omega)
    have hoff := op.st.off
    have hnow : d'.now (24 + (S : Int)) = zsec := (op.now _ (by omega)).trans hst.now
    have hrdy : readyE d'.off (24 + (S : Int)) = 0 := by rw [hoff]; exact readyE_ok (by omega)
    have hadd : (3 : Int) + (21 + (S : Int)) = 24 + (S : Int) := by omega
    have hRE : readE d' (3 + (21 + (S : Int))) = 0 := by rw [hadd, readE, if_pos hrdy, hnow]; rfl
    have hRB : readB d' (3 + (21 + (S : Int))) = zs := by rw [hadd, readB, hnow, if_pos ⟨hrdy, rfl⟩]; rfl
    have HRE := Lib.hid hRE
    have HRB := Lib.hid hRB
    have HOP := Lib.hid op
    have hlo : d.loose.length < 900000000 := by rw [hst.l]; decide
    clear op hoff hnow hrdy hRE hRB hadd hst hB hD2 hbb hbb1 hbb2
    go_wp2_with fail
    refine (bopen_any wc base l' d hDk g hlk hbks hlo 3 (21 + (S : Int))).mono ?_
    rw [HOP.out.e, HOP.out.d_, HOP.out.s, HOP.out.a]
    rintro e w4 ⟨l3, hlg3, hD3, hm, (⟨h, _⟩ | ⟨_, k2, A2, N2, c2, ps, rfl, _, hB2, hR2, hxs2⟩)⟩
    · exact absurd rfl h
    have hbb := base_moved ⟨hbk, hbks⟩ (Nat.le_of_eq HBASE.out) hDk hm
    have hBk := hBk.moved hm
    have hN2 : N2 = rs.length := by
      have h1 := hR2.len
      have h2 := congrArg List.length hxs2
      rw [List.length_map] at h2
      simp only at h2
      omega
    subst hN2
    simp only []
    clear hm hDk hlk hlo hR2 hxs2 hbk hbks
    go_wp2_with fail
    refine (blen_any w4 base l3 k2 _ hB2).mono ?_
    rintro e w4' ⟨rfl, rfl⟩
    simp only []
    go_wp2_with fail
    refine (blen_any w4 base l3 kb _ hBk).mono ?_
    rintro e w4' ⟨rfl, rfl⟩
    simp only []
    go_wp2_with fail
    refine (gread w4 base g l3 d' hD3 hlg3 (3 + (21 + (S : Int)))).mono ?_
    rw [HRE.out, HRB.out]
    rintro e w5 ⟨rfl, hb5⟩
    have hbb := below_base hbb hb5
    have hzz : (bvs zs).toArray.size = 128 := by rw [bvs_size, zs_length]
    simp only []
    clear hb5 hD3 hB2 hBk
    repeat (first | ((with_reducible refine wpl_store_fresh (bvs zs).toArray i128 ?_ hzz (bvs_all _) ?_ ?_ ?_); (focus kernel_rfl); (focus rfl); (focus rfl); intro w6 hZ hl6 hb6; simp only [Act.put]; refine Hid.out ?_) | go_values | go_skip | go_guarded | go_step | go_upon | go_back)
    refine Lib.hid ?_
    have hbb := below_base hbb hb6
    obtain ⟨g6, hg6⟩ : ∃ x, w5.heap.size = x := ⟨_, rfl⟩
    rw [hg6] at hZ hl6 ⊢
    clear hg6 hb6
    have hx0 : ∀ w, (Op.equalIn 10000 28 (.agg (bvs zs).toArray) (.agg (bvs (rep 0)).toArray)).run Try.prog w = .ok true w := fun w => by rw [eql128 zs (rep 0) zs_length (rep_length 0) w, decide_eq_true (show zs = rep 0 from rfl)]
    go_wp2_with fail
    refine wp_region_plan [(0, true), (1, true), (2, true), (3, true), (4, false), (5, true), (6, true), (7, true), (8, false), (9, true), (10, true)] (fun z => Blk z g6 28 (bvs zs).toArray) (by kernel_rfl) (by kernel_rfl) (by kernel_rfl) (by kernel_rfl) (fun _ _ d _ _ h => by cases d <;> exact h) hZ ?_
    simp only [planOps, List.getElem?_toArray, List.getElem?_cons_zero, List.getElem?_cons_succ]
    iterate 3 (refine wpS_q ?_ (by rfl) ?_ ?_; rotate_left; (focus (intro z hz; (try dsimp only at hz); go_simp; rfl)); simp only [Act.put, List.setIfInBounds_toArray, List.set_cons_zero, List.set_cons_succ])
    refine wpS_q (.agg (bvs zs).toArray) (by rfl) (fun z hz => load_row_run rfl g6 (bvs zs).toArray Try.underlying28 rfl i128 hz hzz rfl) ?_
    simp only [Act.put, List.setIfInBounds_toArray, List.set_cons_zero, List.set_cons_succ]
    refine wpS_l (by rfl) (fun K hK => ?_)
    go_wp2_with fail
    refine (bytes_lit w6.drew 0 0 rfl).mono ?_
    rintro e w7 ⟨rfl, hb7⟩
    have hb7 : Below w6.heap.size w6 w7 := (drew_below (w := w6)).trans hb7
    have hbb := below_base hbb hb7
    have hZ := hZ.below hb7 hZ.lt
    refine hK _ _ (fun z => Blk z g6 28 (bvs zs).toArray) hZ (fun _ h => h) ?_
    clear hK hb7
    iterate 3 (refine wpS_q ?_ (by rfl) ?_ ?_; rotate_left; (focus (intro z hz; (try dsimp only at hz); go_simp; rfl)); simp only [Act.put, List.setIfInBounds_toArray, List.set_cons_zero, List.set_cons_succ])
    refine wpS_l (by rfl) (fun K hK => ?_)
    go_wp2_with fail
    refine (works6_any w7).mono ?_
    rintro e w8 ⟨rfl, hb8⟩
    have hbb := below_base hbb hb8
    refine hK _ _ (fun z => Blk z g6 28 (bvs zs).toArray) (hZ.below hb8 hZ.lt) (fun _ h => h) ?_
    clear hK
    iterate 2 (refine wpS_q ?_ (by rfl) ?_ ?_; rotate_left; (focus (intro z hz; (try dsimp only at hz); go_simp; rfl)); simp only [Act.put, List.setIfInBounds_toArray, List.set_cons_zero, List.set_cons_succ])
    refine wpS_nil ?_
    go_wp2_with fail
    go_ret
    exact ⟨rfl, hbb.1⟩
end Go.Proofs.Ytmjdfajdompkeaa
