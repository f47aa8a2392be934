/- The law CellApart, walked. -/
import Derived.Test.YtekpohchikbnnaaCu
namespace Go.Proofs.Ytekpohchikbnnaa
open Go.RowKit Go.Rat
theorem base_set {w a : World} {base gw i : Nat} {u : Value} (h : Below w.heap.size w a ∧ base ≤ a.heap.size) (hg : w.heap.size ≤ gw) : Below w.heap.size w (a.setCell ⟨gw, i, none⟩ u) ∧ base ≤ (a.setCell ⟨gw, i, none⟩ u).heap.size :=
  ⟨h.1.grown (grownBy_set a gw i u) h.1.size (fun q hq => by cases hq; exact hg), Nat.le_trans h.2 (grownBy_set a gw i u).size⟩
set_option maxRecDepth 20000 in
set_option maxHeartbeats 8000000 in
theorem cellApart_any (w : World) (first : UInt8) (A : Option Addr) (m c : Nat) (l : List Beside) (hr : Reads w w.heap.size 5 A m (l.flatMap besideC)) (hi : ∀ x ∈ l, SB.ok w x.2.2.1) :
    Calls Try.prog 9 #[.int .u8 (first.toNat : Int), .slice A m c] w fun e w' => e = .returned (.bool true) ∧ Below w.heap.size w w' := by
  have hfl := first.toNat_lt
  by_cases hbig : 40 < m
  · have hbi : (40 : Int) < (m : Int) := by omega
    go_enter Try.func9, Try.ntmps9
    go_wp2_with (go_at_call 37; refine (works5_any w).mono ?_; rintro e w2 ⟨rfl, hb2⟩)
    go_ret
    exact ⟨rfl, hb2⟩
  have hbi : ¬ (40 : Int) < (m : Int) := by omega
  obtain ⟨base, hbase⟩ : ∃ b, w.heap.size = b := ⟨_, rfl⟩
  have HBASE := Lib.hid hbase
  obtain ⟨S, hS⟩ : ∃ S, 20 + (first.toNat : Int) % 30 = S := ⟨_, rfl⟩
  have hSb : 20 ≤ S ∧ S ≤ 49 := by omega
  obtain ⟨hf0, hl0, hf1, hst⟩ := ap_start hSb
  obtain ⟨d1, hd1⟩ : ∃ d, (fmF ds0 0).1 = d := ⟨_, rfl⟩
  rw [hd1] at hl0 hf1 hst
  obtain ⟨d2, hd2⟩ : ∃ d, (fmF d1 S).1 = d := ⟨_, rfl⟩
  rw [hd2] at hst
  have HST := Lib.hid hst
  obtain ⟨o1, o2⟩ := hst.opA
  obtain ⟨o3, o4⟩ := hst.opB
  have HS := Lib.hid hS
  have HSB := Lib.hid hSb
  have HD1 := Lib.hid hd1
  have HD2 := Lib.hid hd2
  have HF0 := Lib.hid hf0
  have HF1 := Lib.hid hf1
  have HL0 := Lib.hid hl0
  have HI := Lib.hid hi
  have HO1 := Lib.hid o1
  have HO2 := Lib.hid o2
  have HO3 := Lib.hid o3
  have HO4 := Lib.hid o4
  clear hS hSb hd1 hd2 hf0 hf1 hl0 hi o1 o2 o3 o4 hst hbig
  go_enter Try.func9, Try.ntmps9
  go_wp2_with fail
  refine (dnew_any w).mono ?_
  rintro e w1 ⟨l0, rfl, hD, hb⟩
  have hbb : Below w.heap.size w w1 ∧ base ≤ w1.heap.size := ⟨hb, by rw [← hbase]; exact hb.size⟩
  rw [hbase] at hD
  clear hb hbase
  simp only []
  obtain ⟨g, hlg⟩ : ∃ g, l0.g = g := ⟨_, rfl⟩
  rw [hlg]
  go_wp2_with fail
  rw [HS.out]
  refine (cformat_any w1 base l0 ds0 hD g hlg hbb.2 (by decide) 0 (by omega)).mono ?_
  rw [HF0.out, HD1.out]
  rintro e w2 ⟨l1, rfl, hlg1, hD1, hm⟩
  have hbb := base_moved hbb (Nat.le_of_eq HBASE.out) hD hm
  simp only []
  clear hm hD hlg
  go_wp2_with fail
  refine (cformat_any w2 base l1 d1 hD1 g hlg1 hbb.2 (by rw [HL0.out]; decide) S (by have := HSB.out; omega)).mono ?_
  rw [HF1.out, HD2.out]
  rintro e w3 ⟨l2, rfl, hlg2, hD2, hm⟩
  have hbb := base_moved hbb (Nat.le_of_eq HBASE.out) hD1 hm
  simp only []
  clear hm hD1 hlg1
  go_wp2_with fail
  refine (copen_any w3 base l2 d2 hD2 g hlg2 hbb.2 0 (by omega)).mono ?_
  rw [HO1.out, HO2.out]
  rintro e w4 ⟨(⟨h, _⟩ | ⟨_, ka, rfl, hA, _⟩), hb⟩
  · exact absurd rfl h
  have hbb := below_base hbb hb
  have hD4 := hD2.below hb
  simp only []
  clear hb hD2
  go_wp2_with fail
  refine (copen_any w4 base l2 d2 hD4 g hlg2 hbb.2 S (by have := HSB.out; omega)).mono ?_
  rw [HO3.out, HO4.out]
  rintro e w5 ⟨(⟨h, _⟩ | ⟨_, kb, rfl, hB, hkb⟩), hb⟩
  · exact absurd rfl h
  have hne : ka ≠ kb := by have := hA.lt; omega
  have hbb := below_base hbb hb
  have hD5 := hD4.below hb
  have hA := hA.below hb
  simp only []
  clear hb hD4 hkb
  go_upto_region 12 with (fail)
  have hb := below_alloc w5 (.cells #[.string ⟨#[]⟩, .string ⟨#[]⟩] 64)
  have hH : Blk (w5.alloc (.cells #[.string ⟨#[]⟩, .string ⟨#[]⟩] 64)) w5.heap.size 64 #[.string (bstr []), .string (bstr [])] := Blk.new w5 64 #[.string ⟨#[]⟩, .string ⟨#[]⟩]
  have hAp : ApAt (w5.alloc (.cells #[.string ⟨#[]⟩, .string ⟨#[]⟩] 64)) base l2 d2 g ka kb w5.heap.size S 0 [] 0 [] #[.string (bstr []), .string (bstr [])] :=
    ⟨hD5.below hb, hlg2, hA.below hb, hB.below hb, hH, fun q => by have := (hD5.fp_lt q).2; omega, hbb.2, hne, by have := hA.lt; omega, by have := hB.lt; omega⟩
  have hbb := below_base hbb hb
  obtain ⟨gs, hgs⟩ : ∃ x, w5.heap.size = x := ⟨_, rfl⟩
  obtain ⟨w6, hw6⟩ : ∃ x, w5.alloc (.cells #[.string ⟨#[]⟩, .string ⟨#[]⟩] 64) = x := ⟨_, rfl⟩
  rw [hw6, hgs] at hAp
  rw [hw6] at hbb ⊢
  rw [hgs]
  clear hb hH hgs hw6 hA hB hD5 hne hlg2
  go_upto_block 0 with (fail)
  have hbb1 := hbb.1
  have hbb2 := hbb.2
  go_cut [] (fun wx => ∃ (d : DS) (l' : DL) (wa : Nat) (ha : List UInt8) (wb : Nat) (hb : List UInt8), ApSt d S wa ha wb hb (2 + m) ∧ ApAt wx base l' d g ka kb gs S wa ha wb hb #[.string (bstr ha), .string (bstr hb)] ∧ Below w.heap.size w wx ∧ base ≤ wx.heap.size)
  case first =>
    go_wp2_with fail
    go_loopw [12] (fun i wr => ∃ (k : Nat) (d : DS) (l' : DL) (wa : Nat) (ha : List UInt8) (wb : Nat) (hb : List UInt8), k ≤ m ∧ i = .int .i64 (k : Int) ∧ ApSt d S wa ha wb hb (2 + k) ∧ ApAt wr base l' d g ka kb gs S wa ha wb hb #[.string (bstr ha), .string (bstr hb)] ∧ Below w.heap.size w wr ∧ base ≤ wr.heap.size) (fun i _ => m - (intOf i).toNat)
    case atStart => exact ⟨0, d2, l2, 0, [], 0, [], Nat.zero_le _, rfl, HST.out, hAp, hbb1, hbb2⟩
    case round =>
      clear hbb hbb1 hbb2 hAp
      obtain ⟨k, d, l', wa, ha, wb, hb0, hk, rfl, hst, hAt, hbk, hbks⟩ := hrel
      by_cases hkm : k < m
      · obtain ⟨ad, ⟨out, sec, ⟨A1, n, z1, b⟩, at_, by_⟩, e, hxl, hadl, hcs⟩ := beside_at hr hkm
        cases e
        obtain ⟨hR1, _, _⟩ := HI.out _ hxl
        simp only [] at hR1
        have hl1 := hR1.len
        obtain ⟨P, hP⟩ : ∃ P, ad.add (k * 5) = P := ⟨_, rfl⟩
        rw [hP] at hadl hcs
        have hQ : ∀ j u, ([.bool out, .bool sec, .slice A1 n z1, .int .u8 (at_.toNat : Int), .int .u8 (by_.toNat : Int)] : List Value)[j]? = some u → wr.cell? (P.add j) = some u := fun j u hu => (hbk.cell (by rw [block_of_add]; exact hadl)).trans (hcs j u hu)
        have HQ := Lib.hid hQ
        have HL1 := Lib.hid hl1
        have HSTK := Lib.hid hst
        have hbb : Below w.heap.size w wr ∧ base ≤ wr.heap.size := ⟨hbk, hbks⟩
        have g1 : (k : Int) < (m : Int) := by omega
        have g0 : (0 : Int) ≤ (k : Int) := by omega
        have hat := at_.toNat_lt
        clear hxl hcs hQ hl1 hbk hbks hst
        have h5 : (#[.bool out, .bool sec, .slice A1 n z1, .int .u8 (at_.toNat : Int), .int .u8 (by_.toNat : Int)] : Array Value).all (·.oneCell') = true := by simp [Value.oneCell']
        repeat (first
          | ((with_reducible refine wpl_load_at P [.bool out, .bool sec, .slice A1 n z1, .int .u8 (at_.toNat : Int), .int .u8 (by_.toNat : Int)] Try.underlying66 rfl i66 rfl HQ.out ?_ ?_); (focus rfl); simp only [Act.put, List.setIfInBounds_toArray, List.set_cons_zero, List.set_cons_succ])
          | ((with_reducible refine wpl_store_fresh #[.bool out, .bool sec, .slice A1 n z1, .int .u8 (at_.toNat : Int), .int .u8 (by_.toNat : Int)] i66 ?_ rfl h5 ?_ ?_ ?_); (focus kernel_rfl); (focus rfl); (focus rfl); intro w7 hX hl7 hb7; simp only [Act.put]; refine Hid.out ?_)
          | go_values | go_skip | go_guarded | go_step | go_upon | go_back)
        refine Lib.hid ?_
        have hAt0 := hAt
        have hAt := hAt.below hb7
        have hbb := below_base hbb hb7
        clear hb7 hl7 h5 HQ hadl
        obtain ⟨gx, hgx⟩ : ∃ x, wr.heap.size = x := ⟨_, rfl⟩
        rw [hgx] at hX ⊢
        have hgf : ¬ l'.fp gx := fun q => by have := (hAt0.D.fp_lt q).2; omega
        have hgk : gx ≠ ka ∧ gx ≠ kb := ⟨by have := hAt0.A.lt; omega, by have := hAt0.B.lt; omega⟩
        clear hgx hAt0
        have c2 := hX.cell 2
        simp only [List.getElem?_toArray, List.getElem?_cons_zero, List.getElem?_cons_succ] at c2
        by_cases hb1 : 1100 < n
        · have hb1' : (1100 : Int) < (n : Int) := by omega
          clear hb1
          go_wp2_with (go_at_call 37; refine (works5_any _).mono ?_; rintro e w2 ⟨rfl, hb2⟩)
          go_ret
          exact ⟨rfl, below_next' hbb.1 hb2⟩
        · have hb1' : ¬ (1100 : Int) < (n : Int) := by omega
          have hbl : b.length ≤ 1100 := by have := HL1.out; omega
          have hn1 : n ≤ 1100 := by omega
          clear hb1
          go_upto_block 2 with (fail)
          go_cut [14] (fun t wx => t = .int .i64 0 ∧ ∃ (d : DS) (l' : DL) (wa : Nat) (ha : List UInt8) (wb : Nat) (hb : List UInt8), ApSt d S wa ha wb hb (2 + (k + 1)) ∧ ApAt wx base l' d g ka kb gs S wa ha wb hb #[.string (bstr ha), .string (bstr hb)] ∧ Below w.heap.size w wx ∧ base ≤ wx.heap.size)
          case first =>
            cases out
            · have c0 := hX.cell 0
              have c1 := hX.cell 1
              simp only [List.getElem?_toArray, List.getElem?_cons_zero, List.getElem?_cons_succ] at c0 c1
              cases sec
              · obtain ⟨e1, e2⟩ := HSTK.out.putA HSB.out (by omega) hbl
                have hlo := HSTK.out.loose
                obtain ⟨⟨dr, E⟩, hre⟩ : ∃ r, ptF d 0 wa b = r := ⟨_, rfl⟩
                rw [hre] at e1 e2
                simp only at e1 e2
                subst e1
                have HRE := Lib.hid hre
                have HLO := Lib.hid hlo
                have HE2 := Lib.hid e2
                clear hre hlo e2
                have hap : n ≠ 0 → ∀ x, A1.map (·.block) = some x → ¬ l'.fp x ∧ x ≠ ka := fun hn0 x hx => by
                  obtain ⟨a1, hA, hlt, _⟩ := hR1.2 (by omega)
                  rw [hA] at hx
                  have hxe : a1.block = x := Option.some.inj hx
                  have hbe := HBASE.out
                  have hkb := hAt.A.bk
                  refine ⟨fun hf => ?_, by omega⟩
                  have := (hAt.D.fp_lt hf).1
                  omega
                go_wp2_with fail
                refine (cput_any w7 base l' d hAt.D g hAt.g hbb.2 (by have := HLO.out; omega) ka _ hAt.A (show (0 : Int) ≤ (0 : Int) ∧ (0 : Int) + 20 ≤ 32768 by have := HSB.out; omega) rfl A1 n z1 b (hR1.below hbb.1) hn1 hap).mono ?_
                simp only []
                rw [HRE.out]
                rintro e w9 ⟨l9, rfl, hlg9, hD9, hC9, hm9⟩
                have hbb : Below w.heap.size w w9 ∧ base ≤ w9.heap.size := by
                  have h1 := HBASE.out
                  refine ⟨hbb.1.trans (hm9.chg.below (fun x hx => ?_) hbb.1.size), Nat.le_trans hbb.2 hm9.chg.size⟩
                  rcases hx with hx | hx
                  · have := (hAt.D.fp_lt hx).1
                    omega
                  · have := hAt.A.bk
                    omega
                have hC9 : CellAt w9 base l9 ka ⟨0, b, 1 - wa, false⟩ := by simp only [] at hC9; rw [putCell, if_pos rfl] at hC9; exact hC9
                simp only [] at hD9 ⊢
                have hX := hm9.chg.blk hX (fun q => q.elim hgf hgk.1)
                have hAt := hAt.putA hm9 hD9 hC9
                clear hm9 hD9 hC9 hap hgf hgk hlg9
                have c2 := hX.cell 2
                simp only [List.getElem?_toArray, List.getElem?_cons_zero, List.getElem?_cons_succ] at c2
                have f0 := hAt.H.frozen 0
                have c0 := hAt.H.cell 0
                simp only [List.getElem?_toArray, List.getElem?_cons_zero] at c0
                have hcb := conv_str (hR1.below hbb.1) z1
                have hAt9 := hAt.set 0 (.string (bstr b))
                have hbb9 := base_set (i := 0) (u := .string (bstr b)) hbb (gw := gs) (by have := HBASE.out; have := hAt.gb; omega)
                go_wp2_with fail
                go_meet
                exact ⟨rfl, dr, l9, 1 - wa, b, wb, hb0, HE2.out, hAt9, hbb9.1, hbb9.2⟩
              · obtain ⟨e1, e2⟩ := HSTK.out.putB HSB.out (by omega) hbl
                have hlo := HSTK.out.loose
                obtain ⟨⟨dr, E⟩, hre⟩ : ∃ r, ptF d S wb b = r := ⟨_, rfl⟩
                rw [hre] at e1 e2
                simp only at e1 e2
                subst e1
                have HRE := Lib.hid hre
                have HLO := Lib.hid hlo
                have HE2 := Lib.hid e2
                clear hre hlo e2
                have hap : n ≠ 0 → ∀ x, A1.map (·.block) = some x → ¬ l'.fp x ∧ x ≠ kb := fun hn0 x hx => by
                  obtain ⟨a1, hA, hlt, _⟩ := hR1.2 (by omega)
                  rw [hA] at hx
                  have hxe : a1.block = x := Option.some.inj hx
                  have hbe := HBASE.out
                  have hkb := hAt.B.bk
                  refine ⟨fun hf => ?_, by omega⟩
                  have := (hAt.D.fp_lt hf).1
                  omega
                go_wp2_with fail
                refine (cput_any w7 base l' d hAt.D g hAt.g hbb.2 (by have := HLO.out; omega) kb _ hAt.B (show (0 : Int) ≤ S ∧ S + 20 ≤ 32768 by have := HSB.out; omega) rfl A1 n z1 b (hR1.below hbb.1) hn1 hap).mono ?_
                simp only []
                rw [HRE.out]
                rintro e w9 ⟨l9, rfl, hlg9, hD9, hC9, hm9⟩
                have hbb : Below w.heap.size w w9 ∧ base ≤ w9.heap.size := by
                  have h1 := HBASE.out
                  refine ⟨hbb.1.trans (hm9.chg.below (fun x hx => ?_) hbb.1.size), Nat.le_trans hbb.2 hm9.chg.size⟩
                  rcases hx with hx | hx
                  · have := (hAt.D.fp_lt hx).1
                    omega
                  · have := hAt.B.bk
                    omega
                have hC9 : CellAt w9 base l9 kb ⟨S, b, 1 - wb, false⟩ := by simp only [] at hC9; rw [putCell, if_pos rfl] at hC9; exact hC9
                simp only [] at hD9 ⊢
                have hX := hm9.chg.blk hX (fun q => q.elim hgf hgk.2)
                have hAt := hAt.putB hm9 hD9 hC9
                clear hm9 hD9 hC9 hap hgf hgk hlg9
                have c2 := hX.cell 2
                simp only [List.getElem?_toArray, List.getElem?_cons_zero, List.getElem?_cons_succ] at c2
                have f1 := hAt.H.frozen 1
                have c1 := hAt.H.cell 1
                simp only [List.getElem?_toArray, List.getElem?_cons_zero, List.getElem?_cons_succ] at c1
                have hcb := conv_str (hR1.below hbb.1) z1
                have hAt9 := hAt.set 1 (.string (bstr b))
                have hbb9 := base_set (i := 1) (u := .string (bstr b)) hbb (gw := gs) (by have := HBASE.out; have := hAt.gb; omega)
                go_wp2_with fail
                go_meet
                exact ⟨rfl, dr, l9, wa, ha, 1 - wb, b, HE2.out, hAt9, hbb9.1, hbb9.2⟩
            · have c0 := hX.cell 0
              simp only [List.getElem?_toArray, List.getElem?_cons_zero] at c0
              obtain ⟨e1, e2⟩ := HSTK.out.put_out HSB.out (by omega) (a := S + 20 + (at_.toNat : Int)) (by have := HSB.out; omega) (rep by_)
              have hlo := HSTK.out.loose
              obtain ⟨dr, hdr⟩ : ∃ x, writeD d (S + 20 + (at_.toNat : Int)) (rep by_) = x := ⟨_, rfl⟩
              rw [hdr] at e2
              have HDR := Lib.hid hdr
              have HE1 := Lib.hid e1
              have HE2 := Lib.hid e2
              have HLO := Lib.hid hlo
              clear hdr e1 e2 hlo hgk
              have hs1 := HSB.out.1
              have hs2 := HSB.out.2
              have q3 : ∀ z, Blk z gx 66 #[.bool true, .bool sec, .slice A1 n z1, .int .u8 (at_.toNat : Int), .int .u8 (by_.toNat : Int)] → z.cell? ⟨gx, 3, none⟩ = some (.int .u8 (at_.toNat : Int)) := fun z hz => hz.cell 3
              have q4 : ∀ z, Blk z gx 66 #[.bool true, .bool sec, .slice A1 n z1, .int .u8 (at_.toNat : Int), .int .u8 (by_.toNat : Int)] → z.cell? ⟨gx, 4, none⟩ = some (.int .u8 (by_.toNat : Int)) := fun z hz => hz.cell 4
              go_wp2_with fail
              refine wp_region_plan [(0, true), (1, true), (2, true), (3, true), (4, true), (5, true), (6, true), (7, true), (8, true), (9, false), (10, false), (11, true)]
                (fun z => Blk z gx 66 #[.bool true, .bool sec, .slice A1 n z1, .int .u8 (at_.toNat : Int), .int .u8 (by_.toNat : Int)]) (by kernel_rfl) (by kernel_rfl) (by kernel_rfl) (by kernel_rfl) (fun _ _ d _ _ h => by cases d <;> exact h) hX ?_
              simp only [planOps, List.getElem?_toArray, List.getElem?_cons_zero, List.getElem?_cons_succ]
              repeat (first
                | (refine wpS_skip (by rfl) ?_; simp only [Act.put, List.setIfInBounds_toArray, List.set_cons_zero, List.set_cons_succ])
                | (refine wpS_q ?_ (by rfl) ?_ ?_; rotate_left; (focus (intro z hz; (try dsimp only at hz); go_simp; rfl)); simp only [Act.put, List.setIfInBounds_toArray, List.set_cons_zero, List.set_cons_succ]))
              refine wpS_l (by rfl) (fun K hK => ?_)
              go_wp2_with fail
              refine (bytes_any _ by_).mono ?_
              rintro e w8 ⟨rfl, hb⟩
              have hb3 : Below w7.heap.size w7 w8 := drew_below.trans hb
              have hX := hX.below hb3 hX.lt
              have hAt := hAt.below hb3
              have hbb := below_base hbb hb3
              refine hK _ _ (fun z => Blk z gx 66 #[.bool true, .bool sec, .slice A1 n z1, .int .u8 (at_.toNat : Int), .int .u8 (by_.toNat : Int)]) hX (fun _ h => h) ?_
              clear hK hb hb3
              refine wpS_l (by rfl) (fun K hK => ?_)
              go_wp2_with fail
              refine (gwrite _ base g _ _ hAt.D hAt.g hbb.2 (S + 20 + (at_.toNat : Int)) (rep by_) (rep_length by_) (by have := HLO.out; omega)).mono ?_
              rw [HE1.out, HDR.out]
              rintro e w9 ⟨l9, rfl, hlg9, hD9, hm⟩
              have hbb := base_moved hbb (Nat.le_of_eq HBASE.out) hAt.D hm
              have hX := hm.chg.blk hX hgf
              have hAt := hAt.moved hm hD9
              refine hK _ _ (fun z => Blk z gx 66 #[.bool true, .bool sec, .slice A1 n z1, .int .u8 (at_.toNat : Int), .int .u8 (by_.toNat : Int)]) hX (fun _ h => h) ?_
              clear hK hm
              iterate 1 (refine wpS_q ?_ (by rfl) ?_ ?_; rotate_left; (focus (intro z hz; (try dsimp only at hz); go_simp; rfl)); simp only [Act.put, List.setIfInBounds_toArray, List.set_cons_zero, List.set_cons_succ])
              refine wpS_nil ?_
              go_wp2_with fail
              go_meet
              exact ⟨rfl, dr, l9, wa, ha, wb, hb0, HE2.out, hAt, hbb.1, hbb.2⟩
          case rest =>
            clear hAt hbb hX c2 hgf hgk HSTK
            obtain ⟨rfl, d, l', wa, ha, wb, hb0, hst, hAt, hbk, hbks⟩ := hcut
            have q0 : ∀ z, Blk z gs 64 #[.string (bstr ha), .string (bstr hb0)] → z.cell? ⟨gs, 0, none⟩ = some (.string (bstr ha)) := fun z hz => hz.cell 0
            have q1 : ∀ z, Blk z gs 64 #[.string (bstr ha), .string (bstr hb0)] → z.cell? ⟨gs, 1, none⟩ = some (.string (bstr hb0)) := fun z hz => hz.cell 1
            go_wp2_with fail
            refine wp_region_plan [(0, true), (1, true), (2, true), (3, true), (6, true), (7, true), (4, false), (5, true), (8, true), (9, true), (10, true), (11, true), (14, true), (15, true), (12, false), (13, true), (16, true), (17, true)]
              (fun z => Blk z gs 64 #[.string (bstr ha), .string (bstr hb0)]) (by kernel_rfl) (by kernel_rfl) (by kernel_rfl) (by kernel_rfl) (fun _ _ d _ _ h => by cases d <;> exact h) hAt.H ?_
            simp only [planOps, List.getElem?_toArray, List.getElem?_cons_zero, List.getElem?_cons_succ]
            repeat (first
              | (refine wpS_skip (by rfl) ?_; simp only [Act.put, List.setIfInBounds_toArray, List.set_cons_zero, List.set_cons_succ])
              | (refine wpS_q ?_ (by rfl) ?_ ?_; rotate_left; (focus (intro z hz; (try dsimp only at hz); go_simp; rfl)); simp only [Act.put, List.setIfInBounds_toArray, List.set_cons_zero, List.set_cons_succ]))
            refine wpS_l (by rfl) (fun K hK => ?_)
            go_wp2_with fail
            refine (cget_any wc.drew base l' ka _ (hAt.A.below drew_below)).mono ?_
            rintro e w8 ⟨A8, z8, rfl, hO8, hb⟩
            have hb3 : Below wc.heap.size wc w8 := drew_below.trans hb
            have hAt := hAt.below hb3
            have hbb := below_base ⟨hbk, hbks⟩ hb3
            refine hK _ _ (fun z => Blk z gs 64 #[.string (bstr ha), .string (bstr hb0)] ∧ (convert 22 9 (.slice A8 ha.length z8)).run Try.prog z = .ok (.string (bstr ha)) z) ⟨hAt.H, conv_str hO8.reads z8⟩ (fun _ h => h.1) ?_
            have hcv : ∀ z, (Blk z gs 64 #[.string (bstr ha), .string (bstr hb0)] ∧ (convert 22 9 (.slice A8 ha.length z8)).run Try.prog z = .ok (.string (bstr ha)) z) → (convert 22 9 (.slice A8 ha.length z8)).run Try.prog z = .ok (.string (bstr ha)) z := fun z hz => hz.2
            clear hK hb hb3 hbk hbks
            iterate 7 (refine wpS_q ?_ (by rfl) ?_ ?_; rotate_left; (focus (intro z hz; (try dsimp only at hz); go_simp; rfl)); simp only [Act.put, List.setIfInBounds_toArray, List.set_cons_zero, List.set_cons_succ])
            clear hcv
            refine wpS_l (by rfl) (fun K hK => ?_)
            go_wp2_with fail
            refine (cget_any w8 base l' kb _ hAt.B).mono ?_
            rintro e w9 ⟨A9, z9, rfl, hO9, hb⟩
            have hAt := hAt.below hb
            have hbb := below_base hbb hb
            refine hK _ _ (fun z => (Blk z gs 64 #[.string (bstr ha), .string (bstr hb0)] ∧ (convert 22 9 (.slice A8 ha.length z8)).run Try.prog z = .ok (.string (bstr ha)) z) ∧ (convert 22 9 (.slice A9 hb0.length z9)).run Try.prog z = .ok (.string (bstr hb0)) z) ⟨⟨hAt.H, (conv_str (hO8.reads.below hb) z8)⟩, conv_str hO9.reads z9⟩ (fun _ h => h.1) ?_
            have hcv : ∀ z, ((Blk z gs 64 #[.string (bstr ha), .string (bstr hb0)] ∧ (convert 22 9 (.slice A8 ha.length z8)).run Try.prog z = .ok (.string (bstr ha)) z) ∧ (convert 22 9 (.slice A9 hb0.length z9)).run Try.prog z = .ok (.string (bstr hb0)) z) → (convert 22 9 (.slice A9 hb0.length z9)).run Try.prog z = .ok (.string (bstr hb0)) z := fun z hz => hz.2
            clear hK hb hO8 hO9
            iterate 3 (refine wpS_q ?_ (by rfl) ?_ ?_; rotate_left; (focus (intro z hz; (try dsimp only at hz); go_simp; rfl)); simp only [Act.put, List.setIfInBounds_toArray, List.set_cons_zero, List.set_cons_succ])
            refine wpS_nil ?_
            clear hcv q0 q1
            go_wp2_with fail
            exact ⟨⟨k + 1, d, l', wa, ha, wb, hb0, by omega, congrArg (Value.int .i64) (by omega), hst, hAt, hbb.1, hbb.2⟩, by simp [intOf]; omega⟩
      · obtain rfl : k = m := by omega
        have g1 : ¬ (k : Int) < (k : Int) := by omega
        go_wp2_with fail
        go_meet
        exact ⟨d, l', wa, ha, wb, hb0, hst, hAt, hbk, hbks⟩
  case rest =>
    clear hbb hbb1 hbb2 hAp
    obtain ⟨d, l', wa, ha, wb, hb0, hst, hAt, hbk, hbks⟩ := hcut
    have hbb : Below w.heap.size w wc ∧ base ≤ wc.heap.size := ⟨hbk, hbks⟩
    clear hbk hbks
    obtain ⟨o1, o2⟩ := hst.opA
    obtain ⟨o3, o4⟩ := hst.opB
    have HO1 := Lib.hid o1
    have HO2 := Lib.hid o2
    have HO3 := Lib.hid o3
    have HO4 := Lib.hid o4
    clear o1 o2 o3 o4 hst
    go_wp2_with fail
    refine (copen_any wc base l' d hAt.D g hAt.g hbb.2 0 (by omega)).mono ?_
    rw [HO1.out, HO2.out]
    rintro e w4 ⟨(⟨h, _⟩ | ⟨_, kc, rfl, hC, _⟩), hb⟩
    · exact absurd rfl h
    have hbb := below_base hbb hb
    have hAt := hAt.below hb
    simp only []
    clear hb
    go_wp2_with fail
    refine (copen_any w4 base l' d hAt.D g hAt.g hbb.2 S (by have := HSB.out; omega)).mono ?_
    rw [HO3.out, HO4.out]
    rintro e w5 ⟨(⟨h, _⟩ | ⟨_, kd, rfl, hE, _⟩), hb⟩
    · exact absurd rfl h
    have hbb := below_base hbb hb
    have hAt := hAt.below hb
    have hC := hC.below hb
    simp only []
    clear hb
    have q0 : ∀ z, Blk z gs 64 #[.string (bstr ha), .string (bstr hb0)] → z.cell? ⟨gs, 0, none⟩ = some (.string (bstr ha)) := fun z hz => hz.cell 0
    have q1 : ∀ z, Blk z gs 64 #[.string (bstr ha), .string (bstr hb0)] → z.cell? ⟨gs, 1, none⟩ = some (.string (bstr hb0)) := fun z hz => hz.cell 1
    go_wp2_with fail
    refine wp_region_plan [(0, true), (1, true), (2, true), (3, true), (4, true), (5, true), (6, true), (7, true), (8, true), (9, true), (10, true), (11, true), (12, true), (13, true), (14, true), (15, true), (18, true), (19, true), (16, false), (17, true), (20, true), (21, true), (22, true), (23, true), (26, true), (27, true), (24, false), (25, true), (28, true), (29, true), (30, true), (31, false), (32, true), (33, true)]
      (fun z => Blk z gs 64 #[.string (bstr ha), .string (bstr hb0)]) (by kernel_rfl) (by kernel_rfl) (by kernel_rfl) (by kernel_rfl) (fun _ _ d _ _ h => by cases d <;> exact h) hAt.H ?_
    simp only [planOps, List.getElem?_toArray, List.getElem?_cons_zero, List.getElem?_cons_succ]
    repeat (first
      | (refine wpS_skip (by rfl) ?_; simp only [Act.put, List.setIfInBounds_toArray, List.set_cons_zero, List.set_cons_succ])
      | (refine wpS_q ?_ (by rfl) ?_ ?_; rotate_left; (focus (intro z hz; (try dsimp only at hz); go_simp; rfl)); simp only [Act.put, List.setIfInBounds_toArray, List.set_cons_zero, List.set_cons_succ]))
    refine wpS_l (by rfl) (fun K hK => ?_)
    go_wp2_with fail
    refine (cget_any w5.drew base l' kc _ (hC.below drew_below)).mono ?_
    rintro e w8 ⟨A8, z8, rfl, hO8, hb⟩
    have hb3 : Below w5.heap.size w5 w8 := drew_below.trans hb
    have hAt := hAt.below hb3
    have hE := hE.below hb3
    have hbb := below_base hbb hb3
    refine hK _ _ (fun z => Blk z gs 64 #[.string (bstr ha), .string (bstr hb0)] ∧ (convert 22 9 (.slice A8 ha.length z8)).run Try.prog z = .ok (.string (bstr ha)) z) ⟨hAt.H, conv_str hO8.reads z8⟩ (fun _ h => h.1) ?_
    have hcv : ∀ z, (Blk z gs 64 #[.string (bstr ha), .string (bstr hb0)] ∧ (convert 22 9 (.slice A8 ha.length z8)).run Try.prog z = .ok (.string (bstr ha)) z) → (convert 22 9 (.slice A8 ha.length z8)).run Try.prog z = .ok (.string (bstr ha)) z := fun z hz => hz.2
    clear hK hb hb3
    iterate 7 (refine wpS_q ?_ (by rfl) ?_ ?_; rotate_left; (focus (intro z hz; (try dsimp only at hz); go_simp; rfl)); simp only [Act.put, List.setIfInBounds_toArray, List.set_cons_zero, List.set_cons_succ])
    clear hcv
    refine wpS_l (by rfl) (fun K hK => ?_)
    go_wp2_with fail
    refine (cget_any w8 base l' kd _ hE).mono ?_
    rintro e w9 ⟨A9, z9, rfl, hO9, hb⟩
    have hbb := below_base hbb hb
    have hcc : (convert 22 9 (.slice A9 hb0.length z9)).run Try.prog w9 = .ok (.string (bstr hb0)) w9 := conv_str hO9.reads z9
    refine hK _ _ (fun z => (Blk z gs 64 #[.string (bstr ha), .string (bstr hb0)] ∧ (convert 22 9 (.slice A8 ha.length z8)).run Try.prog z = .ok (.string (bstr ha)) z) ∧ (convert 22 9 (.slice A9 hb0.length z9)).run Try.prog z = .ok (.string (bstr hb0)) z) ⟨⟨hAt.H.below hb hAt.H.lt, (conv_str (hO8.reads.below hb) z8)⟩, hcc⟩ (fun _ h => h.1) ?_
    have hcv : ∀ z, ((Blk z gs 64 #[.string (bstr ha), .string (bstr hb0)] ∧ (convert 22 9 (.slice A8 ha.length z8)).run Try.prog z = .ok (.string (bstr ha)) z) ∧ (convert 22 9 (.slice A9 hb0.length z9)).run Try.prog z = .ok (.string (bstr hb0)) z) → (convert 22 9 (.slice A9 hb0.length z9)).run Try.prog z = .ok (.string (bstr hb0)) z := fun z hz => hz.2
    have hH9 := hAt.H.below hb hAt.H.lt
    have hr8 := hO8.reads.below hb
    have hr9 := hO9.reads
    clear hK hb hO8 hO9 hcc
    iterate 4 (refine wpS_q ?_ (by rfl) ?_ ?_; rotate_left; (focus (intro z hz; (try dsimp only at hz); go_simp; rfl)); simp only [Act.put, List.setIfInBounds_toArray, List.set_cons_zero, List.set_cons_succ])
    clear hcv
    refine wpS_l (by rfl) (fun K hK => ?_)
    go_wp2_with fail
    refine (works5_any w9).mono ?_
    rintro e w10 ⟨rfl, hb⟩
    refine hK _ _ (fun z => (Blk z gs 64 #[.string (bstr ha), .string (bstr hb0)] ∧ (convert 22 9 (.slice A8 ha.length z8)).run Try.prog z = .ok (.string (bstr ha)) z) ∧ (convert 22 9 (.slice A9 hb0.length z9)).run Try.prog z = .ok (.string (bstr hb0)) z) ⟨⟨hH9.below hb hH9.lt, conv_str (hr8.below hb) z8⟩, conv_str (hr9.below hb) z9⟩ (fun _ h => h) ?_
    have hbb := below_base hbb hb
    clear hK hb hr8 hr9 hH9 q0 q1
    iterate 2 (refine wpS_q ?_ (by rfl) ?_ ?_; rotate_left; (focus (intro z hz; (try dsimp only at hz); go_simp; rfl)); simp only [Act.put, List.setIfInBounds_toArray, List.set_cons_zero, List.set_cons_succ])
    refine wpS_nil ?_
    go_wp2_with fail
    go_ret
    exact ⟨rfl, hbb.1⟩
theorem cellApart_walk (w : World) (first : UInt8) (A : Option Addr) (m c : Nat) (l : List Beside) (_ : l.length = m) (hr : Reads w w.heap.size 5 A m (l.flatMap fun x => [Value.bool x.1] ++ ([Value.bool x.2.1] ++ ([x.2.2.1.v] ++ ([Value.int .u8 (x.2.2.2.1.toNat : Int)] ++ [Value.int .u8 (x.2.2.2.2.toNat : Int)]))))) (hi : ∀ a ∈ l, (True ∧ True ∧ SB.ok w a.2.2.1 ∧ True ∧ True) ∧ ([Value.bool a.1] ++ ([Value.bool a.2.1] ++ ([a.2.2.1.v] ++ ([Value.int .u8 (a.2.2.2.1.toNat : Int)] ++ [Value.int .u8 (a.2.2.2.2.toNat : Int)])))).length = 5) (_ : m ≤ c) (_ : c * 40 ≤ 140737488351232) :
    Calls Try.prog 9 #[.int .u8 (first.toNat : Int), .slice A m c] w fun e w' => e = .returned (.bool true) ∧ Below w.heap.size w w' :=
  cellApart_any w first A m c l hr (fun x hx => (hi x hx).1.2.2.1)
end Go.Proofs.Ytekpohchikbnnaa
