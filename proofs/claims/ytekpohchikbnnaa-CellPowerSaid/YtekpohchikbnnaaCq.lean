/- The law CellPower, walked. -/
import Derived.Test.YtekpohchikbnnaaCp
namespace Go.Proofs.Ytekpohchikbnnaa
open Go.RowKit Go.Rat
set_option maxRecDepth 20000 in
set_option maxHeartbeats 8000000 in
theorem cellPower_any (w : World) (A : Option Addr) (m c : Nat) (l : List Crash) (hr : Reads w w.heap.size 3 A m (l.flatMap crashC)) (hi : ∀ x ∈ l, SB.ok w x.1 ∧ SB.ok w x.2.2) :
    Calls Try.prog 11 #[.slice A m c] w fun e w' => e = .returned (.bool true) ∧ Below w.heap.size w w' := by
  by_cases hbig : 30 < m
  · have hbi : (30 : Int) < (m : Int) := by omega
    go_enter Try.func11, Try.ntmps11
    go_wp2_with (go_at_call 37; refine (works5_any w).mono ?_; rintro e w2 ⟨rfl, hb2⟩)
    go_ret
    exact ⟨rfl, hb2⟩
  have hbi : ¬ (30 : Int) < (m : Int) := by omega
  obtain ⟨base, hbase⟩ : ∃ b, w.heap.size = b := ⟨_, rfl⟩
  have HBASE := Lib.hid hbase
  obtain ⟨hst, hf0⟩ := pw_start
  obtain ⟨d0, hd0⟩ : ∃ d, (fmF ds0 0).1 = d := ⟨_, rfl⟩
  rw [hd0] at hst
  have HD0 := Lib.hid hd0
  have HF0 := Lib.hid hf0
  have HI := Lib.hid hi
  clear hd0 hf0 hi
  go_enter Try.func11, Try.ntmps11
  go_wp2_with fail
  refine (dnew_any w).mono ?_
  rintro e w1 ⟨l0, rfl, hD, hb⟩
  have hbb : Below w.heap.size w w1 ∧ base ≤ w1.heap.size := ⟨hb, by rw [← hbase]; exact hb.size⟩
  rw [hbase] at hD
  clear hb hbase
  simp only []
  obtain ⟨g, hlg⟩ : ∃ g, l0.g = g := ⟨_, rfl⟩
  rw [hlg]
  go_wp2_with fail
  refine (cformat_any w1 base l0 ds0 hD g hlg hbb.2 (by decide) 0 (by omega)).mono ?_
  rw [HF0.out, HD0.out]
  rintro e w2 ⟨l1, rfl, hlg1, hD1, hm⟩
  have hbb := base_moved hbb (Nat.le_of_eq HBASE.out) hD hm
  simp only []
  clear hm hD hlg
  go_upto_block 0 with (fail)
  have hbb1 := hbb.1
  have hbb2 := hbb.2
  go_cut [] (fun wx => Below w.heap.size w wx)
  case first =>
    go_wp2_with fail
    go_loopw [4, 5] (fun s i wr => ∃ (k : Nat) (d : DS) (l' : DL) (has : List UInt8), k ≤ m ∧ i = .int .i64 (k : Int) ∧ s = .string (bstr has) ∧ PwInv k has d ∧ DiskAt wr base l' d ∧ l'.g = g ∧ Below w.heap.size w wr ∧ base ≤ wr.heap.size) (fun _ i _ => m - (intOf i).toNat)
    case atStart => exact ⟨0, d0, l1, [], Nat.zero_le _, rfl, rfl, hst, hD1, hlg1, hbb1, hbb2⟩
    case round =>
      clear hbb hD1 hbb1 hbb2 hst
      obtain ⟨k, d, l', has, hk, rfl, rfl, hinv, hDk, hlk, hbk, hbks⟩ := hrel
      by_cases hkm : k < m
      · obtain ⟨ad, ⟨⟨A1, n1, z1, b⟩, nn, ⟨A2, n2, z2, ps⟩⟩, e, hxl, hadl, q0, q1, q2⟩ := crash_at hr hkm
        cases e
        obtain ⟨hok1, hok2⟩ := HI.out _ hxl
        obtain ⟨hR1, _, _⟩ := hok1
        obtain ⟨hR2, _, _⟩ := hok2
        simp only [SB.v] at q0 q1 q2 hR1 hR2
        have hl1 := hR1.len
        have hl2 := hR2.len
        obtain ⟨P, hP⟩ : ∃ P, ad.add (k * 3) = P := ⟨_, rfl⟩
        rw [hP] at hadl q0 q1 q2
        have Q0 : Hid (∀ z, Below w.heap.size w z → z.cell? P = some (.slice A1 n1 z1)) := Lib.hid (fun z hz => (hz.cell hadl).trans q0)
        have Q1 : Hid (∀ z, Below w.heap.size w z → z.cell? ⟨P.block, P.off + 1, none⟩ = some (.int .u8 (nn.toNat : Int))) := Lib.hid (fun z hz => (hz.cell (p := ⟨P.block, P.off + 1, none⟩) hadl).trans q1)
        have Q2 : Hid (∀ z, Below w.heap.size w z → z.cell? ⟨P.block, P.off + 2, none⟩ = some (.slice A2 n2 z2)) := Lib.hid (fun z hz => (hz.cell (p := ⟨P.block, P.off + 2, none⟩) hadl).trans q2)
        have HL1 := Lib.hid hl1
        have HL2 := Lib.hid hl2
        have hbb : Below w.heap.size w wr ∧ base ≤ wr.heap.size := ⟨hbk, hbks⟩
        have g1 : (k : Int) < (m : Int) := by omega
        have g0 : (0 : Int) ≤ (k : Int) := by omega
        have hnn := nn.toNat_lt
        obtain ⟨o1, ⟨which, hwle, o2⟩, hhas⟩ := hinv.open_
        have hk30 : k < 1000 := by omega
        clear hxl q0 q1 q2 hl1 hl2 hbk hbks
        have c0 := Q0.out _ hbb.1
        have c2 := Q2.out _ hbb.1
        by_cases hp2 : 200 < n2
        · have hp2' : (200 : Int) < (n2 : Int) := by omega
          clear hp2
          go_wp2_with (go_at_call 37; refine (works5_any _).mono ?_; rintro e w2 ⟨rfl, hb2⟩)
          go_ret
          exact ⟨rfl, below_next' hbb.1 hb2⟩
        · have hp2' : ¬ (200 : Int) < (n2 : Int) := by omega
          by_cases hb1 : 1100 < n1
          · have hb1' : (1100 : Int) < (n1 : Int) := by omega
            clear hp2 hb1
            go_wp2_with (go_at_call 37; refine (works5_any _).mono ?_; rintro e w2 ⟨rfl, hb2⟩)
            go_ret
            exact ⟨rfl, below_next' hbb.1 hb2⟩
          · have hb1' : ¬ (1100 : Int) < (n1 : Int) := by omega
            have hbl : b.length ≤ 1100 := by have := HL1.out; omega
            have hn1 : n1 ≤ 1100 := by omega
            have HO1 := Lib.hid o1
            have HO2 := Lib.hid o2
            have HHAS := Lib.hid hhas
            clear hp2 hb1 o1 o2 hhas
            go_wp2_with fail
            refine (copen_any wr base l' d hDk g hlk hbb.2 0 (by omega)).mono ?_
            rw [HO1.out, HO2.out]
            rintro e w3 ⟨(⟨h, _⟩ | ⟨_, k0, rfl, hC, _⟩), hb⟩
            · exact absurd rfl h
            have hbb := below_base hbb hb
            have hDk := hDk.below hb
            simp only []
            clear hb c0 c2
            go_wp2_with fail
            refine (cget_any w3 base l' k0 _ hC).mono ?_
            rintro e w4 ⟨A3, z3, rfl, hO, hb⟩
            have hcv := conv_str hO.reads z3
            have hbb := below_base hbb hb
            have hDk := hDk.below hb
            have hC := hC.below hb
            simp only [] at hcv ⊢
            clear hb hO
            have c1 := Q1.out _ hbb.1
            go_wp2_with fail
            refine (gfuse w4 base g l' d hDk hlk ((nn.toNat : Int) % 16) (by omega)).mono ?_
            rintro e w5 ⟨l5, rfl, hlg5, hD5, hm5⟩
            have hC := hC.moved hm5
            have hbb := base_moved hbb (Nat.le_of_eq HBASE.out) hDk hm5
            simp only []
            obtain ⟨f, hf⟩ : ∃ f, (nn.toNat : Int) % 16 = f := ⟨_, rfl⟩
            rw [hf] at hD5 ⊢
            clear hm5 hDk hcv c1 hf
            obtain ⟨s1, s2, s3, s4⟩ := hinv.step hk30 f hbl ps HO2.out
            obtain ⟨⟨dr, E⟩, hre⟩ : ∃ r, ptF (fuseD d f) 0 which b = r := ⟨_, rfl⟩
            rw [hre] at s1 s2 s4
            simp only at s1 s2 s4
            obtain ⟨d8, hd8⟩ : ∃ x, onAll (offD dr) ps = x := ⟨_, rfl⟩
            rw [hd8] at s4
            have HRE := Lib.hid hre
            have HS2 := Lib.hid s2
            have HS3 := Lib.hid s3
            have HD8 := Lib.hid hd8
            have HS4 := Lib.hid s4
            clear hre s2 s3 s4 hd8 hinv
            have c0 := Q0.out _ hbb.1
            have hap : n1 ≠ 0 → ∀ x, A1.map (·.block) = some x → ¬ l5.fp x ∧ x ≠ k0 := fun hn0 x hx => by
              obtain ⟨a1, hA, hlt, _⟩ := hR1.2 (by omega)
              rw [hA] at hx
              have hxe : a1.block = x := Option.some.inj hx
              have hbe := HBASE.out
              have hkb := hC.bk
              refine ⟨fun hf => ?_, by omega⟩
              have := (hD5.fp_lt hf).1
              omega
            go_wp2_with fail
            refine (cput_any w5 base l5 (fuseD d f) hD5 g hlg5 hbb.2 (by rw [HS3.out]; decide) k0 _ hC (show (0 : Int) ≤ 0 ∧ (0 : Int) + 20 ≤ 32768 by omega) rfl A1 n1 z1 b (hR1.below hbb.1) hn1 hap).mono ?_
            simp only []
            rw [HRE.out]
            rintro e w6 ⟨l6, rfl, hlg6, hD6, hC6, hm6⟩
            have hbb : Below w.heap.size w w6 ∧ base ≤ w6.heap.size := by
              have h1 := HBASE.out
              refine ⟨hbb.1.trans (hm6.chg.below (fun x hx => ?_) hbb.1.size), Nat.le_trans hbb.2 hm6.chg.size⟩
              rcases hx with hx | hx
              · have := (hD5.fp_lt hx).1
                omega
              · have := hC.bk
                omega
            simp only [] at hC6 hD6 ⊢
            clear hm6 hD5 hC c0 hap
            go_upto_region 17 with (fail)
            go_cut [103] (fun t wx => t = .bool false ∧ DiskAt wx base l6 dr ∧ Below w.heap.size w wx ∧ base ≤ wx.heap.size)
            case first =>
              have q0 : ∀ z, Below w.heap.size w z → z.cell? P = some (.slice A1 n1 z1) := Q0.out
              rcases s1 with rfl | rfl
              · have hC6 : CellAt w6 base l6 k0 ⟨0, b, 1 - which, false⟩ := by rw [putCell, if_pos rfl] at hC6; exact hC6
                have hcx : ∀ z, Below w.heap.size w z → (convert 22 9 (.slice A1 n1 z1)).run Try.prog z = .ok (.string (bstr b)) z := fun z hz => conv_str (hR1.below hz) z1
                go_wp2_with fail
                refine wp_region_plan [(0, true), (1, true), (2, true), (3, true), (4, true), (5, true), (6, true), (7, false), (8, true), (9, true), (10, true), (11, true), (12, true), (13, true), (14, true), (15, true), (18, true), (19, true), (20, true), (21, true), (22, true), (23, true), (16, false), (17, true), (24, true), (25, true), (26, true)]
                  (fun z => Below w.heap.size w z) (by kernel_rfl) (by kernel_rfl) (by kernel_rfl) (by kernel_rfl) (fun _ _ d _ _ h => by cases d <;> exact h) hbb.1.drew ?_
                simp only [planOps, List.getElem?_toArray, List.getElem?_cons_zero, List.getElem?_cons_succ]
                repeat (first
                  | (refine wpS_skip (by rfl) ?_; simp only [Act.put, List.setIfInBounds_toArray, List.set_cons_zero, List.set_cons_succ])
                  | (refine wpS_q ?_ (by rfl) ?_ ?_; rotate_left; (focus (intro z hz; (try dsimp only at hz); go_simp; rfl)); simp only [Act.put, List.setIfInBounds_toArray, List.set_cons_zero, List.set_cons_succ]))
                refine wpS_l (by rfl) (fun K hK => ?_)
                go_wp2_with fail
                refine (cget_any w6.drew base l6 k0 _ (hC6.below drew_below)).mono ?_
                rintro e w7 ⟨A7, z7, rfl, hO7, hb⟩
                have hb7 : Below w6.heap.size w6 w7 := drew_below.trans hb
                have hbb := below_base hbb hb7
                have hD7 := hD6.below hb7
                refine hK _ _ (fun z => Below w.heap.size w z ∧ (convert 22 9 (.slice A7 b.length z7)).run Try.prog z = .ok (.string (bstr b)) z) ⟨hbb.1, conv_str hO7.reads z7⟩ (fun _ h => h.1) ?_
                clear hK hb hb7 hO7
                have hcv : ∀ z, (Below w.heap.size w z ∧ (convert 22 9 (.slice A7 b.length z7)).run Try.prog z = .ok (.string (bstr b)) z) → (convert 22 9 (.slice A7 b.length z7)).run Try.prog z = .ok (.string (bstr b)) z := fun z hz => hz.2
                iterate 4 (refine wpS_q ?_ (by rfl) ?_ ?_; rotate_left; (focus (intro z hz; (try dsimp only at hz); go_simp; rfl)); simp only [Act.put, List.setIfInBounds_toArray, List.set_cons_zero, List.set_cons_succ])
                refine wpS_nil ?_
                go_wp2_with fail
                go_meet
                exact ⟨rfl, hD7, hbb.1, hbb.2⟩
              · have hdd : (putCell ⟨0, has, which, false⟩ b 8).dead = true := rfl
                go_wp2_with fail
                refine wp_region_plan [(0, true), (1, true), (2, true), (3, true), (4, true), (5, true), (6, true), (7, false), (8, true), (9, true), (10, true), (11, true), (12, true), (13, true), (14, true), (15, true), (18, true), (19, true), (20, true), (21, true), (22, true), (23, true), (16, false), (17, true), (24, true), (25, true), (26, true)]
                  (fun z => Below w.heap.size w z) (by kernel_rfl) (by kernel_rfl) (by kernel_rfl) (by kernel_rfl) (fun _ _ d _ _ h => by cases d <;> exact h) hbb.1.drew ?_
                simp only [planOps, List.getElem?_toArray, List.getElem?_cons_zero, List.getElem?_cons_succ]
                repeat (first
                  | (refine wpS_skip (by rfl) ?_; simp only [Act.put, List.setIfInBounds_toArray, List.set_cons_zero, List.set_cons_succ])
                  | (refine wpS_q ?_ (by rfl) ?_ ?_; rotate_left; (focus (intro z hz; (try dsimp only at hz); go_simp; rfl)); simp only [Act.put, List.setIfInBounds_toArray, List.set_cons_zero, List.set_cons_succ]))
                refine wpS_l (by rfl) (fun K hK => ?_)
                go_wp2_with fail
                refine (cput_dead w6.drew base l6 k0 _ (hC6.below drew_below) hdd none 0 0 (by omega)).mono ?_
                rintro e w7 ⟨rfl, rfl⟩
                refine hK _ _ _ hbb.1.drew (fun _ h => h) ?_
                clear hK
                repeat (first
                  | (refine wpS_skip (by rfl) ?_; simp only [Act.put, List.setIfInBounds_toArray, List.set_cons_zero, List.set_cons_succ])
                  | (refine wpS_q ?_ (by rfl) ?_ ?_; rotate_left; (focus (intro z hz; (try dsimp only at hz); go_simp; rfl)); simp only [Act.put, List.setIfInBounds_toArray, List.set_cons_zero, List.set_cons_succ]))
                refine wpS_nil ?_
                go_wp2_with fail
                go_meet
                exact ⟨rfl, hD6.below drew_below, hbb.1.drew, hbb.2⟩
            case rest =>
              clear hbb hD6 hC6
              obtain ⟨rfl, hD6, hbk, hbks⟩ := hcut
              have hbb : Below w.heap.size w wc ∧ base ≤ wc.heap.size := ⟨hbk, hbks⟩
              clear hbk hbks
              go_wp2_with fail
              refine (goff _ base g _ _ hD6 hlg6).mono ?_
              rintro e w7 ⟨l7, rfl, hlg7, hD7, hm7⟩
              have hbb := base_moved hbb (Nat.le_of_eq HBASE.out) hD6 hm7
              simp only []
              clear hm7 hD6
              have c2 := Q2.out _ hbb.1
              have hap : n2 ≠ 0 → ∀ x, A2.map (·.block) = some x → ¬ l7.fp x := fun hn0 x hx hf => by
                obtain ⟨a1, hA, hlt, _⟩ := hR2.2 (by omega)
                rw [hA] at hx
                have hxe : a1.block = x := Option.some.inj hx
                have hbe := HBASE.out
                have := (hD7.fp_lt hf).1
                omega
              go_wp2_with fail
              refine (gonN _ base g _ _ hD7 hlg7 A2 n2 z2 ps (hR2.below hbb.1) hap).mono ?_
              rw [HS2.out, HD8.out]
              rintro e w8 ⟨l8, rfl, hlg8, hD8, hm8⟩
              have hbb := base_moved hbb (Nat.le_of_eq HBASE.out) hD7 hm8
              simp only []
              clear hm8 hD7 c2 hap
              rcases HS4.out with hnew | ⟨hE8, hold⟩
              · have HIN := Lib.hid hnew
                clear hnew
                obtain ⟨o1, ⟨which', _, o2⟩, hhas'⟩ := PwInv.open_ HIN.out
                have HO1 := Lib.hid o1
                have HO2 := Lib.hid o2
                clear o1 o2 hhas'
                go_wp2_with fail
                refine (copen_any w8 base l8 d8 hD8 g hlg8 hbb.2 0 (by omega)).mono ?_
                rw [HO1.out, HO2.out]
                rintro e w9 ⟨(⟨h, _⟩ | ⟨_, k9, rfl, hC9, _⟩), hb⟩
                · exact absurd rfl h
                have hbb := below_base hbb hb
                have hD9 := hD8.below hb
                simp only []
                clear hb hD8
                go_wp2_with fail
                refine (cget_any w9 base l8 k9 _ hC9).mono ?_
                rintro e w10 ⟨A9, z9, rfl, hO9, hb⟩
                have hcv := conv_str hO9.reads z9
                have hbb := below_base hbb hb
                have hD10 := hD9.below hb
                simp only [] at hcv ⊢
                clear hb hD9 hC9 hO9
                have c0 := Q0.out _ hbb.1
                have hcb := conv_str (hR1.below hbb.1) z1
                go_wp2_with fail
                exact ⟨⟨k + 1, d8, l8, b, by omega, congrArg (Value.int .i64) (by omega), rfl, HIN.out, hD10, hlg8, hbb.1, hbb.2⟩, by simp [intOf]; omega⟩
              · have HIN := Lib.hid hold
                subst hE8
                clear hold
                by_cases hhb : has = b
                · subst hhb
                  obtain ⟨o1, ⟨which', _, o2⟩, hhas'⟩ := PwInv.open_ HIN.out
                  have HO1 := Lib.hid o1
                  have HO2 := Lib.hid o2
                  clear o1 o2 hhas'
                  go_wp2_with fail
                  refine (copen_any w8 base l8 d8 hD8 g hlg8 hbb.2 0 (by omega)).mono ?_
                  rw [HO1.out, HO2.out]
                  rintro e w9 ⟨(⟨h, _⟩ | ⟨_, k9, rfl, hC9, _⟩), hb⟩
                  · exact absurd rfl h
                  have hbb := below_base hbb hb
                  have hD9 := hD8.below hb
                  simp only []
                  clear hb hD8
                  go_wp2_with fail
                  refine (cget_any w9 base l8 k9 _ hC9).mono ?_
                  rintro e w10 ⟨A9, z9, rfl, hO9, hb⟩
                  have hcv := conv_str hO9.reads z9
                  have hbb := below_base hbb hb
                  have hD10 := hD9.below hb
                  simp only [] at hcv ⊢
                  clear hb hD9 hC9 hO9
                  have c0 := Q0.out _ hbb.1
                  have hcb := conv_str (hR1.below hbb.1) z1
                  go_wp2_with fail
                  exact ⟨⟨k + 1, d8, l8, has, by omega, congrArg (Value.int .i64) (by omega), rfl, HIN.out, hD10, hlg8, hbb.1, hbb.2⟩, by simp [intOf]; omega⟩
                · obtain ⟨hne1, hne2⟩ := bstr_ne hhb
                  clear hhb
                  obtain ⟨o1, ⟨which', _, o2⟩, hhas'⟩ := PwInv.open_ HIN.out
                  have HO1 := Lib.hid o1
                  have HO2 := Lib.hid o2
                  clear o1 o2 hhas'
                  go_wp2_with fail
                  refine (copen_any w8 base l8 d8 hD8 g hlg8 hbb.2 0 (by omega)).mono ?_
                  rw [HO1.out, HO2.out]
                  rintro e w9 ⟨(⟨h, _⟩ | ⟨_, k9, rfl, hC9, _⟩), hb⟩
                  · exact absurd rfl h
                  have hbb := below_base hbb hb
                  have hD9 := hD8.below hb
                  simp only []
                  clear hb hD8
                  go_wp2_with fail
                  refine (cget_any w9 base l8 k9 _ hC9).mono ?_
                  rintro e w10 ⟨A9, z9, rfl, hO9, hb⟩
                  have hcv := conv_str hO9.reads z9
                  have hbb := below_base hbb hb
                  have hD10 := hD9.below hb
                  simp only [] at hcv ⊢
                  clear hb hD9 hC9 hO9
                  have c0 := Q0.out _ hbb.1
                  have hcb := conv_str (hR1.below hbb.1) z1
                  go_wp2_with fail
                  exact ⟨⟨k + 1, d8, l8, has, by omega, congrArg (Value.int .i64) (by omega), rfl, HIN.out, hD10, hlg8, hbb.1, hbb.2⟩, by simp [intOf]; omega⟩
      · obtain rfl : k = m := by omega
        have g1 : ¬ (k : Int) < (k : Int) := by omega
        go_wp2_with fail
        go_meet
        exact hbk
  case rest =>
    clear hbb hD1 hbb1 hbb2 hst
    have hbk : Below w.heap.size w wc := hcut
    go_wp2_with fail
    refine (works5_any _).mono ?_
    rintro e w9 ⟨rfl, hb⟩
    go_wp2_with fail
    go_ret
    exact ⟨rfl, below_next' hbk hb⟩
theorem cellPower_walk (w : World) (A : Option Addr) (m c : Nat) (l : List Crash) (_ : l.length = m) (hr : Reads w w.heap.size 3 A m (l.flatMap fun x => [x.1.v] ++ ([Value.int .u8 (x.2.1.toNat : Int)] ++ [x.2.2.v]))) (hi : ∀ a ∈ l, (SB.ok w a.1 ∧ True ∧ SB.ok w a.2.2) ∧ ([a.1.v] ++ ([Value.int .u8 (a.2.1.toNat : Int)] ++ [a.2.2.v])).length = 3) (_ : m ≤ c) (_ : c * 56 ≤ 140737488351232) :
    Calls Try.prog 11 #[.slice A m c] w fun e w' => e = .returned (.bool true) ∧ Below w.heap.size w w' :=
  cellPower_any w A m c l hr (fun x hx => ⟨(hi x hx).1.1, (hi x hx).1.2.2⟩)
end Go.Proofs.Ytekpohchikbnnaa
