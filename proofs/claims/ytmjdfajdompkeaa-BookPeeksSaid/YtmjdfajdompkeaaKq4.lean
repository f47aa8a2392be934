/- disk: On. -/
import Derived.Test.YtmjdfajdompkeaaKq3
namespace Go.Proofs.Ytmjdfajdompkeaa
open Go.RowKit Go.Rat
def onAll (d : DS) (ps : List UInt8) : DS := if d.off = true then onD d ps else d
def onE (d : DS) : Int := if d.off = true then 0 else 3
theorem build_lost {w : World} {ρ : Operand → Value} {d : Option Tmp} {t : TypeId} {p : String} {af : Array Edge} {gd : Option (Nat × Bool)} (hρ : ∀ v, ρ (.const v) = v) :
    (execOp ρ { dst := d, op := .build 110 #[(1, .const (.bool true))], type := t, pos := p, after := af, guard := gd }).run Try.prog w = .ok (.value (.agg (secL ⟨zs, true⟩).toArray)) w := by
  have h1 := hρ (.bool true)
  have hf : Try.zeroCells110.setIfInBounds 128 (.bool true) = (secL ⟨zs, true⟩).toArray := by
    rw [zc129, List.setIfInBounds_toArray, secL, secL, List.set_append_right _ _ (by rw [bvs_length]; simp [zsec, zs_length]), bvs_length]
    simp [zsec, zs_length]
  go_simp
theorem Chg.rbN {F : Nat → Prop} {w w' : World} {A : Option Addr} {n : Nat} {xs : List UInt8} (h : Chg F w w') (hr : RB w A n xs) (hg : n ≠ 0 → ∀ x, A.map (·.block) = some x → ¬ F x) : RB w' A n xs := by
  by_cases hn : n = 0
  · have hx : xs = [] := List.eq_nil_of_length_eq_zero (by rw [hr.len, hn])
    subst hn
    rw [hx]
    exact RB.nil_ _ _
  · exact h.rb hr (hg hn)
theorem pickF_0 (f : Int → Sec) (x : Int × List UInt8) (p : Nat) (h : p % 4 = 0) : pickF f x p = f := by rw [pickF, if_pos h]
theorem pickF_2 (f : Int → Sec) (x : Int × List UInt8) (p : Nat) (h : p % 4 = 2) : pickF f x p = upd f x.1 ⟨zs, true⟩ := by rw [pickF, if_neg (by omega), if_pos h]
theorem pickF_1 (f : Int → Sec) (x : Int × List UInt8) (p : Nat) (h : p % 4 = 1 ∨ p % 4 = 3) : pickF f x p = upd f x.1 ⟨x.2, false⟩ := by rw [pickF, if_neg (by omega), if_neg (by omega)]
set_option maxRecDepth 20000 in
set_option maxHeartbeats 8000000 in
theorem don_any (w : World) (base : Nat) (l : DL) (d : DS) (h : DiskAt w base l d) (A' : Option Addr) (m c' : Nat) (ps : List UInt8) (hr : RB w A' m ps) (hap : m ≠ 0 → ∀ x, A'.map (·.block) = some x → ¬ l.fp x) :
    Calls Try.prog 25 #[.pointer (some ⟨l.g, 0, none⟩), .slice A' m c'] w fun e w' => ∃ l', e = .returned (.int .i64 (onE d)) ∧ DiskAt w' base l' (onAll d ps) ∧ Moved w w' l l' := by
  have c3 := h.blk.cell 3
  simp only [List.getElem?_toArray, List.getElem?_cons_zero, List.getElem?_cons_succ] at c3
  cases hoff : d.off
  · have hfin : onE d = 3 ∧ onAll d ps = d := by simp [onE, onAll, hoff]
    have HFIN := Lib.hid hfin
    rw [hoff] at c3
    clear hfin hoff
    go_enter Try.func25, Try.ntmps25
    go_wp2_with fail
    go_ret
    exact ⟨l, by rw [HFIN.out.1]; rfl, by rw [HFIN.out.2]; exact h, Moved.refl _ _⟩
  · have hfin : onE d = 0 ∧ onAll d ps = onD d ps := by simp [onE, onAll, hoff]
    have HFIN := Lib.hid hfin
    rw [hoff] at c3
    have c2 := h.blk.cell 2
    simp only [List.getElem?_toArray, List.getElem?_cons_zero, List.getElem?_cons_succ] at c2
    have hcap := own_cap h.row
    have hlen : d.loose.length ≤ 9223372036854775807 := Nat.le_trans hcap.1 hcap.2
    have hml := hr.len
    have HR := Lib.hid hr
    clear hfin hoff hcap hr
    go_enter Try.func25, Try.ntmps25
    go_upto_block 1 with (fail)
    go_cut [] (fun wx => DiskAt wx base l { d with sure := picksF d.loose 0 ps d.sure } ∧ Moved w wx l l)
    case first =>
      go_wp2_with fail
      go_loopw [24] (fun i wr => ∃ k : Nat, k ≤ d.loose.length ∧ i = .int .i64 (k : Int) ∧ DiskAt wr base l { d with sure := picksF (d.loose.take k) 0 ps d.sure } ∧ Moved w wr l l) (fun i _ => d.loose.length - (intOf i).toNat)
      case atStart => exact ⟨0, Nat.zero_le _, rfl, h, Moved.refl _ _⟩
      case round =>
        obtain ⟨k, hk, rfl, hk1, hmk⟩ := hrel
        clear c2 c3
        by_cases hkl : k < d.loose.length
        · obtain ⟨g, L, hA, hgB, hgL, hne1, hne2, hne3⟩ := hk1.loose_at hkl
          have hA' : l.A = some ⟨g, 0, none⟩ := hA
          have hx := hk1.ok.loose _ (List.getElem_mem hkl)
          have hstep : picksF (d.loose.take (k + 1)) 0 ps d.sure = pickF (picksF (d.loose.take k) 0 ps d.sure) d.loose[k] (ps.getD k 0).toNat := by
            rw [List.take_add_one, List.getElem?_eq_getElem hkl, Option.toList_some, picksF_snoc, List.length_take, Nat.zero_add, Nat.min_eq_left (by omega)]
          have hgL' : (L.drop (k * 129)).take 129 = .int .i64 d.loose[k].1 :: bvs d.loose[k].2 := hgL
          generalize d.loose[k] = x at *
          obtain ⟨i, b⟩ := x
          simp only at hx hgL'
          have HSTEP := Lib.hid hstep
          have HGL := Lib.hid hgL'
          clear hstep hgL hgL' hA'
          have hcl := cells_len (i := i) hx.2
          have hcs : (.int .i64 i :: bvs b : List Value).toArray.size = 129 := by simpa using hcl
          have g1 : (k : Int) < (d.loose.length : Int) := by omega
          have g0 : (0 : Int) ≤ (k : Int) := by omega
          have hrr : RB wr A' m ps := hmk.chg.rbN HR.out hap
          obtain ⟨q, hq⟩ : ∃ q, (ps.getD k 0).toNat % 4 = q := ⟨_, rfl⟩
          repeat (first
            | ((with_reducible refine wpl_load_mid g (k * 129) L (.int .i64 i :: bvs b) Try.underlying112 rfl w129 hgB HGL.out hcl ?_ ?_); (focus rfl); simp only [Act.put, List.setIfInBounds_toArray, List.set_cons_zero, List.set_cons_succ])
            | ((with_reducible refine wpl_store_fresh (.int .i64 i :: bvs b).toArray w129 ?_ hcs cells_one ?_ ?_ ?_); (focus kernel_rfl); (focus rfl); (focus rfl); intro w3 hW3 hl3 hb3; simp only [Act.put]; refine Hid.out ?_)
            | go_values | go_skip | go_guarded | go_step | go_upon | go_back)
          refine Lib.hid ?_
          clear hA
          have hr3 := hrr.below hb3
          have h3 := hk1.below hb3
          have hm3 : Moved w w3 l l := hmk.trans (Moved.of_below hb3)
          have hneG : wr.heap.size ≠ l.gs := by have := hk1.sure.lt; omega
          clear hgB hb3 hmk hk1 hrr HGL
          go_upto_if 32 with (fail)
          go_cut [7] (fun p wx => p = .int .u8 (q : Int) ∧ wx = w3)
          case first =>
            have HQ := Lib.hid hq
            clear hq
            by_cases hkm : k < m
            · obtain ⟨ad, rfl, _, hc⟩ := hr3.at_ hkm
              have hq := HQ.out
              have hb := (ps.getD k 0).toNat_lt
              generalize (ps.getD k 0).toNat = p at *
              have hpq : (p : Int) % 4 = (q : Int) := by omega
              have g2 : (k : Int) < (m : Int) := by omega
              clear hq HQ
              go_wp2_with fail
              go_meet
              exact ⟨congrArg (Value.int .u8) hpq, rfl⟩
            · have hq0 : q = 0 := by rw [← HQ.out, List.getD_eq_getElem?_getD, List.getElem?_eq_none (by omega)]; rfl
              subst hq0
              have g2 : ¬ (k : Int) < (m : Int) := by omega
              go_wp2_with fail
              go_meet
              exact ⟨rfl, rfl⟩
          case rest =>
            obtain ⟨rfl, rfl⟩ := hcut
            have hq4 : q < 4 := by omega
            have hq3 : q = 0 ∨ q = 2 ∨ q = 1 ∨ q = 3 := by omega
            have hw3 := hW3.cell 0
            have c0 := h3.blk.cell 0
            simp only [List.getElem?_toArray, List.getElem?_cons_zero] at c0 hw3
            have hW3d : Blk wc.drew wr.heap.size 112 (.int .i64 i :: bvs b).toArray := hW3
            have h3d : DiskAt wc.drew base l { d with sure := picksF (d.loose.take k) 0 ps d.sure } := h3.below drew_below
            have hmd : Moved w wc.drew l l := hm3.trans (Moved.of_below drew_below)
            have hbvl : (bvs b).length = 128 := by rw [bvs_length]; exact hx.2
            have hb1 : ((.int .i64 i :: bvs b : List Value).drop 1).take 128 = bvs b := by rw [List.drop_succ_cons, List.drop_zero, List.take_of_length_le (by omega)]
            have HQ := Lib.hid hq
            clear hq
            rcases hq3 with rfl | rfl | rfl | rfl
            · have h4 : DiskAt wc base l { d with sure := picksF (d.loose.take (k + 1)) 0 ps d.sure } := by rw [HSTEP.out, pickF_0 _ _ _ HQ.out]; exact h3
              clear hW3 hW3d h3d h3 hmd
              go_wp2_with fail
              exact ⟨⟨k + 1, by omega, congrArg (Value.int .i64) (by omega), h4, hm3⟩, by simp only [intOf]; omega⟩
            · have hst2 : picksF (d.loose.take (k + 1)) 0 ps d.sure = upd (picksF (d.loose.take k) 0 ps d.sure) i ⟨zs, true⟩ := by rw [HSTEP.out, pickF_2 _ _ _ HQ.out]
              have HST2 := Lib.hid hst2
              clear hst2 HQ HSTEP
              go_wp2_with fail
              refine wp_region_plan [(0, true), (1, true), (2, true), (3, true), (4, true), (5, true), (6, true), (7, false)]
                (fun z => z.cell? ⟨l.g, 0, none⟩ = some (.map (some l.gs)) ∧ z.cell? ⟨wr.heap.size, 0, none⟩ = some (.int .i64 i)) (by kernel_rfl) (by kernel_rfl) (by kernel_rfl) (by kernel_rfl) (fun _ _ d _ _ h => by cases d <;> exact h) ⟨c0, hw3⟩ ?_
              simp only [planOps, List.getElem?_toArray, List.getElem?_cons_zero, List.getElem?_cons_succ]
              iterate 6 (refine wpS_q ?_ (by rfl) ?_ ?_; rotate_left; (focus (intro z hz; (try dsimp only at hz); go_simp; rfl)); simp only [Act.put, List.setIfInBounds_toArray, List.set_cons_zero, List.set_cons_succ])
              refine wpS_q (.agg (secL ⟨zs, true⟩).toArray) (by rfl) (fun z hz => build_lost (fun _ => rfl)) ?_
              simp only [Act.put, List.setIfInBounds_toArray, List.set_cons_zero, List.set_cons_succ]
              refine wpS_l (by rfl) (fun K hK => ?_)
              refine wp_mapStore _ _ _ rfl h3d.sure Try.underlying3 Try.underlying104 i (wf64 hx.1) (secV ⟨zs, true⟩) rfl rfl rfl ?_
              intro w4 hM4 hg4
              have h4 := h3d.setSure hg4 (f := picksF (d.loose.take (k + 1)) 0 ps d.sure) (hM4.ext (fun q => by
                rw [HST2.out]
                show (if q = i then _ else _) = secV (if q = i then _ else _)
                split <;> rfl)) (by rw [HST2.out]; exact upd_len h3.ok.sure zs_length i)
              have c04 := h4.blk.cell 0
              simp only [List.getElem?_toArray, List.getElem?_cons_zero] at c04
              have hW4 : w4.cell? ⟨wr.heap.size, 0, none⟩ = some (.int .i64 i) := (World.cell?_of_block (hg4.block wr.heap.size hl3 (by intro e; injection e with e; exact hneG e))).trans hw3
              refine hK _ _ _ ⟨c04, hW4⟩ (fun _ h => h) ?_
              clear hK
              refine wpS_nil ?_
              have hm4 : Moved w w4 l l := hmd.trans ⟨rfl, Chg.of_grown (F := l.fp) hg4 (.inr (.inl rfl)), fun x hx => .inl hx⟩
              clear h3 c0 hw3 hm3 h3d c04 hW4 hg4 hM4 hW3 hW3d hmd
              go_wp2_with fail
              exact ⟨⟨k + 1, by omega, congrArg (Value.int .i64) (by omega), h4, hm4⟩, by simp only [intOf]; omega⟩
            all_goals
              have hst2 : picksF (d.loose.take (k + 1)) 0 ps d.sure = upd (picksF (d.loose.take k) 0 ps d.sure) i ⟨b, false⟩ := by rw [HSTEP.out, pickF_1 _ _ _ (by have := HQ.out; omega)]
              have HST2 := Lib.hid hst2
              clear hst2 HQ HSTEP
              go_wp2_with fail
              refine wp_region_plan [(0, true), (1, true), (2, true), (3, true), (4, true), (5, true), (6, true), (7, true), (8, true), (9, false)]
                (fun z => z.cell? ⟨l.g, 0, none⟩ = some (.map (some l.gs)) ∧ z.cell? ⟨wr.heap.size, 0, none⟩ = some (.int .i64 i) ∧ Blk z wr.heap.size 112 (.int .i64 i :: bvs b : List Value).toArray) (by kernel_rfl) (by kernel_rfl) (by kernel_rfl) (by kernel_rfl) (fun _ _ d _ _ h => by cases d <;> exact h) ⟨c0, hw3, hW3d⟩ ?_
              simp only [planOps, List.getElem?_toArray, List.getElem?_cons_zero, List.getElem?_cons_succ]
              iterate 7 (refine wpS_q ?_ (by rfl) ?_ ?_; rotate_left; (focus (intro z hz; (try dsimp only at hz); go_simp; rfl)); simp only [Act.put, List.setIfInBounds_toArray, List.set_cons_zero, List.set_cons_succ])
              refine wpS_q (.agg (bvs b).toArray) (by rfl) (fun z hz => load_mid_run rfl wr.heap.size 1 (.int .i64 i :: bvs b) (bvs b) Try.underlying28 rfl i128 hz.2.2 hb1 hbvl rfl) ?_
              simp only [Act.put, List.setIfInBounds_toArray, List.set_cons_zero, List.set_cons_succ]
              refine wpS_q (.agg (secL ⟨b, false⟩).toArray) (by rfl) (fun z hz => build_sec b hx.2 rfl) ?_
              simp only [Act.put, List.setIfInBounds_toArray, List.set_cons_zero, List.set_cons_succ]
              refine wpS_l (by rfl) (fun K hK => ?_)
              refine wp_mapStore _ _ _ rfl h3d.sure Try.underlying3 Try.underlying104 i (wf64 hx.1) (secV ⟨b, false⟩) rfl rfl rfl ?_
              intro w4 hM4 hg4
              have h4 := h3d.setSure hg4 (f := picksF (d.loose.take (k + 1)) 0 ps d.sure) (hM4.ext (fun q => by
                rw [HST2.out]
                show (if q = i then _ else _) = secV (if q = i then _ else _)
                split <;> rfl)) (by rw [HST2.out]; exact upd_len h3.ok.sure hx.2 i)
              have c04 := h4.blk.cell 0
              simp only [List.getElem?_toArray, List.getElem?_cons_zero] at c04
              have hW4B := hW3d.grown hg4 (by intro e; injection e with e; exact hneG e)
              have hW4 : w4.cell? ⟨wr.heap.size, 0, none⟩ = some (.int .i64 i) := (World.cell?_of_block (hg4.block wr.heap.size hl3 (by intro e; injection e with e; exact hneG e))).trans hw3
              refine hK _ _ _ ⟨c04, hW4, hW4B⟩ (fun _ h => h) ?_
              clear hK
              refine wpS_nil ?_
              have hm4 : Moved w w4 l l := hmd.trans ⟨rfl, Chg.of_grown (F := l.fp) hg4 (.inr (.inl rfl)), fun x hx => .inl hx⟩
              clear h3 c0 hw3 hm3 h3d c04 hW4 hW4B hg4 hM4 hW3 hW3d hmd
              go_wp2_with fail
              exact ⟨⟨k + 1, by omega, congrArg (Value.int .i64) (by omega), h4, hm4⟩, by simp only [intOf]; omega⟩
        · obtain rfl : k = d.loose.length := by omega
          rw [List.take_of_length_le (Nat.le_refl _)] at hk1
          have g1 : ¬ (d.loose.length : Int) < (d.loose.length : Int) := by omega
          go_wp2_with fail
          go_meet
          exact ⟨hk1, hmk⟩
    case rest =>
      obtain ⟨h1, hm1⟩ := hcut
      obtain ⟨P, hP⟩ : ∃ P, picksF d.loose 0 ps d.sure = P := ⟨_, rfl⟩
      rw [hP] at h1
      have hfinD : onD d ps = { d with sure := P, now := syncF P d.loose d.now, loose := [], off := false, fuse := -1 } := by rw [onD, hP]
      have HFD := Lib.hid hfinD
      clear hfinD hP c2 c3 h
      have c2 := h1.blk.cell 2
      simp only [List.getElem?_toArray, List.getElem?_cons_zero, List.getElem?_cons_succ] at c2
      go_wp2_with fail
      go_loopw [66] (fun i wr => ∃ k : Nat, k ≤ d.loose.length ∧ i = .int .i64 (k : Int) ∧ DiskAt wr base l { d with sure := P, now := syncF P (d.loose.take k) d.now } ∧ Moved w wr l l) (fun i _ => d.loose.length - (intOf i).toNat)
      case atStart => exact ⟨0, Nat.zero_le _, rfl, h1, hm1⟩
      case round =>
        obtain ⟨k, hk, rfl, hk1, hmk⟩ := hrel
        clear c2 h1 hm1
        by_cases hkl : k < d.loose.length
        · obtain ⟨g, L, hA, hgB, hgL, hne1, hne2, hne3⟩ := hk1.loose_at hkl
          have hx := hk1.ok.loose _ (List.getElem_mem hkl)
          have hstep : syncF P (d.loose.take (k + 1)) d.now = upd (syncF P (d.loose.take k) d.now) d.loose[k].1 (P d.loose[k].1) := by
            rw [List.take_add_one, List.getElem?_eq_getElem hkl, Option.toList_some, syncF_snoc]
          have hgL' : (L.drop (k * 129)).take 129 = .int .i64 d.loose[k].1 :: bvs d.loose[k].2 := hgL
          generalize d.loose[k] = x at *
          obtain ⟨i, b⟩ := x
          simp only at hx hstep hgL'
          have HSTEP := Lib.hid hstep
          have HGL := Lib.hid hgL'
          clear hstep hgL hgL'
          have hcl := cells_len (i := i) hx.2
          have hcs : (.int .i64 i :: bvs b : List Value).toArray.size = 129 := by simpa using hcl
          have g1 : (k : Int) < (d.loose.length : Int) := by omega
          have g0 : (0 : Int) ≤ (k : Int) := by omega
          repeat (first
            | ((with_reducible refine wpl_load_mid g (k * 129) L (.int .i64 i :: bvs b) Try.underlying112 rfl w129 hgB HGL.out hcl ?_ ?_); (focus rfl); simp only [Act.put, List.setIfInBounds_toArray, List.set_cons_zero, List.set_cons_succ])
            | ((with_reducible refine wpl_store_fresh (.int .i64 i :: bvs b).toArray w129 ?_ hcs cells_one ?_ ?_ ?_); (focus kernel_rfl); (focus rfl); (focus rfl); intro w3 hW3 hl3 hb3; simp only [Act.put])
            | go_values | go_skip | go_guarded | go_step | go_upon | go_back)
          have h3 := hk1.below hb3
          have hw3 := hW3.cell 0
          have c0 := h3.blk.cell 0
          have c1 := h3.blk.cell 1
          simp only [List.getElem?_toArray, List.getElem?_cons_zero, List.getElem?_cons_succ] at c0 c1 hw3
          have hneG : wr.heap.size ≠ l.gn := by have := hk1.now.lt; omega
          have hm3 : Moved w w3 l l := hmk.trans (Moved.of_below hb3)
          refine wp_region_plan [(0, true), (1, true), (2, true), (3, true), (4, true), (5, true), (6, true), (7, true), (8, true), (9, true), (10, true), (11, true), (12, true), (13, false)]
            (fun z => z.cell? ⟨l.g, 0, none⟩ = some (.map (some l.gs)) ∧ z.cell? ⟨l.g, 1, none⟩ = some (.map (some l.gn)) ∧ z.cell? ⟨wr.heap.size, 0, none⟩ = some (.int .i64 i) ∧ MapV (secV zsec) z l.gs (fun a => secV (P a))) (by kernel_rfl) (by kernel_rfl) (by kernel_rfl) (by kernel_rfl) (fun _ _ d _ _ h => by cases d <;> exact h) ⟨c0, c1, hw3, h3.sure.below drew_below h3.sure.lt⟩ ?_
          simp only [planOps, List.getElem?_toArray, List.getElem?_cons_zero, List.getElem?_cons_succ]
          iterate 12 (refine wpS_q ?_ (by rfl) ?_ ?_; rotate_left; (focus (intro z hz; (try dsimp only at hz); go_simp; rfl)); simp only [Act.put, List.setIfInBounds_toArray, List.set_cons_zero, List.set_cons_succ])
          refine wpS_q (secV (P i)) (by rfl) (fun z hz => look_run hz.2.2.2 Try.underlying3 Try.underlying104 (zerosec z) i (wf64 hx.1) rfl rfl) ?_
          simp only [Act.put, List.setIfInBounds_toArray, List.set_cons_zero, List.set_cons_succ]
          refine wpS_l (by rfl) (fun K hK => ?_)
          refine wp_mapStore _ _ _ rfl (h3.now.below drew_below h3.now.lt) Try.underlying3 Try.underlying104 i (wf64 hx.1) (secV (P i)) rfl rfl rfl ?_
          intro w4 hM4 hg4
          have h3d : DiskAt w3.drew base l { d with sure := P, now := syncF P (d.loose.take k) d.now } := h3.below drew_below
          have h4 := h3d.setNow hg4 (f := syncF P (d.loose.take (k + 1)) d.now) (hM4.ext (fun q => by
            rw [HSTEP.out]
            show (if q = i then _ else _) = secV (if q = i then _ else _)
            split <;> rfl)) (by rw [HSTEP.out]; exact upd_len h3.ok.now (h3.ok.sure i) i)
          have c04 := h4.blk.cell 0
          have c14 := h4.blk.cell 1
          simp only [List.getElem?_toArray, List.getElem?_cons_zero, List.getElem?_cons_succ] at c04 c14
          have hW4 : w4.cell? ⟨wr.heap.size, 0, none⟩ = some (.int .i64 i) := (World.cell?_of_block (hg4.block wr.heap.size hl3 (by intro e; injection e with e; exact hneG e))).trans hw3
          refine hK _ _ _ ⟨c04, c14, hW4, h4.sure⟩ (fun _ h => h) ?_
          clear hK
          refine wpS_nil ?_
          have hm4 : Moved w w4 l l := hm3.trans ⟨rfl, (Chg.of_below l.fp (drew_below (w := w3))).trans (Chg.of_grown (F := l.fp) hg4 (.inr (.inr (.inl rfl)))) (fun x hx => .inl hx), fun x hx => .inl hx⟩
          clear h3 c0 c1 hw3 hm3 h3d c04 c14 hW4 hg4 hM4 hmk hk1 hgB hb3 hW3
          go_wp2_with fail
          first
            | exact ⟨⟨k + 1, by omega, by omega, h4⟩, by simp only [intOf]; omega⟩
            | exact ⟨⟨k + 1, by omega, congrArg (Value.int .i64) (by omega), h4, hm4⟩, by simp only [intOf]; omega⟩
        · obtain rfl : k = d.loose.length := by omega
          rw [List.take_of_length_le (Nat.le_refl _)] at hk1
          have g1 : ¬ (d.loose.length : Int) < (d.loose.length : Int) := by omega
          have c2 := hk1.blk.cell 2
          have c3 := hk1.blk.cell 3
          have c4 := hk1.blk.cell 4
          have f2 := hk1.blk.frozen 2
          have f3 := hk1.blk.frozen 3
          have f4 := hk1.blk.frozen 4
          simp only [List.getElem?_toArray, List.getElem?_cons_zero, List.getElem?_cons_succ] at c2 c3 c4
          have hg := ((grownBy_set wr l.g 2 (.slice none 0 0)).trans (grownBy_set (wr.setCell ⟨l.g, 2, none⟩ (.slice none 0 0)) l.g 3 (.bool false))).trans (grownBy_set ((wr.setCell ⟨l.g, 2, none⟩ (.slice none 0 0)).setCell ⟨l.g, 3, none⟩ (.bool false)) l.g 4 (.int .i64 (-1)))
          have hB := ((hk1.blk.set_ 2 (.slice none 0 0)).set_ 3 (.bool false)).set_ 4 (.int .i64 (-1))
          simp only [List.setIfInBounds_toArray, List.set_cons_zero, List.set_cons_succ] at hB
          have hfin := hk1.clear false (-1) (by omega) hg hB
          have hmf : Moved w (((wr.setCell ⟨l.g, 2, none⟩ (.slice none 0 0)).setCell ⟨l.g, 3, none⟩ (.bool false)).setCell ⟨l.g, 4, none⟩ (.int .i64 (-1))) l { l with A := none, c := 0 } := ⟨rfl, hmk.chg.trans (Chg.of_grown (F := l.fp) hg (.inl rfl)) (fun x hx => .inl hx), fun x hx => by
            rcases hx with hx | hx | hx | hx
            · exact .inl (.inl hx)
            · exact .inl (.inr (.inl hx))
            · exact .inl (.inr (.inr (.inl hx)))
            · cases hx⟩
          clear hk1 hB
          go_wp2_with fail
          go_ret
          first
            | exact ⟨by rw [HFIN.out.1]; rfl, { l with A := none, c := 0 }, by rw [HFIN.out.2, HFD.out]; exact hfin, hmf⟩
            | exact ⟨{ l with A := none, c := 0 }, by rw [HFIN.out.1]; rfl, by rw [HFIN.out.2, HFD.out]; exact hfin, hmf⟩
end Go.Proofs.Ytmjdfajdompkeaa
namespace Go.Proofs.Ytmjdfajdompkeaa
open Go.RowKit Go.Rat
theorem eql128 (xs ys : List UInt8) (hA : xs.length = 128) (hB : ys.length = 128) (w : World) : (Op.equalIn 10000 28 (.agg (bvs xs).toArray) (.agg (bvs ys).toArray)).run Try.prog w = .ok (decide (xs = ys)) w := by
  obtain ⟨i0, hi, _, _, _⟩ := info_parts u8info
  exact run_eql_bytes Try.underlying28 hi Try.underlying5 (by kernel_rfl) xs ys hA hB w
def rep (c : UInt8) : List UInt8 := List.replicate 128 c
theorem rep_length (c : UInt8) : (rep c).length = 128 := by rw [rep, List.length_replicate]
theorem rep_inj {c d : UInt8} : rep c = rep d ↔ c = d := by
  constructor
  · intro h
    have := congrArg (fun l => l.getD 0 0) h
    simpa [rep] using this
  · rintro rfl; rfl
set_option maxRecDepth 20000 in
set_option maxHeartbeats 4000000 in
theorem bytes_any (w : World) (c : UInt8) : Calls Try.prog 22 #[.int .u8 (c.toNat : Int)] w fun e w' => e = .returned (.agg (bvs (rep c)).toArray) ∧ Below w.heap.size w w' := by
  have hZ := Blk.new w 28 (bvs zs).toArray
  have hb1 := below_alloc w (.cells (bvs zs).toArray 28)
  obtain ⟨z, hz⟩ : ∃ z : Array Value, (bvs zs).toArray = z := ⟨_, rfl⟩
  have hzc : Try.zeroCells28 = z := by rw [← hz]; exact zc128
  have hzs : z.size = 128 := by rw [← hz]; exact zsA_size
  rw [hz] at hZ hb1
  have HZ := Lib.hid hz
  clear hz
  have hrl := rep_length c
  have hrs : (bvs (rep c)).toArray.size = 128 := by rw [bvs_size, hrl]
  have hr0 : zs = (rep c).take 0 ++ zs.drop 0 := rfl
  have hst : ∀ k, k < 128 → (bvs ((rep c).take k ++ zs.drop k)).set k (.int .u8 (c.toNat : Int)) = bvs ((rep c).take (k + 1) ++ zs.drop (k + 1)) := fun k hk => by
    have hl : (bvs ((rep c).take k)).length = k := by rw [bvs_length, List.length_take, hrl]; omega
    rw [bvs_append, List.set_append_right _ _ (by omega), hl, Nat.sub_self, List.drop_eq_getElem_cons (by rw [zs_length]; exact hk), List.take_add_one, List.getElem?_eq_getElem (by omega)]
    rw [bvs_append, bvs_append, List.append_assoc, show (rep c)[k]'(by omega) = c from List.getElem_replicate _]
    rfl
  have HST := Lib.hid hst
  have HR0 := Lib.hid hr0
  obtain ⟨R, hR⟩ : ∃ R, rep c = R := ⟨_, rfl⟩
  rw [hR] at hrl hrs HST HR0
  have HRR := Lib.hid hR
  clear hst hr0 hR
  go_enter Try.func22, Try.ntmps22
  go_upto_region 1 with (fail)
  generalize w.alloc (.cells z 28) = w1 at *
  go_upto_region 2 with (fail)
  have hY := Blk.new w1 28 z
  have hZ2 := hZ.alloc (.cells z 28)
  have hb2 := below_next' hb1 (below_alloc w1 (.cells z 28))
  have hGG : w.heap.size < w1.heap.size := hZ.lt
  generalize w1.alloc (.cells z 28) = w2 at *
  generalize w1.heap.size = G at *
  go_wp2_with fail
  go_loopw [4] (fun i wr => ∃ k : Nat, k ≤ 128 ∧ i = .int .i64 (k : Int) ∧ Blk wr G 28 (bvs (R.take k ++ zs.drop k)).toArray ∧ w2.grownBy wr (some G)) (fun i _ => 128 - (intOf i).toNat)
  case atStart => exact ⟨0, Nat.zero_le _, rfl, by rw [← HR0.out, HZ.out]; exact hY, World.grownBy.refl _ _⟩
  case round =>
    obtain ⟨k, hk, rfl, hGk, hgk⟩ := hrel
    by_cases hk128 : k < 128
    · have hset := hGk.set_ k (.int .u8 (c.toNat : Int))
      rw [List.setIfInBounds_toArray, HST.out k hk128] at hset
      have hcx := hGk.cell k
      obtain ⟨u, hu⟩ : ∃ u, (bvs (R.take k ++ zs.drop k))[k]? = some u := ⟨_, List.getElem?_eq_getElem (by rw [bvs_length, List.length_append, List.length_take, List.length_drop, hrl, zs_length]; omega)⟩
      rw [List.getElem?_toArray, hu] at hcx
      have f1 := hGk.frozen k
      have HSET := Lib.hid hset
      clear hset hu hY
      have g1 : (k : Int) < 128 := by omega
      have g0 : (0 : Int) ≤ (k : Int) := by omega
      go_wp2_with fail
      exact ⟨⟨k + 1, by omega, congrArg (Value.int .i64) (by omega), HSET.out, hgk.trans (grownBy_set _ _ _ _)⟩, by simp only [intOf]; omega⟩
    · obtain rfl : k = 128 := by omega
      have hfull : R.take 128 ++ zs.drop 128 = R := by rw [List.take_of_length_le (by omega), List.drop_of_length_le (by rw [zs_length]; omega), List.append_nil]
      rw [hfull] at hGk
      have hZk := hZ2.grown hgk (by intro e; injection e with e; omega)
      have hbk := hb2.grown hgk hb2.size (fun p hp => by cases hp; omega)
      have g1 : ¬ ((128 : Nat) : Int) < 128 := by decide
      clear hY hZ2 hb2
      repeat (first
        | ((with_reducible refine wpl_load G _ _ Try.underlying28 i128 hGk hrs ?_ ?_); (focus rfl); simp only [Act.put, List.setIfInBounds_toArray, List.set_cons_zero, List.set_cons_succ])
        | ((with_reducible refine wpl_store w.heap.size _ _ (bvs R).toArray i128 hZk hzs hrs (bvs_all _) ?_ ?_ ?_); (focus rfl); (focus rfl))
        | go_values | go_skip | go_guarded | go_step | go_upon | go_back)
      refine bodyPost_ret (results_cell_row rfl _ _ w.heap.size _ _ (0, 0) _ rfl (hZk.setRow _) Try.underlying28 rfl (by rw [hrs]; exact i128)) rfl ?_
      exact ⟨by rw [HRR.out], hbk.grown (grownBy_setRow _ _ _) hbk.size (fun p hp => by cases hp; exact Nat.le_refl _)⟩
end Go.Proofs.Ytmjdfajdompkeaa
namespace Go.Proofs.Ytmjdfajdompkeaa
open Go.RowKit Go.Rat
set_option maxHeartbeats 400000 in
theorem nready_any (w : World) (a : Int) : Calls Try.prog 57 #[.pointer none, .int .i64 a] w fun e w' => e = .returned (.int .i64 2) ∧ w = w' := by
  go_enter Try.func57, Try.ntmps57
  go_wp2_with fail
  go_ret
  exact ⟨rfl, rfl⟩
set_option maxHeartbeats 400000 in
theorem noff_any (w : World) : Calls Try.prog 24 #[.pointer none] w fun e w' => e = .returned (.tuple #[]) ∧ w = w' := by
  go_enter Try.func24, Try.ntmps24
  go_wp2_with fail
  go_end0
  exact ⟨rfl, rfl⟩
set_option maxHeartbeats 400000 in
theorem nfuse_any (w : World) (n : Int) : Calls Try.prog 33 #[.pointer none, .int .i64 n] w fun e w' => e = .returned (.tuple #[]) ∧ w = w' := by
  go_enter Try.func33, Try.ntmps33
  go_wp2_with fail
  go_end0
  exact ⟨rfl, rfl⟩
set_option maxHeartbeats 400000 in
theorem nsync_any (w : World) : Calls Try.prog 23 #[.pointer none] w fun e w' => e = .returned (.int .i64 2) ∧ w = w' := by
  go_enter Try.func23, Try.ntmps23
  go_wp2_with (go_at_call 57; refine (nready_any w 0).mono ?_; rintro e w2 ⟨rfl, rfl⟩; simp only [])
  go_ret
  exact ⟨rfl, rfl⟩
set_option maxHeartbeats 400000 in
theorem non_any (w : World) (A : Option Addr) (m c : Nat) : Calls Try.prog 25 #[.pointer none, .slice A m c] w fun e w' => e = .returned (.int .i64 2) ∧ w = w' := by
  go_enter Try.func25, Try.ntmps25
  go_wp2_with fail
  go_ret
  exact ⟨rfl, rfl⟩
set_option maxHeartbeats 400000 in
theorem npower_any (w : World) : Calls Try.prog 36 #[.pointer none] w fun e w' => e = .returned (.bool false) ∧ w = w' := by
  go_enter Try.func36, Try.ntmps36
  go_wp2_with fail
  go_ret
  exact ⟨rfl, rfl⟩
set_option maxHeartbeats 400000 in
theorem nloose_any (w : World) : Calls Try.prog 27 #[.pointer none] w fun e w' => e = .returned (.int .i64 0) ∧ w = w' := by
  go_enter Try.func27, Try.ntmps27
  go_wp2_with fail
  go_ret
  exact ⟨rfl, rfl⟩
set_option maxRecDepth 20000 in
set_option maxHeartbeats 1000000 in
theorem nwrite_any (w : World) (a : Int) (b : List UInt8) : Calls Try.prog 21 #[.pointer none, .int .i64 a, .agg (bvs b).toArray] w fun e w' => e = .returned (.int .i64 2) ∧ Below w.heap.size w w' := by
  have hb1 := below_alloc w (.cells (bvs b).toArray 28)
  go_enter Try.func21, Try.ntmps21
  go_wp2_with (go_at_call 57; refine (nready_any _ a).mono ?_; rintro e w2 ⟨rfl, rfl⟩; simp only [])
  go_ret
  exact ⟨rfl, hb1⟩
set_option maxRecDepth 20000 in
set_option maxHeartbeats 1000000 in
theorem nread_any (w : World) (a : Int) : Calls Try.prog 26 #[.pointer none, .int .i64 a] w fun e w' => e = .returned (.tuple #[.agg (bvs zs).toArray, .int .i64 2]) ∧ Below w.heap.size w w' := by
  have hZ := Blk.new w 28 (bvs zs).toArray
  have hb1 := below_alloc w (.cells (bvs zs).toArray 28)
  obtain ⟨z, hz⟩ : ∃ z : Array Value, (bvs zs).toArray = z := ⟨_, rfl⟩
  have hzc : Try.zeroCells28 = z := by rw [← hz]; exact zc128
  have hzs : z.size = 128 := by rw [← hz]; exact zsA_size
  have hz1 : z.all (·.oneCell') = true := by rw [← hz]; exact bvs_all _
  rw [hz] at hZ hb1 ⊢
  clear hz
  have hzi : (Try.prog.info? 28).map (·.size) = some z.size := by rw [hzs]; exact i128
  go_enter Try.func26, Try.ntmps26
  go_upto_region 1 with (fail)
  generalize w.alloc (.cells z 28) = w1 at *
  repeat (first
    | (go_at_call 57; refine (nready_any _ a).mono ?_; rintro e w2 ⟨rfl, rfl⟩; simp only [])
    | ((with_reducible refine wpl_load w.heap.size _ _ Try.underlying28 i128 hZ hzs ?_ ?_); (focus rfl); simp only [Act.put, List.setIfInBounds_toArray, List.set_cons_zero, List.set_cons_succ])
    | ((with_reducible refine wpl_store w.heap.size _ _ z i128 hZ hzs hzs hz1 ?_ ?_ ?_); (focus rfl); (focus rfl))
    | go_values | go_skip | go_guarded | go_step | go_upon | go_back)
  refine bodyPost_ret (results_cell_tmp rfl _ _ w.heap.size _ _ (0, 0) _ _ rfl rfl (hZ.setRow _) Try.underlying28 rfl hzi) rfl ?_
  exact ⟨rfl, hb1.grown (grownBy_setRow _ _ _) hb1.size (fun p hp => by cases hp; exact Nat.le_refl _)⟩
end Go.Proofs.Ytmjdfajdompkeaa
namespace Go.Proofs.Ytmjdfajdompkeaa
open Go.RowKit Go.Rat
theorem bytes_lit (w : World) (c : UInt8) (k : Int) (hk : (c.toNat : Int) = k) : Calls Try.prog 22 #[.int .u8 k] w fun e w' => e = .returned (.agg (bvs (rep c)).toArray) ∧ Below w.heap.size w w' := by
  subst hk
  exact bytes_any w c
/-- What a disk's move leaves of what was there before the disk. -/
theorem below_moved {w a b : World} {l l' : DL} {d : DS} {base : Nat} (h : Below w.heap.size w a) (hw : w.heap.size ≤ base) (hD : DiskAt a base l d) (hm : Moved a b l l') : Below w.heap.size w b :=
  h.trans (hm.chg.below (fun _ hx => Nat.le_trans hw (hD.fp_lt hx).1) h.size)
/-- A block beside the disk. -/
def Out (w : World) (l : DL) (g : Nat) (T : TypeId) (cs : Array Value) : Prop := Blk w g T cs ∧ ¬ l.fp g
section
variable {w w' : World} {base : Nat} {l l' : DL} {d : DS} {g : Nat} {T : TypeId} {cs : Array Value}
theorem Out.below (h : Out w l g T cs) (hb : Below w.heap.size w w') : Out w' l g T cs := ⟨h.1.below hb h.1.lt, h.2⟩
theorem Out.moved (h : Out w l g T cs) (hm : Moved w w' l l') : Out w' l' g T cs := ⟨hm.chg.blk h.1 h.2, fun hx => by
  rcases hm.fp g hx with h1 | h1
  · exact h.2 h1
  · have := h.1.lt
    omega⟩
theorem Out.new (hD : DiskAt w base l d) {z : World} (hB : Blk z w.heap.size T cs) : Out z l w.heap.size T cs := ⟨hB, fun hx => by have := (hD.fp_lt hx).2; omega⟩
/-- A slice beside the disk. -/
structure OutR (w : World) (l : DL) (A : Option Addr) (n : Nat) (xs : List UInt8) : Prop where
  r : RB w A n xs
  out : ∀ x, A.map (·.block) = some x → ¬ l.fp x
  lt : ∀ x, A.map (·.block) = some x → x < w.heap.size
theorem OutR.below {A : Option Addr} {n : Nat} {xs : List UInt8} (h : OutR w l A n xs) (hb : Below w.heap.size w w') : OutR w' l A n xs := ⟨h.r.below hb, h.out, fun x hx => Nat.lt_of_lt_of_le (h.lt x hx) hb.size⟩
theorem OutR.moved {A : Option Addr} {n : Nat} {xs : List UInt8} (h : OutR w l A n xs) (hm : Moved w w' l l') : OutR w' l' A n xs :=
  ⟨hm.chg.rb h.r h.out, fun x hx hf => by
    rcases hm.fp x hf with h1 | h1
    · exact h.out x hx h1
    · have := h.lt x hx
      omega, fun x hx => Nat.lt_of_lt_of_le (h.lt x hx) hm.chg.size⟩
theorem OutR.below_base {A : Option Addr} {n : Nat} {xs : List UInt8} (hD : DiskAt w base l d) (hr : RB w A n xs) (hlt : ∀ x, A.map (·.block) = some x → x < base) (hb : base ≤ w.heap.size) : OutR w l A n xs :=
  ⟨hr, fun x hx hf => by have := (hD.fp_lt hf).1; have := hlt x hx; omega, fun x hx => by have := hlt x hx; omega⟩
theorem one_out (hD : DiskAt w base l d) : ∀ x, (some (⟨w.heap.size, 0, none⟩ : Addr)).map (·.block) = some x → ¬ l.fp x := fun x hx hf => by
  have h1 := (hD.fp_lt hf).2
  have h2 : w.heap.size = x := by simpa using hx
  omega
end
section
variable (w : World) (base : Nat) (g : Nat) (l : DL) (d : DS) (h : DiskAt w base l d) (hg : l.g = g)
include h hg
theorem gpower : Calls Try.prog 36 #[.pointer (some ⟨g, 0, none⟩)] w fun e w' => e = .returned (.bool (!d.off)) ∧ w = w' := by subst hg; exact dpower_any w base l d h
theorem gloose : Calls Try.prog 27 #[.pointer (some ⟨g, 0, none⟩)] w fun e w' => e = .returned (.int .i64 (d.loose.length : Int)) ∧ w = w' := by subst hg; exact dloose_any w base l d h
theorem gread (a : Int) : Calls Try.prog 26 #[.pointer (some ⟨g, 0, none⟩), .int .i64 a] w fun e w' => e = .returned (.tuple #[.agg (bvs (readB d a)).toArray, .int .i64 (readE d a)]) ∧ Below w.heap.size w w' := by subst hg; exact dread_any w base l d h a
theorem goff : Calls Try.prog 24 #[.pointer (some ⟨g, 0, none⟩)] w fun e w' => ∃ l', e = .returned (.tuple #[]) ∧ l'.g = g ∧ DiskAt w' base l' (offD d) ∧ Moved w w' l l' := by
  subst hg
  refine (doff_any w base l d h).mono ?_
  rintro e w' ⟨h1, h2, h3⟩
  exact ⟨l, h1, rfl, h2, Moved.of_grown h3⟩
theorem gfuse (n : Int) (hn : n ≤ 9223372036854775807) : Calls Try.prog 33 #[.pointer (some ⟨g, 0, none⟩), .int .i64 n] w fun e w' => ∃ l', e = .returned (.tuple #[]) ∧ l'.g = g ∧ DiskAt w' base l' (fuseD d n) ∧ Moved w w' l l' := by
  subst hg
  refine (dfuse_any w base l d h n hn).mono ?_
  rintro e w' ⟨h1, h2, h3⟩
  exact ⟨l, h1, rfl, h2, Moved.of_grown h3⟩
theorem gwrite (hbase : base ≤ w.heap.size) (a : Int) (b : List UInt8) (hb : b.length = 128) (hlo : d.loose.length < 1000000000) : Calls Try.prog 21 #[.pointer (some ⟨g, 0, none⟩), .int .i64 a, .agg (bvs b).toArray] w fun e w' => ∃ l', e = .returned (.int .i64 (writeE d a)) ∧ l'.g = g ∧ DiskAt w' base l' (writeD d a b) ∧ Moved w w' l l' := by
  subst hg
  refine (dwrite_any w base l d h hbase a b hb hlo).mono ?_
  rintro e w' ⟨l', h1, h2, h3⟩
  exact ⟨l', h1, congrArg Prod.fst h3.g, h2, h3⟩
theorem gsync : Calls Try.prog 23 #[.pointer (some ⟨g, 0, none⟩)] w fun e w' => ∃ l', e = .returned (.int .i64 (syncE d)) ∧ l'.g = g ∧ DiskAt w' base l' (syncAll d) ∧ Moved w w' l l' := by
  subst hg
  refine (dsync_any w base l d h).mono ?_
  rintro e w' ⟨l', h1, h2, h3⟩
  exact ⟨l', h1, congrArg Prod.fst h3.g, h2, h3⟩
theorem gonN (A' : Option Addr) (m c' : Nat) (ps : List UInt8) (hr : RB w A' m ps) (hap : m ≠ 0 → ∀ x, A'.map (·.block) = some x → ¬ l.fp x) : Calls Try.prog 25 #[.pointer (some ⟨g, 0, none⟩), .slice A' m c'] w fun e w' => ∃ l', e = .returned (.int .i64 (onE d)) ∧ l'.g = g ∧ DiskAt w' base l' (onAll d ps) ∧ Moved w w' l l' := by
  subst hg
  refine (don_any w base l d h A' m c' ps hr hap).mono ?_
  rintro e w' ⟨l', h1, h2, h3⟩
  exact ⟨l', h1, congrArg Prod.fst h3.g, h2, h3⟩
theorem gon (A' : Option Addr) (m c' : Nat) (ps : List UInt8) (hr : RB w A' m ps) (hap : ∀ x, A'.map (·.block) = some x → ¬ l.fp x) : Calls Try.prog 25 #[.pointer (some ⟨g, 0, none⟩), .slice A' m c'] w fun e w' => ∃ l', e = .returned (.int .i64 (onE d)) ∧ l'.g = g ∧ DiskAt w' base l' (onAll d ps) ∧ Moved w w' l l' := by
  subst hg
  refine (don_any w base l d h A' m c' ps hr (fun _ => hap)).mono ?_
  rintro e w' ⟨l', h1, h2, h3⟩
  exact ⟨l', h1, congrArg Prod.fst h3.g, h2, h3⟩
end
def wd1 : DS := writeD ds0 3 (rep 1)
def wd2 : DS := offD wd1
def wd3 : DS := onAll wd2 []
def wd4 : DS := writeD wd3 3 (rep 1)
def wd5 : DS := syncAll wd4
def wd6 : DS := offD wd5
def wd7 : DS := onAll wd6 [0]
def wd8 : DS := writeD wd7 3 (rep 2)
def wd9 : DS := offD wd8
def wd10 : DS := onAll wd9 [2]
theorem wd_facts : (writeE ds0 3 = 0 ∧ onE wd2 = 0 ∧ readB wd3 3 = zs ∧ readE wd3 3 = 0) ∧ (writeE wd3 3 = 0 ∧ syncE wd4 = 0 ∧ onE wd6 = 0 ∧ readB wd7 3 = rep 1 ∧ readE wd7 3 = 0) ∧ (writeE wd7 3 = 0 ∧ onE wd9 = 0 ∧ readE wd10 3 = 9) := by decide +kernel
theorem wd_len : ds0.loose.length = 0 ∧ wd3.loose.length = 0 ∧ wd7.loose.length = 0 := by decide +kernel
theorem onAll_ok {d : DS} (h : DOk d) (ps : List UInt8) : DOk (onAll d ps) := by
  unfold onAll
  split
  · exact onD_ok h ps
  · exact h
theorem burnD_ok {d : DS} (h : DOk d) : DOk (burnD d) := by
  have := h.fuse
  unfold burnD
  split
  · exact ⟨h.sure, h.now, h.loose, by simp [offD]⟩
  · split
    · exact ⟨h.sure, h.now, h.loose, by simp only; omega⟩
    · exact h
theorem offD_ok {d : DS} (h : DOk d) : DOk (offD d) := ⟨h.sure, h.now, h.loose, by simp [offD]⟩
theorem writeD_ok {d : DS} (h : DOk d) (a : Int) {b : List UInt8} (hb : b.length = 128) : DOk (writeD d a b) := by
  unfold writeD
  split
  · next hr => exact burnD_ok (putD_ok h (readyE_zero hr).2 hb)
  · exact h
theorem syncAll_ok {d : DS} (h : DOk d) : DOk (syncAll d) := by
  unfold syncAll
  split
  · exact h
  · split
    · exact burnD_ok h
    · exact syncD_ok (burnD_ok h)
theorem wd9_ok : DOk wd9 := offD_ok (writeD_ok (onAll_ok (offD_ok (syncAll_ok (writeD_ok (onAll_ok (offD_ok (writeD_ok ds0_ok 3 (rep_length 1))) []) 3 (rep_length 1)))) [0]) 3 (rep_length 2))
theorem below_base {w a b : World} {base : Nat} (h : Below w.heap.size w a ∧ base ≤ a.heap.size) (k : Below a.heap.size a b) : Below w.heap.size w b ∧ base ≤ b.heap.size := ⟨below_next' h.1 k, Nat.le_trans h.2 k.size⟩
theorem base_moved {w a b : World} {l l' : DL} {d : DS} {base : Nat} (h : Below w.heap.size w a ∧ base ≤ a.heap.size) (hw : w.heap.size ≤ base) (hD : DiskAt a base l d) (hm : Moved a b l l') : Below w.heap.size w b ∧ base ≤ b.heap.size :=
  ⟨below_moved h.1 hw hD hm, Nat.le_trans h.2 hm.chg.size⟩
end Go.Proofs.Ytmjdfajdompkeaa
namespace Go.Proofs.Ytmjdfajdompkeaa
open Go.RowKit Go.Rat
set_option maxRecDepth 20000 in
set_option maxHeartbeats 8000000 in
theorem works4_any (w : World) : Calls Try.prog 19 #[] w fun e w' => e = .returned (.bool true) ∧ Below w.heap.size w w' := by
  obtain ⟨⟨hw1, ho1, hrb3, hre3⟩, ⟨hw4, hs4, ho5, hrb7, hre7⟩, ⟨hw8, ho8, hre10⟩⟩ := wd_facts
  obtain ⟨hl0, hl3, hl7⟩ := wd_len
  have HW1 := Lib.hid hw1
  have HO1 := Lib.hid ho1
  have HRB3 := Lib.hid hrb3
  have HRE3 := Lib.hid hre3
  have HW4 := Lib.hid hw4
  have HS4 := Lib.hid hs4
  have HO5 := Lib.hid ho5
  have HRB7 := Lib.hid hrb7
  have HRE7 := Lib.hid hre7
  have HW8 := Lib.hid hw8
  have HO8 := Lib.hid ho8
  have HRE10 := Lib.hid hre10
  have HL0 := Lib.hid hl0
  have HL3 := Lib.hid hl3
  have HL7 := Lib.hid hl7
  clear hw1 ho1 hrb3 hre3 hw4 hs4 ho5 hrb7 hre7 hw8 ho8 hre10 hl0 hl3 hl7
  have hzs : (bvs zs).toArray.size = 128 := zsA_size
  have hr1 : (bvs (rep 1)).toArray.size = 128 := by rw [bvs_size, rep_length]
  have hx0 : ∀ w, (Op.equalIn 10000 28 (.agg (bvs zs).toArray) (.agg (bvs (rep 0)).toArray)).run Try.prog w = .ok true w := fun w => by rw [eql128 zs (rep 0) zs_length (rep_length 0) w, decide_eq_true (show zs = rep 0 from rfl)]
  have hx1 : ∀ w, (Op.equalIn 10000 28 (.agg (bvs (rep 1)).toArray) (.agg (bvs (rep 1)).toArray)).run Try.prog w = .ok true w := fun w => by rw [eql128 (rep 1) (rep 1) (rep_length 1) (rep_length 1) w, decide_eq_true rfl]
  obtain ⟨B10, hB10⟩ : ∃ B, readB wd10 3 = B := ⟨_, rfl⟩
  have HB10 := Lib.hid hB10
  have hb10 : B10.length = 128 := by rw [← hB10]; exact readB_length (onAll_ok wd9_ok [2]) 3
  have hb10s : (bvs B10).toArray.size = 128 := by rw [bvs_size, hb10]
  clear hB10
  obtain ⟨base, hbase⟩ : ∃ b, w.heap.size = b := ⟨_, rfl⟩
  have HBASE := Lib.hid hbase
  go_enter Try.func19, Try.ntmps19
  go_wp2_with fail
  refine (dnew_any w).mono ?_
  rintro e w1 ⟨l, rfl, hD, hb⟩
  have hbb : Below w.heap.size w w1 ∧ base ≤ w1.heap.size := ⟨hb, by rw [← hbase]; exact hb.size⟩
  rw [hbase] at hD
  clear hb
  simp only []
  clear hbase
  obtain ⟨g, hlg⟩ : ∃ g, l.g = g := ⟨_, rfl⟩
  rw [hlg]
  have HLG := Lib.hid hlg
  clear hlg
  go_wp2_with fail
  refine (gpower w1 base g l ds0 hD HLG.out).mono ?_
  rintro e w1' ⟨rfl, rfl⟩
  simp only []
  go_wp2_with fail
  refine (bytes_lit _ 1 1 rfl).mono ?_
  rintro e w2 ⟨rfl, hb⟩
  simp only []
  have hbb := below_base hbb hb
  have hD := hD.below hb
  clear hb
  go_wp2_with fail
  refine (gwrite _ base g _ _ hD HLG.out hbb.2 3 (rep 1) (rep_length 1) (by rw [HL0.out]; omega)).mono ?_
  rw [HW1.out]
  rintro e w2 ⟨l', rfl, hlg2, hD2, hm⟩
  simp only []
  have hbb := base_moved hbb (Nat.le_of_eq HBASE.out) hD hm
  have HLG := Lib.hid hlg2
  have hD : DiskAt w2 base l' wd1 := hD2
  clear hD2 hm hlg2
  go_wp2_with fail
  refine (goff _ base g _ _ hD HLG.out).mono ?_
  rintro e w2 ⟨l', rfl, hlg2, hD2, hm⟩
  simp only []
  have hbb := base_moved hbb (Nat.le_of_eq HBASE.out) hD hm
  have HLG := Lib.hid hlg2
  have hD : DiskAt w2 base l' wd2 := hD2
  clear hD2 hm hlg2
  go_wp2_with fail
  refine (gon _ base g _ _ hD HLG.out none 0 0 [] (RB.nil_ _ _) (fun x hx => by cases hx)).mono ?_
  rw [HO1.out]
  rintro e w2 ⟨l', rfl, hlg2, hD2, hm⟩
  simp only []
  have hbb := base_moved hbb (Nat.le_of_eq HBASE.out) hD hm
  have HLG := Lib.hid hlg2
  have hD : DiskAt w2 base l' wd3 := hD2
  clear hD2 hm hlg2
  go_wp2_with fail
  refine (gread _ base g _ _ hD HLG.out 3).mono ?_
  rw [HRB3.out, HRE3.out]
  rintro e w2 ⟨rfl, hb⟩
  simp only []
  have hbb := below_base hbb hb
  have hD := hD.below hb
  clear hb
  repeat (first
    | ((with_reducible refine wpl_store_fresh (bvs zs).toArray i128 ?_ hzs (bvs_all _) ?_ ?_ ?_); (focus kernel_rfl); (focus rfl); (focus rfl); intro w3 hS hl3 hb; simp only [Act.put]; refine Hid.out ?_)
    | go_values | go_skip | go_guarded | go_step | go_upon | go_back)
  refine Lib.hid ?_
  have hX := Out.new hD hS
  have hbb := below_base hbb hb
  have hD := hD.below hb
  clear hb hS hl3
  obtain ⟨ghX, hghX⟩ : ∃ x, w2.heap.size = x := ⟨_, rfl⟩
  rw [hghX] at hX ⊢
  clear hghX
  go_wp2_with fail
  refine (bytes_lit _ 1 1 rfl).mono ?_
  rintro e w2 ⟨rfl, hb⟩
  simp only []
  have hX := hX.below hb
  have hbb := below_base hbb hb
  have hD := hD.below hb
  clear hb
  go_wp2_with fail
  refine (gwrite _ base g _ _ hD HLG.out hbb.2 3 (rep 1) (rep_length 1) (by rw [HL3.out]; omega)).mono ?_
  rw [HW4.out]
  rintro e w2 ⟨l', rfl, hlg2, hD2, hm⟩
  simp only []
  have hX := hX.moved hm
  have hbb := base_moved hbb (Nat.le_of_eq HBASE.out) hD hm
  have HLG := Lib.hid hlg2
  have hD : DiskAt w2 base l' wd4 := hD2
  clear hD2 hm hlg2
  go_wp2_with fail
  refine (gsync _ base g _ _ hD HLG.out).mono ?_
  rw [HS4.out]
  rintro e w2 ⟨l', rfl, hlg2, hD2, hm⟩
  simp only []
  have hX := hX.moved hm
  have hbb := base_moved hbb (Nat.le_of_eq HBASE.out) hD hm
  have HLG := Lib.hid hlg2
  have hD : DiskAt w2 base l' wd5 := hD2
  clear hD2 hm hlg2
  go_wp2_with fail
  refine (goff _ base g _ _ hD HLG.out).mono ?_
  rintro e w2 ⟨l', rfl, hlg2, hD2, hm⟩
  simp only []
  have hX := hX.moved hm
  have hbb := base_moved hbb (Nat.le_of_eq HBASE.out) hD hm
  have HLG := Lib.hid hlg2
  have hD : DiskAt w2 base l' wd6 := hD2
  clear hD2 hm hlg2
  go_wp2_with fail
  have hap := one_out hD
  have hb := below_alloc w2 (.cells #[.int .u8 0] 5)
  have hX := hX.below hb
  have hbb := below_base hbb hb
  have hD := hD.below hb
  clear hb
  refine (gon _ base g _ _ hD HLG.out (some ⟨w2.heap.size, 0, none⟩) 1 1 [0] (RB.one_ _ _ rfl) hap).mono ?_
  rw [HO5.out]
  rintro e w2 ⟨l', rfl, hlg2, hD2, hm⟩
  simp only []
  have hX := hX.moved hm
  have hbb := base_moved hbb (Nat.le_of_eq HBASE.out) hD hm
  have HLG := Lib.hid hlg2
  have hD : DiskAt w2 base l' wd7 := hD2
  clear hD2 hm hlg2
  clear hap
  go_wp2_with fail
  refine (gread _ base g _ _ hD HLG.out 3).mono ?_
  rw [HRB7.out, HRE7.out]
  rintro e w2 ⟨rfl, hb⟩
  simp only []
  have hX := hX.below hb
  have hbb := below_base hbb hb
  have hD := hD.below hb
  clear hb
  repeat (first
    | ((with_reducible refine wpl_store_fresh (bvs (rep 1)).toArray i128 ?_ hr1 (bvs_all _) ?_ ?_ ?_); (focus kernel_rfl); (focus rfl); (focus rfl); intro w3 hS hl3 hb; simp only [Act.put]; refine Hid.out ?_)
    | go_values | go_skip | go_guarded | go_step | go_upon | go_back)
  refine Lib.hid ?_
  have hX := hX.below hb
  have hY := Out.new hD hS
  have hbb := below_base hbb hb
  have hD := hD.below hb
  clear hb hS hl3
  obtain ⟨ghY, hghY⟩ : ∃ x, w2.heap.size = x := ⟨_, rfl⟩
  rw [hghY] at hY ⊢
  clear hghY
  go_wp2_with fail
  refine (bytes_lit _ 2 2 rfl).mono ?_
  rintro e w2 ⟨rfl, hb⟩
  simp only []
  have hX := hX.below hb
  have hY := hY.below hb
  have hbb := below_base hbb hb
  have hD := hD.below hb
  clear hb
  go_wp2_with fail
  refine (gwrite _ base g _ _ hD HLG.out hbb.2 3 (rep 2) (rep_length 2) (by rw [HL7.out]; omega)).mono ?_
  rw [HW8.out]
  rintro e w2 ⟨l', rfl, hlg2, hD2, hm⟩
  simp only []
  have hX := hX.moved hm
  have hY := hY.moved hm
  have hbb := base_moved hbb (Nat.le_of_eq HBASE.out) hD hm
  have HLG := Lib.hid hlg2
  have hD : DiskAt w2 base l' wd8 := hD2
  clear hD2 hm hlg2
  go_wp2_with fail
  refine (goff _ base g _ _ hD HLG.out).mono ?_
  rintro e w2 ⟨l', rfl, hlg2, hD2, hm⟩
  simp only []
  have hX := hX.moved hm
  have hY := hY.moved hm
  have hbb := base_moved hbb (Nat.le_of_eq HBASE.out) hD hm
  have HLG := Lib.hid hlg2
  have hD : DiskAt w2 base l' wd9 := hD2
  clear hD2 hm hlg2
  go_wp2_with fail
  have hap := one_out hD
  have hb := below_alloc w2 (.cells #[.int .u8 2] 5)
  have hX := hX.below hb
  have hY := hY.below hb
  have hbb := below_base hbb hb
  have hD := hD.below hb
  clear hb
  refine (gon _ base g _ _ hD HLG.out (some ⟨w2.heap.size, 0, none⟩) 1 1 [2] (RB.one_ _ _ rfl) hap).mono ?_
  rw [HO8.out]
  rintro e w2 ⟨l', rfl, hlg2, hD2, hm⟩
  simp only []
  have hX := hX.moved hm
  have hY := hY.moved hm
  have hbb := base_moved hbb (Nat.le_of_eq HBASE.out) hD hm
  have HLG := Lib.hid hlg2
  have hD : DiskAt w2 base l' wd10 := hD2
  clear hD2 hm hlg2
  clear hap
  go_wp2_with fail
  refine (gread _ base g _ _ hD HLG.out 3).mono ?_
  rw [HB10.out, HRE10.out]
  rintro e w2 ⟨rfl, hb⟩
  simp only []
  have hX := hX.below hb
  have hY := hY.below hb
  have hbb := below_base hbb hb
  have hD := hD.below hb
  clear hb
  repeat (first
    | ((with_reducible refine wpl_store_fresh (bvs B10).toArray i128 ?_ hb10s (bvs_all _) ?_ ?_ ?_); (focus kernel_rfl); (focus rfl); (focus rfl); intro w3 hS hl3 hb; simp only [Act.put]; refine Hid.out ?_)
    | go_values | go_skip | go_guarded | go_step | go_upon | go_back)
  refine Lib.hid ?_
  have hX := hX.below hb
  have hY := hY.below hb
  have hZ := Out.new hD hS
  have hbb := below_base hbb hb
  have hD := hD.below hb
  clear hb hS hl3
  obtain ⟨ghZ, hghZ⟩ : ∃ x, w2.heap.size = x := ⟨_, rfl⟩
  rw [hghZ] at hZ ⊢
  clear hghZ
  go_wp2_with fail
  refine wp_region_plan [(0, true), (1, true), (2, true), (3, true), (4, true), (5, true), (6, true), (7, true), (8, false), (9, true), (10, true), (11, true), (12, true), (13, true), (14, true), (15, true), (16, true), (17, true), (18, true), (19, true), (20, true), (21, true), (22, true), (23, true), (24, true), (25, true), (26, true), (27, true), (28, true), (29, false), (30, true), (31, true), (32, true), (33, true), (34, true), (35, true), (36, true), (37, true), (38, true), (39, true), (40, true), (41, true), (42, true), (43, true), (44, true), (45, true), (46, true)]
    (fun z => Blk z ghX 28 (bvs zs).toArray ∧ Blk z ghY 28 (bvs (rep 1)).toArray) (by kernel_rfl) (by kernel_rfl) (by kernel_rfl) (by kernel_rfl) (fun _ _ d _ _ h => by cases d <;> exact h) ⟨hX.1, hY.1⟩ ?_
  simp only [planOps, List.getElem?_toArray, List.getElem?_cons_zero, List.getElem?_cons_succ]
  iterate 7 (refine wpS_q ?_ (by rfl) ?_ ?_; rotate_left; (focus (intro z hz; (try dsimp only at hz); go_simp; rfl)); simp only [Act.put, List.setIfInBounds_toArray, List.set_cons_zero, List.set_cons_succ])
  refine wpS_q (.agg (bvs zs).toArray) (by rfl) (fun z hz => load_row_run rfl ghX (bvs zs).toArray Try.underlying28 rfl i128 hz.1 hzs rfl) ?_
  simp only [Act.put, List.setIfInBounds_toArray, List.set_cons_zero, List.set_cons_succ]
  refine wpS_l (by rfl) (fun K hK => ?_)
  go_wp2_with fail
  refine (bytes_lit _ 0 0 rfl).mono ?_
  rintro e w4 ⟨rfl, hb⟩
  have hb3 : Below w3.heap.size w3 w4 := drew_below.trans hb
  have hX := hX.below hb3
  have hY := hY.below hb3
  have hbb := below_base hbb hb3
  refine hK _ _ _ ⟨hX.1, hY.1⟩ (fun _ h => h) ?_
  clear hK hb hb3
  iterate 19 (refine wpS_q ?_ (by rfl) ?_ ?_; rotate_left; (focus (intro z hz; (try dsimp only at hz); go_simp; rfl)); simp only [Act.put, List.setIfInBounds_toArray, List.set_cons_zero, List.set_cons_succ])
  refine wpS_q (.agg (bvs (rep 1)).toArray) (by rfl) (fun z hz => load_row_run rfl ghY (bvs (rep 1)).toArray Try.underlying28 rfl i128 hz.2 hr1 rfl) ?_
  simp only [Act.put, List.setIfInBounds_toArray, List.set_cons_zero, List.set_cons_succ]
  refine wpS_l (by rfl) (fun K hK => ?_)
  go_wp2_with fail
  refine (bytes_lit _ 1 1 rfl).mono ?_
  rintro e w5 ⟨rfl, hb⟩
  have hX := hX.below hb
  have hY := hY.below hb
  have hbb := below_base hbb hb
  refine hK _ _ _ ⟨hX.1, hY.1⟩ (fun _ h => h) ?_
  clear hK hb
  iterate 17 (refine wpS_q ?_ (by rfl) ?_ ?_; rotate_left; (focus (intro z hz; (try dsimp only at hz); go_simp; rfl)); simp only [Act.put, List.setIfInBounds_toArray, List.set_cons_zero, List.set_cons_succ])
  refine wpS_nil ?_
  go_wp2_with fail
  go_ret
  exact ⟨rfl, hbb.1⟩
end Go.Proofs.Ytmjdfajdompkeaa
namespace Go.Proofs.Ytmjdfajdompkeaa
open Go.RowKit Go.Rat
theorem DiskAt.beside {w w' : World} {base : Nat} {l : DL} {d : DS} {g : Nat} (hD : DiskAt w base l d) (hg : w.grownBy w' (some g)) (hn : ¬ l.fp g) : DiskAt w' base l d :=
  hD.kept (Chg.of_grown (F := fun x => x = g) hg rfl) (fun x hx e => hn (by rw [← e]; exact hx))
theorem Out.set {w : World} {l : DL} {g : Nat} {T : TypeId} {cs : Array Value} (h : Out w l g T cs) (cs' : Array Value) : Out (w.setRow g cs') l g T cs' := ⟨h.1.setRow cs', h.2⟩
theorem syncF_at (now : Int → Sec) (l : List (Int × List UInt8)) (a : Int) : ∀ f, syncF now l f a = if (l.any fun x => decide (x.1 = a)) = true then now a else f a := by
  induction l with
  | nil => intro f; simp [syncF]
  | cons x l ih =>
    intro f
    rw [syncF, ih, List.any_cons]
    by_cases h1 : (l.any fun x => decide (x.1 = a)) = true
    · simp [h1]
    · rw [if_neg h1]
      by_cases h2 : x.1 = a
      · simp [h2, upd]
      · simp [h1, h2, upd, Ne.symm h2]
theorem syncF_all5 (now : Int → Sec) (l : List (Int × List UInt8)) (a : Int) (h : ∀ x ∈ l, x.1 = a) (f : Int → Sec) : syncF now l f a = if l = [] then f a else now a := by
  rw [syncF_at]
  cases l with
  | nil => simp
  | cons x l => simp [h x (by simp)]
theorem writeD_on {d : DS} (ho : d.off = false) (hf : d.fuse = -1) {a : Int} (ha : 0 ≤ a ∧ a < 32768) (b : List UInt8) : writeD d a b = putD d a b ∧ writeE d a = 0 := by
  have hr : readyE d.off a = 0 := by rw [ho]; exact readyE_ok ha
  have hb : burnD (putD d a b) = putD d a b := by
    have : (putD d a b).fuse = -1 := hf
    rw [burnD, if_neg (by omega), if_neg (by omega)]
  refine ⟨by rw [writeD, if_pos hr, hb], ?_⟩
  rw [writeE, if_pos hr, if_neg]
  rw [burnB, decide_eq_true_eq]
  omega
theorem syncAll_on {d : DS} (ho : d.off = false) (hf : d.fuse = -1) : syncAll d = syncD d ∧ syncE d = 0 := by
  have hb : burnB d = false := by rw [burnB, decide_eq_false_iff_not]; omega
  have hd : burnD d = d := by rw [burnD, if_neg (by omega), if_neg (by omega)]
  simp [syncAll, syncE, ho, hb, hd]
/-- DiskLast: the sector that the picks leave. -/
def lastS (first : UInt8) (l ps : List UInt8) : Nat → Sec
  | 0 => ⟨rep first, false⟩
  | k + 1 => if (ps.getD k 0).toNat % 4 = 0 then lastS first l ps k else if (ps.getD k 0).toNat % 4 = 2 then ⟨zs, true⟩ else ⟨rep (l.getD k 0), false⟩
def errS (s : Sec) : Int := if s.lost = true then 9 else 0
structure LastInv (first : UInt8) (l : List UInt8) (k : Nat) (d : DS) : Prop where
  off : d.off = false
  fuse : d.fuse = -1
  sure : d.sure 5 = ⟨rep first, false⟩
  now : k = 0 → d.now 5 = ⟨rep first, false⟩
  loose : d.loose = (l.take k).map fun c => (5, rep c)
theorem last_len (first : UInt8) (l ps : List UInt8) : ∀ k, (lastS first l ps k).b.length = 128 ∧ ((lastS first l ps k).lost = true → (lastS first l ps k).b = zs)
  | 0 => ⟨rep_length _, fun h => by cases h⟩
  | k + 1 => by
    unfold lastS
    split
    · exact last_len first l ps k
    · split
      · exact ⟨zs_length, fun _ => rfl⟩
      · exact ⟨rep_length _, fun h => by cases h⟩
theorem last_start (first : UInt8) (l : List UInt8) : LastInv first l 0 (syncAll (writeD ds0 5 (rep first))) ∧ writeE ds0 5 = 0 ∧ syncE (writeD ds0 5 (rep first)) = 0 := by
  obtain ⟨h1, h2⟩ := writeD_on (d := ds0) rfl rfl (a := 5) (by omega) (rep first)
  obtain ⟨h3, h4⟩ := syncAll_on (d := putD ds0 5 (rep first)) rfl rfl
  rw [h1, h3]
  exact ⟨⟨rfl, rfl, rfl, fun _ => rfl, rfl⟩, h2, h4⟩
theorem last_step {first : UInt8} {l : List UInt8} {k : Nat} {d : DS} (h : LastInv first l k d) (hk : k < l.length) : LastInv first l (k + 1) (writeD d 5 (rep (l.getD k 0))) ∧ writeE d 5 = 0 := by
  obtain ⟨h1, h2⟩ := writeD_on h.off h.fuse (a := 5) (by omega) (rep (l.getD k 0))
  rw [h1]
  refine ⟨⟨h.off, h.fuse, h.sure, fun h0 => by omega, ?_⟩, h2⟩
  show d.loose ++ [_] = _
  rw [h.loose, List.take_add_one, List.getElem?_eq_getElem hk, List.map_append, List.getD_eq_getElem?_getD, List.getElem?_eq_getElem hk]
  rfl
theorem last_picks (first : UInt8) (l ps : List UInt8) (f : Int → Sec) (hf : f 5 = ⟨rep first, false⟩) : ∀ k, k ≤ l.length → picksF ((l.take k).map fun c => (5, rep c)) 0 ps f 5 = lastS first l ps k
  | 0, _ => hf
  | k + 1, hk => by
    rw [List.take_add_one, List.getElem?_eq_getElem (by omega), List.map_append]
    show picksF (_ ++ [_]) 0 ps f 5 = _
    rw [picksF_snoc, List.length_map, List.length_take, Nat.zero_add, Nat.min_eq_left (by omega), lastS, pickF]
    split
    · exact last_picks first l ps f hf k (by omega)
    · split
      · simp [upd]
      · simp [upd, List.getD_eq_getElem?_getD, List.getElem?_eq_getElem (show k < l.length by omega)]
theorem last_end {first : UInt8} {l ps : List UInt8} {d : DS} (h : LastInv first l l.length d) : onE (offD d) = 0 ∧ readB (onAll (offD d) ps) 5 = (lastS first l ps l.length).b ∧ readE (onAll (offD d) ps) 5 = errS (lastS first l ps l.length) ∧ (onAll (offD d) ps).off = false ∧ (onAll (offD d) ps).fuse = -1 ∧ (onAll (offD d) ps).loose = [] := by
  have hon : onAll (offD d) ps = onD (offD d) ps := by unfold onAll; exact if_pos rfl
  have hnow : (onD (offD d) ps).now 5 = lastS first l ps l.length := by
    show syncF (picksF d.loose 0 ps d.sure) d.loose d.now 5 = _
    rw [h.loose, List.take_length, syncF_all5 _ _ 5 (by intro x hx; simp at hx; obtain ⟨c, _, rfl⟩ := hx; rfl)]
    have hp := last_picks first l ps d.sure h.sure l.length (Nat.le_refl _)
    rw [List.take_length] at hp
    split
    · next he =>
      have : l = [] := by simpa using he
      subst this
      exact h.now rfl
    · exact hp
  have hb := last_len first l ps l.length
  have hr : readyE (onD (offD d) ps).off 5 = 0 := readyE_ok (by omega)
  rw [hon]
  refine ⟨by unfold onE; exact if_pos rfl, ?_, ?_, rfl, rfl, rfl⟩
  · rw [readB, hnow]
    cases hl : (lastS first l ps l.length).lost
    · rw [if_pos ⟨hr, rfl⟩]
    · rw [if_neg (by simp), hb.2 hl]
  · rw [readE, if_pos hr, hnow]
    rfl
end Go.Proofs.Ytmjdfajdompkeaa
