/- disk: On. -/
import Derived.Test.YtmjdfajdompkeaaDe
namespace Go.Proofs.Ytmjdfajdompkeaa
open Go.RowKit Go.Rat
def onAll (d : DS) (ps : List UInt8) : DS := if d.off = true then onD d ps else d
def onE (d : DS) : Int := if d.off = true then 0 else 3
theorem build_lost {w : World} {ρ : Operand → Value} {d : Option Tmp} {t : TypeId} {p : String} {af : Array Edge} {gd : Option (Nat × Bool)} (hρ : ∀ v, ρ (.const v) = v) :
    (execOp ρ { dst := d, op := .build 110 #[(1, .const (.bool true))], type := t, pos := p, after := af, guard := gd }).run Try.prog w = .ok (.value (.agg (secL ⟨zs, true⟩).toArray)) w := by
  have h1 := hρ (.bool true)
  have hf : Try.zeroCells110.setIfInBounds 128 (.bool true) = (secL ⟨zs, true⟩).toArray := by
    rw [zc129, List.setIfInBounds_toArray, secL, secL, List.set_append_right _ _ (by rw [bvs_length]; simp [zsec, zs_length]), bvs_length]
    simp [zsec, zs_length]
  go_simp
theorem Chg.rbN {F : Nat → Prop} {w w' : World} {A : Option Addr} {n : Nat} {xs : List UInt8} (h : Chg F w w') (hr : RB w A n xs) (hg : n ≠ 0 → ∀ x, A.map (·.block) = some x → ¬ F x) : RB w' A n xs := by
  by_cases hn : n = 0
  · have hx : xs = [] := List.eq_nil_of_length_eq_zero (by rw [hr.len, hn])
    subst hn
    rw [hx]
    exact RB.nil_ _ _
  · exact h.rb hr (hg hn)
theorem pickF_0 (f : Int → Sec) (x : Int × List UInt8) (p : Nat) (h : p % 4 = 0) : pickF f x p = f := by rw [pickF, if_pos h]
theorem pickF_2 (f : Int → Sec) (x : Int × List UInt8) (p : Nat) (h : p % 4 = 2) : pickF f x p = upd f x.1 ⟨zs, true⟩ := by rw [pickF, if_neg (by omega), if_pos h]
theorem pickF_1 (f : Int → Sec) (x : Int × List UInt8) (p : Nat) (h : p % 4 = 1 ∨ p % 4 = 3) : pickF f x p = upd f x.1 ⟨x.2, false⟩ := by rw [pickF, if_neg (by omega), if_neg (by omega)]
set_option maxRecDepth 20000 in
set_option maxHeartbeats 8000000 in
theorem don_any (w : World) (base : Nat) (l : DL) (d : DS) (h : DiskAt w base l d) (A' : Option Addr) (m c' : Nat) (ps : List UInt8) (hr : RB w A' m ps) (hap : m ≠ 0 → ∀ x, A'.map (·.block) = some x → ¬ l.fp x) :
    Calls Try.prog 25 #[.pointer (some ⟨l.g, 0, none⟩), .slice A' m c'] w fun e w' => ∃ l', e = .returned (.int .i64 (onE d)) ∧ DiskAt w' base l' (onAll d ps) ∧ Moved w w' l l' := by
  have c3 := h.blk.cell 3
  simp only [List.getElem?_toArray, List.getElem?_cons_zero, List.getElem?_cons_succ] at c3
  cases hoff : d.off
  · have hfin : onE d = 3 ∧ onAll d ps = d := by simp [onE, onAll, hoff]
    have HFIN := Lib.hid hfin
    rw [hoff] at c3
    clear hfin hoff
    go_enter Try.func25, Try.ntmps25
    go_wp2_with fail
    go_ret
    exact ⟨l, by rw [HFIN.out.1]; rfl, by rw [HFIN.out.2]; exact h, Moved.refl _ _⟩
  · have hfin : onE d = 0 ∧ onAll d ps = onD d ps := by simp [onE, onAll, hoff]
    have HFIN := Lib.hid hfin
    rw [hoff] at c3
    have c2 := h.blk.cell 2
    simp only [List.getElem?_toArray, List.getElem?_cons_zero, List.getElem?_cons_succ] at c2
    have hcap := own_cap h.row
    have hlen : d.loose.length ≤ 9223372036854775807 := Nat.le_trans hcap.1 hcap.2
    have hml := hr.len
    have HR := Lib.hid hr
    clear hfin hoff hcap hr
    go_enter Try.func25, Try.ntmps25
    go_upto_block 1 with (fail)
    go_cut [] (fun wx => DiskAt wx base l { d with sure := picksF d.loose 0 ps d.sure } ∧ Moved w wx l l)
    case first =>
      go_wp2_with fail
      go_loopw [24] (fun i wr => ∃ k : Nat, k ≤ d.loose.length ∧ i = .int .i64 (k : Int) ∧ DiskAt wr base l { d with sure := picksF (d.loose.take k) 0 ps d.sure } ∧ Moved w wr l l) (fun i _ => d.loose.length - (intOf i).toNat)
      case atStart => exact ⟨0, Nat.zero_le _, rfl, h, Moved.refl _ _⟩
      case round =>
        obtain ⟨k, hk, rfl, hk1, hmk⟩ := hrel
        clear c2 c3
        by_cases hkl : k < d.loose.length
        · obtain ⟨g, L, hA, hgB, hgL, hne1, hne2, hne3⟩ := hk1.loose_at hkl
          have hA' : l.A = some ⟨g, 0, none⟩ := hA
          have hx := hk1.ok.loose _ (List.getElem_mem hkl)
          have hstep : picksF (d.loose.take (k + 1)) 0 ps d.sure = pickF (picksF (d.loose.take k) 0 ps d.sure) d.loose[k] (ps.getD k 0).toNat := by
            rw [List.take_add_one, List.getElem?_eq_getElem hkl, Option.toList_some, picksF_snoc, List.length_take, Nat.zero_add, Nat.min_eq_left (by omega)]
          have hgL' : (L.drop (k * 129)).take 129 = .int .i64 d.loose[k].1 :: bvs d.loose[k].2 := hgL
          generalize d.loose[k] = x at *
          obtain ⟨i, b⟩ := x
          simp only at hx hgL'
          have HSTEP := Lib.hid hstep
          have HGL := Lib.hid hgL'
          clear hstep hgL hgL' hA'
          have hcl := cells_len (i := i) hx.2
          have hcs : (.int .i64 i :: bvs b : List Value).toArray.size = 129 := by simpa using hcl
          have g1 : (k : Int) < (d.loose.length : Int) := by omega
          have g0 : (0 : Int) ≤ (k : Int) := by omega
          have hrr : RB wr A' m ps := hmk.chg.rbN HR.out hap
          obtain ⟨q, hq⟩ : ∃ q, (ps.getD k 0).toNat % 4 = q := ⟨_, rfl⟩
          repeat (first
            | ((with_reducible refine wpl_load_mid g (k * 129) L (.int .i64 i :: bvs b) Try.underlying112 rfl w129 hgB HGL.out hcl ?_ ?_); (focus rfl); simp only [Act.put, List.setIfInBounds_toArray, List.set_cons_zero, List.set_cons_succ])
            | ((with_reducible refine wpl_store_fresh (.int .i64 i :: bvs b).toArray w129 ?_ hcs cells_one ?_ ?_ ?_); (focus kernel_rfl); (focus rfl); (focus rfl); intro w3 hW3 hl3 hb3; simp only [Act.put]; refine Hid.out ?_)
            | go_values | go_skip | go_guarded | go_step | go_upon | go_back)
          refine Lib.hid ?_
          clear hA
          have hr3 := hrr.below hb3
          have h3 := hk1.below hb3
          have hm3 : Moved w w3 l l := hmk.trans (Moved.of_below hb3)
          have hneG : wr.heap.size ≠ l.gs := by have := hk1.sure.lt; omega
          clear hgB hb3 hmk hk1 hrr HGL
          go_upto_if 32 with (fail)
          go_cut [7] (fun p wx => p = .int .u8 (q : Int) ∧ wx = w3)
          case first =>
            have HQ := Lib.hid hq
            clear hq
            by_cases hkm : k < m
            · obtain ⟨ad, rfl, _, hc⟩ := hr3.at_ hkm
              have hq := HQ.out
              have hb := (ps.getD k 0).toNat_lt
              generalize (ps.getD k 0).toNat = p at *
              have hpq : (p : Int) % 4 = (q : Int) := by omega
              have g2 : (k : Int) < (m : Int) := by omega
              clear hq HQ
              go_wp2_with fail
              go_meet
              exact ⟨congrArg (Value.int .u8) hpq, rfl⟩
            · have hq0 : q = 0 := by rw [← HQ.out, List.getD_eq_getElem?_getD, List.getElem?_eq_none (by omega)]; rfl
              subst hq0
              have g2 : ¬ (k : Int) < (m : Int) := by omega
              go_wp2_with fail
              go_meet
              exact ⟨rfl, rfl⟩
          case rest =>
            obtain ⟨rfl, rfl⟩ := hcut
            have hq4 : q < 4 := by omega
            have hq3 : q = 0 ∨ q = 2 ∨ q = 1 ∨ q = 3 := by omega
            have hw3 := hW3.cell 0
            have c0 := h3.blk.cell 0
            simp only [List.getElem?_toArray, List.getElem?_cons_zero] at c0 hw3
            have hW3d : Blk wc.drew wr.heap.size 112 (.int .i64 i :: bvs b).toArray := hW3
            have h3d : DiskAt wc.drew base l { d with sure := picksF (d.loose.take k) 0 ps d.sure } := h3.below drew_below
            have hmd : Moved w wc.drew l l := hm3.trans (Moved.of_below drew_below)
            have hbvl : (bvs b).length = 128 := by rw [bvs_length]; exact hx.2
            have hb1 : ((.int .i64 i :: bvs b : List Value).drop 1).take 128 = bvs b := by rw [List.drop_succ_cons, List.drop_zero, List.take_of_length_le (by omega)]
            have HQ := Lib.hid hq
            clear hq
            rcases hq3 with rfl | rfl | rfl | rfl
            · have h4 : DiskAt wc base l { d with sure := picksF (d.loose.take (k + 1)) 0 ps d.sure } := by rw [HSTEP.out, pickF_0 _ _ _ HQ.out]; exact h3
              clear hW3 hW3d h3d h3 hmd
              go_wp2_with fail
              exact ⟨⟨k + 1, by omega, congrArg (Value.int .i64) (by omega), h4, hm3⟩, by simp only [intOf]; omega⟩
            · have hst2 : picksF (d.loose.take (k + 1)) 0 ps d.sure = upd (picksF (d.loose.take k) 0 ps d.sure) i ⟨zs, true⟩ := by rw [HSTEP.out, pickF_2 _ _ _ HQ.out]
              have HST2 := Lib.hid hst2
              clear hst2 HQ HSTEP
              go_wp2_with fail
              refine wp_region_plan [(0, true), (1, true), (2, true), (3, true), (4, true), (5, true), (6, true), (7, false)]
                (fun z => z.cell? ⟨l.g, 0, none⟩ = some (.map (some l.gs)) ∧ z.cell? ⟨wr.heap.size, 0, none⟩ = some (.int .i64 i)) (by kernel_rfl) (by kernel_rfl) (by kernel_rfl) (by kernel_rfl) (fun _ _ d _ _ h => by cases d <;> exact h) ⟨c0, hw3⟩ ?_
              simp only [planOps, List.getElem?_toArray, List.getElem?_cons_zero, List.getElem?_cons_succ]
              iterate 6 (refine wpS_q ?_ (by rfl) ?_ ?_; rotate_left; (focus (intro z hz; (try dsimp only at hz); go_simp; rfl)); simp only [Act.put, List.setIfInBounds_toArray, List.set_cons_zero, List.set_cons_succ])
              refine wpS_q (.agg (secL ⟨zs, true⟩).toArray) (by rfl) (fun z hz => build_lost (fun _ => rfl)) ?_
              simp only [Act.put, List.setIfInBounds_toArray, List.set_cons_zero, List.set_cons_succ]
              refine wpS_l (by rfl) (fun K hK => ?_)
              refine wp_mapStore _ _ _ rfl h3d.sure Try.underlying3 Try.underlying104 i (wf64 hx.1) (secV ⟨zs, true⟩) rfl rfl rfl ?_
              intro w4 hM4 hg4
              have h4 := h3d.setSure hg4 (f := picksF (d.loose.take (k + 1)) 0 ps d.sure) (hM4.ext (fun q => by
                rw [HST2.out]
                show (if q = i then _ else _) = secV (if q = i then _ else _)
                split <;> rfl)) (by rw [HST2.out]; exact upd_len h3.ok.sure zs_length i)
              have c04 := h4.blk.cell 0
              simp only [List.getElem?_toArray, List.getElem?_cons_zero] at c04
              have hW4 : w4.cell? ⟨wr.heap.size, 0, none⟩ = some (.int .i64 i) := (World.cell?_of_block (hg4.block wr.heap.size hl3 (by intro e; injection e with e; exact hneG e))).trans hw3
              refine hK _ _ _ ⟨c04, hW4⟩ (fun _ h => h) ?_
              clear hK
              refine wpS_nil ?_
              have hm4 : Moved w w4 l l := hmd.trans ⟨rfl, Chg.of_grown (F := l.fp) hg4 (.inr (.inl rfl)), fun x hx => .inl hx⟩
              clear h3 c0 hw3 hm3 h3d c04 hW4 hg4 hM4 hW3 hW3d hmd
              go_wp2_with fail
              exact ⟨⟨k + 1, by omega, congrArg (Value.int .i64) (by omega), h4, hm4⟩, by simp only [intOf]; omega⟩
            all_goals
              have hst2 : picksF (d.loose.take (k + 1)) 0 ps d.sure = upd (picksF (d.loose.take k) 0 ps d.sure) i ⟨b, false⟩ := by rw [HSTEP.out, pickF_1 _ _ _ (by have := HQ.out; omega)]
              have HST2 := Lib.hid hst2
              clear hst2 HQ HSTEP
              go_wp2_with fail
              refine wp_region_plan [(0, true), (1, true), (2, true), (3, true), (4, true), (5, true), (6, true), (7, true), (8, true), (9, false)]
                (fun z => z.cell? ⟨l.g, 0, none⟩ = some (.map (some l.gs)) ∧ z.cell? ⟨wr.heap.size, 0, none⟩ = some (.int .i64 i) ∧ Blk z wr.heap.size 112 (.int .i64 i :: bvs b : List Value).toArray) (by kernel_rfl) (by kernel_rfl) (by kernel_rfl) (by kernel_rfl) (fun _ _ d _ _ h => by cases d <;> exact h) ⟨c0, hw3, hW3d⟩ ?_
              simp only [planOps, List.getElem?_toArray, List.getElem?_cons_zero, List.getElem?_cons_succ]
              iterate 7 (refine wpS_q ?_ (by rfl) ?_ ?_; rotate_left; (focus (intro z hz; (try dsimp only at hz); go_simp; rfl)); simp only [Act.put, List.setIfInBounds_toArray, List.set_cons_zero, List.set_cons_succ])
              refine wpS_q (.agg (bvs b).toArray) (by rfl) (fun z hz => load_mid_run rfl wr.heap.size 1 (.int .i64 i :: bvs b) (bvs b) Try.underlying28 rfl i128 hz.2.2 hb1 hbvl rfl) ?_
              simp only [Act.put, List.setIfInBounds_toArray, List.set_cons_zero, List.set_cons_succ]
              refine wpS_q (.agg (secL ⟨b, false⟩).toArray) (by rfl) (fun z hz => build_sec b hx.2 rfl) ?_
              simp only [Act.put, List.setIfInBounds_toArray, List.set_cons_zero, List.set_cons_succ]
              refine wpS_l (by rfl) (fun K hK => ?_)
              refine wp_mapStore _ _ _ rfl h3d.sure Try.underlying3 Try.underlying104 i (wf64 hx.1) (secV ⟨b, false⟩) rfl rfl rfl ?_
              intro w4 hM4 hg4
              have h4 := h3d.setSure hg4 (f := picksF (d.loose.take (k + 1)) 0 ps d.sure) (hM4.ext (fun q => by
                rw [HST2.out]
                show (if q = i then _ else _) = secV (if q = i then _ else _)
                split <;> rfl)) (by rw [HST2.out]; exact upd_len h3.ok.sure hx.2 i)
              have c04 := h4.blk.cell 0
              simp only [List.getElem?_toArray, List.getElem?_cons_zero] at c04
              have hW4B := hW3d.grown hg4 (by intro e; injection e with e; exact hneG e)
              have hW4 : w4.cell? ⟨wr.heap.size, 0, none⟩ = some (.int .i64 i) := (World.cell?_of_block (hg4.block wr.heap.size hl3 (by intro e; injection e with e; exact hneG e))).trans hw3
              refine hK _ _ _ ⟨c04, hW4, hW4B⟩ (fun _ h => h) ?_
              clear hK
              refine wpS_nil ?_
              have hm4 : Moved w w4 l l := hmd.trans ⟨rfl, Chg.of_grown (F := l.fp) hg4 (.inr (.inl rfl)), fun x hx => .inl hx⟩
              clear h3 c0 hw3 hm3 h3d c04 hW4 hW4B hg4 hM4 hW3 hW3d hmd
              go_wp2_with fail
              exact ⟨⟨k + 1, by omega, congrArg (Value.int .i64) (by omega), h4, hm4⟩, by simp only [intOf]; omega⟩
        · obtain rfl : k = d.loose.length := by omega
          rw [List.take_of_length_le (Nat.le_refl _)] at hk1
          have g1 : ¬ (d.loose.length : Int) < (d.loose.length : Int) := by omega
          go_wp2_with fail
          go_meet
          exact ⟨hk1, hmk⟩
    case rest =>
      obtain ⟨h1, hm1⟩ := hcut
      obtain ⟨P, hP⟩ : ∃ P, picksF d.loose 0 ps d.sure = P := ⟨_, rfl⟩
      rw [hP] at h1
      have hfinD : onD d ps = { d with sure := P, now := syncF P d.loose d.now, loose := [], off := false, fuse := -1 } := by rw [onD, hP]
      have HFD := Lib.hid hfinD
      clear hfinD hP c2 c3 h
      have c2 := h1.blk.cell 2
      simp only [List.getElem?_toArray, List.getElem?_cons_zero, List.getElem?_cons_succ] at c2
      go_wp2_with fail
      go_loopw [66] (fun i wr => ∃ k : Nat, k ≤ d.loose.length ∧ i = .int .i64 (k : Int) ∧ DiskAt wr base l { d with sure := P, now := syncF P (d.loose.take k) d.now } ∧ Moved w wr l l) (fun i _ => d.loose.length - (intOf i).toNat)
      case atStart => exact ⟨0, Nat.zero_le _, rfl, h1, hm1⟩
      case round =>
        obtain ⟨k, hk, rfl, hk1, hmk⟩ := hrel
        clear c2 h1 hm1
        by_cases hkl : k < d.loose.length
        · obtain ⟨g, L, hA, hgB, hgL, hne1, hne2, hne3⟩ := hk1.loose_at hkl
          have hx := hk1.ok.loose _ (List.getElem_mem hkl)
          have hstep : syncF P (d.loose.take (k + 1)) d.now = upd (syncF P (d.loose.take k) d.now) d.loose[k].1 (P d.loose[k].1) := by
            rw [List.take_add_one, List.getElem?_eq_getElem hkl, Option.toList_some, syncF_snoc]
          have hgL' : (L.drop (k * 129)).take 129 = .int .i64 d.loose[k].1 :: bvs d.loose[k].2 := hgL
          generalize d.loose[k] = x at *
          obtain ⟨i, b⟩ := x
          simp only at hx hstep hgL'
          have HSTEP := Lib.hid hstep
          have HGL := Lib.hid hgL'
          clear hstep hgL hgL'
          have hcl := cells_len (i := i) hx.2
          have hcs : (.int .i64 i :: bvs b : List Value).toArray.size = 129 := by simpa using hcl
          have g1 : (k : Int) < (d.loose.length : Int) := by omega
          have g0 : (0 : Int) ≤ (k : Int) := by omega
          repeat (first
            | ((with_reducible refine wpl_load_mid g (k * 129) L (.int .i64 i :: bvs b) Try.underlying112 rfl w129 hgB HGL.out hcl ?_ ?_); (focus rfl); simp only [Act.put, List.setIfInBounds_toArray, List.set_cons_zero, List.set_cons_succ])
            | ((with_reducible refine wpl_store_fresh (.int .i64 i :: bvs b).toArray w129 ?_ hcs cells_one ?_ ?_ ?_); (focus kernel_rfl); (focus rfl); (focus rfl); intro w3 hW3 hl3 hb3; simp only [Act.put])
            | go_values | go_skip | go_guarded | go_step | go_upon | go_back)
          have h3 := hk1.below hb3
          have hw3 := hW3.cell 0
          have c0 := h3.blk.cell 0
          have c1 := h3.blk.cell 1
          simp only [List.getElem?_toArray, List.getElem?_cons_zero, List.getElem?_cons_succ] at c0 c1 hw3
          have hneG : wr.heap.size ≠ l.gn := by have := hk1.now.lt; omega
          have hm3 : Moved w w3 l l := hmk.trans (Moved.of_below hb3)
          refine wp_region_plan [(0, true), (1, true), (2, true), (3, true), (4, true), (5, true), (6, true), (7, true), (8, true), (9, true), (10, true), (11, true), (12, true), (13, false)]
            (fun z => z.cell? ⟨l.g, 0, none⟩ = some (.map (some l.gs)) ∧ z.cell? ⟨l.g, 1, none⟩ = some (.map (some l.gn)) ∧ z.cell? ⟨wr.heap.size, 0, none⟩ = some (.int .i64 i) ∧ MapV (secV zsec) z l.gs (fun a => secV (P a))) (by kernel_rfl) (by kernel_rfl) (by kernel_rfl) (by kernel_rfl) (fun _ _ d _ _ h => by cases d <;> exact h) ⟨c0, c1, hw3, h3.sure.below drew_below h3.sure.lt⟩ ?_
          simp only [planOps, List.getElem?_toArray, List.getElem?_cons_zero, List.getElem?_cons_succ]
          iterate 12 (refine wpS_q ?_ (by rfl) ?_ ?_; rotate_left; (focus (intro z hz; (try dsimp only at hz); go_simp; rfl)); simp only [Act.put, List.setIfInBounds_toArray, List.set_cons_zero, List.set_cons_succ])
          refine wpS_q (secV (P i)) (by rfl) (fun z hz => look_run hz.2.2.2 Try.underlying3 Try.underlying104 (zerosec z) i (wf64 hx.1) rfl rfl) ?_
          simp only [Act.put, List.setIfInBounds_toArray, List.set_cons_zero, List.set_cons_succ]
          refine wpS_l (by rfl) (fun K hK => ?_)
          refine wp_mapStore _ _ _ rfl (h3.now.below drew_below h3.now.lt) Try.underlying3 Try.underlying104 i (wf64 hx.1) (secV (P i)) rfl rfl rfl ?_
          intro w4 hM4 hg4
          have h3d : DiskAt w3.drew base l { d with sure := P, now := syncF P (d.loose.take k) d.now } := h3.below drew_below
          have h4 := h3d.setNow hg4 (f := syncF P (d.loose.take (k + 1)) d.now) (hM4.ext (fun q => by
            rw [HSTEP.out]
            show (if q = i then _ else _) = secV (if q = i then _ else _)
            split <;> rfl)) (by rw [HSTEP.out]; exact upd_len h3.ok.now (h3.ok.sure i) i)
          have c04 := h4.blk.cell 0
          have c14 := h4.blk.cell 1
          simp only [List.getElem?_toArray, List.getElem?_cons_zero, List.getElem?_cons_succ] at c04 c14
          have hW4 : w4.cell? ⟨wr.heap.size, 0, none⟩ = some (.int .i64 i) := (World.cell?_of_block (hg4.block wr.heap.size hl3 (by intro e; injection e with e; exact hneG e))).trans hw3
          refine hK _ _ _ ⟨c04, c14, hW4, h4.sure⟩ (fun _ h => h) ?_
          clear hK
          refine wpS_nil ?_
          have hm4 : Moved w w4 l l := hm3.trans ⟨rfl, (Chg.of_below l.fp (drew_below (w := w3))).trans (Chg.of_grown (F := l.fp) hg4 (.inr (.inr (.inl rfl)))) (fun x hx => .inl hx), fun x hx => .inl hx⟩
          clear h3 c0 c1 hw3 hm3 h3d c04 c14 hW4 hg4 hM4 hmk hk1 hgB hb3 hW3
          go_wp2_with fail
          first
            | exact ⟨⟨k + 1, by omega, by omega, h4⟩, by simp only [intOf]; omega⟩
            | exact ⟨⟨k + 1, by omega, congrArg (Value.int .i64) (by omega), h4, hm4⟩, by simp only [intOf]; omega⟩
        · obtain rfl : k = d.loose.length := by omega
          rw [List.take_of_length_le (Nat.le_refl _)] at hk1
          have g1 : ¬ (d.loose.length : Int) < (d.loose.length : Int) := by omega
          have c2 := hk1.blk.cell 2
          have c3 := hk1.blk.cell 3
          have c4 := hk1.blk.cell 4
          have f2 := hk1.blk.frozen 2
          have f3 := hk1.blk.frozen 3
          have f4 := hk1.blk.frozen 4
          simp only [List.getElem?_toArray, List.getElem?_cons_zero, List.getElem?_cons_succ] at c2 c3 c4
          have hg := ((grownBy_set wr l.g 2 (.slice none 0 0)).trans (grownBy_set (wr.setCell ⟨l.g, 2, none⟩ (.slice none 0 0)) l.g 3 (.bool false))).trans (grownBy_set ((wr.setCell ⟨l.g, 2, none⟩ (.slice none 0 0)).setCell ⟨l.g, 3, none⟩ (.bool false)) l.g 4 (.int .i64 (-1)))
          have hB := ((hk1.blk.set_ 2 (.slice none 0 0)).set_ 3 (.bool false)).set_ 4 (.int .i64 (-1))
          simp only [List.setIfInBounds_toArray, List.set_cons_zero, List.set_cons_succ] at hB
          have hfin := hk1.clear false (-1) (by omega) hg hB
          have hmf : Moved w (((wr.setCell ⟨l.g, 2, none⟩ (.slice none 0 0)).setCell ⟨l.g, 3, none⟩ (.bool false)).setCell ⟨l.g, 4, none⟩ (.int .i64 (-1))) l { l with A := none, c := 0 } := ⟨rfl, hmk.chg.trans (Chg.of_grown (F := l.fp) hg (.inl rfl)) (fun x hx => .inl hx), fun x hx => by
            rcases hx with hx | hx | hx | hx
            · exact .inl (.inl hx)
            · exact .inl (.inr (.inl hx))
            · exact .inl (.inr (.inr (.inl hx)))
            · cases hx⟩
          clear hk1 hB
          go_wp2_with fail
          go_ret
          first
            | exact ⟨by rw [HFIN.out.1]; rfl, { l with A := none, c := 0 }, by rw [HFIN.out.2, HFD.out]; exact hfin, hmf⟩
            | exact ⟨{ l with A := none, c := 0 }, by rw [HFIN.out.1]; rfl, by rw [HFIN.out.2, HFD.out]; exact hfin, hmf⟩
end Go.Proofs.Ytmjdfajdompkeaa
