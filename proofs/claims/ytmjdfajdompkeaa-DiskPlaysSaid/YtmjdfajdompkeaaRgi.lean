/- The document's disk: On. -/
import Derived.Test.YtmjdfajdompkeaaRgh
namespace Go.Proofs.Ytmjdfajdompkeaa
open Go.RowKit Go.Rat
def onR (r : RS) (ps : List UInt8) : RS := if r.off = true then ⟨onL r.soft 0 ps r.sure, [], false, -1⟩ else r
def onRE (r : RS) : Int := if r.off = true then 0 else 3
def stepL (l : List RW) (x : RW) (p : Nat) : List RW := if p % 4 = 0 then l else if p % 4 = 2 then putL l ⟨x.at_, zs, true⟩ else putL l x
theorem onL_snoc (ps : List UInt8) (x : RW) : ∀ (s : List RW) (i : Nat) (l : List RW), onL (s ++ [x]) i ps l = stepL (onL s i ps l) x (ps.getD (i + s.length) 0).toNat
  | [], i, l => rfl
  | y :: s, i, l => by
    rw [List.cons_append, onL, onL, onL_snoc ps x s, List.length_cons, show i + 1 + s.length = i + (s.length + 1) by omega]
set_option maxRecDepth 20000 in
set_option maxHeartbeats 4000000 in
theorem ron_any (w : World) (base : Nat) (l : RL) (r : RS) (h : RefAt w base l r) (hbase : base ≤ w.heap.size) (A' : Option Addr) (m c' : Nat) (ps : List UInt8) (hr : RB w A' m ps) (hap : m ≠ 0 → ∀ x, A'.map (·.block) = some x → ¬ l.fp x) :
    Calls Try.prog 35 #[.pointer (some ⟨l.g, 0, none⟩), .slice A' m c'] w fun e w' => ∃ l', e = .returned (.int .i64 (onRE r)) ∧ RefAt w' base l' (onR r ps) ∧ RMoved w w' l l' := by
  have c2 := h.blk.cell 2
  simp only [List.getElem?_toArray, List.getElem?_cons_zero, List.getElem?_cons_succ] at c2
  cases hoff : r.off
  · rw [hoff] at c2
    have hfin : onRE r = 3 ∧ onR r ps = r := by simp [onRE, onR, hoff]
    have HFIN := Lib.hid hfin
    clear hfin hoff
    go_enter Try.func35, Try.ntmps35
    go_wp2_with fail
    go_ret
    first
      | exact ⟨l, by rw [HFIN.out.1]; rfl, by rw [HFIN.out.2]; exact h, RMoved.refl _ _⟩
      | exact ⟨by rw [HFIN.out.1]; rfl, l, by rw [HFIN.out.2]; exact h, RMoved.refl _ _⟩
  · rw [hoff] at c2
    have hfin : onRE r = 0 ∧ onR r ps = ⟨onL r.soft 0 ps r.sure, [], false, -1⟩ := by simp [onRE, onR, hoff]
    have HFIN := Lib.hid hfin
    have hml := hr.len
    have HR := Lib.hid hr
    obtain ⟨n, hn⟩ : ∃ n, r.soft.length = n := ⟨_, rfl⟩
    have HN := Lib.hid hn
    obtain ⟨g, hg⟩ : ∃ g, l.g = g := ⟨_, rfl⟩
    rw [hg] at c2 ⊢
    have HG := Lib.hid hg
    clear hfin hoff hr hn hg
    go_enter Try.func35, Try.ntmps35
    go_wp2_with fail
    go_loopw [5] (fun i wr => ∃ (k : Nat) (l1 : RL), k ≤ n ∧ i = .int .i64 (k : Int) ∧ l1.g = g ∧ RefAt wr base l1 { r with sure := onL (r.soft.take k) 0 ps r.sure } ∧ base ≤ wr.heap.size ∧ RMoved w wr l l1) (fun i _ => n - (intOf i).toNat)
    case atStart => exact ⟨0, l, Nat.zero_le _, rfl, HG.out, h, hbase, RMoved.refl _ _⟩
    case round =>
      clear c2
      obtain ⟨k, l1, hk, rfl, hg1, h1, hbw, hmv1⟩ := hrel
      have c1 := h1.blk.cell 1
      simp only [List.getElem?_toArray, List.getElem?_cons_zero, List.getElem?_cons_succ, HN.out, hg1] at c1
      by_cases hkn : k < n
      · have hkl : k < r.soft.length := by have := HN.out; omega
        obtain ⟨g2, L, hA, hgB, hgL, hLl⟩ := h1.row2.at_ h1.ok.soft hkl
        have hx := h1.ok.soft _ (List.getElem_mem hkl)
        have hstep : onL (r.soft.take (k + 1)) 0 ps r.sure = stepL (onL (r.soft.take k) 0 ps r.sure) r.soft[k] (ps.getD k 0).toNat := by
          rw [List.take_add_one, List.getElem?_eq_getElem hkl, Option.toList_some, onL_snoc, List.length_take, Nat.zero_add, Nat.min_eq_left (by omega)]
        have hgL' : (L.drop (k * 130)).take 130 = rwC r.soft[k] := hgL
        generalize r.soft[k] = x at *
        have hcl := rwC_length hx.2
        have hxo := rwC_all x
        have hcs : (rwC x).toArray.size = 130 := by simpa using hcl
        have hx0 : (rwC x)[0]? = some (.int .i64 x.at_) := rfl
        obtain ⟨cx, hcx⟩ : ∃ cx, rwC x = cx := ⟨_, rfl⟩
        rw [hcx] at hgL' hcl hxo hcs hx0
        have HCX := Lib.hid hcx
        have HGL := Lib.hid hgL'
        have HSTEP := Lib.hid hstep
        rw [hA] at c1
        have g1 : (k : Int) < (n : Int) := by omega
        have g0 : (0 : Int) ≤ (k : Int) := by omega
        have hnl : n ≤ 9223372036854775807 := by
          have := own_cap h1.row2
          have e : ({ r with sure := onL (r.soft.take k) 0 ps r.sure } : RS).soft.length = n := HN.out
          rw [e] at this
          omega
        have hrr : RB wr A' m ps := hmv1.chg.rbN HR.out hap
        obtain ⟨q, hq⟩ : ∃ q, (ps.getD k 0).toNat % 4 = q := ⟨_, rfl⟩
        clear hgL hgL' hstep hcx hA
        go_upto_if 25 with (fail)
        go_cut [6] (fun p wx => p = .int .u8 (q : Int) ∧ wx = wr)
        case first =>
          have HQ := Lib.hid hq
          clear hq
          by_cases hkm : k < m
          · obtain ⟨ad, rfl, _, hc⟩ := hrr.at_ hkm
            have hq := HQ.out
            have hb := (ps.getD k 0).toNat_lt
            generalize (ps.getD k 0).toNat = p at *
            have hpq : (p : Int) % 4 = (q : Int) := by omega
            have g2 : (k : Int) < (m : Int) := by omega
            clear hq HQ
            go_wp2_with fail
            go_meet
            first | exact ⟨congrArg (Value.int .u8) hpq, rfl⟩ | exact ⟨rfl, rfl⟩
          · have hq0 : q = 0 := by rw [← HQ.out, List.getD_eq_getElem?_getD, List.getElem?_eq_none (by omega)]; rfl
            subst hq0
            have g2 : ¬ (k : Int) < (m : Int) := by omega
            go_wp2_with fail
            go_meet
            exact ⟨rfl, rfl⟩
        case rest =>
          obtain ⟨rfl, rfl⟩ := hcut
          clear hrr
          repeat (first
            | ((with_reducible refine wpl_load_mid g2 (k * 130) L cx Try.underlying114 rfl r130 hgB HGL.out hcl ?_ ?_); (focus rfl); simp only [Act.put, List.setIfInBounds_toArray, List.set_cons_zero, List.set_cons_succ])
            | ((with_reducible refine wpl_store_fresh cx.toArray r130 ?_ hcs hxo ?_ ?_ ?_); (focus kernel_rfl); (focus rfl); (focus rfl); intro w3 hW3 hl3 hb3; simp only [Act.put]; refine Hid.out ?_)
            | go_values | go_skip | go_guarded | go_step | go_upon | go_back)
          refine Lib.hid ?_
          have h3 := h1.below hb3
          have hbw3 := Nat.le_trans hbw hb3.size
          have hm3 := hmv1.trans (RMoved.of_below hb3)
          have hw0 := hW3.cell 0
          rw [List.getElem?_toArray, hx0] at hw0
          have hGl : ¬ l1.fp wc.heap.size := fun hf => by have := (h1.fp_lt hf).2; omega
          have hGw : w.heap.size ≤ wc.heap.size := hmv1.chg.size
          clear h1 hbw hmv1 c1 hgB hb3 hl3
          obtain ⟨G, hG⟩ : ∃ x, wc.heap.size = x := ⟨_, rfl⟩
          rw [hG] at hW3 hw0 hGl hGw ⊢
          clear hG
          have hq3 : q = 0 ∨ q = 2 ∨ q = 1 ∨ q = 3 := by omega
          have HTK : Hid ((cx.drop 0).take 130 = cx) := Lib.hid (by rw [List.drop_zero, ← hcl, List.take_length])
          have HQ := Lib.hid hq
          clear hq
          rcases hq3 with rfl | rfl | rfl | rfl
          · have h4 : RefAt w3 base l1 { r with sure := onL (r.soft.take (k + 1)) 0 ps r.sure } := by rw [HSTEP.out, stepL, if_pos HQ.out]; exact h3
            clear h3 hW3 hw0
            go_wp2_with fail
            exact ⟨⟨k + 1, l1, by omega, by first | omega | exact congrArg (Value.int .i64) (by omega), hg1, h4, hbw3, hm3⟩, by simp only [intOf]; omega⟩
          · have hy : RWok ⟨x.at_, zs, true⟩ := ⟨hx.1, zs_length⟩
            have hyl := rwC_length hy.2
            have hyo := rwC_all ⟨x.at_, zs, true⟩
            have hys : (rwC ⟨x.at_, zs, true⟩).toArray.size = 130 := by simpa using hyl
            have hst : stepL (onL (r.soft.take k) 0 ps r.sure) x (ps.getD k 0).toNat = putL (onL (r.soft.take k) 0 ps r.sure) ⟨x.at_, zs, true⟩ := by rw [stepL, HQ.out]; rfl
            rw [hst] at HSTEP
            clear hst HQ
            have hzl : (Try.zeroCells114.setIfInBounds 0 (.int .i64 x.at_)).setIfInBounds 129 (.bool true) = (rwC ⟨x.at_, zs, true⟩).toArray := by
              rw [zr130, List.setIfInBounds_toArray, List.setIfInBounds_toArray, rwC, rwC, List.set_cons_zero, List.set_cons_succ, List.set_append_right _ _ (by rw [bvs_length, zs_length]; omega), bvs_length, zs_length]
              rfl
            obtain ⟨cy, hcy⟩ : ∃ cy, rwC ⟨x.at_, zs, true⟩ = cy := ⟨_, rfl⟩
            rw [hcy] at hyl hyo hys hzl
            have HCY := Lib.hid hcy
            clear hcy
            repeat (first
              | ((with_reducible refine wpl_store G _ _ cy.toArray r130 hW3 hcs hys hyo ?_ ?_ ?_); (focus rfl); (focus rfl); simp only [Act.put]; refine Hid.out ?_)
              | go_values | go_skip | go_guarded | go_step | go_upon | go_back)
            refine Lib.hid ?_
            have hgs := grownBy_setRow w3 G cy.toArray
            have hW5 := hW3.setRow cy.toArray
            have h5 := h3.kept (Chg.of_grown (F := fun x => x = G) hgs rfl) (fun x hx e => hGl (e ▸ hx))
            have hbw5 := Nat.le_trans hbw3 hgs.size
            have hm5 : RMoved w (w3.setRow G cy.toArray) l l1 := ⟨hm3.g, hm3.chg.trans (Chg.of_grown (F := fun x => x = G) hgs rfl) (fun x e => .inr (e ▸ hGw)), hm3.fp⟩
            have HTY : Hid ((cy.drop 0).take 130 = cy) := Lib.hid (by rw [List.drop_zero, ← hyl, List.take_length])
            clear h3 hbw3 hm3 hW3 hw0 hgs hzl
            generalize w3.setRow G cy.toArray = w5 at *
            repeat (first
              | ((with_reducible refine wpl_load_mid G 0 cy cy Try.underlying114 rfl r130 hW5 HTY.out hyl ?_ ?_); (focus rfl); simp only [Act.put, List.setIfInBounds_toArray, List.set_cons_zero, List.set_cons_succ])
              | (go_at_call 61; refine (rput_g _ base g l1 _ h5 hg1 hbw5 _ hy cy HCY.out).mono ?_; rintro e w4 ⟨l4, rfl, hg4, h4, hm4⟩; simp only []; refine Hid.out ?_)
              | go_values | go_skip | go_guarded | go_step | go_upon | go_back)
            refine Lib.hid ?_
            have h4 : RefAt w4 base l4 { r with sure := onL (r.soft.take (k + 1)) 0 ps r.sure } := by rw [HSTEP.out]; exact h4
            have hbw4 := Nat.le_trans hbw5 hm4.chg.size
            have hmv4 := hm5.trans hm4
            clear h5 hbw5 hm5 hm4 hW5
            go_wp2_with fail
            exact ⟨⟨k + 1, l4, by omega, by first | omega | exact congrArg (Value.int .i64) (by omega), hg4, h4, hbw4, hmv4⟩, by simp only [intOf]; omega⟩
          all_goals
            have hst : stepL (onL (r.soft.take k) 0 ps r.sure) x (ps.getD k 0).toNat = putL (onL (r.soft.take k) 0 ps r.sure) x := by rw [stepL, HQ.out]; rfl
            rw [hst] at HSTEP
            clear hst HQ
            repeat (first
              | ((with_reducible refine wpl_load_mid G 0 cx cx Try.underlying114 rfl r130 hW3 HTK.out hcl ?_ ?_); (focus rfl); simp only [Act.put, List.setIfInBounds_toArray, List.set_cons_zero, List.set_cons_succ])
              | (go_at_call 61; refine (rput_g _ base g l1 _ h3 hg1 hbw3 x hx cx HCX.out).mono ?_; rintro e w4 ⟨l4, rfl, hg4, h4, hm4⟩; simp only []; refine Hid.out ?_)
              | go_values | go_skip | go_guarded | go_step | go_upon | go_back)
            refine Lib.hid ?_
            have h4 : RefAt w4 base l4 { r with sure := onL (r.soft.take (k + 1)) 0 ps r.sure } := by rw [HSTEP.out]; exact h4
            have hbw4 := Nat.le_trans hbw3 hm4.chg.size
            have hmv4 := hm3.trans hm4
            clear h3 hbw3 hm3 hm4 hW3 hw0
            go_wp2_with fail
            exact ⟨⟨k + 1, l4, by omega, by first | omega | exact congrArg (Value.int .i64) (by omega), hg4, h4, hbw4, hmv4⟩, by simp only [intOf]; omega⟩
      · obtain rfl : k = n := by omega
        have g1 : ¬ (k : Int) < (k : Int) := by omega
        have hfull : onL (r.soft.take k) 0 ps r.sure = onL r.soft 0 ps r.sure := by rw [← HN.out, List.take_length]
        rw [hfull] at h1
        have f1 := h1.blk.frozen 1
        have f2 := h1.blk.frozen 2
        have f3 := h1.blk.frozen 3
        have c2 := h1.blk.cell 2
        have c3 := h1.blk.cell 3
        simp only [List.getElem?_toArray, List.getElem?_cons_zero, List.getElem?_cons_succ] at c2 c3
        have hgr := ((grownBy_set wr l1.g 1 (.slice none 0 0)).trans (grownBy_set (wr.setCell ⟨l1.g, 1, none⟩ (.slice none 0 0)) l1.g 2 (.bool false))).trans (grownBy_set ((wr.setCell ⟨l1.g, 1, none⟩ (.slice none 0 0)).setCell ⟨l1.g, 2, none⟩ (.bool false)) l1.g 3 (.int .i64 (-1)))
        have hB := ((h1.blk.set_ 1 (.slice none 0 0)).set_ 2 (.bool false)).set_ 3 (.int .i64 (-1))
        simp only [List.setIfInBounds_toArray, List.set_cons_zero, List.set_cons_succ] at hB
        have hfin := h1.clear false (-1) (by omega) hgr hB
        have hmf := rmoved_clear hmv1 hgr
        rw [hg1] at hgr f1 f2 f3 c2 c3 hfin hmf
        have HFI := Lib.hid hfin
        clear hB h1 hfull
        go_wp2_with fail
        go_ret
        first
          | exact ⟨by rw [HFIN.out.1]; rfl, _, by rw [HFIN.out.2]; exact HFI.out, hmf⟩
          | exact ⟨_, by rw [HFIN.out.1]; rfl, by rw [HFIN.out.2]; exact HFI.out, hmf⟩
end Go.Proofs.Ytmjdfajdompkeaa
