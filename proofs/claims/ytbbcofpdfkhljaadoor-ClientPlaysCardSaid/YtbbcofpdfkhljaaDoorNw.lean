/- ratchetlaw25.works is true. -/
import Derived.Test.YtbbcofpdfkhljaaDoorNv
namespace Go.Proofs.YtbbcofpdfkhljaaDoor
open Go.RowKit Go.Rat
/-- The example of the chapter. -/
def opW : OpV := ⟨1, ⟨#[97]⟩, e0, e0, e0, 0⟩
def tlW : ToldV := ⟨1, 1, ⟨0, ⟨#[120]⟩⟩, 3⟩
theorem opW_may : opW.may := by
  refine ⟨⟨?_, ?_⟩, ?_, ?_, .inl ⟨.inl rfl, ?_, ?_, ?_, rfl⟩⟩ <;> decide
theorem may_asked (o : OpV) (h : o.may) (id : Int) (tm : Nat) (tg : List UInt8) (h1 : 1 ≤ id ∧ id ≤ 8) (h2 : 1 ≤ tm ∧ tm ≤ 4611686018427387904) : (RqV.mk id tm o tg).asked := by
  obtain ⟨k, v, o', h⟩ := h
  refine ⟨h1.1, h1.2, h2.1, h2.2, k.2, ?_, v, o'⟩
  show o.tow.size ≤ 32
  rcases h with h | h | h | h <;> omega
theorem askQ_eq (n : Nat) (tb : List Int) (id : Int) (tm : Nat) (o : OpV) (h : o.may) (h1 : 1 ≤ id ∧ id ≤ 8) (h2 : 1 ≤ tm ∧ tm ≤ 4611686018427387904) : askQ n tb id tm o = ⟨id, tm, o, RqV.must n tb ⟨id, tm, o, z32⟩⟩ := signed_yes n tb (may_asked o h id tm z32 h1 h2)
theorem askQ_auth (n : Nat) (tb : List Int) (id : Int) (tm : Nat) (o : OpV) (h : o.may) (h1 : 1 ≤ id ∧ id ≤ 8) (h2 : 1 ≤ tm ∧ tm ≤ 4611686018427387904) : (askQ n tb id tm o).asked ∧ (askQ n tb id tm o).must n tb = (askQ n tb id tm o).tag := by
  rw [askQ_eq n tb id tm o h h1 h2]
  exact ⟨may_asked o h id tm _ h1 h2, rfl⟩
theorem askC_yes (n : Nat) (tb : List Int) (cn id : Int) (tm : Nat) (q : RqV) (l : List (Option ToldV)) (o : OpV) (h : o.may) : askC n tb ⟨cn, id, tm, false, q, l⟩ o = (⟨cn, id, tm + 1, true, askQ n tb id (tm + 1) o, tol0⟩, askQ n tb id (tm + 1) o, 0) := by
  unfold askC
  rw [if_pos h, if_neg (by simp)]
theorem askC_state (n : Nat) (tb : List Int) (cn id : Int) (tm : Nat) (q : RqV) (l : List (Option ToldV)) (o : OpV) (h : o.may) : askC n tb ⟨cn, id, tm, true, q, l⟩ o = (⟨cn, id, tm, true, q, l⟩, rq0, 3) := by
  unfold askC
  rw [if_pos h, if_pos rfl]
theorem w_hear1 (q : RqV) : hearC ⟨3, 1, 1, true, q, tol0⟩ 1 tlW = (⟨3, 1, 1, true, q, tol0.set 0 (some tlW)⟩, rp0, false) :=
  (if_pos ⟨(by decide : (1 : Int) ≤ 1), (by decide : (1 : Int) ≤ 3), rfl, rfl, rfl, rfl⟩).trans (if_pos (show ((tol0.set 0 (some tlW)).count (some tlW) : Int) ≤ 3 / 2 by decide))
theorem w_hear2 (q : RqV) : hearC ⟨3, 1, 1, true, q, tol0.set 0 (some tlW)⟩ 1 tlW = (⟨3, 1, 1, true, q, tol0.set 0 (some tlW)⟩, rp0, false) :=
  if_neg (by rintro ⟨_, _, _, _, _, h⟩; cases h)
theorem w_hear3 (q : RqV) : hearC ⟨3, 1, 1, true, q, tol0.set 0 (some tlW)⟩ 3 tlW = (⟨3, 1, 1, false, rq0, (tol0.set 0 (some tlW)).set 2 (some tlW)⟩, ⟨0, ⟨#[120]⟩⟩, true) :=
  (if_pos ⟨(by decide : (1 : Int) ≤ 3), (by decide : (3 : Int) ≤ 3), rfl, rfl, rfl, rfl⟩).trans (if_neg (show ¬ (((tol0.set 0 (some tlW)).set 2 (some tlW)).count (some tlW) : Int) ≤ 3 / 2 by decide))
set_option maxRecDepth 20000 in
set_option maxHeartbeats 8000000 in
theorem works25_any (n : Nat) (hn64 : n = 64) (w : World) (tb : List Int) (htb : H.tblL = tb) (hT : H.Tab w tb) :
    Calls Tryd.prog 8 #[] w fun e w' => e = .returned (.bool true) ∧ Below w.heap.size w w' := by
  have hau := askQ_auth n tb 1 1 opW opW_may (by omega) (by omega)
  have hqe := askQ_eq n tb 1 1 opW opW_may (by omega) (by omega)
  have hqt := askQ_tag n tb 1 1 opW
  have hac := askC_yes n tb 3 1 0 rq0 tol0 opW opW_may
  have hac2 := askC_state n tb 3 1 1 (askQ n tb 1 1 opW) tol0 opW opW_may
  rw [Nat.zero_add] at hac
  have hqm : (askQ n tb 1 1 opW).tm = 1 := by rw [hqe]
  obtain ⟨Q, hQ⟩ : ∃ Q, askQ n tb 1 1 opW = Q := ⟨_, rfl⟩
  rw [hQ] at hau hqt hac hac2 hqm
  have hAU := fun w => rauth_any n hn64 w Q hqt tb htb
  simp only [decide_eq_true hau] at hAU
  have HAU := Lib.hid hAU
  have HAC := Lib.hid hac
  have HAC2 := Lib.hid hac2
  clear hau hqe hac hac2 hQ hAU
  have HN := Lib.hid hn64
  clear hn64 htb
  have HTB := Lib.hid hT
  clear hT
  have hqs : Q.c.toArray.size = 40 := by rw [List.size_toArray, rqc_length Q hqt]
  have hq1 : Q.c.toArray.all (·.oneCell') = true := by simpa using rqc_one Q
  have hzs : rq0.c.toArray.size = 40 := rfl
  have hz1 : rq0.c.toArray.all (·.oneCell') = true := by simpa using rqc_one rq0
  obtain ⟨TL, hTL⟩ : ∃ x, tlW.c.toArray = x := ⟨_, rfl⟩
  have htls : TL.size = 5 := by rw [← hTL]; rfl
  have htl1 : TL.all (·.oneCell') = true := by rw [← hTL]; simp [ToldV.c, Value.oneCell']
  have hzT : (#[.int .i64 1, .int .u64 1, .int .i64 0, .string ⟨#[120]⟩, .int .u64 3] : Array Value) = TL := hTL
  go_enter Tryd.func8, Tryd.ntmps8
  go_wp2_with fail
  refine (cnew_yes w 3 1 (by decide)).mono ?_
  rintro e w1 ⟨rfl, hX, hb⟩
  simp only []
  obtain ⟨g, hg⟩ : ∃ x, w.heap.size = x := ⟨_, rfl⟩
  rw [hg] at hX ⊢
  have HG := Lib.hid hg
  clear hg
  go_wp2_with fail
  refine (cnew_no w1 4 1 (by decide)).mono ?_
  rintro e w2 ⟨rfl, rfl⟩
  simp only []
  have hask := cask_any n HN.out w2 g ⟨3, 1, 0, false, rq0, tol0⟩ hX ⟨z32_length, tol0_len⟩ (by decide) opW tb (fun z hz => H.Tab.below HTB.out (hb.trans (below_of_grownBy hz (fun q hq => by cases hq; exact Nat.le_of_eq HG.out) hb.size)))
  rw [HAC.out] at hask
  go_wp2_with fail
  refine hask.mono ?_
  rintro e w3 ⟨rfl, hX3, hg3⟩
  simp only []
  have hb3 := hb.trans (below_of_grownBy hg3 (fun q hq => by cases hq; exact Nat.le_of_eq HG.out) hb.size)
  clear hask hg3 hX hb
  repeat (first
    | ((with_reducible refine wpl_store_fresh Q.c.toArray i44 ?_ hqs hq1 ?_ ?_ ?_); (focus kernel_rfl); (focus rfl); (focus rfl); intro w4 hQ4 hl4 hb4; simp only [Act.put]; refine Hid.out ?_)
    | go_values | go_skip | go_guarded | go_step | go_upon | go_back)
  refine Lib.hid ?_
  have hX4 := hX3.below hb4 hX3.lt
  obtain ⟨g5, hg5⟩ : ∃ x, w3.heap.size = x := ⟨_, rfl⟩
  rw [hg5] at hQ4 ⊢
  have hne5 : g ≠ g5 := by rw [← hg5]; exact Nat.ne_of_lt hX3.lt
  have hb4 := below_next' hb3 hb4
  clear hg5 hl4 hX3 hb3
  have hask := cask_any n HN.out w4 g ⟨3, 1, 1, true, Q, tol0⟩ hX4 ⟨hqt, tol0_len⟩ (by show (1 : Nat) < 1000000; decide) opW tb (fun z hz => H.Tab.below HTB.out (hb4.trans (below_of_grownBy hz (fun q hq => by cases hq; exact Nat.le_of_eq HG.out) hb4.size)))
  rw [HAC2.out] at hask
  repeat (first
    | (go_at_call 14; refine Hid.out ?_)
    | go_values | go_skip | go_guarded | go_step | go_upon | go_back)
  refine Lib.hid ?_
  refine hask.mono ?_
  rintro e w5 ⟨rfl, hX5, hg5⟩
  simp only []
  have hQ5 := hQ4.grown hg5 (by intro e; injection e with e; exact hne5 e.symm)
  have hb5 := hb4.trans (below_of_grownBy hg5 (fun q hq => by cases hq; exact Nat.le_of_eq HG.out) hb4.size)
  clear hask hg5 hX4 hb4 hQ4
  repeat (first
    | ((with_reducible refine wpl_store_fresh rq0.c.toArray i44 ?_ hzs hz1 ?_ ?_ ?_); (focus kernel_rfl); (focus rfl); (focus rfl); intro w6 hz6 hl6 hb6; simp only [Act.put]; refine Hid.out ?_)
    | go_values | go_skip | go_guarded | go_step | go_upon | go_back)
  refine Lib.hid ?_
  have hX6 := hX5.below hb6 hX5.lt
  have hQ6 := hQ5.below hb6 hQ5.lt
  have hb6 := below_next' hb5 hb6
  clear hz6 hl6 hX5 hb5 hQ5
  repeat (first
    | ((with_reducible refine wpl_store_fresh TL iTold ?_ htls htl1 ?_ ?_ ?_); (focus kernel_rfl); (focus rfl); (focus rfl); intro w7 hT7 hl7 hb7; simp only [Act.put]; refine Hid.out ?_)
    | go_values | go_skip | go_guarded | go_step | go_upon | go_back)
  refine Lib.hid ?_
  obtain ⟨g9, hg9⟩ : ∃ x, w6.heap.size = x := ⟨_, rfl⟩
  rw [hg9] at hT7 ⊢
  have hne9 : g ≠ g9 := by rw [← hg9]; exact Nat.ne_of_lt hX6.lt
  have hX7 := hX6.below hb7 hX6.lt
  have hQ7 := hQ6.below hb7 hQ6.lt
  have hb7 := below_next' hb6 hb7
  clear hg9 hl7 hX6 hQ6 hb6
  have hrs : rp0.c.toArray.size = 2 := rfl
  have hr1 : rp0.c.toArray.all (·.oneCell') = true := by simp [rp0, RpV.c, Value.oneCell']
  have hxs : (RpV.mk 0 ⟨#[120]⟩).c.toArray.size = 2 := rfl
  have hx1 : (RpV.mk 0 ⟨#[120]⟩).c.toArray.all (·.oneCell') = true := by simp [RpV.c, Value.oneCell']
  have hh := chear_any w7 g ⟨3, 1, 1, true, Q, tol0⟩ hX7 ⟨hqt, rfl⟩ ⟨by show (0 : Int) ≤ 3; decide, by show (3 : Int) ≤ 11; decide⟩ 1 tlW
  rw [w_hear1, hTL] at hh
  repeat (first
    | ((with_reducible refine wpl_loadS g9 _ TL Tryd.underlying38 rfl iTold hT7 htls ?_ ?_ ?_); (focus rfl); (focus rfl); simp only [Act.put, List.setIfInBounds_toArray, List.set_cons_zero, List.set_cons_succ])
    | (go_at_call 12; refine Hid.out ?_)
    | go_values | go_skip | go_guarded | go_step | go_upon | go_back)
  refine Lib.hid ?_
  refine hh.mono ?_
  rintro e w8a ⟨rfl, hXn, hgn⟩
  simp only []
  have hQn := hQ7.grown hgn (by intro e; injection e with e; exact hne5 e.symm)
  have hTn := hT7.grown hgn (by intro e; injection e with e; exact hne9 e.symm)
  have hbn := hb7.trans (below_of_grownBy hgn (fun q hq => by cases hq; exact Nat.le_of_eq HG.out) hb7.size)
  clear hh hgn hX7 hb7 hQ7 hT7
  repeat (first
    | ((with_reducible refine wpl_store_fresh rp0.c.toArray iRp ?_ hrs hr1 ?_ ?_ ?_); (focus kernel_rfl); (focus rfl); (focus rfl); intro w9 hFn hln hbm; simp only [Act.put]; refine Hid.out ?_)
    | go_values | go_skip | go_guarded | go_step | go_upon | go_back)
  refine Lib.hid ?_
  have hX9 := hXn.below hbm hXn.lt
  have hQ9 := hQn.below hbm hQn.lt
  have hT9 := hTn.below hbm hTn.lt
  have hb9 := below_next' hbn hbm
  clear hFn hln hbm hXn hbn hQn hTn
  have hh := chear_any w9 g ⟨3, 1, 1, true, Q, tol0.set 0 (some tlW)⟩ hX9 ⟨hqt, rfl⟩ ⟨by show (0 : Int) ≤ 3; decide, by show (3 : Int) ≤ 11; decide⟩ 1 tlW
  rw [w_hear2, hTL] at hh
  repeat (first
    | ((with_reducible refine wpl_loadS g9 _ TL Tryd.underlying38 rfl iTold hT9 htls ?_ ?_ ?_); (focus rfl); (focus rfl); simp only [Act.put, List.setIfInBounds_toArray, List.set_cons_zero, List.set_cons_succ])
    | (go_at_call 12; refine Hid.out ?_)
    | go_values | go_skip | go_guarded | go_step | go_upon | go_back)
  refine Lib.hid ?_
  refine hh.mono ?_
  rintro e w10a ⟨rfl, hXn, hgn⟩
  simp only []
  have hQn := hQ9.grown hgn (by intro e; injection e with e; exact hne5 e.symm)
  have hTn := hT9.grown hgn (by intro e; injection e with e; exact hne9 e.symm)
  have hbn := hb9.trans (below_of_grownBy hgn (fun q hq => by cases hq; exact Nat.le_of_eq HG.out) hb9.size)
  clear hh hgn hX9 hb9 hQ9 hT9
  repeat (first
    | ((with_reducible refine wpl_store_fresh rp0.c.toArray iRp ?_ hrs hr1 ?_ ?_ ?_); (focus kernel_rfl); (focus rfl); (focus rfl); intro w11 hFn hln hbm; simp only [Act.put]; refine Hid.out ?_)
    | go_values | go_skip | go_guarded | go_step | go_upon | go_back)
  refine Lib.hid ?_
  have hX11 := hXn.below hbm hXn.lt
  have hQ11 := hQn.below hbm hQn.lt
  have hT11 := hTn.below hbm hTn.lt
  have hb11 := below_next' hbn hbm
  clear hFn hln hbm hXn hbn hQn hTn
  have hh := chear_any w11 g ⟨3, 1, 1, true, Q, tol0.set 0 (some tlW)⟩ hX11 ⟨hqt, rfl⟩ ⟨by show (0 : Int) ≤ 3; decide, by show (3 : Int) ≤ 11; decide⟩ 3 tlW
  rw [w_hear3, hTL] at hh
  repeat (first
    | ((with_reducible refine wpl_loadS g9 _ TL Tryd.underlying38 rfl iTold hT11 htls ?_ ?_ ?_); (focus rfl); (focus rfl); simp only [Act.put, List.setIfInBounds_toArray, List.set_cons_zero, List.set_cons_succ])
    | (go_at_call 12; refine Hid.out ?_)
    | go_values | go_skip | go_guarded | go_step | go_upon | go_back)
  refine Lib.hid ?_
  refine hh.mono ?_
  rintro e w12a ⟨rfl, hXn, hgn⟩
  simp only []
  have hQn := hQ11.grown hgn (by intro e; injection e with e; exact hne5 e.symm)
  have hTn := hT11.grown hgn (by intro e; injection e with e; exact hne9 e.symm)
  have hbn := hb11.trans (below_of_grownBy hgn (fun q hq => by cases hq; exact Nat.le_of_eq HG.out) hb11.size)
  clear hh hgn hX11 hb11 hQ11 hT11
  repeat (first
    | ((with_reducible refine wpl_store_fresh (RpV.mk 0 ⟨#[120]⟩).c.toArray iRp ?_ hxs hx1 ?_ ?_ ?_); (focus kernel_rfl); (focus rfl); (focus rfl); intro w13 hFn hln hbm; simp only [Act.put]; refine Hid.out ?_)
    | go_values | go_skip | go_guarded | go_step | go_upon | go_back)
  refine Lib.hid ?_
  have hX13 := hXn.below hbm hXn.lt
  have hQ13 := hQn.below hbm hQn.lt
  have hT13 := hTn.below hbm hTn.lt
  have hb13 := below_next' hbn hbm
  have hF13 := hFn
  clear hFn hln hbm hXn hbn hQn hTn
  obtain ⟨g14, hg14⟩ : ∃ x, w12a.heap.size = x := ⟨_, rfl⟩
  rw [hg14] at hF13 ⊢
  clear hg14
  have hpe := cpend_any w13 g ⟨3, 1, 1, false, rq0, (tol0.set 0 (some tlW)).set 2 (some tlW)⟩ hX13 ⟨z32_length, rfl⟩
  repeat (first
    | (go_at_call 16; refine Hid.out ?_)
    | go_values | go_skip | go_guarded | go_step | go_upon | go_back)
  refine Lib.hid ?_
  refine hpe.mono ?_
  rintro e w14 ⟨rfl, hb14⟩
  simp only []
  have hXn := hX13.below hb14 hX13.lt
  have hQn := hQ13.below hb14 hQ13.lt
  have hTn := hT13.below hb14 hT13.lt
  have hF14 := hF13.below hb14 hF13.lt
  have hbn := below_next' hb13 hb14
  clear hpe hb14 hX13 hQ13 hT13 hF13 hb13
  repeat (first
    | ((with_reducible refine wpl_store_fresh rq0.c.toArray i44 ?_ hzs hz1 ?_ ?_ ?_); (focus kernel_rfl); (focus rfl); (focus rfl); intro w15 hFn hln hbm; simp only [Act.put]; refine Hid.out ?_)
    | go_values | go_skip | go_guarded | go_step | go_upon | go_back)
  refine Lib.hid ?_
  have hX15 := hXn.below hbm hXn.lt
  have hQ15 := hQn.below hbm hQn.lt
  have hT15 := hTn.below hbm hTn.lt
  have hb15 := below_next' hbn hbm
  have hF15 := hF14.below hbm hF14.lt
  clear hFn hln hbm hXn hbn hQn hTn
  clear hF14 hT15
  repeat (first
    | ((with_reducible refine wpl_loadS g5 _ Q.c.toArray Tryd.underlying44 rfl i44 hQ15 hqs ?_ ?_ ?_); (focus rfl); (focus rfl); simp only [Act.put, List.setIfInBounds_toArray, List.set_cons_zero, List.set_cons_succ])
    | (go_at_call 19; refine Hid.out ?_)
    | go_values | go_skip | go_guarded | go_step | go_upon | go_back)
  refine Lib.hid ?_
  refine (HAU.out w15).mono ?_
  rintro e w16 ⟨rfl, hb16⟩
  simp only []
  have hX16 := hX15.below hb16 hX15.lt
  have hQ16 := hQ15.below hb16 hQ15.lt
  have hF16 := hF15.below hb16 hF15.lt
  have hb16 := below_next' hb15 hb16
  have d1 := (rq_cells hQ16).2.1
  rw [hqm] at d1
  have dx := hF16.cell 1
  simp only [RpV.c, List.getElem?_toArray, List.getElem?_cons_zero, List.getElem?_cons_succ] at dx
  clear hX15 hQ15 hF15 hb15
  repeat (first
    | (go_at_call 17; refine Hid.out ?_)
    | go_values | go_skip | go_guarded | go_step | go_upon | go_back)
  refine Lib.hid ?_
  refine (ctime_any w16 g ⟨3, 1, 1, false, rq0, (tol0.set 0 (some tlW)).set 2 (some tlW)⟩ hX16).mono ?_
  rintro e w17 ⟨rfl, rfl⟩
  simp only []
  go_wp2_with fail
  go_ret
  exact ⟨rfl, hb16⟩
end Go.Proofs.YtbbcofpdfkhljaaDoor
