/- usig: the anchor. -/
import Derived.Test.YtmjdfajdompkeaaDoorVe
namespace Go.Proofs.YtmjdfajdompkeaaDoor
open Go.RowKit Go.Rat
theorem below_umoved {w0 a b : World} {base : Nat} {l l' : DL} {d : DS} {k kc : Nat} {s : US} (h : Below w0.heap.size w0 a ∧ base ≤ a.heap.size) (hw : w0.heap.size ≤ base) (hD : DiskAt a base l d) (hU : UsigAt a base l k kc s) (hm : UMoved a b l l' k kc) : Below w0.heap.size w0 b ∧ base ≤ b.heap.size := base_umoved h hw hD hU hm
set_option maxRecDepth 20000 in
set_option maxHeartbeats 8000000 in
theorem works7_any (n : Nat) (hn64 : n = 64) (w : World) (tb : List Int) (htb : H.tblL = tb) (hT : H.Tab w tb) : Calls Tryd.prog 9 #[] w fun e w' => e = .returned (.bool true) ∧ Below w.heap.size w w' := by
  obtain ⟨f1, f2, f3, f4, f5⟩ := ucalm_format (d := ds0) (p := 0) (by omega) rfl rfl 1
  obtain ⟨n1, n2⟩ := f2.new (i := 1) (by decide)
  obtain ⟨d2, c2, e2, q2, r2, _, _⟩ := f2.next n tb (b := ab) (by decide) (by decide) (by decide)
  obtain ⟨n3, n4⟩ := q2.new (i := 1) (by decide)
  obtain ⟨d3, c3, e3, q3, r3, _, _⟩ := q2.next n tb (b := []) (by decide) (by simp) (by decide)
  have o1 := f2.opens.2
  have o2 := q2.opens.2
  have hk1 : checkU n tb 1 1 ab (H.numF n tb 1 1 ab) = true := by
    unfold checkU
    simp [repB, numB, ab]
  have hk2 : checkU n tb 2 1 ab (H.numF n tb 1 1 ab) = false := by
    have := ev7
    subst hn64 htb
    unfold checkU
    simp only [decide_eq_false this, Bool.and_false]
  have e2 : nextU n tb (fmF ds0 0).1 ⟨1, 0, [], ⟨0, [], 0, false⟩⟩ ab = (d2, ⟨1, 1, ab, c2⟩, 1, H.numF n tb 1 1 ab, 0) := e2
  have e3 : nextU n tb d2 ⟨1, 1, ab, c2⟩ [] = (d3, ⟨1, 2, [], c3⟩, 2, H.numF n tb 1 2 [], 0) := e3
  have n4 : usigF (opF d2 0).2 = some (1, ab) := n4
  have n2b : usigF c2.b = some (1, ab) := by
    have : (opF d2 0).2 = c2.b := by rw [show c2 = openCell d2 0 from o2.symm]; rfl
    rw [← this]; exact n4
  have HN2B := Lib.hid n2b
  obtain ⟨F2, hFF2⟩ : ∃ F, H.numF n tb 1 2 [] = F := ⟨_, rfl⟩
  rw [hFF2] at e3
  have hF2 := H.numF_length n tb 1 2 []
  rw [hFF2] at hF2
  have hF := H.numF_length n tb 1 1 ab
  have hlt3 : lastT n tb ⟨1, 1, ab, c2⟩ = H.numF n tb 1 1 ab := if_neg (show ¬ ((1 : Nat) = 0) by omega)
  obtain ⟨F, hFF⟩ : ∃ F, H.numF n tb 1 1 ab = F := ⟨_, rfl⟩
  rw [hFF] at e2 hk1 hk2 hF hlt3
  have HLT3 := Lib.hid hlt3
  have hx : ∀ w, (Op.equalIn 10000 24 (.agg (bvs F).toArray) (.agg (bvs F).toArray)).run Tryd.prog w = .ok true w := fun w => by rw [H.eql32 F F hF hF w, decide_eq_true rfl]
  have HX := Lib.hid hx
  obtain ⟨d1, hd1⟩ : ∃ x, (fmF ds0 0).1 = x := ⟨_, rfl⟩
  rw [hd1] at f2 f3 n1 n2 o1 e2
  have HF1 := Lib.hid f1
  have HD1 := Lib.hid hd1
  have HL1 := Lib.hid f3
  have HN1 := Lib.hid n1
  have HN2 := Lib.hid n2
  have HO1 := Lib.hid o1
  have HE2 := Lib.hid e2
  have HN3 := Lib.hid n3
  have HN4 := Lib.hid n4
  have HO2 := Lib.hid o2
  have HE3 := Lib.hid e3
  have HR2 := Lib.hid r2
  have HK1 := Lib.hid hk1
  have HK2 := Lib.hid hk2
  have hq := q2.p_
  have hq' : (0 : Int) ≤ c2.p ∧ c2.p + 20 ≤ 32768 := by simp only at hq; omega
  have HQ2 := Lib.hid hq'
  obtain ⟨base, hbase⟩ : ∃ b, w.heap.size = b := ⟨_, rfl⟩
  have HBASE := Lib.hid hbase
  have HN64 := Lib.hid hn64
  clear f1 f2 f3 f4 f5 n1 n2 e2 q2 r2 n3 n4 e3 q3 r3 o1 o2 hk1 hk2 hd1 hq hq' htb hn64 n2b hFF2 hFF hlt3 hx
  go_enter Tryd.func9, Tryd.ntmps9
  go_wp2_with fail
  refine (dnew_any w).mono ?_
  rintro e w1 ⟨l0, rfl, hD, hb⟩
  have hbb : Below w.heap.size w w1 ∧ base ≤ w1.heap.size := ⟨hb, by rw [← hbase]; exact hb.size⟩
  rw [hbase] at hD
  clear hb hbase
  simp only []
  obtain ⟨g, hlg⟩ : ∃ g, l0.g = g := ⟨_, rfl⟩
  rw [hlg]
  go_wp2_with fail
  refine (uformat_any w1 base l0 ds0 hD g hlg hbb.2 (by decide) 0 (by omega)).mono ?_
  rw [HF1.out, HD1.out]
  rintro e w2 ⟨l1, rfl, hlg1, hD1, hm⟩
  have hbb := base_moved hbb (Nat.le_of_eq HBASE.out) hD hm
  simp only []
  clear hm hD hlg
  go_wp2_with fail
  refine (unew_any n HN64.out w2 base l1 d1 hD1 g hlg1 hbb.2 1 0 (by omega) tb (H.Tab.below hT hbb.1)).mono ?_
  rw [HN1.out, HO1.out]
  rintro e w3 ⟨(⟨h, _⟩ | ⟨_, k, kc, m, b, rfl, hus, hU, hk, hkc⟩), hb⟩
  · exact absurd rfl h
  obtain ⟨rfl, rfl⟩ : m = 0 ∧ b = [] := by
    have := hus.symm.trans (show usigF ([] : List UInt8) = some (0, []) from rfl)
    injection this with this
    injection this with e1 e2
    exact ⟨e1, e2⟩
  have hbb := below_base hbb hb
  have hD1 := hD1.below hb
  simp only []
  clear hb hk hkc hus
  go_wp2_with fail
  refine (ulast_any n HN64.out w3 base l1 k kc _ hU tb (H.Tab.below hT hbb.1)).mono ?_
  rintro e w4 ⟨A4, N4, c4, rfl, hO4, hb⟩
  have hbb := below_base hbb hb
  have hD1 := hD1.below hb
  have hU := hU.below hb
  have hlt : (lastT n tb ⟨1, 0, [], ⟨0, [], 0, false⟩⟩) = z32 := rfl
  simp only [hlt]
  clear hb hO4 hlt
  have hz32s : (bvs z32).toArray.size = 32 := by rw [bvs_size, z32_length]
  have hFs : (bvs F).toArray.size = 32 := by rw [bvs_size, hF]
  have hF2s : (bvs F2).toArray.size = 32 := by rw [bvs_size, hF2]
  repeat (first
    | ((with_reducible refine wpl_store_fresh (bvs z32).toArray i32 ?_ hz32s (bvs_all _) ?_ ?_ ?_); (focus kernel_rfl); (focus rfl); (focus rfl); intro w5 hS5 hl hb; simp only [Act.put]; refine Hid.out ?_)
    | go_values | go_skip | go_guarded | go_step | go_upon | go_back)
  refine Lib.hid ?_
  have hbb := below_base hbb hb
  have hD1 := hD1.below hb
  have hU := hU.below hb
  obtain ⟨g7, hg7⟩ : ∃ x, w4.heap.size = x := ⟨_, rfl⟩
  rw [hg7]
  clear hb hl hS5 hg7
  have kc' := fun (w : World) (C : Array Value) (n c : Nat) => Lib.run_convert_bytes_const (P := Tryd.prog) w 23 5 C n c Tryd.underlying23 Tryd.underlying5
  go_wp2_with fail
  have hrab := rb_lit w5 5 (2, 3) ab
  have hb := below_alloc w5 (.cells (bvs ab).toArray 5 (2, 3))
  have hab : (.cells #[.int .u8 97, .int .u8 98] 5 (2, 3) : Obj) = .cells (bvs ab).toArray 5 (2, 3) := rfl
  rw [hab]
  have hap : 2 ≠ 0 → ∀ x, (some (⟨w5.heap.size, 0, none⟩ : Addr)).map (·.block) = some x → ¬ l1.fp x ∧ x ≠ k ∧ x ≠ kc := fun _ x hx => by
    have hxe : w5.heap.size = x := Option.some.inj hx
    have h1 := hU.lt
    have h2 := hU.cell.lt
    refine ⟨fun hf => ?_, by omega, by omega⟩
    have := (hD1.fp_lt hf).2
    omega
  have hD1 := hD1.below hb
  have hU := hU.below hb
  have hbb := below_base hbb hb
  obtain ⟨w6, hw6⟩ : ∃ x, w5.alloc (.cells (bvs ab).toArray 5 (2, 3)) = x := ⟨_, rfl⟩
  rw [hw6] at hrab hD1 hU hbb ⊢
  clear hb hab hw6 kc'
  refine (unext_any n HN64.out w6 base l1 d1 hD1 g hlg1 hbb.2 (by rw [HL1.out]; decide) k kc _ hU (show (0 : Int) ≤ 0 ∧ (0 : Int) + 20 ≤ 32768 by omega) _ 2 2 ab hrab (Nat.le_refl _) hap tb w hT hbb.1 (Nat.le_of_eq HBASE.out)).mono ?_
  rw [HE2.out]
  rintro e w7 ⟨l2, rfl, hlg2, hD2, hU2, hm⟩
  have hbb := base_umoved hbb (Nat.le_of_eq HBASE.out) hD1 hU hm
  simp only [] at hD2 ⊢
  clear hm hD1 hU hrab hap hU2
  repeat (first
    | ((with_reducible refine wpl_store_fresh (bvs F).toArray i32 ?_ hFs (bvs_all _) ?_ ?_ ?_); (focus kernel_rfl); (focus rfl); (focus rfl); intro w8 hS8 hl hb; simp only [Act.put]; refine Hid.out ?_)
    | go_values | go_skip | go_guarded | go_step | go_upon | go_back)
  refine Lib.hid ?_
  have hbb := below_base hbb hb
  have hD2' := hD2
  have hD2 := hD2.below hb
  have hfp2 : ∀ x, l2.fp x → x < w7.heap.size := fun x hx => (hD2'.fp_lt hx).2
  obtain ⟨g9, hg9⟩ : ∃ x, w7.heap.size = x := ⟨_, rfl⟩
  rw [hg9] at hS8 hl hfp2 ⊢
  have hl9 := hl
  clear hb hl hg9 hD2'
  go_wp2_with fail
  refine (unew_any n HN64.out w8 base l2 d2 hD2 g hlg2 hbb.2 1 0 (by omega) tb (H.Tab.below hT hbb.1)).mono ?_
  rw [HN3.out, HO2.out]
  rintro e w9 ⟨(⟨h, _⟩ | ⟨_, k2, kc2, m, b, rfl, hus, hU, hk, hkc⟩), hb⟩
  · exact absurd rfl h
  obtain ⟨rfl, rfl⟩ : m = 1 ∧ b = ab := by
    have := hus.symm.trans HN2B.out
    injection this with this
    injection this with e1 e2
    exact ⟨e1, e2⟩
  have hbb := below_base hbb hb
  have hD2 := hD2.below hb
  have hS8 := hS8.below hb hS8.lt
  simp only []
  have hne9 : ¬ (l2.fp g9 ∨ g9 = k2 ∨ g9 = kc2) := by
    rintro (h | h | h)
    · have := hfp2 _ h
      omega
    · omega
    · omega
  have hk2l := hU.lt
  have hkc2l := hU.cell.lt
  have hs89 := hb.size
  clear hb hus
  go_wp2_with fail
  refine (ulast_any n HN64.out w9 base l2 k2 kc2 _ hU tb (H.Tab.below hT hbb.1)).mono ?_
  rw [HLT3.out]
  rintro e w10 ⟨A4, N4, c4, rfl, hO4, hb⟩
  have hbb := below_base hbb hb
  have hD2 := hD2.below hb
  have hU := hU.below hb
  have hS8 := hS8.below hb hS8.lt
  have hr4 : RB w10 A4 N4 ab := by
    have := hO4.reads
    rwa [show lastB ⟨1, 1, ab, c2⟩ = ab from if_neg (show ¬ ((1 : Nat) = 0) by omega)] at this
  obtain rfl : N4 = 2 := hr4.len.symm
  have hA4 : 2 ≠ 0 → ∀ x, A4.map (·.block) = some x → ¬ (l2.fp x ∨ x = k2 ∨ x = kc2) := fun _ x hx => by
    have h1 := (hO4.ge x hx).1
    rintro (h | h | h)
    · have := hfp2 _ h
      omega
    · omega
    · omega
  have hne15 : ¬ (l2.fp w10.heap.size ∨ w10.heap.size = k2 ∨ w10.heap.size = kc2) := by
    have h1 := hb.size
    rintro (h | h | h)
    · have := hfp2 _ h
      omega
    · omega
    · omega
  simp only []
  clear hb hO4 hk hkc hk2l hkc2l hs89 hfp2
  repeat (first
    | ((with_reducible refine wpl_store_fresh (bvs F).toArray i32 ?_ hFs (bvs_all _) ?_ ?_ ?_); (focus kernel_rfl); (focus rfl); (focus rfl); intro w11 hS11 hl hb; simp only [Act.put]; refine Hid.out ?_)
    | go_values | go_skip | go_guarded | go_step | go_upon | go_back)
  refine Lib.hid ?_
  have hbb := below_base hbb hb
  have hD2 := hD2.below hb
  have hU := hU.below hb
  have hS8 := hS8.below hb hS8.lt
  have hr4 := hr4.below hb
  obtain ⟨g15, hg15⟩ : ∃ x, w10.heap.size = x := ⟨_, rfl⟩
  rw [hg15] at hS11 hne15 ⊢
  clear hb hl hg15
  go_wp2_with fail
  refine (unext_any n HN64.out w11 base l2 d2 hD2 g hlg2 hbb.2 (by rw [HR2.out]; decide) k2 kc2 _ hU HQ2.out none 0 0 [] (RB.nil_ _ _) (Nat.le_refl _) (fun h => absurd rfl h) tb w hT hbb.1 (Nat.le_of_eq HBASE.out)).mono ?_
  rw [HE3.out]
  rintro e w12 ⟨l3, rfl, _, _, _, hm⟩
  have hbb := base_umoved hbb (Nat.le_of_eq HBASE.out) hD2 hU hm
  have hS8 := hm.chg.blk hS8 hne9
  have hS11 := hm.chg.blk hS11 hne15
  have hr4 := hm.chg.rbN hr4 hA4
  simp only []
  clear hm hD2 hU hne9 hne15 hA4
  repeat (first
    | ((with_reducible refine wpl_store_fresh (bvs F2).toArray i32 ?_ hF2s (bvs_all _) ?_ ?_ ?_); (focus kernel_rfl); (focus rfl); (focus rfl); intro w13 hS13 hl hb; simp only [Act.put]; refine Hid.out ?_)
    | go_values | go_skip | go_guarded | go_step | go_upon | go_back)
  refine Lib.hid ?_
  have hbb := below_base hbb hb
  have hS8 := hS8.below hb hS8.lt
  have hS11 := hS11.below hb hS11.lt
  have hr4 := hr4.below hb
  obtain ⟨g17, hg17⟩ : ∃ x, w12.heap.size = x := ⟨_, rfl⟩
  rw [hg17]
  clear hb hl hg17 hS13
  have hcv := conv_str hr4 c4
  have hbs : bstr ab = ⟨#[97, 98]⟩ := rfl
  rw [hbs] at hcv
  have hx := HX.out
  clear hbs hr4
  have kc' := fun (w : World) (C : Array Value) (n c : Nat) => Lib.run_convert_bytes_const (P := Tryd.prog) w 23 5 C n c Tryd.underlying23 Tryd.underlying5
  have hl14 := hS8.alloc (.cells #[.int .u8 97, .int .u8 98] 5 (2, 3))
  have hb14 := below_alloc w13 (.cells #[.int .u8 97, .int .u8 98] 5 (2, 3))
  have hab14 : RB (w13.alloc (.cells #[.int .u8 97, .int .u8 98] 5 (2, 3))) (some ⟨w13.heap.size, 0, none⟩) 2 ab := rb_lit w13 5 (2, 3) ab
  have hck14 : Calls Tryd.prog 11 #[.int .i64 1, .int .u64 1, .slice (some ⟨w13.heap.size, 0, none⟩) 2 2, .agg (bvs F).toArray] (w13.alloc (.cells #[.int .u8 97, .int .u8 98] 5 (2, 3))) fun e w' => e = .returned (.bool true) ∧ Below (w13.alloc (.cells #[.int .u8 97, .int .u8 98] 5 (2, 3))).heap.size (w13.alloc (.cells #[.int .u8 97, .int .u8 98] 5 (2, 3))) w' := by
    have := ucheck_any n HN64.out (w13.alloc (.cells #[.int .u8 97, .int .u8 98] 5 (2, 3))) 1 1 (some ⟨w13.heap.size, 0, none⟩) 2 2 ab hab14 (Nat.le_refl _) F hF tb (H.Tab.below hT (below_next' hbb.1 hb14))
    rw [HK1.out] at this
    exact this
  clear hab14
  repeat (first
    | ((with_reducible refine wpl_loadG g9 _ _ Tryd.underlying24 i32 hS8 hFs ?_ ?_ ?_); (focus rfl); (focus rfl); simp only [Act.put, List.setIfInBounds_toArray, List.set_cons_zero, List.set_cons_succ])
    | ((with_reducible refine wpl_loadG g15 _ _ Tryd.underlying24 i32 hS11 hFs ?_ ?_ ?_); (focus rfl); (focus rfl); simp only [Act.put, List.setIfInBounds_toArray, List.set_cons_zero, List.set_cons_succ])
    | ((with_reducible refine wpl_loadG g9 _ _ Tryd.underlying24 i32 hl14 hFs ?_ ?_ ?_); (focus rfl); (focus rfl); simp only [Act.put, List.setIfInBounds_toArray, List.set_cons_zero, List.set_cons_succ])
    | (go_at_call 11; refine hck14.mono ?_; rintro e w15 ⟨rfl, hb15⟩; simp only []; refine Hid.out ?_)
    | go_values | go_skip | go_guarded | go_step | go_upon | go_back)
  refine Lib.hid ?_
  have hbb := below_base hbb (below_next' hb14 hb15)
  have hS8 := hl14.below hb15 hl14.lt
  clear hl14 hb14 hb15 hck14 hS11 hcv hx
  have hl16 := hS8.alloc (.cells #[.int .u8 97, .int .u8 98] 5 (2, 3))
  have hb16 := below_alloc w15 (.cells #[.int .u8 97, .int .u8 98] 5 (2, 3))
  have hab16 : RB (w15.alloc (.cells #[.int .u8 97, .int .u8 98] 5 (2, 3))) (some ⟨w15.heap.size, 0, none⟩) 2 ab := rb_lit w15 5 (2, 3) ab
  have hck16 : Calls Tryd.prog 11 #[.int .i64 2, .int .u64 1, .slice (some ⟨w15.heap.size, 0, none⟩) 2 2, .agg (bvs F).toArray] (w15.alloc (.cells #[.int .u8 97, .int .u8 98] 5 (2, 3))) fun e w' => e = .returned (.bool false) ∧ Below (w15.alloc (.cells #[.int .u8 97, .int .u8 98] 5 (2, 3))).heap.size (w15.alloc (.cells #[.int .u8 97, .int .u8 98] 5 (2, 3))) w' := by
    have := ucheck_any n HN64.out (w15.alloc (.cells #[.int .u8 97, .int .u8 98] 5 (2, 3))) 2 1 (some ⟨w15.heap.size, 0, none⟩) 2 2 ab hab16 (Nat.le_refl _) F hF tb (H.Tab.below hT (below_next' hbb.1 hb16))
    rw [HK2.out] at this
    exact this
  clear hab16
  repeat (first
    | ((with_reducible refine wpl_loadG g9 _ _ Tryd.underlying24 i32 hl16 hFs ?_ ?_ ?_); (focus rfl); (focus rfl); simp only [Act.put, List.setIfInBounds_toArray, List.set_cons_zero, List.set_cons_succ])
    | (go_at_call 11; refine hck16.mono ?_; rintro e w17 ⟨rfl, hb17⟩; simp only [])
    | go_values | go_skip | go_guarded | go_step | go_upon | go_back)
  go_ret
  exact ⟨rfl, (below_base hbb (below_next' hb16 hb17)).1⟩
end Go.Proofs.YtmjdfajdompkeaaDoor
