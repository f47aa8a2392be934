/- cell: the anchor. -/
import Derived.Test.YtmjdfajdompkeaaCj
import Derived.Test.YtmjdfajdompkeaaCk
import Derived.Lib.SlBytesConst
namespace Go.Proofs.Ytmjdfajdompkeaa
open Go.RowKit Go.Rat
theorem rb_lit (w : World) (e : TypeId) (fr : Nat × Nat) (l : List UInt8) : RB (w.alloc (.cells (bvs l).toArray e fr)) (some ⟨w.heap.size, 0, none⟩) l.length l := by
  refine ⟨by simp [bvs_length], fun _ => ⟨_, rfl, by simp, fun j u hu => ?_⟩⟩
  rw [show (⟨w.heap.size, 0, none⟩ : Addr).add j = ⟨w.heap.size, j, none⟩ by unfold Addr.add; split <;> simp_all, cell_of_row (w.alloc (.cells (bvs l).toArray e fr)) w.heap.size j (bvs l).toArray e fr (_root_.Go.heap_alloc_new w _), List.getElem?_toArray]
  exact hu
/-- What the anchor comes to. -/
def ab : List UInt8 := [97, 98]
theorem zs_cnt : cntB zs = 0 := by decide +kernel
theorem open_zero {p : Int} (hp : 0 ≤ p ∧ p + 20 ≤ 32768) : opE ds0 p = 9 := by
  have h : ∀ s, s ≤ 1 → (slotV ds0 p s).1 = 0 := by
    intro s hs
    by_cases h : (slotV ds0 p s).1 = 0
    · exact h
    · obtain ⟨b, h1, h2⟩ := rdF_of h 0 (by omega)
      rw [view_is (d := ds0) rfl (by omega) (b := zs) rfl] at h1
      cases h1
      rw [zs_cnt] at h2
      exact h2.symm
  rw [opE, if_neg (by decide), if_pos ⟨h 0 (by omega), h 1 (by omega)⟩]
structure Wk5 (d1 d2 : DS) : Prop where
  f1 : fmF ds0 0 = (d1, 0)
  o1 : opE d1 0 = 0
  c1 : openCell d1 0 = ⟨0, [], 0, false⟩
  l1 : d1.loose = []
  f2 : ptF d1 0 0 ab = (d2, 0)
  o2 : opE d2 0 = 0
  c2 : openCell d2 0 = ⟨0, ab, 1, false⟩
theorem wk5 : ∃ d1 d2, Wk5 d1 d2 := by
  obtain ⟨h1, h2, h3, h4, h5, _⟩ := format_calm (d := ds0) (p := 0) (by omega) rfl rfl
  obtain ⟨k1, _, _, _, k5, _⟩ := put_calm (b := ab) h3 h5 (by decide) (by decide)
  obtain ⟨o1, o2⟩ := h5.open_
  obtain ⟨q1, q2⟩ := k5.open_
  refine ⟨(fmF ds0 0).1, (ptF (fmF ds0 0).1 0 0 ab).1, ⟨?_, o1, ?_, h4, ?_, q1, ?_⟩⟩
  · exact Prod.ext rfl h1
  · rw [openCell, o2]
  · exact Prod.ext rfl k1
  · rw [openCell, q2]
set_option maxRecDepth 20000 in
set_option maxHeartbeats 8000000 in
theorem works5_any (w : World) : Calls Try.prog 37 #[] w fun e w' => e = .returned (.bool true) ∧ Below w.heap.size w w' := by
  obtain ⟨d1, d2, H⟩ := wk5
  have HF1 := Lib.hid H.f1
  have HO1 := Lib.hid H.o1
  have HC1 := Lib.hid H.c1
  have HL1 := Lib.hid H.l1
  have HF2 := Lib.hid H.f2
  have HO2 := Lib.hid H.o2
  have HC2 := Lib.hid H.c2
  have hz := open_zero (p := 0) (by omega)
  have HZ := Lib.hid hz
  clear H hz
  obtain ⟨base, hbase⟩ : ∃ b, w.heap.size = b := ⟨_, rfl⟩
  have HBASE := Lib.hid hbase
  go_enter Try.func37, Try.ntmps37
  go_wp2_with fail
  refine (dnew_any w).mono ?_
  rintro e w1 ⟨l0, rfl, hD, hb⟩
  have hbb : Below w.heap.size w w1 ∧ base ≤ w1.heap.size := ⟨hb, by rw [← hbase]; exact hb.size⟩
  rw [hbase] at hD
  clear hb hbase
  simp only []
  obtain ⟨g, hlg⟩ : ∃ g, l0.g = g := ⟨_, rfl⟩
  rw [hlg]
  go_wp2_with fail
  refine (cformat_any w1 base l0 ds0 hD g hlg hbb.2 (by decide) 0 (by omega)).mono ?_
  rw [HF1.out]
  rintro e w2 ⟨l1, rfl, hlg1, hD1, hm⟩
  have hbb := base_moved hbb (Nat.le_of_eq HBASE.out) hD hm
  simp only []
  clear hm hD hlg
  go_wp2_with fail
  refine (copen_any w2 base l1 d1 hD1 g hlg1 hbb.2 0 (by omega)).mono ?_
  rw [HO1.out, HC1.out]
  rintro e w3 ⟨(⟨h, _⟩ | ⟨_, k, rfl, hC, hk⟩), hb⟩
  · exact absurd rfl h
  have hbb := below_base hbb hb
  have hD1 := hD1.below hb
  simp only []
  clear hb hk
  go_wp2_with fail
  refine (cget_any w3 base l1 k _ hC).mono ?_
  rintro e w4 ⟨A, c, rfl, hO, hb⟩
  have hbb := below_base hbb hb
  have hD1 := hD1.below hb
  have hC := hC.below hb
  simp only []
  clear hb hO
  go_upto_region 6 with (fail)
  have kc := fun (w : World) (C : Array Value) (n c : Nat) => Lib.run_convert_bytes_const (P := Try.prog) w 22 5 C n c Try.underlying22 Try.underlying5
  go_wp2_with fail
  have hrab := rb_lit w4 5 (2, 3) ab
  have hb := below_alloc w4 (.cells (bvs ab).toArray 5 (2, 3))
  have hab : (.cells #[.int .u8 97, .int .u8 98] 5 (2, 3) : Obj) = .cells (bvs ab).toArray 5 (2, 3) := rfl
  rw [hab]
  have hD1' := hD1.below hb
  have hC' := hC.below hb
  have hbb' := below_base hbb hb
  have hap : 2 ≠ 0 → ∀ x, (some (⟨w4.heap.size, 0, none⟩ : Addr)).map (·.block) = some x → ¬ l1.fp x ∧ x ≠ k := fun _ x hx => by
    have hxe : w4.heap.size = x := Option.some.inj hx
    have hkl := hC.lt
    refine ⟨fun hf => ?_, by omega⟩
    have := (hD1.fp_lt hf).2
    omega
  obtain ⟨w5, hw5⟩ : ∃ x, w4.alloc (.cells (bvs ab).toArray 5 (2, 3)) = x := ⟨_, rfl⟩
  rw [hw5] at hrab hD1' hC' hbb' ⊢
  clear hb hab hw5 hbb hD1 hC kc
  refine (cput_any w5 base l1 d1 hD1' g hlg1 hbb'.2 (by rw [HL1.out]; decide) k _ hC' (show (0 : Int) ≤ 0 ∧ (0 : Int) + 20 ≤ 32768 by omega) rfl _ 2 2 ab hrab (by omega) hap).mono ?_
  simp only []
  rw [HF2.out]
  rintro e w6 ⟨l2, rfl, hlg2, hD2, hC2, hm⟩
  have hbb : Below w.heap.size w w6 ∧ base ≤ w6.heap.size := by
    have h1 := HBASE.out
    refine ⟨hbb'.1.trans (hm.chg.below (fun x hx => ?_) hbb'.1.size), Nat.le_trans hbb'.2 hm.chg.size⟩
    rcases hx with hx | hx
    · have := (hD1'.fp_lt hx).1
      omega
    · have := hC'.bk
      omega
  simp only []
  clear hm hD1' hC' hap hrab hbb' hC2
  go_wp2_with fail
  refine (copen_any w6 base l2 d2 hD2 g hlg2 hbb.2 0 (by omega)).mono ?_
  rw [HO2.out, HC2.out]
  rintro e w7 ⟨(⟨h, _⟩ | ⟨_, k2, rfl, hC, hk⟩), hb⟩
  · exact absurd rfl h
  have hbb := below_base hbb hb
  simp only []
  clear hb hk hD2
  go_wp2_with fail
  refine (dnew_any w7).mono ?_
  rintro e w8 ⟨l8, rfl, hD8, hb⟩
  have hbb := below_base hbb hb
  have hC := hC.below hb
  simp only []
  obtain ⟨g8, hlg8⟩ : ∃ g, l8.g = g := ⟨_, rfl⟩
  rw [hlg8]
  have hs8 := hb.size
  clear hb
  go_wp2_with fail
  refine (copen_any w8 w7.heap.size l8 ds0 hD8 g8 hlg8 hs8 0 (by omega)).mono ?_
  rw [HZ.out]
  rintro e w9 ⟨(⟨_, rfl⟩ | ⟨h, _⟩), hb⟩
  rotate_left
  · exact absurd h (by decide)
  have hbb := below_base hbb hb
  have hC := hC.below hb
  simp only []
  clear hb hD8
  go_wp2_with fail
  refine (cget_any w9 base l2 k2 _ hC).mono ?_
  rintro e w10 ⟨A2, c2, rfl, hO, hb⟩
  have hbb := below_base hbb hb
  have hcv := conv_str hO.reads c2
  have hbs : bstr ab = ⟨#[97, 98]⟩ := rfl
  simp only [hbs] at hcv
  clear hbs
  simp only []
  clear hb hO hC
  go_wp2_with fail
  go_ret
  exact ⟨rfl, hbb.1⟩
end Go.Proofs.Ytmjdfajdompkeaa
