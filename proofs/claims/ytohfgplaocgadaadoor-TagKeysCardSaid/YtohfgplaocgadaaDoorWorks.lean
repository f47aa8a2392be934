/- the anchor of the digests holds. -/
import Derived.Test.YtohfgplaocgadaaDoorFirst
import Derived.Test.YtohfgplaocgadaaDoorEqs
import Derived.Lib.SlBytesConst
namespace Go.Proofs.YtohfgplaocgadaaDoor
open Go.RowKit Go.Rat
set_option maxHeartbeats 1200000 in
theorem rstart_any (w : World) : Calls Tryd.prog 34 #[] w fun e w' => e = .returned (.agg (u32s start).toArray) ∧ Below w.heap.size w w' := by
  obtain ⟨t, hT⟩ : ∃ t, (u32s start).toArray = t := ⟨_, rfl⟩
  have hts : t.size = 8 := by rw [← hT, u32s_size]; rfl
  have ht1 : t.all (·.oneCell') = true := by rw [← hT]; exact u32s_one _
  rw [hT]
  have HT := Lib.hid hT
  clear hT
  go_enter Tryd.func34, Tryd.ntmps34
  repeat (first
            | ((with_reducible refine wpl_build t ?_ ?_); (focus rw [← HT.out]; kernel_rfl); simp only [Act.put, List.setIfInBounds_toArray, List.set_cons_zero, List.set_cons_succ])
            | ((with_reducible refine wpl_store w.heap.size _ _ t i8x32 (Blk.new w _ _) ?_ hts ht1 ?_ ?_ ?_); (focus kernel_rfl); (focus rfl); (focus rfl))
            | go_values | go_skip | go_guarded | go_step | go_upon | go_back)
  refine bodyPost_ret (results_cell_row rfl _ _ w.heap.size _ _ (0, 0) _ rfl ((Blk.new w _ _).setRow _) Tryd.underlying23 rfl (by rw [hts]; exact i8x32)) rfl ?_
  exact ⟨rfl, (below_alloc _ _).grown (grownBy_setRow _ _ _) (by simp) (fun q hq => by cases hq; exact Nat.le_refl _)⟩
theorem rb_lit (w : World) (e : TypeId) (fr : Nat × Nat) (l : List UInt8) : RB (w.alloc (.cells (bvs l).toArray e fr)) (some ⟨w.heap.size, 0, none⟩) l.length l := by
  refine ⟨by simp [bvs_length], fun _ => ⟨_, rfl, by simp, fun j u hu => ?_⟩⟩
  rw [show (⟨w.heap.size, 0, none⟩ : Addr).add j = ⟨w.heap.size, j, none⟩ by unfold Addr.add; split <;> simp_all, cell_of_row (w.alloc (.cells (bvs l).toArray e fr)) w.heap.size j (bvs l).toArray e fr (_root_.Go.heap_alloc_new w _), List.getElem?_toArray]
  exact hu
set_option maxRecDepth 8000 in
set_option maxHeartbeats 1200000 in
theorem works_any (n : Nat) (hn64 : n = 64) (w : World) (tb : List Int) (htb : tblL = tb) (hT : Tab w tb) : Calls Tryd.prog 13 #[] w fun e w' => e = .returned (.bool true) ∧ Below w.heap.size w w' := by
  have hd0 := digest_length n tb []
  have hd1 := digest_length n tb abcB
  have hd2 := digest_length n tb longB
  have e0 : firstF (digest n tb []) 8 = 16406829232276289621 := by rw [hn64, ← htb]; exact ev0
  have e1 : firstF (digest n tb abcB) 8 = 13436514501914531245 := by rw [hn64, ← htb]; exact ev1
  have e2 : firstF (digest n tb longB) 8 = 2633878322359764673 := by rw [hn64, ← htb]; exact ev2
  have HN := Lib.hid hn64
  clear hn64 htb
  obtain ⟨D0, hD0⟩ : ∃ D, digest n tb [] = D := ⟨_, rfl⟩
  obtain ⟨D1, hD1⟩ : ∃ D, digest n tb abcB = D := ⟨_, rfl⟩
  obtain ⟨D2, hD2⟩ : ∃ D, digest n tb longB = D := ⟨_, rfl⟩
  rw [hD0] at hd0 e0
  rw [hD1] at hd1 e1
  rw [hD2] at hd2 e2
  have HD0 := Lib.hid hD0
  have HD1 := Lib.hid hD1
  have HD2 := Lib.hid hD2
  have E0 := Lib.hid e0
  have E1 := Lib.hid e1
  have E2 := Lib.hid e2
  clear hD0 hD1 hD2 e0 e1 e2
  obtain ⟨st, hst⟩ : ∃ st, (u32s start).toArray = st := ⟨_, rfl⟩
  have keq : ∀ w, (Op.equalIn 10000 23 (.agg st) (.agg st)).run Tryd.prog w = .ok true w := fun w => by rw [← hst, eql8 start start rfl rfl w, decide_eq_true rfl]
  have HST := Lib.hid hst
  clear hst
  go_enter Tryd.func13, Tryd.ntmps13
  have kc := fun (w : World) (C : Array Value) (n c : Nat) => Lib.run_convert_bytes_const (P := Tryd.prog) w 28 5 C n c Tryd.underlying28 Tryd.underlying5
  obtain ⟨CL, hCL⟩ : ∃ CL : Array Value, (bvs longB).toArray = CL := ⟨_, rfl⟩
  have hLit : (#[.int .u8 97, .int .u8 98, .int .u8 99, .int .u8 100, .int .u8 98, .int .u8 99, .int .u8 100, .int .u8 101, .int .u8 99, .int .u8 100, .int .u8 101, .int .u8 102, .int .u8 100, .int .u8 101, .int .u8 102, .int .u8 103, .int .u8 101, .int .u8 102, .int .u8 103, .int .u8 104, .int .u8 102, .int .u8 103, .int .u8 104, .int .u8 105, .int .u8 103, .int .u8 104, .int .u8 105, .int .u8 106, .int .u8 104, .int .u8 105, .int .u8 106, .int .u8 107, .int .u8 105, .int .u8 106, .int .u8 107, .int .u8 108, .int .u8 106, .int .u8 107, .int .u8 108, .int .u8 109, .int .u8 107, .int .u8 108, .int .u8 109, .int .u8 110, .int .u8 108, .int .u8 109, .int .u8 110, .int .u8 111, .int .u8 109, .int .u8 110, .int .u8 111, .int .u8 112, .int .u8 110, .int .u8 111, .int .u8 112, .int .u8 113] : Array Value) = CL := by rw [← hCL]; rfl
  have HCL := Lib.hid hCL
  clear hCL
  go_wp2_with fail
  have hr1 := rb_lit w 5 (CL.size, CL.size + 1) longB
  rw [HCL.out, show longB.length = 56 from rfl] at hr1
  have hb1 := below_alloc w (.cells CL 5 (CL.size, CL.size + 1))
  have hT1 := Tab.below hT hb1
  clear hLit
  generalize (w.alloc (.cells CL 5 (CL.size, CL.size + 1))) = w1 at *
  refine (sum_any n HN.out w1 none 0 0 [] tb hT1 (RB.nil_ _ _) (by omega) (by omega)).mono ?_
  rw [HD0.out]
  rintro e w2 ⟨rfl, hb2⟩
  simp only []
  have hT2 := Tab.below hT1 hb2
  have hr2 := hr1.below hb2
  have hbb2 := hb1.trans (hb2.mono hb1.size)
  clear hT1 hr1 hb2 hb1
  go_wp2_with (go_at_call 32; refine (first_any 8 rfl w2 D0 hd0).mono ?_; rw [E0.out]; rintro e w3 ⟨rfl, hb3⟩)
  have hT3 := Tab.below hT2 hb3
  have hr3 := hr2.below hb3
  have hbb3 := hbb2.trans (hb3.mono hbb2.size)
  have hra := rb_lit w3 5 (3, 4) abcB
  have hba := below_alloc w3 (.cells (bvs abcB).toArray 5 (3, 4))
  rw [show abcB.length = 3 from rfl, show (bvs abcB).toArray = #[.int .u8 97, .int .u8 98, .int .u8 99] from rfl] at hra
  rw [show (bvs abcB).toArray = #[.int .u8 97, .int .u8 98, .int .u8 99] from rfl] at hba
  have hT4 := Tab.below hT3 hba
  have hr4 := hr3.below hba
  have hbb4 := hbb3.trans (hba.mono hbb3.size)
  clear hT2 hr2 hbb2 hb3 hT3 hr3 hbb3 hba
  generalize w3.alloc (.cells #[.int .u8 97, .int .u8 98, .int .u8 99] 5 (3, 4)) = w4 at *
  generalize w3.heap.size = g3 at *
  refine (sum_any n HN.out w4 (some ⟨g3, 0, none⟩) 3 3 abcB tb hT4 hra (by omega) (by omega)).mono ?_
  rw [HD1.out]
  rintro e w5 ⟨rfl, hb5⟩
  simp only []
  have hT5 := Tab.below hT4 hb5
  have hr5 := hr4.below hb5
  have hbb5 := hbb4.trans (hb5.mono hbb4.size)
  clear hT4 hr4 hb5 hbb4
  go_wp2_with (go_at_call 32; refine (first_any 8 rfl w5 D1 hd1).mono ?_; rw [E1.out]; rintro e w6 ⟨rfl, hb6⟩)
  have hT6 := Tab.below hT5 hb6
  have hr6 := hr5.below hb6
  have hbb6 := hbb5.trans (hb6.mono hbb5.size)
  clear hT5 hr5 hb6 hbb5
  refine (sum_any n HN.out w6 (some ⟨w.heap.size, 0, none⟩) 56 56 longB tb hT6 hr6 (by omega) (by omega)).mono ?_
  rw [HD2.out]
  rintro e w7 ⟨rfl, hb7⟩
  simp only []
  have hbb7 := hbb6.trans (hb7.mono hbb6.size)
  clear hT6 hr6 hb7 hbb6
  go_wp2_with (go_at_call 32; refine (first_any 8 rfl w7 D2 hd2).mono ?_; rw [E2.out]; rintro e w8 ⟨rfl, hb8⟩)
  have hbb8 := hbb7.trans (hb8.mono hbb7.size)
  clear hb8 hbb7
  refine (start_any w8).mono ?_
  rw [HST.out]
  rintro e w9 ⟨rfl, hb9⟩
  simp only []
  have hbb9 := hbb8.trans (hb9.mono hbb8.size)
  go_wp2_with (go_at_call 34; refine (rstart_any w9).mono ?_; rw [HST.out]; rintro e w10 ⟨rfl, hb10⟩)
  have hbbx := hbb9.trans (hb10.mono hbb9.size)
  go_ret
  exact ⟨rfl, hbbx⟩
end Go.Proofs.YtohfgplaocgadaaDoor
