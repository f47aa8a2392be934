/- tag: the anchor holds. -/
import Derived.Test.YtohfgplaocgadaaDoorTe
namespace Go.Proofs.YtohfgplaocgadaaDoor
open Go.RowKit Go.Rat
theorem rb_head {w : World} {g : Nat} {T : TypeId} {xs : List UInt8} (h : Blk w g T (bvs xs).toArray) (hl : xs.length = 32) : RB w (some ⟨g, 0, none⟩) 4 (xs.take 4) := by
  have := (rb_row h 32 hl).take_ (k := 4) (by omega)
  rw [Nat.mul_one, show (bvs xs).take 4 = bvs (xs.take 4) by simp [bvs, List.map_take]] at this
  exact this
theorem rb_tail {w : World} {g : Nat} {T : TypeId} {xs : List UInt8} (h : Blk w g T (bvs xs).toArray) (hl : xs.length = 32) : RB w (some ⟨g, 28, none⟩) 4 (xs.drop 28) := by
  have := Reads.cut (rb_row h 32 hl) (k := 28) (cap := 32) (by omega) (by omega)
  rw [if_neg (by decide), Nat.mul_one, show (bvs xs).drop 28 = bvs (xs.drop 28) by simp [bvs, List.map_drop]] at this
  exact this
set_option maxRecDepth 8000 in
set_option maxHeartbeats 4000000 in
theorem works3_any (n : Nat) (hn64 : n = 64) (w : World) (tb : List Int) (htb : tblL = tb) (hT : Tab w tb) : Calls Tryd.prog 17 #[] w fun e w' => e = .returned (.bool true) ∧ Below w.heap.size w w' := by
  have e1 : (ofF n tb key20 hiB).take 4 = [176, 52, 76, 97] := by rw [hn64, ← htb]; exact tev1
  have e2 : (ofF n tb key20 hiB).drop 28 = [46, 50, 207, 247] := by rw [hn64, ← htb]; exact tev2
  have e3 : (ofF n tb jefeB wantB).take 4 = [91, 220, 193, 70] := by rw [hn64, ← htb]; exact tev3
  have e4 : (ofF n tb jefeB wantB).drop 28 = [100, 236, 56, 67] := by rw [hn64, ← htb]; exact tev4
  have hl1 := ofF_length n tb key20 hiB
  have hl2 := ofF_length n tb jefeB wantB
  obtain ⟨F1, hF1⟩ : ∃ F, ofF n tb key20 hiB = F := ⟨_, rfl⟩
  obtain ⟨F2, hF2⟩ : ∃ F, ofF n tb jefeB wantB = F := ⟨_, rfl⟩
  rw [hF1] at e1 e2 hl1
  rw [hF2] at e3 e4 hl2
  have hs1 : (bvs F1).toArray.size = 32 := by rw [bvs_size, hl1]
  have hs2 : (bvs F2).toArray.size = 32 := by rw [bvs_size, hl2]
  have HF1 := Lib.hid hF1
  have HF2 := Lib.hid hF2
  have HN := Lib.hid hn64
  have E1 := Lib.hid e1
  have E2 := Lib.hid e2
  have E3 := Lib.hid e3
  have E4 := Lib.hid e4
  clear hF1 hF2 hn64 htb e1 e2 e3 e4
  have kc := fun (w : World) (C : Array Value) (n c : Nat) => Lib.run_convert_bytes_const (P := Tryd.prog) w 28 5 C n c Tryd.underlying28 Tryd.underlying5
  go_enter Tryd.func17, Tryd.ntmps17
  go_wp2_with fail
  go_loopw [1, 2] (fun v i wr => ∃ A c, ∃ k : Nat, k ≤ 20 ∧ v = .slice A k c ∧ i = .int .i64 (k : Int) ∧ OB 5 wr w.heap.size A k c (List.replicate k 11) ∧ Below w.heap.size w wr) (fun _ i _ => 20 - (intOf i).toNat)
  case atStart => exact ⟨none, 0, 0, by omega, rfl, rfl, OB.nil_ _ _ _, Below.refl _ _⟩
  case round =>
    obtain ⟨A, c, k, hk, rfl, rfl, hO, hb⟩ := hrel
    by_cases hk20 : k < 20
    · have g1 : (k : Int) < 20 := by omega
      have hbs := hb.size
      go_wp2_with (at_builtin; refine app_bytes rfl _ _ rfl w.heap.size _ _ _ _ rfl (hO.alloc _) _ _ _ [11] rfl (RB.one_ _ _ rfl) (by omega) (by simp; omega) ?_; intro A2 N2 c2 w2 hc2 hc3 hO2 hG2)
      have hN2 := hO2.len
      rw [List.length_append, List.length_replicate] at hN2
      obtain rfl : N2 = k + 1 := hN2.symm
      rw [← List.replicate_succ'] at hO2
      exact ⟨⟨A2, c2, k + 1, by omega, rfl, congrArg (Value.int .i64) (by omega), hO2, hG2.own (below_alloc2 hb (Nat.le_refl _) _) (Nat.le_refl _) (hO.alloc _)⟩, by simp only [intOf]; omega⟩
    · obtain rfl : k = 20 := by omega
      have g1 : ¬ ((20 : Nat) : Int) < 20 := by decide
      have hrk : RB wr A 20 key20 := hO.reads
      have hck := hO.cap.1
      have hTk := Tab.below hT hb
      have hT2 := Tab.below hTk (below_alloc wr (.cells (bvs hiB).toArray 5 (8, 9)))
      have hrh := rb_lit wr 5 (8, 9) hiB
      have hrk2 := hrk.alloc (.cells (bvs hiB).toArray 5 (8, 9))
      have hbb2 := hb.trans ((below_alloc wr (.cells (bvs hiB).toArray 5 (8, 9))).mono hb.size)
      rw [show (bvs hiB).toArray = #[.int .u8 72, .int .u8 105, .int .u8 32, .int .u8 84, .int .u8 104, .int .u8 101, .int .u8 114, .int .u8 101] from rfl] at hT2 hrh hrk2 hbb2
      rw [show hiB.length = 8 from rfl] at hrh
      go_wp2_with fail
      clear hrk hTk hO hb
      generalize (wr.alloc (.cells #[.int .u8 72, .int .u8 105, .int .u8 32, .int .u8 84, .int .u8 104, .int .u8 101, .int .u8 114, .int .u8 101] 5 (8, 9))) = w1 at *
      generalize wr.heap.size = gh at *
      refine (of_any n HN.out w1 A 20 c key20 hrk2 hck (by omega) (some ⟨gh, 0, none⟩) 8 8 hiB hrh (by omega) (by omega) tb hT2).mono ?_
      rw [HF1.out]
      rintro e w2 ⟨rfl, hb2⟩
      simp only []
      have hbb3 := hbb2.trans (hb2.mono hbb2.size)
      have hT3 := Tab.below hT2 hb2
      clear hrk2 hrh hT2 hbb2 hb2
      repeat (first
        | ((with_reducible refine wpl_store_fresh (bvs F1).toArray i32x8 ?_ hs1 (bvs_all _) ?_ ?_ ?_); (focus kernel_rfl); (focus rfl); (focus rfl); intro w4 hA4 hl4 hb4; refine Hid.out ?_)
        | go_values | go_skip | go_guarded | go_step | go_upon | go_back)
      refine Lib.hid ?_
      have hbb4 := hbb3.trans (hb4.mono hbb3.size)
      have hT4 := Tab.below hT3 (hb4.mono (Nat.le_refl _))
      clear hT3 hbb3 hb4
      generalize w2.heap.size = GA at *
      have hbj := (below_alloc w4 (.cells #[.int .u8 74, .int .u8 101, .int .u8 102, .int .u8 101] 5 (4, 5))).alloc (by simp) (.cells #[.int .u8 119, .int .u8 104, .int .u8 97, .int .u8 116, .int .u8 32, .int .u8 100, .int .u8 111, .int .u8 32, .int .u8 121, .int .u8 97, .int .u8 32, .int .u8 119, .int .u8 97, .int .u8 110, .int .u8 116, .int .u8 32, .int .u8 102, .int .u8 111, .int .u8 114, .int .u8 32, .int .u8 110, .int .u8 111, .int .u8 116, .int .u8 104, .int .u8 105, .int .u8 110, .int .u8 103, .int .u8 63] 5 (28, 29))
      have hrj : RB ((w4.alloc (.cells #[.int .u8 74, .int .u8 101, .int .u8 102, .int .u8 101] 5 (4, 5))).alloc (.cells #[.int .u8 119, .int .u8 104, .int .u8 97, .int .u8 116, .int .u8 32, .int .u8 100, .int .u8 111, .int .u8 32, .int .u8 121, .int .u8 97, .int .u8 32, .int .u8 119, .int .u8 97, .int .u8 110, .int .u8 116, .int .u8 32, .int .u8 102, .int .u8 111, .int .u8 114, .int .u8 32, .int .u8 110, .int .u8 111, .int .u8 116, .int .u8 104, .int .u8 105, .int .u8 110, .int .u8 103, .int .u8 63] 5 (28, 29))) (some ⟨w4.heap.size, 0, none⟩) 4 jefeB := (rb_lit w4 5 (4, 5) jefeB).alloc _
      have hrw : RB ((w4.alloc (.cells #[.int .u8 74, .int .u8 101, .int .u8 102, .int .u8 101] 5 (4, 5))).alloc (.cells #[.int .u8 119, .int .u8 104, .int .u8 97, .int .u8 116, .int .u8 32, .int .u8 100, .int .u8 111, .int .u8 32, .int .u8 121, .int .u8 97, .int .u8 32, .int .u8 119, .int .u8 97, .int .u8 110, .int .u8 116, .int .u8 32, .int .u8 102, .int .u8 111, .int .u8 114, .int .u8 32, .int .u8 110, .int .u8 111, .int .u8 116, .int .u8 104, .int .u8 105, .int .u8 110, .int .u8 103, .int .u8 63] 5 (28, 29))) (some ⟨w4.heap.size + 1, 0, none⟩) 28 wantB := by
        have := rb_lit (w4.alloc (.cells #[.int .u8 74, .int .u8 101, .int .u8 102, .int .u8 101] 5 (4, 5))) 5 (28, 29) wantB
        rw [show (w4.alloc (.cells #[.int .u8 74, .int .u8 101, .int .u8 102, .int .u8 101] 5 (4, 5))).heap.size = w4.heap.size + 1 by simp] at this
        exact this
      have kc2 := kc (w4.alloc (.cells #[.int .u8 74, .int .u8 101, .int .u8 102, .int .u8 101] 5 (4, 5))) #[.int .u8 119, .int .u8 104, .int .u8 97, .int .u8 116, .int .u8 32, .int .u8 100, .int .u8 111, .int .u8 32, .int .u8 121, .int .u8 97, .int .u8 32, .int .u8 119, .int .u8 97, .int .u8 110, .int .u8 116, .int .u8 32, .int .u8 102, .int .u8 111, .int .u8 114, .int .u8 32, .int .u8 110, .int .u8 111, .int .u8 116, .int .u8 104, .int .u8 105, .int .u8 110, .int .u8 103, .int .u8 63] 28 28
      rw [show (w4.alloc (.cells #[.int .u8 74, .int .u8 101, .int .u8 102, .int .u8 101] 5 (4, 5))).heap.size = w4.heap.size + 1 by simp] at kc2
      go_wp2_with fail
      clear kc2
      have hbb5 := hbb4.trans (hbj.mono hbb4.size)
      have hT5 := Tab.below hT4 hbj
      have hA5 := hA4.below hbj hA4.lt
      clear hbj hT4 hbb4 hA4
      generalize ((w4.alloc (.cells #[.int .u8 74, .int .u8 101, .int .u8 102, .int .u8 101] 5 (4, 5))).alloc (.cells #[.int .u8 119, .int .u8 104, .int .u8 97, .int .u8 116, .int .u8 32, .int .u8 100, .int .u8 111, .int .u8 32, .int .u8 121, .int .u8 97, .int .u8 32, .int .u8 119, .int .u8 97, .int .u8 110, .int .u8 116, .int .u8 32, .int .u8 102, .int .u8 111, .int .u8 114, .int .u8 32, .int .u8 110, .int .u8 111, .int .u8 116, .int .u8 104, .int .u8 105, .int .u8 110, .int .u8 103, .int .u8 63] 5 (28, 29))) = w5 at *
      generalize w4.heap.size = gj at *
      refine (of_any n HN.out w5 (some ⟨gj, 0, none⟩) 4 4 jefeB hrj (by omega) (by omega) (some ⟨gj + 1, 0, none⟩) 28 28 wantB hrw (by omega) (by omega) tb hT5).mono ?_
      rw [HF2.out]
      rintro e w6 ⟨rfl, hb6⟩
      simp only []
      have hbb6 := hbb5.trans (hb6.mono hbb5.size)
      have hT6 := Tab.below hT5 hb6
      have hA6 := hA5.below hb6 hA5.lt
      clear hrj hrw hT5 hbb5 hb6 hA5
      repeat (first
        | ((with_reducible refine wpl_store_fresh (bvs F2).toArray i32x8 ?_ hs2 (bvs_all _) ?_ ?_ ?_); (focus kernel_rfl); (focus rfl); (focus rfl); intro w7 hC7 hl7 hb7; refine Hid.out ?_)
        | go_values | go_skip | go_guarded | go_step | go_upon | go_back)
      refine Lib.hid ?_
      have hbb7 := hbb6.trans (hb7.mono hbb6.size)
      have hT7 := Tab.below hT6 (hb7.mono (Nat.le_refl _))
      have hA7 := hA6.below hb7 hA6.lt
      clear hT6 hbb6 hb7 hA6
      generalize w6.heap.size = GB at *
      have k1 := conv_str (rb_head hA7 hl1) 32
      have k2 := conv_str (rb_tail hA7 hl1) 4
      have k3 := conv_str (rb_head hC7 hl2) 32
      have k4 := conv_str (rb_tail hC7 hl2) 4
      rw [E1.out, show bstr [176, 52, 76, 97] = ⟨#[176, 52, 76, 97]⟩ from rfl] at k1
      rw [E2.out, show bstr [46, 50, 207, 247] = ⟨#[46, 50, 207, 247]⟩ from rfl] at k2
      rw [E3.out, show bstr [91, 220, 193, 70] = ⟨#[91, 220, 193, 70]⟩ from rfl] at k3
      rw [E4.out, show bstr [100, 236, 56, 67] = ⟨#[100, 236, 56, 67]⟩ from rfl] at k4
      go_wp2_with (first
        | (go_at_call 21; refine (replica_some n HN.out w7 1 (by omega) (by omega) tb hT7).mono ?_; rintro e w8 ⟨A8, c8, rfl, hO8, hb8⟩)
        | (go_at_call 21; refine (replica_none w8 0 (by omega)).mono ?_; rintro e w9 ⟨rfl, rfl⟩))
      go_ret
      exact ⟨rfl, hbb7.trans (hb8.mono hbb7.size)⟩
end Go.Proofs.YtohfgplaocgadaaDoor
