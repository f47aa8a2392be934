/- ratchetref03: key, Replica, Client, Numbered. -/
import Derived.Test.YtohfgplaocgadaaDoorTl
namespace Go.Proofs.YtohfgplaocgadaaDoor
open Go.RowKit Go.Rat
set_option maxRecDepth 8000 in
set_option maxHeartbeats 4000000 in
theorem rkey_none (w : World) (s : ByteArray) (i most : Int) (hi : ¬ (1 ≤ i ∧ i ≤ most)) :
    Calls Tryd.prog 42 #[.string s, .int .i64 i, .int .i64 most] w fun e w' => e = .returned (.slice none 0 0) ∧ w = w' := by
  go_enter Tryd.func42, Tryd.ntmps42
  by_cases h1 : i < 1
  · go_wp2_with fail
    go_ret
    exact ⟨rfl, rfl⟩
  · have h2 : most < i := by omega
    go_wp2_with fail
    go_ret
    exact ⟨rfl, rfl⟩
set_option maxRecDepth 8000 in
set_option maxHeartbeats 4000000 in
theorem rkey_some (n : Nat) (hn64 : n = 64) (w : World) (s : ByteArray) (hs : s.size < 1000) (i : Nat) (most : Int) (hi1 : 1 ≤ i) (hi2 : (i : Int) ≤ most) (hi3 : i < 1000) (tb : List Int) (htb : tblL = tb) :
    Calls Tryd.prog 42 #[.string s, .int .i64 (i : Int), .int .i64 most] w fun e w' => ∃ A c, e = .returned (.slice A 32 c) ∧ OB 5 w' w.heap.size A 32 c (keyB n tb s i) ∧ Below w.heap.size w w' := by
  have HN := Lib.hid hn64
  have HTB := Lib.hid htb
  clear hn64 htb
  have hkl : (keyB n tb s i).length = 32 := digest_length _ _ _
  obtain ⟨K, hK⟩ : ∃ K, keyB n tb s i = K := ⟨_, rfl⟩
  rw [hK] at hkl ⊢
  unfold keyB at hK
  have HK := Lib.hid hK
  clear hK
  have hks : (bvs K).toArray.size = 32 := by rw [bvs_size, hkl]
  go_enter Tryd.func42, Tryd.ntmps42
  have g1 : ¬ (i : Int) < 1 := by omega
  have g2 : ¬ most < (i : Int) := by omega
  have g3 : IntKind.u64.wrap (i : Int) = (i : Int) := by simp [IntKind.wrap, IntKind.bits, IntKind.signed]; omega
  have kc := fun (w : World) => run_bytes_of_string (P := Tryd.prog) w 9 28 5 s Tryd.underlying9 Tryd.underlying28 Tryd.underlying5
  have hb0 := (below_alloc w (.cells (bytesRow s (grownCap w s.size 0 5)) 5 ((bytesRow s (grownCap w s.size 0 5)).size, (bytesRow s (grownCap w s.size 0 5)).size + 1))).drew
  have hr0 := rb_str w 5 s (grownCap w s.size 0 5) ((bytesRow s (grownCap w s.size 0 5)).size, (bytesRow s (grownCap w s.size 0 5)).size + 1)
  have hcap : s.size ≤ grownCap w s.size 0 5 := grownCap_ge _ _ _ _
  go_wp2_with fail
  clear kc
  generalize ((w.alloc (.cells (bytesRow s (grownCap w s.size 0 5)) 5 ((bytesRow s (grownCap w s.size 0 5)).size, (bytesRow s (grownCap w s.size 0 5)).size + 1))).drew) = w1 at *
  obtain ⟨cs, hcs⟩ : ∃ cs, grownCap w s.size 0 5 = cs := ⟨_, rfl⟩
  rw [hcs] at hcap ⊢
  clear hcs
  refine (rword_any w1 (some ⟨w.heap.size, 0, none⟩) s.size cs s.data.toList i hr0 (by omega) (by omega)).mono ?_
  rintro e w2 ⟨Aw, Nw, cw, rfl, hOw, hb2⟩
  simp only []
  have hrw := hOw.reads
  have hlw : Nw ≤ 2000 := by have := hrw.len; rw [List.length_append, be_length] at this; have : s.data.toList.length = s.size := rfl; omega
  have hbb2 := hb0.trans (hb2.mono hb0.size)
  clear hr0
  repeat (first
    | (go_at_call 15; refine (rsum_any n HN.out w2 Aw Nw cw _ tb HTB.out hrw (by omega)).mono ?_; rw [HK.out]; rintro e w3 ⟨rfl, hb3⟩; simp only []; have hbb3 := hbb2.trans (hb3.mono hbb2.size))
    | ((with_reducible refine wpl_store_fresh (bvs K).toArray i32x8 ?_ hks (bvs_all _) ?_ ?_ ?_); (focus kernel_rfl); (focus rfl); (focus rfl); intro w4 hK4 hl4 hb4; have hbb4 := hbb3.trans (hb4.mono hbb3.size); have hrK := rb_row hK4 32 hkl; have hO4 := OB.mono (OB.empty w4 5) hbb4.size; have hbs4 := hbb4.size; have hb4' := below_alloc2 hbb4 (Nat.le_refl _) (.cells #[] 5); have hrK4 := hrK.alloc (.cells #[] 5))
    | (at_builtin; refine app_bytes rfl _ _ rfl w.heap.size _ _ _ [] rfl hO4 _ _ _ K rfl hrK4 (by omega) (by simp; omega) ?_; intro A5 N5 c5 w5 hc5 hc6 hO5 hG5; rw [List.nil_append] at hO5; have hb5 := hG5.own hb4' (Nat.le_refl _) hO4)
    | go_values | go_skip | go_guarded | go_step | go_upon | go_back)
  go_ret
  obtain rfl : N5 = 32 := hO5.len.symm.trans hkl
  exact ⟨A5, c5, rfl, hO5, hb5⟩
theorem rreplica_any (n : Nat) (hn64 : n = 64) (w : World) (i : Int) (tb : List Int) (htb : tblL = tb) : Calls Tryd.prog 22 #[.int .i64 i] w (KeyAt w (repK n tb i)) := by
  by_cases hi : 1 ≤ i ∧ i ≤ 11
  · obtain ⟨k, rfl⟩ := Int.eq_ofNat_of_zero_le (by omega : 0 ≤ i)
    rw [repK, if_pos hi, Int.toNat_natCast]
    obtain ⟨K, hK⟩ : ∃ K, keyB n tb ⟨#[114, 97, 116, 99, 104, 101, 116, 32, 114, 101, 112, 108, 105, 99, 97]⟩ k = K := ⟨_, rfl⟩
    have hkl : K.length = 32 := by rw [← hK]; exact digest_length _ _ _
    rw [hK]
    have HK := Lib.hid hK
    clear hK
    go_enter Tryd.func22, Tryd.ntmps22
    go_wp2_with (go_at_call 42; refine (rkey_some n hn64 w ⟨#[114, 97, 116, 99, 104, 101, 116, 32, 114, 101, 112, 108, 105, 99, 97]⟩ (by decide) k 11 (by omega) (by omega) (by omega) tb htb).mono ?_; rw [HK.out]; rintro e w2 ⟨A, c, rfl, hO, hb⟩)
    go_ret
    exact ⟨A, 32, c, rfl, hO.cap.1, by omega, hkl, hO, hb⟩
  · rw [repK, if_neg hi]
    go_enter Tryd.func22, Tryd.ntmps22
    go_wp2_with (go_at_call 42; refine (rkey_none w _ i 11 hi).mono ?_; rintro e w2 ⟨rfl, rfl⟩)
    go_ret
    exact ⟨none, 0, 0, rfl, Nat.le_refl _, by omega, rfl, OB.nil_ _ _ _, Below.refl _ _⟩
theorem rclient_any (n : Nat) (hn64 : n = 64) (w : World) (i : Int) (tb : List Int) (htb : tblL = tb) : Calls Tryd.prog 24 #[.int .i64 i] w (KeyAt w (cliK n tb i)) := by
  by_cases hi : 1 ≤ i ∧ i ≤ 8
  · obtain ⟨k, rfl⟩ := Int.eq_ofNat_of_zero_le (by omega : 0 ≤ i)
    rw [cliK, if_pos hi, Int.toNat_natCast]
    obtain ⟨K, hK⟩ : ∃ K, keyB n tb ⟨#[114, 97, 116, 99, 104, 101, 116, 32, 99, 108, 105, 101, 110, 116]⟩ k = K := ⟨_, rfl⟩
    have hkl : K.length = 32 := by rw [← hK]; exact digest_length _ _ _
    rw [hK]
    have HK := Lib.hid hK
    clear hK
    go_enter Tryd.func24, Tryd.ntmps24
    go_wp2_with (go_at_call 42; refine (rkey_some n hn64 w ⟨#[114, 97, 116, 99, 104, 101, 116, 32, 99, 108, 105, 101, 110, 116]⟩ (by decide) k 8 (by omega) (by omega) (by omega) tb htb).mono ?_; rw [HK.out]; rintro e w2 ⟨A, c, rfl, hO, hb⟩)
    go_ret
    exact ⟨A, 32, c, rfl, hO.cap.1, by omega, hkl, hO, hb⟩
  · rw [cliK, if_neg hi]
    go_enter Tryd.func24, Tryd.ntmps24
    go_wp2_with (go_at_call 42; refine (rkey_none w _ i 8 hi).mono ?_; rintro e w2 ⟨rfl, rfl⟩)
    go_ret
    exact ⟨none, 0, 0, rfl, Nat.le_refl _, by omega, rfl, OB.nil_ _ _ _, Below.refl _ _⟩
set_option maxRecDepth 8000 in
set_option maxHeartbeats 4000000 in
theorem rnumbered_any (n : Nat) (hn64 : n = 64) (w : World) (i : Int) (x : Nat) (hx : x < 2 ^ 64) (A' : Option Addr) (m' c' : Nat) (b : List UInt8) (hr' : RB w A' m' b) (hm' : m' < 349755813888) (tb : List Int) (htb : tblL = tb) :
    Calls Tryd.prog 26 #[.int .i64 i, .int .u64 (x : Int), .slice A' m' c'] w fun e w' => e = .returned (.agg (bvs (numF n tb i x b)).toArray) ∧ Below w.heap.size w w' := by
  have HN := Lib.hid hn64
  have HTB := Lib.hid htb
  clear hn64 htb
  have hl' := hr'.len
  have hol := numF_length n tb i x b
  obtain ⟨F, hF⟩ : ∃ F, numF n tb i x b = F := ⟨_, rfl⟩
  rw [hF] at hol ⊢
  unfold numF at hF
  have HF := Lib.hid hF
  have HX := Lib.hid hx
  have hfs : (bvs F).toArray.size = 32 := by rw [bvs_size, hol]
  clear hF hx
  go_enter Tryd.func26, Tryd.ntmps26
  have hZ := Blk.new w 29 (bvs (List.replicate 32 0)).toArray
  have hb1 := below_alloc w (.cells (bvs (List.replicate 32 0)).toArray 29)
  obtain ⟨z32, hz32⟩ : ∃ z : Array Value, (bvs (List.replicate 32 0)).toArray = z := ⟨_, rfl⟩
  have hzs : z32.size = 32 := by rw [← hz32]; rfl
  rw [hz32] at hZ hb1
  have hzz : (#[.int .u8 0, .int .u8 0, .int .u8 0, .int .u8 0, .int .u8 0, .int .u8 0, .int .u8 0, .int .u8 0, .int .u8 0, .int .u8 0, .int .u8 0, .int .u8 0, .int .u8 0, .int .u8 0, .int .u8 0, .int .u8 0, .int .u8 0, .int .u8 0, .int .u8 0, .int .u8 0, .int .u8 0, .int .u8 0, .int .u8 0, .int .u8 0, .int .u8 0, .int .u8 0, .int .u8 0, .int .u8 0, .int .u8 0, .int .u8 0, .int .u8 0, .int .u8 0] : Array Value) = z32 := by rw [← hz32]; rfl
  clear hz32
  repeat (first
    | (go_at_call 22; refine (rreplica_any n HN.out _ i tb HTB.out).mono ?_; rintro e w2 ⟨A2, m2, c2, rfl, hmc2, hm2, _, hO2, hb2⟩; simp only []; have hbb2 := hb1.trans (hb2.mono hb1.size); have hZ2 := hZ.below hb2 hZ.lt)
    | (go_at_call 44; refine (rword_any w2 none 0 0 [] x (RB.nil_ _ _) (by omega) HX.out).mono ?_; rintro e w3 ⟨A3, N3, c3, rfl, hO3, hb3⟩; simp only []; have hbb3 := hbb2.trans (hb3.mono hbb2.size); have hZ3 := hZ2.below hb3 hZ2.lt; rw [List.nil_append] at hO3; obtain rfl : N3 = 8 := (hO3.len.symm.trans (be_length 8 x)); have hr2 := hO2.reads.below hb3; have hbs3 := hb3.size)
    | (at_builtin; refine app_bytes rfl _ _ rfl w.heap.size _ _ _ (be 8 x) rfl (OB.mono hO3 hbb2.size) _ _ _ b rfl (hr'.below hbb3) (by omega) hbb3.size ?_; intro A4 N4 c4 w4 hc4 hc4' hO4 hG4; have hbb4 := hG4.own hbb3 (Nat.le_refl _) (OB.mono hO3 hbb2.size); have hne := (fun (e : some w.heap.size = A3.map (·.block)) => Nat.lt_irrefl _ (Nat.lt_of_lt_of_le hZ2.lt ((OB.ge hO3 _ e.symm).1))); have hZ4 := Blk.grown hZ3 hG4.grown hne; have hr4 := OB.reads hO4; have hl4 : N4 ≤ m' + 8 := (by have := hr4.len; rw [List.length_append, be_length] at this; omega); have hr4b := RB.below (OB.reads hO2) (hb3.trans (hG4.own (Below.refl w2.heap.size w3) hbs3 hO3)))
    | (go_at_call 20; refine (rof_any n HN.out w4 A2 m2 c2 _ hr4b (by omega) A4 N4 c4 _ hr4 (by omega) tb HTB.out).mono ?_; rw [HF.out]; rintro e w5 ⟨rfl, hb5⟩; simp only []; have hbb5 := hbb4.trans (hb5.mono hbb4.size); have hZ5 := hZ4.below hb5 hZ4.lt)
    | ((with_reducible refine wpl_store w.heap.size _ _ (bvs F).toArray i32x8 hZ5 hzs hfs (bvs_all _) ?_ ?_ ?_); (focus rfl); (focus rfl))
    | go_values | go_skip | go_guarded | go_step | go_upon | go_back)
  refine bodyPost_ret (results_cell_row rfl _ _ w.heap.size _ _ (0, 0) _ rfl (hZ5.setRow _) Tryd.underlying29 rfl (by rw [hfs]; exact i32x8)) rfl ?_
  exact ⟨rfl, hbb5.grown (grownBy_setRow _ _ _) hbb5.size (fun p hp => by cases hp; exact Nat.le_refl _)⟩
end Go.Proofs.YtohfgplaocgadaaDoor
