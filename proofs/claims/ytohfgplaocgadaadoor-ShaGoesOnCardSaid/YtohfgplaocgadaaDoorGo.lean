/- The law ShaGoesOn, walked. -/
import Derived.Test.YtohfgplaocgadaaDoorPad
import Derived.Test.YtohfgplaocgadaaDoorGoa
namespace Go.Proofs.YtohfgplaocgadaaDoor
open Go.RowKit Go.Rat
set_option maxRecDepth 8000 in
set_option maxHeartbeats 4000000 in
theorem shaGoesOn_any (n : Nat) (hn64 : n = 64) (w : World) (tb : List Int) (htb : tblL = tb) (hT : Tab w tb) (A : Option Addr) (m c : Nat) (xs : List UInt8) (hr : RB w A m xs) (hmc : m ≤ c) (hm : m ≤ 140737488351232)
    (A' : Option Addr) (m' c' : Nat) (ys : List UInt8) (hr' : RB w A' m' ys) (hm' : m' ≤ 140737488351232) :
    Calls Tryd.prog 5 #[.slice A m c, .slice A' m' c'] w fun e w' => e = .returned (.bool true) ∧ Below w.heap.size w w' := by
  have HN := Lib.hid hn64
  have HTB := Lib.hid htb
  clear hn64 htb
  have hl := hr.len
  have hl' := hr'.len
  have hw0 : 0 < w.heap.size := block_lt_of_cell (hT 0 (by omega))
  go_enter Tryd.func5, Tryd.ntmps5
  by_cases hbig : 500 < m ∨ 500 < m'
  · have hor : (decide ((500 : Int) < (m : Int)) = true) ∨ (decide ((500 : Int) < (m : Int)) = false ∧ decide ((500 : Int) < (m' : Int)) = true) := by
      rcases hbig with h | h
      · exact .inl (decide_eq_true (by omega))
      · by_cases h2 : (500 : Int) < (m : Int)
        · exact .inl (decide_eq_true h2)
        · exact .inr ⟨decide_eq_false h2, decide_eq_true (by omega)⟩
    rcases hor with h | ⟨h, h2⟩
    · have h3 := of_decide_eq_true h
      go_wp2_with (go_at_call 13; refine (works_any n HN.out w tb HTB.out hT).mono ?_; rintro e w2 ⟨rfl, hb2⟩)
      go_ret
      exact ⟨rfl, hb2⟩
    · have h3 := of_decide_eq_false h
      have h4 := of_decide_eq_true h2
      go_wp2_with (go_at_call 13; refine (works_any n HN.out w tb HTB.out hT).mono ?_; rintro e w2 ⟨rfl, hb2⟩)
      go_ret
      exact ⟨rfl, hb2⟩
  · have hs1 : ¬ (500 : Int) < (m : Int) := by omega
    have hs2 : ¬ (500 : Int) < (m' : Int) := by omega
    have hdl := digest_length n tb xs
    obtain ⟨D, hD⟩ : ∃ D, digest n tb xs = D := ⟨_, rfl⟩
    rw [hD] at hdl
    have hd32 : (bvs D).toArray.size = 32 := by rw [bvs_size, hdl]
    have HD := Lib.hid hD
    clear hD
    obtain ⟨S0, hS0⟩ : ∃ S0, (feed n tb h0 (xs ++ padding m)).s = S0 := ⟨_, rfl⟩
    have hS0l : S0.length = 8 := by rw [← hS0]; exact (feed_ok n tb _ h0 h0_ok).1.s
    have hS0u : u32ok S0 := by rw [← hS0]; exact u32ok_feed n tb _ h0 h0_ok u32ok_start
    have hDS : outB S0 = D := by rw [← HD.out, digest, hl, hS0]
    have HS0 := Lib.hid hS0
    clear hS0
    repeat (first
      | (go_at_call 14; refine (sum_any n HN.out w A m c xs tb hT hr (by omega) (by omega)).mono ?_; rw [HD.out]; rintro e w2 ⟨rfl, hb2⟩; simp only [])
      | ((with_reducible refine wpl_store_fresh (bvs D).toArray i32x8 ?_ hd32 (bvs_all _) ?_ ?_ ?_); (focus kernel_rfl); (focus rfl); (focus rfl); intro w3 hD3 hl3 hb3)
      | go_values | go_skip | go_guarded | go_step | go_upon | go_back)
    have hT2 := Tab.below hT hb2
    have hbb3 : Below w.heap.size w w3 := hb2.trans (hb3.mono hb2.size)
    have hDs : w.heap.size ≤ w2.heap.size := hb2.size
    have hT3 := Tab.below hT hbb3
    clear hb2 hb3 hT2
    generalize w2.heap.size = GD at *
    have hS4 := Blk.new w3 23 (u32s (List.replicate 8 0)).toArray
    have hD4 := hD3.alloc (.cells (u32s (List.replicate 8 0)).toArray 23)
    have hb4 := below_alloc w3 (.cells (u32s (List.replicate 8 0)).toArray 23)
    have hGS : GD ≠ w3.heap.size := by omega
    have hbb4 := hbb3.trans (hb4.mono hbb3.size)
    have hws : w.heap.size ≤ w3.heap.size := hbb3.size
    obtain ⟨z8, hz8⟩ : ∃ z : Array Value, (u32s (List.replicate 8 0)).toArray = z := ⟨_, rfl⟩
    rw [hz8] at hS4 hD4 hb4 hbb4
    have hzz : (#[.int .u32 0, .int .u32 0, .int .u32 0, .int .u32 0, .int .u32 0, .int .u32 0, .int .u32 0, .int .u32 0] : Array Value) = z8 := by rw [← hz8]; rfl
    have hS4' : Blk (w3.alloc (.cells z8 23)) w3.heap.size 23 (u32s (sP S0 0)).toArray := by rw [sP_zero, hz8]; exact hS4
    clear hz8 hS4
    go_wp2_with fail
    clear hzz
    generalize (w3.alloc (.cells z8 23)) = w4 at *
    generalize w3.heap.size = GS at *
    go_loopw [7] (fun i wr => ∃ k : Nat, k ≤ 32 ∧ i = .int .i64 (k : Int) ∧ Blk wr GS 23 (u32s (sP S0 k)).toArray ∧ w4.grownBy wr (some GS)) (fun i _ => 32 - (intOf i).toNat)
    case atStart => exact ⟨0, Nat.zero_le _, rfl, hS4', World.grownBy.refl _ _⟩
    case round =>
      obtain ⟨k, hk, rfl, hSk, hgk⟩ := hrel
      have hDk := hD4.grown hgk (by intro e; injection e with e; omega)
      have hspl := sP_length S0 k
      by_cases hk32 : k < 32
      · have hat := outB_at S0 (k / 4) (k % 4) (by omega) (by omega)
        rw [show 4 * (k / 4) + k % 4 = k by omega, hDS] at hat
        have c1 := u32s_at hSk (i := k / 4) (by omega)
        have c2 := bytes_at hDk (i := k) (by omega)
        have f1 := hSk.frozen (k / 4)
        have hget := sP_get S0 k (k / 4) (by omega)
        rw [show min 4 (k - 4 * (k / 4)) = k % 4 by omega] at hget
        have hstep := sP_step S0 k hk32
        have hx0 := hS0u (k / 4)
        have hset := fun v => hSk.set_ (k / 4) (.int .u32 v)
        obtain ⟨q, hq⟩ : ∃ q, k / 4 = q := ⟨_, rfl⟩
        rw [hq] at c1 f1 hget hstep hx0 hset hat
        rw [hget] at c1
        obtain ⟨x, hx⟩ : ∃ x, S0.getD q 0 = x := ⟨_, rfl⟩
        rw [hx] at c1 hstep hx0 hat
        have d1 : (k : Int) / 4 = (q : Int) := by omega
        have g1 : (k : Int) < 32 := by omega
        have g2 : (q : Int) < 8 := by omega
        have g3 : (0 : Int) ≤ (q : Int) := by omega
        have g4 : IntKind.i64.wrap (q : Int) = (q : Int) := IntWalk.i64_in _ (by omega)
        have hyl : (D.getD k 0).toNat < 256 := (D.getD k 0).toNat_lt
        have hyD : D[k]? = some (D.getD k 0) := by rw [List.getD_eq_getElem?_getD, List.getElem?_eq_getElem (by omega)]; rfl
        rw [hyD] at hat
        clear hget hq hx hyD hspl
        generalize D.getD k 0 = yb at *
        have HSTEP := Lib.hid hstep
        have HSET := Lib.hid hset
        have HAT := Lib.hid hat
        clear hstep hset hat
        have hkr : k % 4 < 4 := by omega
        have hpw := pw_step x hx0.1 hx0.2 (k % 4) hkr yb HAT.out
        have HPW := Lib.hid hpw
        clear hpw hx0
        obtain ⟨xr, hxr⟩ : ∃ xr, pw x (k % 4) = xr := ⟨_, rfl⟩
        rw [hxr] at c1
        have HXR := Lib.hid hxr
        clear hxr
        have hk1 := fun (v : Value) => cell_kept' (w := wr) (g := GS) (i := q) (v := v) (b := GD) (j := k) (by omega)
        go_wp2_with fail
        refine wp_region_plan [(0, true), (1, true), (2, true), (3, true), (4, true), (7, true), (8, true), (9, true), (10, true), (5, false), (6, true), (11, true), (12, true), (13, false)]
          (fun z => z.cell? ⟨GD, k, none⟩ = some (.int .u8 (yb.toNat : Int))) (by kernel_rfl) (by kernel_rfl) (by kernel_rfl) (by kernel_rfl) (fun _ _ d _ _ h => by cases d <;> exact h) c2 ?_
        simp only [planOps, List.getElem?_toArray, List.getElem?_cons_zero, List.getElem?_cons_succ]
        repeat (first
          | (refine wpS_skip (by rfl) ?_; simp only [Act.put, List.setIfInBounds_toArray, List.set_cons_zero, List.set_cons_succ])
          | (refine wpS_q ?_ (by rfl) ?_ ?_; rotate_left; (focus (intro z hz; (try dsimp only at hz); go_simp; rfl)); simp only [Act.put, List.setIfInBounds_toArray, List.set_cons_zero, List.set_cons_succ]))
        refine wpS_l (by rfl) (fun Kq hK => ?_)
        go_wp2_with fail
        refine hK _ _ (fun z => z.cell? ⟨GD, k, none⟩ = some (.int .u8 (yb.toNat : Int))) c2 (fun _ h => h) ?_
        clear hK
        repeat (first
          | (refine wpS_skip (by rfl) ?_; simp only [Act.put, List.setIfInBounds_toArray, List.set_cons_zero, List.set_cons_succ])
          | (refine wpS_q ?_ (by rfl) ?_ ?_; rotate_left; (focus (intro z hz; (try dsimp only at hz); go_simp; rfl)); simp only [Act.put, List.setIfInBounds_toArray, List.set_cons_zero, List.set_cons_succ]))
        refine wpS_l (by rfl) (fun Kq hK => ?_)
        go_wp2_with fail
        refine hK _ _ (fun z => z.cell? ⟨GD, k, none⟩ = some (.int .u8 (yb.toNat : Int))) ((hk1 _).trans c2) (fun _ h => h) ?_
        clear hK
        refine wpS_nil ?_
        go_wp2_with fail
        have hset2 := HSET.out (bits .or .u32 (xr * 256 % 4294967296) (yb.toNat : Int))
        rw [u32s_set, HSTEP.out _ (by rw [← HXR.out]; exact HPW.out)] at hset2
        exact ⟨⟨k + 1, by omega, congrArg (Value.int .i64) (by omega), hset2, hgk.trans (World.grownBy.trans (b := wr.drew) ⟨rfl, rfl, rfl, Nat.le_refl _, fun _ _ _ => rfl⟩ (grownBy_set _ GS q _))⟩, by simp only [intOf]; omega⟩
      · obtain rfl : k = 32 := by omega
        rw [sP_full S0 hS0l] at hSk
        have hbk : Below w.heap.size w wr := hbb4.grown hgk hbb4.size (fun p hp => by cases hp; exact hws)
        have hTk := Tab.below hT hbk
        have hrk := hr.below hbk
        have hrk' := hr'.below hbk
        have hGSlt := hSk.lt
        clear hgk hDk hspl hbb4 hS4' hD4 hD3 hbb3 hT3 hb4
        obtain ⟨P1, hP1⟩ : ∃ P1, xs ++ padding m = P1 := ⟨_, rfl⟩
        have hP1l : P1.length % 64 = 0 := by rw [← hP1, List.length_append, hl]; exact padding_length m
        have hP1m : P1.length ≤ m + 200 := by rw [← hP1]; simp [padding, be8, zs]; omega
        have HS1 : Hid ((feed n tb h0 P1).s = S0) := by rw [← hP1]; exact HS0
        have HP1 := Lib.hid hP1
        clear hP1
        generalize hB1 : wr.heap.size = B1
        have hB1' : B1 ≤ wr.heap.size := by omega
        have hOe := OB.empty wr 5
        rw [hB1] at hOe hGSlt
        have hbe : Below B1 wr (wr.alloc (.cells #[] 5)) := by rw [← hB1]; exact below_alloc _ _
        have HB1 := Lib.hid hB1
        go_wp2_with (at_builtin; refine app_bytes rfl _ _ rfl B1 _ _ _ [] rfl hOe _ _ _ xs rfl (hrk.alloc _) (by omega) (by simp; omega) ?_; intro A2 N2 c2 w5 hc2 hc3 hO5 hG5)
        rw [List.nil_append] at hO5
        have hb5 := hG5.own hbe hB1' hOe
        have hN5 := hO5.len
        clear hG5 hOe hbe hB1
        refine (padding_any w5 m (by omega)).mono ?_
        rintro e w6 ⟨Ap, Np, cp, rfl, hcp, hOp, hbp⟩
        simp only []
        have hO6 := hO5.grown (grownBy_of_below hbp none) (.inr rfl)
        have hb6 : Below B1 wr w6 := hb5.trans (hbp.mono (Nat.le_trans hB1' hb5.size))
        have hrp := hOp.reads
        have hNp := hOp.len
        have hpl : (padding m).length ≤ 200 := by simp [padding, be8, zs]; omega
        have hB6 : B1 ≤ w6.heap.size := Nat.le_trans hB1' hb6.size
        have hrm6 := hrk'.below (show Below wr.heap.size wr w6 by rw [HB1.out]; exact hb6)
        clear hO5 hOp hbp hb5
        go_wp2_with (first
          | (at_builtin; refine app_bytes rfl _ _ rfl B1 _ _ _ xs rfl hO6 _ _ _ (padding m) rfl hrp (by omega) hB6 ?_; intro A3 N3 c3 w7 hc4 hc5 hO7 hG7; rw [HP1.out] at hO7; have hb7 := hG7.own hb6 hB1' hO6; have hrm7 := hrk'.below (show Below wr.heap.size wr w7 by rw [HB1.out]; exact hb7); have hN7 := hO7.len; have hB7 : B1 ≤ w7.heap.size := Nat.le_trans hB1' hb7.size)
          | (at_builtin; refine app_bytes rfl _ _ rfl B1 _ _ _ P1 rfl hO7 _ _ _ ys rfl hrm7 (by omega) hB7 ?_; intro A4 N4 c4 w8 hc6 hc7 hO8 hG8; have hb8 := hG8.own hb7 hB1' hO7; have hrm8 := hrk'.below (show Below wr.heap.size wr w8 by rw [HB1.out]; exact hb8); have hN8 := hO8.len)
          | (at_builtin; refine app_bytes rfl _ _ rfl w8.heap.size _ _ _ [] rfl (OB.empty w8 5) _ _ _ ys rfl (hrm8.alloc _) (by omega) (by simp) ?_; intro A5 N5 c5 w9 hc8 hc9 hO9 hG9; rw [List.nil_append] at hO9; have hb9 := hG9.own (below_alloc w8 (.cells #[] 5)) (Nat.le_refl _) (OB.empty w8 5); have hN9 := hO9.len))
        clear hG7 hG8 hG9 hb7 hrm7 hB7 hO7 hO6 hb6 hrp hB6 hrm6
        have hb89 := hb8
        refine (padding_any w9 N4 (by simp at hN8; omega)).mono ?_
        rintro e w10 ⟨Aq, Nq, cq, rfl, hcq, hOq, hbq⟩
        simp only []
        have hO10 := hO9.grown (grownBy_of_below hbq none) (.inr rfl)
        have hb10 : Below w8.heap.size w8 w10 := hb9.trans (hbq.mono hb9.size)
        have hrq := hOq.reads
        have hNq := hOq.len
        have hplq : (padding N4).length ≤ 200 := by simp [padding, be8, zs]; omega
        have hN8' := hN8
        rw [List.length_append] at hN8'
        have hplm : (N4 + (padding N4).length) % 64 = 0 := padding_length N4
        have h64a : ((((N3 : Nat) : Int) % 64) != 0) = false := by rw [bne_eq_false_iff_eq]; omega
        have h64b : ((((N5 + Nq : Nat) : Int) % 64) != 0) = false := by rw [bne_eq_false_iff_eq]; omega
        have h64c : (((N5 : Int) + (Nq : Int)) % 64 != 0) = false := by rw [bne_eq_false_iff_eq]; omega
        clear hO9 hOq hbq hb9
        have ob1 : N5 + Nq ≤ 140737488355328 := by omega
        have ob2 := hb10.size
        have hgen : ∀ N6 : Nat, (ys ++ padding N4).length = N6 → ((N6 : Int) % 64 != 0) = false := by
          intro N6 h
          rw [List.length_append] at h
          rw [bne_eq_false_iff_eq]
          omega
        have HGEN := Lib.hid hgen
        clear hgen
        go_wp2_with (at_builtin; refine app_bytes rfl _ _ rfl w8.heap.size _ _ _ ys rfl hO10 _ _ _ (padding N4) rfl hrq ob1 ob2 ?_; intro A6 N6 c6 w11 hc10 hc11 hO11 hG11; have h64d := HGEN.out N6 hO11.len)
        have hb11 := hG11.own hb10 (Nat.le_refl _) hO10
        have hb8w : Below wr.heap.size wr w8 := by rw [HB1.out]; exact hb8
        have hS8 := hSk.below hb8 hGSlt
        have hS11 := hS8.below hb11 hS8.lt
        have hAll := hO8.reads.below hb11
        have hT11 := Tab.below (Tab.below hTk hb8w) hb11
        have hbb8 := hbk.trans (hb8w.mono hbk.size)
        have hbb11 : Below w.heap.size w w11 := hbb8.trans (hb11.mono hbb8.size)
        have hge4 := hO8.ge
        have hge6 := hO11.ge
        have hB18 : B1 ≤ w8.heap.size := Nat.le_trans hB1' hb8.size
        have hrR := hO11.reads
        have hH1 := feed_ok n tb P1 h0 h0_ok
        have hH1k : (feed n tb h0 P1).k = 0 := by rw [hH1.2]; simp [h0]; omega
        have hDP2 : outB (feed n tb (feed n tb h0 P1) (ys ++ padding N4)).s = digest n tb (P1 ++ ys) := by
          rw [digest, hN8, ← feed_append, List.append_assoc]
        obtain ⟨P2, hP2⟩ : ∃ P2, P1 ++ ys = P2 := ⟨_, rfl⟩
        rw [hP2] at hAll hDP2 hN8
        have hH1o := hH1.1
        have HS1' := HS1.out
        obtain ⟨H1, hH1e⟩ : ∃ H1, feed n tb h0 P1 = H1 := ⟨_, rfl⟩
        rw [hH1e] at hH1k hDP2 hH1o HS1'
        have hN4m : N4 < 2000 := by omega
        have hRl : (ys ++ padding N4).length % 64 = 0 := by rw [List.length_append]; omega
        have hR0 : 0 < (ys ++ padding N4).length := by rw [List.length_append, padding, List.length_cons]; omega
        have hRm : (ys ++ padding N4).length ≤ 1000 := by rw [List.length_append]; omega
        have hN11 := hO11.len
        obtain ⟨R, hR⟩ : ∃ R, ys ++ padding N4 = R := ⟨_, rfl⟩
        rw [hR] at hrR hDP2 hRl hR0 hN11 hRm
        obtain ⟨nb, hnb⟩ : ∃ nb, R.length = 64 * nb := ⟨R.length / 64, by omega⟩
        obtain ⟨ad, rfl, hadlt, _⟩ := hrR.2 (by omega)
        have hadG : ad.block ≠ GS := by have := (hge6 ad.block rfl).1; omega
        have hA4G : N4 = 0 ∨ A4.map (·.block) ≠ some GS := .inr (fun h => by have := (hge4 GS h).1; omega)
        have hS11' : Blk w11 GS 23 (u32s (feed n tb H1 (R.take (64 * 0))).s).toArray := by
          show Blk w11 GS 23 (u32s H1.s).toArray
          rw [HS1']
          exact hS11
        have HDP2 := Lib.hid hDP2
        have HH1e := Lib.hid hH1e
        clear hS11 hS8 hb11 hb8 hb8w hbb8 hO11 hO8 hO10 hG11 hb10 hH1 hH1e hDP2 hR hP2 HS1' hge4 hge6 hSk hbk hTk hrk hrk' hrm8 hN8' hplm h64a h64b h64c h64d hrq hNq hplq hb89 hl3
        obtain ⟨z64, hz64⟩ : ∃ z : Array Value, (bvs (List.replicate 64 0)).toArray = z := ⟨_, rfl⟩
        have hzz : (#[.int .u8 0, .int .u8 0, .int .u8 0, .int .u8 0, .int .u8 0, .int .u8 0, .int .u8 0, .int .u8 0, .int .u8 0, .int .u8 0, .int .u8 0, .int .u8 0, .int .u8 0, .int .u8 0, .int .u8 0, .int .u8 0, .int .u8 0, .int .u8 0, .int .u8 0, .int .u8 0, .int .u8 0, .int .u8 0, .int .u8 0, .int .u8 0, .int .u8 0, .int .u8 0, .int .u8 0, .int .u8 0, .int .u8 0, .int .u8 0, .int .u8 0, .int .u8 0, .int .u8 0, .int .u8 0, .int .u8 0, .int .u8 0, .int .u8 0, .int .u8 0, .int .u8 0, .int .u8 0, .int .u8 0, .int .u8 0, .int .u8 0, .int .u8 0, .int .u8 0, .int .u8 0, .int .u8 0, .int .u8 0, .int .u8 0, .int .u8 0, .int .u8 0, .int .u8 0, .int .u8 0, .int .u8 0, .int .u8 0, .int .u8 0, .int .u8 0, .int .u8 0, .int .u8 0, .int .u8 0, .int .u8 0, .int .u8 0, .int .u8 0, .int .u8 0] : Array Value) = z64 := by rw [← hz64]; rfl
        have HZ64 := Lib.hid hz64
        clear hz64
        have hGS0 : GS ≠ 0 := by omega
        go_loopw [11] (fun i wq => ∃ j : Nat, j ≤ nb ∧ i = .int .i64 (64 * (j : Int)) ∧ Blk wq GS 23 (u32s (feed n tb H1 (R.take (64 * j))).s).toArray ∧ w11.grownBy wq (some GS)) (fun i _ => (64 * (nb : Int) - intOf i).toNat)
        case atStart => exact ⟨0, Nat.zero_le _, rfl, hS11', World.grownBy.refl _ _⟩
        case round =>
          obtain ⟨j, hj, rfl, hSj, hgj⟩ := hrel
          have hrPj := hrR.grown hgj (.inl (by simpa using hadG))
          by_cases hjn : j < nb
          · obtain ⟨hst1', hst2, hst3⟩ := blk_stepG n tb H1 hH1o hH1k R nb j hnb hjn
            obtain ⟨ch, hch⟩ : ∃ ch, (R.drop (64 * j)).take 64 = ch := ⟨_, rfl⟩
            have hchg : ∀ k, k < 64 → ch[k]? = some (R.getD (64 * j + k) 0) := fun k hk => by rw [← hch]; exact chunk_get R (64 * j) k hk (by omega)
            rw [hch] at hst1' hst3
            obtain ⟨sj, hsj⟩ : ∃ sj, (feed n tb H1 (R.take (64 * j))).s = sj := ⟨_, rfl⟩
            rw [hsj] at hst1' hst2 hSj
            have HSTEP := Lib.hid hst1'
            have HCHG := Lib.hid hchg
            clear hst1' hch hsj hchg
            have hlti : (64 * (j : Int)) < (N6 : Int) := by omega
            have hI := Blk.new wr 24 z64
            have hSI := hSj.alloc (.cells z64 24)
            have hrPI := hrPj.alloc (.cells z64 24)
            have hGI : GS < wr.heap.size := hSj.lt
            have hadI : ad.block ≠ wr.heap.size := by have := (hrPj.2 (by omega)); obtain ⟨_, e, h, _⟩ := this; cases e; omega
            go_wp2_with fail
            have hI' : Blk (wr.alloc (.cells z64 24)) wr.heap.size 24 (bvs (ch.take 0 ++ List.replicate (64 - 0) 0)).toArray := by rw [← HZ64.out] at hI ⊢; exact hI
            have hfin : ∀ z, (wr.alloc (.cells z64 24)).grownBy z (some wr.heap.size) → w11.grownBy z (some GS) := fun z hz =>
              hgj.trans (grownBy_of_below ((below_alloc wr _).trans (below_of_grownBy hz (fun g hg => by cases hg; exact Nat.le_refl _) (by simp))) _)
            have HFIN := Lib.hid hfin
            clear hI hgj hSj hrPj hfin
            generalize (wr.alloc (.cells z64 24)) = wI at *
            generalize wr.heap.size = I at *
            go_loopw [13] (fun i wz => ∃ k : Nat, k ≤ 64 ∧ i = .int .i64 (k : Int) ∧ Blk wz I 24 (bvs (ch.take k ++ List.replicate (64 - k) 0)).toArray ∧ wI.grownBy wz (some I)) (fun i _ => 64 - (intOf i).toNat)
            case atStart => exact ⟨0, Nat.zero_le _, rfl, hI', World.grownBy.refl _ _⟩
            case round =>
              obtain ⟨k, hk, rfl, hIk, hgk⟩ := hrel
              have hrPk := hrPI.grown hgk (.inl (by simpa using hadI))
              by_cases hk64 : k < 64
              · obtain ⟨_, e, _, hcell⟩ := hrPk.at_ (k := 64 * j + k) (by omega)
                cases e
                have hfs := fill_step ch 64 k (R.getD (64 * j + k) 0) hk64 (HCHG.out k hk64)
                have hset := hIk.set_ k (.int .u8 ((R.getD (64 * j + k) 0).toNat : Int))
                rw [hfs] at hset
                have hf := hIk.frozen k
                have hcI : ∃ u, wr.cell? ⟨I, k, none⟩ = some u := by
                  rw [hIk.cell k, List.getElem?_toArray]
                  exact ⟨_, List.getElem?_eq_getElem (by rw [bvs_length, List.length_append, List.length_take, List.length_replicate, hst3]; omega)⟩
                obtain ⟨u, hcI⟩ := hcI
                generalize (R.getD (64 * j + k) 0).toNat = y at *
                have HSET := Lib.hid hset
                clear hset hfs
                have g1 : (k : Int) < 64 := by omega
                have g2 : IntKind.i64.wrap (64 * (j : Int) + (k : Int)) = 64 * (j : Int) + (k : Int) := IntWalk.i64_in _ (by omega)
                have g3 : (0 : Int) ≤ 64 * (j : Int) + (k : Int) := by omega
                have g4 : 64 * (j : Int) + (k : Int) < (N6 : Int) := by omega
                have g5 : (64 * (j : Int) + (k : Int)).toNat = 64 * j + k := by omega
                go_wp2_with fail
                exact ⟨⟨k + 1, by omega, congrArg (Value.int .i64) (by omega), HSET.out, hgk.trans (grownBy_set _ _ _ _)⟩, by simp only [intOf]; omega⟩
              · obtain rfl : k = 64 := by omega
                have hch64 : ch.take 64 ++ List.replicate (64 - 64) 0 = ch := by rw [List.take_of_length_le (by omega)]; simp
                rw [hch64] at hIk
                have hSk := hSI.grown hgk (by intro e; injection e with e; omega)
                have hgk9 := HFIN.out _ hgk
                have hTk9 := Tab_grown hT11 hgk9 hGS0
                have hnl : (feed n tb H1 (R.take (64 * (j + 1)))).s.length = 8 := (feed_ok n tb _ H1 hH1o).1.s
                obtain ⟨sn, hsn⟩ : ∃ sn, (feed n tb H1 (R.take (64 * (j + 1)))).s = sn := ⟨_, rfl⟩
                have hst7 : blockF n tb sj ch = sn := by rw [← HSTEP.out]; exact hsn
                rw [hsn] at hnl
                have HSN := Lib.hid hsn
                have HST7 := Lib.hid hst7
                clear hsn hst7
                have g2 : IntKind.i64.wrap (64 * (j : Int) + 64) = 64 * (j : Int) + 64 := IntWalk.i64_in _ (by omega)
                repeat (first
                  | ((with_reducible refine wpl_load GS _ _ Tryd.underlying23 i8x32 hSk ((u32s_size _).trans hst2) ?_ ?_); (focus rfl); simp only [Act.put, List.setIfInBounds_toArray, List.set_cons_zero, List.set_cons_succ])
                  | ((with_reducible refine wpl_load I _ _ Tryd.underlying24 i64x8 hIk ((bvs_size _).trans hst3) ?_ ?_); (focus rfl); simp only [Act.put, List.setIfInBounds_toArray, List.set_cons_zero, List.set_cons_succ])
                  | (go_at_call 11; refine (block_any n HN.out _ sj hst2 ch hst3 tb hTk9).mono ?_; rw [HST7.out]; rintro e w12 ⟨rfl, hb12⟩; simp only []; have hS12 := hSk.below hb12 hSk.lt; have hg12 := hgk9.trans (grownBy_of_below hb12 (some GS)))
                  | ((with_reducible refine wpl_store GS _ _ (u32s sn).toArray i8x32 hS12 ((u32s_size _).trans hst2) ((u32s_size _).trans hnl) (u32s_one _) ?_ ?_ ?_); (focus rfl); (focus rfl))
                  | go_values | go_skip | go_guarded | go_step | go_upon | go_back)
                exact ⟨⟨j + 1, by omega, congrArg (Value.int .i64) (by omega), by rw [HSN.out]; exact hS12.setRow _, hg12.trans (grownBy_setRow _ _ _)⟩, by simp only [intOf]; omega⟩
          · obtain rfl : j = nb := by omega
            rw [List.take_of_length_le (by omega)] at hSj
            have hFl : (feed n tb H1 R).s.length = 8 := (feed_ok n tb _ H1 hH1o).1.s
            obtain ⟨F, hF⟩ : ∃ F, (feed n tb H1 R).s = F := ⟨_, rfl⟩
            have hFD : outB F = digest n tb P2 := by rw [← hF]; exact HDP2.out
            rw [hF] at hSj hFl
            clear hF hzz
            have hbj : Below w.heap.size w wr := hbb11.grown hgj hbb11.size (fun q hq => by cases hq; exact hws)
            have hTj := Tab_grown hT11 hgj hGS0
            have hAllj := keepG hAll hgj hA4G
            have hgt : ¬ (64 * (j : Int)) < (N6 : Int) := by omega
            go_wp2_with fail
            have hD2l : (digest n tb P2).length = 32 := digest_length n tb P2
            obtain ⟨D2, hD2⟩ : ∃ D2, digest n tb P2 = D2 := ⟨_, rfl⟩
            rw [hD2] at hFD hD2l
            have hd2s : (bvs D2).toArray.size = 32 := by rw [bvs_size, hD2l]
            have HD2 := Lib.hid hD2
            clear hD2
            refine (sum_any n HN.out wr A4 N4 c4 P2 tb hTj hAllj hc6 (by omega)).mono ?_
            rw [HD2.out]
            rintro e w14 ⟨rfl, hb14⟩
            simp only []
            repeat (first
              | ((with_reducible refine wpl_store_fresh (bvs D2).toArray i32x8 ?_ hd2s (bvs_all _) ?_ ?_ ?_); (focus kernel_rfl); (focus rfl); (focus rfl); intro w15 hW15 hl15 hb15)
              | go_values | go_skip | go_guarded | go_step | go_upon | go_back)
            have hS14 := hSj.below hb14 hSj.lt
            have hS15 := hS14.below hb15 hS14.lt
            have hT15 := Tab.below (Tab.below hTj hb14) (hb15.mono (Nat.le_refl _))
            have hbb14 := hbj.trans (hb14.mono hbj.size)
            have hbb15 : Below w.heap.size w w15 := hbb14.trans (hb15.mono hbb14.size)
            clear hS14 hSj hb14 hb15 hbb14 hTj hAllj
            generalize w14.heap.size = GW at *
            go_loopw [15] (fun i wq => ∃ k : Nat, k ≤ 32 ∧ i = .int .i64 (k : Int) ∧ Below w15.heap.size w15 wq) (fun i _ => 32 - (intOf i).toNat)
            case atStart => exact ⟨0, Nat.zero_le _, rfl, Below.refl _ _⟩
            case round =>
              obtain ⟨k, hk, rfl, hbq⟩ := hrel
              by_cases hk32 : k < 32
              · have hat := outB_at F (k / 4) (k % 4) (by omega) (by omega)
                rw [show 4 * (k / 4) + k % 4 = k by omega, hFD] at hat
                have c1 := u32s_at (hS15.below hbq hS15.lt) (i := k / 4) (by omega)
                have c2 := bytes_at (hW15.below hbq hW15.lt) (i := k) (by omega)
                have hyD : D2[k]? = some (D2.getD k 0) := by rw [List.getD_eq_getElem?_getD, List.getElem?_eq_getElem (by omega)]; rfl
                rw [hyD] at hat
                obtain ⟨x, hx⟩ : ∃ x, F.getD (k / 4) 0 = x := ⟨_, rfl⟩
                rw [hx] at c1 hat
                generalize D2.getD k 0 = yb at *
                clear hx hyD
                obtain ⟨q, hqk⟩ : ∃ q, k / 4 = q := ⟨_, rfl⟩
                rw [hqk] at c1
                have d1 : (k : Int) / 4 = (q : Int) := by omega
                have hq8i : (q : Int) < 8 := by omega
                have hq0i : (0 : Int) ≤ (q : Int) := by omega
                have g4 : IntKind.i64.wrap (q : Int) = (q : Int) := IntWalk.i64_in _ (by omega)
                have g1 : (k : Int) < 32 := by omega
                clear hqk
                have hrci : ((k : Int) % 4 = 0 ∧ (yb.toNat : Int) = x / 16777216 % 256) ∨ ((k : Int) % 4 = 1 ∧ (yb.toNat : Int) = x / 65536 % 256) ∨ ((k : Int) % 4 = 2 ∧ (yb.toNat : Int) = x / 256 % 256) ∨ ((k : Int) % 4 = 3 ∧ (yb.toNat : Int) = x % 256) := by
                  have hub : ∀ v : Int, some yb = some (ub (v % 256)) → (yb.toNat : Int) = v % 256 := fun v h => by rw [Option.some.inj h]; exact ub_nat (Int.emod_nonneg _ (by decide)) (Int.emod_lt_of_pos _ (by decide))
                  have hrc : k % 4 = 0 ∨ k % 4 = 1 ∨ k % 4 = 2 ∨ k % 4 = 3 := by omega
                  rcases hrc with h | h | h | h
                  · rw [h] at hat; exact .inl ⟨by omega, hub _ hat⟩
                  · rw [h] at hat; exact .inr (.inl ⟨by omega, hub _ hat⟩)
                  · rw [h] at hat; exact .inr (.inr (.inl ⟨by omega, hub _ hat⟩))
                  · rw [h] at hat; exact .inr (.inr (.inr ⟨by omega, hub _ hat⟩))
                clear hat
                rcases hrci with ⟨d2, he⟩ | ⟨d2, he⟩ | ⟨d2, he⟩ | ⟨d2, he⟩
                · have hne : ((yb.toNat : Int) != IntKind.u8.wrap (x / 2 ^ min (IntKind.u64.wrap (IntKind.i64.wrap (24 - IntKind.i64.wrap 0))).toNat 32)) = false := by
                    rw [bne_eq_false_iff_eq, he, show min (IntKind.u64.wrap (IntKind.i64.wrap (24 - IntKind.i64.wrap 0))).toNat 32 = 24 by decide]
                    simp [IntKind.wrap, IntKind.bits, IntKind.signed]
                  have d2t := (Int.tmod_eq_emod_of_nonneg (a := (k : Int)) (b := 4) (by omega)).trans d2
                  clear he d2
                  go_wp2_with fail
                  refine wp_region_plan [(0, true), (1, true), (2, true), (3, true), (4, true), (5, true), (6, true), (7, true), (8, true), (9, true), (10, true), (11, true), (12, true), (13, true), (14, true)]
                    (fun z => z.cell? ⟨GS, q, none⟩ = some (.int .u32 x) ∧ z.cell? ⟨GW, k, none⟩ = some (.int .u8 (yb.toNat : Int))) (by kernel_rfl) (by kernel_rfl) (by kernel_rfl) (by kernel_rfl) (fun _ _ d _ _ h => by cases d <;> exact h) ⟨c1, c2⟩ ?_
                  simp only [planOps, List.getElem?_toArray, List.getElem?_cons_zero, List.getElem?_cons_succ]
                  repeat (first
                    | (refine wpS_skip (by rfl) ?_; simp only [Act.put, List.setIfInBounds_toArray, List.set_cons_zero, List.set_cons_succ])
                    | (refine wpS_q ?_ (by rfl) ?_ ?_; rotate_left; (focus (intro z hz; (try dsimp only at hz); go_simp; rfl)); simp only [Act.put, List.setIfInBounds_toArray, List.set_cons_zero, List.set_cons_succ]))
                  refine wpS_nil ?_
                  go_wp2_with fail
                  exact ⟨⟨k + 1, by omega, congrArg (Value.int .i64) (by omega), hbq.drew⟩, by simp only [intOf]; omega⟩
                · have hne : ((yb.toNat : Int) != IntKind.u8.wrap (x / 2 ^ min (IntKind.u64.wrap (IntKind.i64.wrap (24 - IntKind.i64.wrap 8))).toNat 32)) = false := by
                    rw [bne_eq_false_iff_eq, he, show min (IntKind.u64.wrap (IntKind.i64.wrap (24 - IntKind.i64.wrap 8))).toNat 32 = 16 by decide]
                    simp [IntKind.wrap, IntKind.bits, IntKind.signed]
                  have d2t := (Int.tmod_eq_emod_of_nonneg (a := (k : Int)) (b := 4) (by omega)).trans d2
                  clear he d2
                  go_wp2_with fail
                  refine wp_region_plan [(0, true), (1, true), (2, true), (3, true), (4, true), (5, true), (6, true), (7, true), (8, true), (9, true), (10, true), (11, true), (12, true), (13, true), (14, true)]
                    (fun z => z.cell? ⟨GS, q, none⟩ = some (.int .u32 x) ∧ z.cell? ⟨GW, k, none⟩ = some (.int .u8 (yb.toNat : Int))) (by kernel_rfl) (by kernel_rfl) (by kernel_rfl) (by kernel_rfl) (fun _ _ d _ _ h => by cases d <;> exact h) ⟨c1, c2⟩ ?_
                  simp only [planOps, List.getElem?_toArray, List.getElem?_cons_zero, List.getElem?_cons_succ]
                  repeat (first
                    | (refine wpS_skip (by rfl) ?_; simp only [Act.put, List.setIfInBounds_toArray, List.set_cons_zero, List.set_cons_succ])
                    | (refine wpS_q ?_ (by rfl) ?_ ?_; rotate_left; (focus (intro z hz; (try dsimp only at hz); go_simp; rfl)); simp only [Act.put, List.setIfInBounds_toArray, List.set_cons_zero, List.set_cons_succ]))
                  refine wpS_nil ?_
                  go_wp2_with fail
                  exact ⟨⟨k + 1, by omega, congrArg (Value.int .i64) (by omega), hbq.drew⟩, by simp only [intOf]; omega⟩
                · have hne : ((yb.toNat : Int) != IntKind.u8.wrap (x / 2 ^ min (IntKind.u64.wrap (IntKind.i64.wrap (24 - IntKind.i64.wrap 16))).toNat 32)) = false := by
                    rw [bne_eq_false_iff_eq, he, show min (IntKind.u64.wrap (IntKind.i64.wrap (24 - IntKind.i64.wrap 16))).toNat 32 = 8 by decide]
                    simp [IntKind.wrap, IntKind.bits, IntKind.signed]
                  have d2t := (Int.tmod_eq_emod_of_nonneg (a := (k : Int)) (b := 4) (by omega)).trans d2
                  clear he d2
                  go_wp2_with fail
                  refine wp_region_plan [(0, true), (1, true), (2, true), (3, true), (4, true), (5, true), (6, true), (7, true), (8, true), (9, true), (10, true), (11, true), (12, true), (13, true), (14, true)]
                    (fun z => z.cell? ⟨GS, q, none⟩ = some (.int .u32 x) ∧ z.cell? ⟨GW, k, none⟩ = some (.int .u8 (yb.toNat : Int))) (by kernel_rfl) (by kernel_rfl) (by kernel_rfl) (by kernel_rfl) (fun _ _ d _ _ h => by cases d <;> exact h) ⟨c1, c2⟩ ?_
                  simp only [planOps, List.getElem?_toArray, List.getElem?_cons_zero, List.getElem?_cons_succ]
                  repeat (first
                    | (refine wpS_skip (by rfl) ?_; simp only [Act.put, List.setIfInBounds_toArray, List.set_cons_zero, List.set_cons_succ])
                    | (refine wpS_q ?_ (by rfl) ?_ ?_; rotate_left; (focus (intro z hz; (try dsimp only at hz); go_simp; rfl)); simp only [Act.put, List.setIfInBounds_toArray, List.set_cons_zero, List.set_cons_succ]))
                  refine wpS_nil ?_
                  go_wp2_with fail
                  exact ⟨⟨k + 1, by omega, congrArg (Value.int .i64) (by omega), hbq.drew⟩, by simp only [intOf]; omega⟩
                · have hne : ((yb.toNat : Int) != IntKind.u8.wrap (x / 2 ^ min (IntKind.u64.wrap (IntKind.i64.wrap (24 - IntKind.i64.wrap 24))).toNat 32)) = false := by
                    rw [bne_eq_false_iff_eq, he, show min (IntKind.u64.wrap (IntKind.i64.wrap (24 - IntKind.i64.wrap 24))).toNat 32 = 0 by decide]
                    simp [IntKind.wrap, IntKind.bits, IntKind.signed]
                  have d2t := (Int.tmod_eq_emod_of_nonneg (a := (k : Int)) (b := 4) (by omega)).trans d2
                  clear he d2
                  go_wp2_with fail
                  refine wp_region_plan [(0, true), (1, true), (2, true), (3, true), (4, true), (5, true), (6, true), (7, true), (8, true), (9, true), (10, true), (11, true), (12, true), (13, true), (14, true)]
                    (fun z => z.cell? ⟨GS, q, none⟩ = some (.int .u32 x) ∧ z.cell? ⟨GW, k, none⟩ = some (.int .u8 (yb.toNat : Int))) (by kernel_rfl) (by kernel_rfl) (by kernel_rfl) (by kernel_rfl) (fun _ _ d _ _ h => by cases d <;> exact h) ⟨c1, c2⟩ ?_
                  simp only [planOps, List.getElem?_toArray, List.getElem?_cons_zero, List.getElem?_cons_succ]
                  repeat (first
                    | (refine wpS_skip (by rfl) ?_; simp only [Act.put, List.setIfInBounds_toArray, List.set_cons_zero, List.set_cons_succ])
                    | (refine wpS_q ?_ (by rfl) ?_ ?_; rotate_left; (focus (intro z hz; (try dsimp only at hz); go_simp; rfl)); simp only [Act.put, List.setIfInBounds_toArray, List.set_cons_zero, List.set_cons_succ]))
                  refine wpS_nil ?_
                  go_wp2_with fail
                  exact ⟨⟨k + 1, by omega, congrArg (Value.int .i64) (by omega), hbq.drew⟩, by simp only [intOf]; omega⟩
              · obtain rfl : k = 32 := by omega
                have hTq := Tab.below hT15 hbq
                go_wp2_with (go_at_call 13; refine (works_any n HN.out wr tb HTB.out hTq).mono ?_; rintro e w16 ⟨rfl, hb16⟩)
                go_ret
                exact ⟨rfl, hbb15.trans ((hbq.trans (hb16.mono hbq.size)).mono hbb15.size)⟩
theorem shaGoesOn_walk (W : World) (hT : Tab W tblL) (A : Option Addr) (m c : Nat) (xs : List UInt8) (_ : xs.length = m) (hr : RB W A m xs) (hmc : m ≤ c) (hm : m ≤ 140737488351232) (_ : ∀ ad, A = some ad → ad.block < W.heap.size)
    (A' : Option Addr) (m' c' : Nat) (ys : List UInt8) (_ : ys.length = m') (hr' : RB W A' m' ys) (_ : m' ≤ c') (hm' : m' ≤ 140737488351232) (_ : ∀ ad, A' = some ad → ad.block < W.heap.size) :
    Calls Tryd.prog 5 #[.slice A m c, .slice A' m' c'] W fun e w' => e = .returned (.bool true) ∧ Below W.heap.size W w' := shaGoesOn_any 64 rfl W tblL rfl hT A m c xs hr hmc hm A' m' c' ys hr' hm'
end Go.Proofs.YtohfgplaocgadaaDoor
