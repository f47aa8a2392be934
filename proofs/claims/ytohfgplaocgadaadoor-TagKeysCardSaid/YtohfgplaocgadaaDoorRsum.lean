/- ratchetref02: Sum. -/
import Derived.Test.YtohfgplaocgadaaDoorWorks
import Derived.Test.YtohfgplaocgadaaDoorRb
import Derived.Test.YtohfgplaocgadaaDoorFeedb
namespace Go.Proofs.YtohfgplaocgadaaDoor
open Go.RowKit Go.Rat
set_option maxRecDepth 8000 in
set_option maxHeartbeats 4000000 in
theorem rsum_any (n : Nat) (hn64 : n = 64) (w : World) (A : Option Addr) (m c : Nat) (xs : List UInt8) (tb : List Int) (htb : tblL = tb) (hr : RB w A m xs) (hm : m < 1099511627776) :
    Calls Tryd.prog 15 #[.slice A m c] w fun e w' => e = .returned (.agg (bvs (digest n tb xs)).toArray) ∧ Below w.heap.size w w' := by
  have HN := Lib.hid hn64
  have HTB := Lib.hid htb
  clear hn64 htb
  have hl := hr.len
  have hdl := digest_length n tb xs
  obtain ⟨D, hD⟩ : ∃ D, digest n tb xs = D := ⟨_, rfl⟩
  rw [hD] at hdl ⊢
  have HD := Lib.hid hD
  clear hD
  go_enter Tryd.func15, Tryd.ntmps15
  have hZ := Blk.new w 29 (bvs (List.replicate 32 0)).toArray
  have hb1 := below_alloc w (.cells (bvs (List.replicate 32 0)).toArray 29)
  have hl1 : w.heap.size < (w.alloc (.cells (bvs (List.replicate 32 0)).toArray 29)).heap.size := by simp
  have hr1 := hr.below hb1
  obtain ⟨z32, hz32⟩ : ∃ z : Array Value, (bvs (List.replicate 32 0)).toArray = z := ⟨_, rfl⟩
  rw [hz32] at hZ hb1 hl1 hr1
  have hzz : (#[.int .u8 0, .int .u8 0, .int .u8 0, .int .u8 0, .int .u8 0, .int .u8 0, .int .u8 0, .int .u8 0, .int .u8 0, .int .u8 0, .int .u8 0, .int .u8 0, .int .u8 0, .int .u8 0, .int .u8 0, .int .u8 0, .int .u8 0, .int .u8 0, .int .u8 0, .int .u8 0, .int .u8 0, .int .u8 0, .int .u8 0, .int .u8 0, .int .u8 0, .int .u8 0, .int .u8 0, .int .u8 0, .int .u8 0, .int .u8 0, .int .u8 0, .int .u8 0] : Array Value) = z32 := by rw [← hz32]; rfl
  have HZ32 := Lib.hid hz32
  clear hz32
  have hsz1 : (w.alloc (.cells z32 29)).heap.size = w.heap.size + 1 := by simp
  have hO1 : OB 5 ((w.alloc (.cells z32 29)).alloc (.cells #[] 5)) (w.heap.size + 1) (some ⟨w.heap.size + 1, 0, none⟩) 0 0 [] := by
    have := OB.empty (w.alloc (.cells z32 29)) 5
    rwa [hsz1] at this
  have HSZ := Lib.hid hsz1
  clear hsz1
  go_wp2_with (first
    | (at_builtin; refine app_bytes rfl _ _ rfl (w.heap.size + 1) _ _ _ [] rfl hO1 _ _ _ xs rfl (hr1.alloc _) (by omega) (by simp) ?_; intro A2 N2 c2 w2 hc2 hc3 hO2 hG2)
    | (at_builtin; refine app_bytes rfl _ _ rfl (w.heap.size + 1) _ _ _ _ rfl (hO2.alloc _) _ _ _ [128] rfl (RB.one_ _ _ rfl) (by have := hO2.len; simp only [List.nil_append] at this; omega) (by have := hG2.grown.size; simp at this ⊢; omega) ?_; intro A3 N3 c3 w3 hc4 hc5 hO3 hG3))
  have hB0 : Below (w.heap.size + 1) (w.alloc (.cells z32 29)) ((w.alloc (.cells z32 29)).alloc (.cells #[] 5)) := by rw [← HSZ.out]; exact below_alloc _ _
  have hB2 := hG2.own hB0 (by rw [HSZ.out]; exact Nat.le_refl _) hO1
  have hB3 := hG3.own (below_alloc2 hB2 (by rw [HSZ.out]; exact Nat.le_refl _) _) (by rw [HSZ.out]; exact Nat.le_refl _) (hO2.alloc (.cells #[.int .u8 128] 5))
  have hZ3 := hZ.below hB3 (Nat.lt_succ_self _)
  have hO3' : OB 5 w3 (w.heap.size + 1) A3 N3 c3 (xs ++ 128 :: List.replicate 0 0) := by simpa using hO3
  clear hB2 hB0 hO2 hO1 hG2 hG3 hO3 hc2 hc3 hc4 hc5 hzz hl1
  have hb13 : Below w.heap.size w w3 := hb1.trans (hB3.mono (Nat.le_succ _))
  have hr3 := hr.below hb13
  have hbs3 : w.heap.size + 1 ≤ w3.heap.size := by have := hB3.size; rw [HSZ.out] at this; exact this
  go_loopw [3] (fun v wr => ∃ A4 N4 c4 j, j ≤ zs m ∧ v = .slice A4 N4 c4 ∧ OB 5 wr (w.heap.size + 1) A4 N4 c4 (xs ++ 128 :: List.replicate j 0) ∧ Below (w.heap.size + 1) w3 wr) (fun v _ => (120 - lenV v % 64) % 64)
  case atStart => exact ⟨A3, N3, c3, 0, Nat.zero_le _, rfl, hO3', Below.refl _ _⟩
  case round =>
    obtain ⟨A4, N4, c4, j, hj, rfl, hO4, hB4⟩ := hrel
    have hN4 := hO4.len
    rw [List.length_append, List.length_cons, List.length_replicate, hl] at hN4
    have hzd : zs m = (119 - m % 64) % 64 := rfl
    have hbs : w.heap.size + 1 ≤ wr.heap.size := Nat.le_trans hbs3 hB4.size
    by_cases hz : j = zs m
    · subst hz
      have h56 : (((N4 : Int) % 64) != 56) = false := by rw [bne_eq_false_iff_eq]; omega
      have hM : ∃ M : Int, (m : Int) * 8 = M := ⟨_, rfl⟩
      obtain ⟨M, hM⟩ := hM
      have HM := Lib.hid hM
      go_wp2_with fail
      clear hM h56
      go_loopw [3, 5] (fun v i wq => ∃ A6 N6 c6, ∃ q : Nat, q ≤ 8 ∧ v = .slice A6 N6 c6 ∧ i = .int .i64 (7 - (q : Int)) ∧ OB 5 wq (w.heap.size + 1) A6 N6 c6 (xs ++ 128 :: List.replicate (zs m) 0 ++ (be8 M).take q) ∧ Below (w.heap.size + 1) w3 wq) (fun _ i _ => (intOf i + 1).toNat)
      case atStart => exact ⟨A4, N4, c4, 0, by omega, rfl, rfl, by simpa using hO4, hB4⟩
      case round =>
        obtain ⟨A6, N6, c6, q, hq, rfl, rfl, hO6, hB6⟩ := hrel
        have hbs6 : w.heap.size + 1 ≤ wr.heap.size := Nat.le_trans hbs3 hB6.size
        have hN6 := hO6.len
        rw [List.length_append, List.length_append, List.length_cons, List.length_replicate, List.length_take, hl] at hN6
        have h8 : (be8 M).length = 8 := rfl
        by_cases hq8 : q < 8
        · have hstep : ∀ x, (be8 M)[q]? = some x → xs ++ 128 :: List.replicate (zs m) 0 ++ (be8 M).take q ++ [x] = xs ++ 128 :: List.replicate (zs m) 0 ++ (be8 M).take (q + 1) := fun x hx => by
            rw [List.take_add_one, hx, List.append_assoc]
            rfl
          have HST := Lib.hid hstep
          clear hstep
          have hcase : q = 0 ∨ q = 1 ∨ q = 2 ∨ q = 3 ∨ q = 4 ∨ q = 5 ∨ q = 6 ∨ q = 7 := by omega
          rcases hcase with rfl | rfl | rfl | rfl | rfl | rfl | rfl | rfl
          all_goals (
            go_wp2_with (at_builtin; refine app_bytes rfl _ _ rfl (w.heap.size + 1) _ _ _ _ rfl (hO6.alloc _) _ _ _ [ub (_ % 256)] rfl (RB.one_ _ _ (bv_ub (Int.emod_nonneg _ (by decide)) (Int.emod_lt_of_pos _ (by decide))).symm) (by omega) (by simp; omega) ?_; intro A7 N7 c7 w7 hc7 hc8 hO7 hG7)
            rw [HST.out _ (by rfl)] at hO7
            have hB7 := hG7.own (below_alloc2 hB6 hbs3 _) hbs3 (hO6.alloc _)
            exact ⟨⟨A7, N7, c7, _, by omega, rfl, congrArg (Value.int .i64) (by omega), hO7, hB7⟩, by simp only [intOf]; omega⟩)
        · obtain rfl : q = 8 := by omega
          rw [show (be8 M).take 8 = be8 M from rfl] at hO6
          rw [show (7 : Int) - ((8 : Nat) : Int) = -1 by decide]
          obtain ⟨P, hP⟩ : ∃ P, xs ++ 128 :: List.replicate (zs m) 0 ++ be8 M = P := ⟨_, rfl⟩
          rw [hP] at hO6
          have hPx : xs ++ padding xs.length = P := by rw [← hP, padding, hl, HM.out, List.append_assoc]; rfl
          have hPl : P.length % 64 = 0 := by
            have := padding_length xs.length
            rwa [← List.length_append, hPx] at this
          have hPN := hO6.len
          have hP0 : 0 < P.length := by rw [← hPx, List.length_append, padding, List.length_cons]; omega
          have hrP := hO6.reads
          obtain ⟨nb, hnb⟩ : ∃ nb, P.length = 64 * nb := ⟨P.length / 64, by omega⟩
          have hDP : outB (feed n tb h0 P).s = D := by rw [← HD.out, digest, hPx]
          have HDP := Lib.hid hDP
          have hPm : P.length ≤ m + 200 := by rw [← hPx]; simp [padding, be8, zs]; omega
          obtain ⟨ad, rfl, hadlt, _⟩ := hrP.2 (by omega)
          have hZ6 := hZ3.below hB6 (Nat.lt_succ_self _)
          have hb6 : Below w.heap.size w wr := hb13.trans (hB6.mono (Nat.le_succ _))
          clear hDP hPx hP hPl hO6 hB6 hN6 hZ3 hb13 hr3 hr1 hZ hb1 hB3 hO3' hO4 hB4 hN4 hbs hzd h8
          go_wp2_with fail
          refine (rstart_any wr).mono ?_
          obtain ⟨st, hst⟩ : ∃ st, (u32s start).toArray = st := ⟨_, rfl⟩
          rw [hst]
          have hstl : st.size = 8 := by rw [← hst]; rfl
          have hst1 : st.all (·.oneCell') = true := by rw [← hst]; exact u32s_one _
          have HST := Lib.hid hst
          clear hst
          rintro e w8 ⟨rfl, hb8⟩
          simp only []
          have hZ8 := hZ6.below hb8 hZ6.lt
          have hrP8 := hrP.below hb8
          have hbb8 := hb6.trans (hb8.mono hb6.size)
          repeat (first
            | ((with_reducible refine wpl_store_fresh st i8x32 ?_ hstl hst1 ?_ ?_ ?_); (focus kernel_rfl); (focus rfl); (focus rfl); intro w9 hS9 hl9 hb9)
            | go_values | go_skip | go_guarded | go_step | go_upon | go_back)
          have hrP9 := hrP8.below hb9
          have hZ9 := hZ8.below hb9 hZ8.lt
          have hbb9 := hbb8.trans (hb9.mono hbb8.size)
          have hadG : ad.block ≠ w8.heap.size := by have := hb8.size; omega
          have hZG : w.heap.size ≠ w8.heap.size := by have := hZ8.lt; omega
          have hGw : w.heap.size ≤ w8.heap.size := hbb8.size
          have hS9' : Blk w9 w8.heap.size 23 (u32s (feed n tb h0 (P.take (64 * 0))).s).toArray := by rw [← HST.out] at hS9; exact hS9
          clear hS9 hb9 hb8 hZ8 hZ6 hrP8 hrP hbb8 hb6
          generalize w8.heap.size = G at *
          obtain ⟨z64, hz64⟩ : ∃ z : Array Value, (bvs (List.replicate 64 0)).toArray = z := ⟨_, rfl⟩
          have hzz : (#[.int .u8 0, .int .u8 0, .int .u8 0, .int .u8 0, .int .u8 0, .int .u8 0, .int .u8 0, .int .u8 0, .int .u8 0, .int .u8 0, .int .u8 0, .int .u8 0, .int .u8 0, .int .u8 0, .int .u8 0, .int .u8 0, .int .u8 0, .int .u8 0, .int .u8 0, .int .u8 0, .int .u8 0, .int .u8 0, .int .u8 0, .int .u8 0, .int .u8 0, .int .u8 0, .int .u8 0, .int .u8 0, .int .u8 0, .int .u8 0, .int .u8 0, .int .u8 0, .int .u8 0, .int .u8 0, .int .u8 0, .int .u8 0, .int .u8 0, .int .u8 0, .int .u8 0, .int .u8 0, .int .u8 0, .int .u8 0, .int .u8 0, .int .u8 0, .int .u8 0, .int .u8 0, .int .u8 0, .int .u8 0, .int .u8 0, .int .u8 0, .int .u8 0, .int .u8 0, .int .u8 0, .int .u8 0, .int .u8 0, .int .u8 0, .int .u8 0, .int .u8 0, .int .u8 0, .int .u8 0, .int .u8 0, .int .u8 0, .int .u8 0, .int .u8 0] : Array Value) = z64 := by rw [← hz64]; rfl
          have HZ64 := Lib.hid hz64
          clear hz64
          go_loopw [7] (fun i wq => ∃ j : Nat, j ≤ nb ∧ i = .int .i64 (64 * (j : Int)) ∧ Blk wq G 23 (u32s (feed n tb h0 (P.take (64 * j))).s).toArray ∧ w9.grownBy wq (some G)) (fun i _ => (64 * (nb : Int) - intOf i).toNat)
          case atStart => exact ⟨0, Nat.zero_le _, rfl, hS9', World.grownBy.refl _ _⟩
          case round =>
            obtain ⟨j, hj, rfl, hSj, hgj⟩ := hrel
            have hrPj := hrP9.grown hgj (.inl (by simpa using hadG))
            by_cases hjn : j < nb
            · obtain ⟨hst1', hst2, hst3⟩ := blk_step n tb P nb j hnb hjn
              obtain ⟨ch, hch⟩ : ∃ ch, (P.drop (64 * j)).take 64 = ch := ⟨_, rfl⟩
              have hchg : ∀ k, k < 64 → ch[k]? = some (P.getD (64 * j + k) 0) := fun k hk => by rw [← hch]; exact chunk_get P (64 * j) k hk (by omega)
              rw [hch] at hst1' hst3
              obtain ⟨sj, hsj⟩ : ∃ sj, (feed n tb h0 (P.take (64 * j))).s = sj := ⟨_, rfl⟩
              rw [hsj] at hst1' hst2 hSj
              have HSTEP := Lib.hid hst1'
              have HCHG := Lib.hid hchg
              clear hst1' hch hsj hchg
              have hlti : (64 * (j : Int)) < (N6 : Int) := by omega
              have hI := Blk.new wr 24 z64
              have hSI := hSj.alloc (.cells z64 24)
              have hrPI := hrPj.alloc (.cells z64 24)
              have hGI : G < wr.heap.size := hSj.lt
              have hadI : ad.block ≠ wr.heap.size := by have := (hrPj.2 (by omega)); obtain ⟨_, e, h, _⟩ := this; cases e; omega
              have hgI := hgj.trans (World.grownBy_alloc wr (.cells z64 24) (some G))
              go_wp2_with fail
              have hI' : Blk (wr.alloc (.cells z64 24)) wr.heap.size 24 (bvs (ch.take 0 ++ List.replicate (64 - 0) 0)).toArray := by rw [← HZ64.out] at hI ⊢; exact hI
              have hfin : ∀ z, (wr.alloc (.cells z64 24)).grownBy z (some wr.heap.size) → w9.grownBy z (some G) := fun z hz =>
                hgj.trans (grownBy_of_below ((below_alloc wr _).trans (below_of_grownBy hz (fun g hg => by cases hg; exact Nat.le_refl _) (by simp))) _)
              have HFIN := Lib.hid hfin
              clear hI hgj hSj hrPj hfin
              generalize (wr.alloc (.cells z64 24)) = wI at *
              generalize wr.heap.size = I at *
              go_loopw [9] (fun i wz => ∃ k : Nat, k ≤ 64 ∧ i = .int .i64 (k : Int) ∧ Blk wz I 24 (bvs (ch.take k ++ List.replicate (64 - k) 0)).toArray ∧ wI.grownBy wz (some I)) (fun i _ => 64 - (intOf i).toNat)
              case atStart => exact ⟨0, Nat.zero_le _, rfl, hI', World.grownBy.refl _ _⟩
              case round =>
                obtain ⟨k, hk, rfl, hIk, hgk⟩ := hrel
                have hrPk := hrPI.grown hgk (.inl (by simpa using hadI))
                by_cases hk64 : k < 64
                · obtain ⟨_, e, _, hcell⟩ := hrPk.at_ (k := 64 * j + k) (by omega)
                  cases e
                  have hfs := fill_step ch 64 k (P.getD (64 * j + k) 0) hk64 (HCHG.out k hk64)
                  have hset := hIk.set_ k (.int .u8 ((P.getD (64 * j + k) 0).toNat : Int))
                  rw [hfs] at hset
                  have hf := hIk.frozen k
                  have hcI : ∃ u, wr.cell? ⟨I, k, none⟩ = some u := by
                    rw [hIk.cell k, List.getElem?_toArray]
                    exact ⟨_, List.getElem?_eq_getElem (by rw [bvs_length, List.length_append, List.length_take, List.length_replicate, hst3]; omega)⟩
                  obtain ⟨u, hcI⟩ := hcI
                  generalize (P.getD (64 * j + k) 0).toNat = y at *
                  have HSET := Lib.hid hset
                  clear hset hfs
                  have g1 : (k : Int) < 64 := by omega
                  have g2 : IntKind.i64.wrap (64 * (j : Int) + (k : Int)) = 64 * (j : Int) + (k : Int) := IntWalk.i64_in _ (by omega)
                  have g3 : (0 : Int) ≤ 64 * (j : Int) + (k : Int) := by omega
                  have g4 : 64 * (j : Int) + (k : Int) < (N6 : Int) := by omega
                  have g5 : (64 * (j : Int) + (k : Int)).toNat = 64 * j + k := by omega
                  go_wp2_with fail
                  exact ⟨⟨k + 1, by omega, by go_num, HSET.out, hgk.trans (grownBy_set _ _ _ _)⟩, by simp only [intOf]; omega⟩
                · obtain rfl : k = 64 := by omega
                  have hch64 : ch.take 64 ++ List.replicate (64 - 64) 0 = ch := by rw [List.take_of_length_le (by omega)]; simp
                  rw [hch64] at hIk
                  have hSk := hSI.grown hgk (by intro e; injection e with e; omega)
                  have hgk9 := HFIN.out _ hgk
                  have hnl : (feed n tb h0 (P.take (64 * (j + 1)))).s.length = 8 := (feed_ok n tb _ h0 h0_ok).1.s
                  obtain ⟨sn, hsn⟩ : ∃ sn, (feed n tb h0 (P.take (64 * (j + 1)))).s = sn := ⟨_, rfl⟩
                  have hst7 : blockF n tb sj ch = sn := by rw [← HSTEP.out]; exact hsn
                  rw [hsn] at hnl
                  have HSN := Lib.hid hsn
                  have HST7 := Lib.hid hst7
                  clear hsn hst7
                  have g2 : IntKind.i64.wrap (64 * (j : Int) + 64) = 64 * (j : Int) + 64 := IntWalk.i64_in _ (by omega)
                  repeat (first
                    | ((with_reducible refine wpl_load G _ _ Tryd.underlying23 i8x32 hSk ((u32s_size _).trans hst2) ?_ ?_); (focus rfl); simp only [Act.put, List.setIfInBounds_toArray, List.set_cons_zero, List.set_cons_succ])
                    | ((with_reducible refine wpl_load I _ _ Tryd.underlying24 i64x8 hIk ((bvs_size _).trans hst3) ?_ ?_); (focus rfl); simp only [Act.put, List.setIfInBounds_toArray, List.set_cons_zero, List.set_cons_succ])
                    | (go_at_call 12; refine (rblock_any n HN.out _ sj hst2 ch hst3 tb HTB.out).mono ?_; rw [HST7.out]; rintro e w12 ⟨rfl, hb12⟩; simp only []; have hS12 := hSk.below hb12 hSk.lt; have hg12 := hgk9.trans (grownBy_of_below hb12 (some G)))
                    | ((with_reducible refine wpl_store G _ _ (u32s sn).toArray i8x32 hS12 ((u32s_size _).trans hst2) ((u32s_size _).trans hnl) (u32s_one _) ?_ ?_ ?_); (focus rfl); (focus rfl))
                    | go_values | go_skip | go_guarded | go_step | go_upon | go_back)
                  exact ⟨⟨j + 1, by omega, congrArg (Value.int .i64) (by omega), by rw [HSN.out]; exact hS12.setRow _, hg12.trans (grownBy_setRow _ _ _)⟩, by simp only [intOf]; omega⟩
            · obtain rfl : j = nb := by omega
              rw [List.take_of_length_le (by omega)] at hSj
              have hFl : (feed n tb h0 P).s.length = 8 := (feed_ok n tb _ h0 h0_ok).1.s
              obtain ⟨F, hF⟩ : ∃ F, (feed n tb h0 P).s = F := ⟨_, rfl⟩
              have hFD : outB F = D := by rw [← hF]; exact HDP.out
              rw [hF] at hSj hFl
              clear hF
              have hZj := hZ9.grown hgj (by intro e; injection e with e; omega)
              have hbj : Below w.heap.size w wr := hbb9.grown hgj hbb9.size (fun q hq => by cases hq; exact hGw)
              have hgt : ¬ (64 * (j : Int)) < (N6 : Int) := by omega
              clear hzz
              have hzz2 : (#[.int .u8 0, .int .u8 0, .int .u8 0, .int .u8 0, .int .u8 0, .int .u8 0, .int .u8 0, .int .u8 0, .int .u8 0, .int .u8 0, .int .u8 0, .int .u8 0, .int .u8 0, .int .u8 0, .int .u8 0, .int .u8 0, .int .u8 0, .int .u8 0, .int .u8 0, .int .u8 0, .int .u8 0, .int .u8 0, .int .u8 0, .int .u8 0, .int .u8 0, .int .u8 0, .int .u8 0, .int .u8 0, .int .u8 0, .int .u8 0, .int .u8 0, .int .u8 0] : Array Value) = z32 := by rw [← HZ32.out]; rfl
              have hO := Blk.new wr 29 z32
              have hO' : Blk (wr.alloc (.cells z32 29)) wr.heap.size 29 (bvs ((outB F).take 0 ++ List.replicate (32 - 0) 0)).toArray := by rw [← HZ32.out] at hO ⊢; exact hO
              have hSo := hSj.alloc (.cells z32 29)
              have hZo := hZj.alloc (.cells z32 29)
              have hbo : Below w.heap.size w (wr.alloc (.cells z32 29)) := hbj.alloc (Nat.le_trans hbj.size (Nat.le_refl _)) _
              have hGo : G ≠ wr.heap.size := by have := hSj.lt; omega
              have hwo : w.heap.size ≠ wr.heap.size := by have := hZj.lt; omega
              have hwo2 : w.heap.size ≤ wr.heap.size := hbj.size
              go_wp2_with fail
              clear hO hSj hZj hbj hgj
              generalize (wr.alloc (.cells z32 29)) = wo at *
              generalize wr.heap.size = O at *
              go_loopw [11] (fun i wz => ∃ k : Nat, k ≤ 32 ∧ i = .int .i64 (k : Int) ∧ Blk wz O 29 (bvs ((outB F).take k ++ List.replicate (32 - k) 0)).toArray ∧ wo.grownBy wz (some O)) (fun i _ => 32 - (intOf i).toNat)
              case atStart => exact ⟨0, Nat.zero_le _, rfl, hO', World.grownBy.refl _ _⟩
              case round =>
                obtain ⟨k, hk, rfl, hOk, hgk⟩ := hrel
                by_cases hk32 : k < 32
                · have hSk := hSo.grown hgk (by intro e; injection e with e; omega)
                  have c1 := u32s_at hSk (i := k / 4) (by omega)
                  have hat := outB_at F (k / 4) (k % 4) (by omega) (by omega)
                  rw [show 4 * (k / 4) + k % 4 = k by omega] at hat
                  obtain ⟨x, hx⟩ : ∃ x, F.getD (k / 4) 0 = x := ⟨_, rfl⟩
                  rw [hx] at c1 hat
                  clear hx
                  obtain ⟨q, hqk⟩ : ∃ q, k / 4 = q := ⟨_, rfl⟩
                  rw [hqk] at c1
                  have d1 : (k : Int) / 4 = (q : Int) := by omega
                  have hq8i : (q : Int) < 8 := by omega
                  have hq0i : (0 : Int) ≤ (q : Int) := by omega
                  clear hqk
                  have g1 : (k : Int) < 32 := by omega
                  have hf := hOk.frozen k
                  have hcI : ∃ u, wr.cell? ⟨O, k, none⟩ = some u := by
                    rw [hOk.cell k, List.getElem?_toArray]
                    exact ⟨_, List.getElem?_eq_getElem (by rw [bvs_length, List.length_append, List.length_take, List.length_replicate, outB_length, hFl]; omega)⟩
                  obtain ⟨u, hcI⟩ := hcI
                  have hrc : k % 4 = 0 ∨ k % 4 = 1 ∨ k % 4 = 2 ∨ k % 4 = 3 := by omega
                  have hrci : ((k : Int) % 4 = 0 ∧ k % 4 = 0) ∨ ((k : Int) % 4 = 1 ∧ k % 4 = 1) ∨ ((k : Int) % 4 = 2 ∧ k % 4 = 2) ∨ ((k : Int) % 4 = 3 ∧ k % 4 = 3) := by omega
                  clear hrc
                  rcases hrci with ⟨d2, hrc⟩ | ⟨d2, hrc⟩ | ⟨d2, hrc⟩ | ⟨d2, hrc⟩
                  all_goals (
                    rw [hrc] at hat
                    have HAT := Lib.hid hat
                    clear hat
                    go_wp2_with fail
                    refine ⟨⟨k + 1, by omega, congrArg (Value.int .i64) (by omega), ?_, hgk.trans (grownBy_set _ _ _ _)⟩, by simp only [intOf]; omega⟩
                    rw [← fill_ub (outB F) 32 k _ (Int.emod_nonneg _ (by decide)) (Int.emod_lt_of_pos _ (by decide)) hk32 HAT.out]
                    exact hOk.set_ k _)
                · obtain rfl : k = 32 := by omega
                  have hDl : (outB F).length = 32 := by rw [outB_length, hFl]
                  have hfull : (outB F).take 32 ++ List.replicate (32 - 32) 0 = D := by rw [List.take_of_length_le (by omega), hFD]; simp
                  rw [hfull] at hOk
                  have hZk := hZo.grown hgk (by intro e; injection e with e; omega)
                  have hbk : Below w.heap.size w wr := hbo.grown hgk hbo.size (fun q hq => by cases hq; exact hwo2)
                  have hd32 : (bvs D).toArray.size = 32 := by rw [bvs_size, hdl]
                  have hzs : z32.size = 32 := by rw [← HZ32.out]; rfl
                  repeat (first
                    | ((with_reducible refine wpl_load O _ _ Tryd.underlying29 i32x8 hOk hd32 ?_ ?_); (focus rfl); simp only [Act.put, List.setIfInBounds_toArray, List.set_cons_zero, List.set_cons_succ])
                    | ((with_reducible refine wpl_store w.heap.size _ _ (bvs D).toArray i32x8 hZk hzs hd32 (bvs_all _) ?_ ?_ ?_); (focus rfl); (focus rfl))
                    | go_values | go_skip | go_guarded | go_step | go_upon | go_back)
                  refine bodyPost_ret (results_cell_row rfl _ _ w.heap.size _ _ (0, 0) _ rfl (hZk.setRow _) Tryd.underlying29 rfl (by rw [hd32]; exact i32x8)) rfl ?_
                  exact ⟨rfl, hbk.grown (grownBy_setRow _ _ _) hbk.size (fun p hp => by cases hp; exact Nat.le_refl _)⟩
    · have h56 : (((N4 : Int) % 64) != 56) = true := by rw [bne_iff_ne]; omega
      go_wp2_with (at_builtin; refine app_bytes rfl _ _ rfl (w.heap.size + 1) _ _ _ _ rfl (hO4.alloc _) _ _ _ [0] rfl (RB.one_ _ _ rfl) (by omega) (by simp; omega) ?_; intro A5 N5 c5 w5 hc6 hc7 hO5 hG5)
      have hB5 := hG5.own (below_alloc2 hB4 hbs3 _) hbs3 (hO4.alloc _)
      have hN5 := hO5.len
      rw [List.length_append, List.length_append, List.length_cons, List.length_replicate, hl] at hN5
      simp only [List.length_cons, List.length_nil] at hN5
      refine ⟨⟨A5, N5, c5, j + 1, by omega, rfl, ?_, hB5⟩, by simp only [lenV]; omega⟩
      rw [List.replicate_succ', ← List.cons_append, ← List.append_assoc]
      exact hO5
end Go.Proofs.YtohfgplaocgadaaDoor
