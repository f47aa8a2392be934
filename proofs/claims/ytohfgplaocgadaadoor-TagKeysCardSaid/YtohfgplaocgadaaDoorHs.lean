/- sha: the digest of a hash. -/
import Derived.Test.YtohfgplaocgadaaDoorHw
namespace Go.Proofs.YtohfgplaocgadaaDoor
open Go.RowKit Go.Rat
theorem i65 : (Tryd.prog.info? 65).map (·.size) = some 74 := by kernel_rfl
theorem i32x8 : (Tryd.prog.info? 29).map (·.size) = some 32 := by kernel_rfl
theorem hashL_ones (h : HS) (all : Nat) : ∀ v ∈ hashL h all, v.oneCell' = true := by
  intro v hv
  simp only [hashL, List.mem_append, List.mem_cons, List.not_mem_nil, or_false] at hv
  rcases hv with hv | hv | rfl | rfl
  · exact u32s_ones _ v hv
  · exact bvs_one _ v hv
  · rfl
  · rfl
theorem hashL_whole {h h' : HS} {all all' : Nat} (ho : h.wide) (ho' : h'.wide) : Go.splice (hashL h all) 0 (hashL h' all') = hashL h' all' := by
  rw [Go.splice, List.take_zero, List.nil_append, hashL_length ho', List.drop_of_length_le (by rw [hashL_length ho]; omega), List.append_nil]
def msr (g : Nat) (w : World) : Nat := match w.cell? ⟨g, 72, none⟩ with
  | some (.int _ k) => ((120 - k) % 64).toNat
  | _ => 0
def outP (s : List Int) (q : Nat) : List UInt8 := outB (s.take q) ++ List.replicate (32 - 4 * q) 0
theorem outP_length (s : List Int) (q : Nat) (hs : s.length = 8) (hq : q ≤ 8) : (outP s q).length = 32 := by
  rw [outP, List.length_append, outB_length, List.length_take, List.length_replicate, hs]
  omega
theorem outP_step (s : List Int) (q : Nat) (hs : s.length = 8) (hq : q < 8) : Go.splice (bvs (outP s q)) (4 * q) (bvs (w4 (s.getD q 0))) = bvs (outP s (q + 1)) := by
  have h1 : (outB (s.take q)).length = 4 * q := by rw [outB_length, List.length_take, hs]; omega
  have h2 : (bvs (outB (s.take q))).length = 4 * q := by rw [bvs_length, h1]
  have h4 : (bvs (w4 (s.getD q 0))).length = 4 := by rw [bvs_length]; rfl
  have h5 : outB (s.take (q + 1)) = outB (s.take q) ++ w4 (s.getD q 0) := by
    rw [List.take_add_one, outB_append, List.getElem?_eq_getElem (by omega), List.getD_eq_getElem?_getD, List.getElem?_eq_getElem (by omega)]
    simp [outB]
  have h6 : (bvs (List.replicate (32 - 4 * q) 0)).drop 4 = bvs (List.replicate (32 - 4 * (q + 1)) 0) := by
    rw [show 32 - 4 * (q + 1) = 32 - 4 * q - 4 by omega]
    simp only [bvs, List.map_replicate, List.drop_replicate]
  rw [outP, outP, h5, bvs_append, bvs_append, bvs_append, Go.splice, h4, List.take_append_of_le_length (by omega), List.take_of_length_le (by omega), List.drop_append, List.drop_of_length_le (by omega), List.nil_append, h2, Nat.add_sub_cancel_left, h6, List.append_assoc]
theorem w4_cells (x : Int) : (#[.int .u8 (x / 16777216 % 256), .int .u8 (x / 65536 % 256), .int .u8 (x / 256 % 256), .int .u8 (x % 256)] : Array Value) = (bvs (w4 x)).toArray := by
  simp only [bvs, w4, List.map_cons, List.map_nil, bv_ub (Int.emod_nonneg _ (by decide : (256 : Int) ≠ 0)) (Int.emod_lt_of_pos _ (by decide : (0 : Int) < 256))]
set_option maxRecDepth 8000 in
set_option maxHeartbeats 4000000 in
theorem hsum_any (n : Nat) (hn64 : n = 64) (w : World) (g : Nat) (h : HS) (ho : h.ok) (all : Nat) (hk : h.k = all % 64) (tb : List Int) (hT : Tab w tb)
    (hB : Blk w g 65 (hashL h all).toArray) (hall : all < 576460752303423488) :
    Calls Tryd.prog 37 #[.pointer (some ⟨g, 0, none⟩)] w fun e w' => e = .returned (.agg (bvs (outB (feed n tb h (padding all)).s)).toArray) ∧ Below w.heap.size w w' := by
  have HN := Lib.hid hn64
  clear hn64
  obtain ⟨F, hF⟩ : ∃ F, feed n tb h (padding all) = F := ⟨_, rfl⟩
  rw [hF]
  have HF := Lib.hid hF
  clear hF
  have hk0 := ho.k
  have hgl := hB.lt
  go_enter Tryd.func37, Tryd.ntmps37
  have hZ : Blk (w.alloc (.cells (bvs (List.replicate 32 0)).toArray 29)) w.heap.size 29 (bvs (List.replicate 32 0)).toArray := Blk.new _ _ _
  have hb1 := below_alloc w (.cells (bvs (List.replicate 32 0)).toArray 29)
  have hB1 := hB.alloc (.cells (bvs (List.replicate 32 0)).toArray 29)
  have hl1 : w.heap.size < (w.alloc (.cells (bvs (List.replicate 32 0)).toArray 29)).heap.size := by simp
  obtain ⟨z32, hz32⟩ : ∃ z : Array Value, (bvs (List.replicate 32 0)).toArray = z := ⟨_, rfl⟩
  rw [hz32] at hZ hb1 hB1 hl1
  have hzz : (#[.int .u8 0, .int .u8 0, .int .u8 0, .int .u8 0, .int .u8 0, .int .u8 0, .int .u8 0, .int .u8 0, .int .u8 0, .int .u8 0, .int .u8 0, .int .u8 0, .int .u8 0, .int .u8 0, .int .u8 0, .int .u8 0, .int .u8 0, .int .u8 0, .int .u8 0, .int .u8 0, .int .u8 0, .int .u8 0, .int .u8 0, .int .u8 0, .int .u8 0, .int .u8 0, .int .u8 0, .int .u8 0, .int .u8 0, .int .u8 0, .int .u8 0, .int .u8 0] : Array Value) = z32 := by rw [← hz32]; rfl
  have hi74 : (Tryd.prog.info? 65).map (·.size) = some (hashL h all).length := by rw [hashL_length ho.towide]; exact i65
  have hfit : 0 + (hashL h all).length ≤ (hashL h0 0).length := by have h1 := hashL_length (all := all) ho.towide; have h2 := hashL_length (all := 0) h0_ok.towide; omega
  repeat (first
    | (go_at_call 35; generalize (w.alloc (.cells z32 29)) = w1 at *; refine (new_any _).mono ?_; rintro e w2 ⟨ge, rfl, hge, hE, hb2⟩; simp only []; have hB2 := hB1.below hb2 hB1.lt)
    | ((with_reducible refine wpl_nilCheck g 0 ?_ ?_); (focus rfl); simp only [Act.put, List.setIfInBounds_toArray, List.set_cons_zero, List.set_cons_succ])
    | ((with_reducible refine wpl_nilCheck ge 0 ?_ ?_); (focus rfl); simp only [Act.put, List.setIfInBounds_toArray, List.set_cons_zero, List.set_cons_succ])
    | ((with_reducible refine wpl_load_mid g 0 (hashL h all) (hashL h all) Tryd.underlying65 ?_ i65 hB2 ?_ (hashL_length ho.towide) ?_ ?_); (focus rfl); (focus rw [List.drop_zero, List.take_of_length_le (Nat.le_of_eq (hashL_length ho.towide))]); (focus rfl); simp only [Act.put, List.setIfInBounds_toArray, List.set_cons_zero, List.set_cons_succ])
    | ((with_reducible refine wpl_store_mid ge 0 (hashL h0 0) (hashL h all) ?_ hE ?_ (hashL_ones _ _) ?_ ?_ ?_); (focus exact hi74); (focus exact hfit); (focus rfl); (focus rfl); rw [hashL_whole h0_ok.towide ho.towide]; refine Hid.out ?_)
    | go_values | go_skip | go_guarded | go_step | go_upon | go_back)
  refine Lib.hid ?_
  have hge0 : w.heap.size < ge := by omega
  have hE3 := hE.setRow (hashL h all).toArray
  have hg23 := grownBy_setRow w2 ge (hashL h all).toArray
  have hb3 : Below w.heap.size w (w2.setRow ge (hashL h all).toArray) := (hb1.trans (hb2.mono hb1.size)).grown hg23 (Nat.le_trans hb1.size hb2.size) (fun q hq => by cases hq; omega)
  have hZ3 : Blk (w2.setRow ge (hashL h all).toArray) w.heap.size 29 z32 := (hZ.below hb2 hl1).grown hg23 (by intro e; injection e with e; omega)
  have hT3 := Tab.below hT hb3
  clear hE hg23 hb2 hB2 hB1 hb1 hl1 hZ hfit hi74 hgl hzz
  generalize (w2.setRow ge (hashL h all).toArray) = w3 at *
  have hlt3 := hE3.lt
  have c73 := row_call hE3 ho.towide
  have rall : IntKind.u64.wrap ((all : Int) * 8) = (all : Int) * 8 := by simp [IntKind.wrap, IntKind.bits, IntKind.signed]; omega
  go_wp2_with (go_at_call 36; refine (write_any n HN.out _ ge h ho all (some ⟨w3.heap.size, 0, none⟩) 1 1 [128] tb (Tab_grown (g := ge) hT3 (World.grownBy_alloc _ _ _) (by omega)) (by omega) (hE3.alloc _) (RB.one_ w3 5 (by rfl)) (by omega) (.inr (by simp; omega)) (by omega)).mono ?_; rintro e wv ⟨rfl, hE4, hg4⟩)
  obtain ⟨M, hM⟩ : ∃ M : Int, (all : Int) * 8 = M := ⟨_, rfl⟩
  rw [hM]
  have HM := Lib.hid hM
  clear hM rall c73
  have hg34 : w3.grownBy wv (some ge) := (World.grownBy_alloc w3 (.cells #[.int .u8 128] 5) (some ge)).trans hg4
  clear hg4
  go_loopw [] (fun wr => ∃ j, j ≤ zs all ∧ Blk wr ge 65 (hashL (feed n tb h (128 :: List.replicate j 0)) (all + 1 + j)).toArray ∧ w3.grownBy wr (some ge)) (fun wr => msr ge wr)
  case atStart => exact ⟨0, Nat.zero_le _, hE4, hg34⟩
  case round =>
    obtain ⟨j, hj, hE5, hg5⟩ := hrel
    obtain ⟨ho1, hk1⟩ := feed_ok n tb (128 :: List.replicate j 0) h ho
    rw [List.length_cons, List.length_replicate, hk] at hk1
    have hf1 : feed n tb (feed n tb h (128 :: List.replicate j 0)) [0] = feed n tb h (128 :: List.replicate (j + 1) 0) := by rw [← feed_append, List.replicate_succ']; rfl
    have hzd : zs all = (119 - all % 64) % 64 := rfl
    have hz64 : zs all < 64 := by omega
    obtain ⟨h1, hh1⟩ : ∃ h1, feed n tb h (128 :: List.replicate j 0) = h1 := ⟨_, rfl⟩
    rw [hh1] at ho1 hk1 hf1 hE5
    have HH1 := Lib.hid hh1
    clear hh1
    have c72 := row_ck hE5 ho1.towide
    have hlt5 := hE5.lt
    have hT5 := Tab_grown hT3 hg5 (by omega)
    have hmsr : msr ge wr = ((120 - (h1.k : Int)) % 64).toNat := by unfold msr; rw [c72]
    by_cases hz : j = zs all
    · have hk56 : (h1.k : Int) = 56 := by omega
      rw [hk56] at c72
      go_wp2_with fail
      clear hmsr c72 hlt5 hf1 hE4 hg34
      go_loopw [5] (fun i wq => ∃ q : Nat, q ≤ 8 ∧ i = .int .i64 (7 - (q : Int)) ∧ Blk wq ge 65 (hashL (feed n tb h1 ((be8 M).take q)) (all + 1 + j + q)).toArray ∧ w3.grownBy wq (some ge)) (fun i _ => (intOf i + 1).toNat)
      case atStart => exact ⟨0, by omega, rfl, hE5, hg5⟩
      case round =>
        obtain ⟨q, hq, rfl, hE7, hg7⟩ := hrel
        by_cases hq8 : q < 8
        · have hT7 := Tab_grown hT3 hg7 (by omega)
          obtain ⟨ho7, hk7⟩ := feed_ok n tb ((be8 M).take q) h1 ho1
          have hlt7 := hE7.lt
          have hstep : ∀ x, (be8 M)[q]? = some x → feed n tb (feed n tb h1 ((be8 M).take q)) [x] = feed n tb h1 ((be8 M).take (q + 1)) := fun x hx => by
            rw [← feed_append]
            congr 1
            rw [List.take_add_one, hx]
            rfl
          obtain ⟨h7, hh7⟩ : ∃ h7, feed n tb h1 ((be8 M).take q) = h7 := ⟨_, rfl⟩
          rw [hh7] at ho7 hE7 hstep
          clear hh7 hk7
          have HST := Lib.hid hstep
          clear hstep
          have hcase : q = 0 ∨ q = 1 ∨ q = 2 ∨ q = 3 ∨ q = 4 ∨ q = 5 ∨ q = 6 ∨ q = 7 := by omega
          rcases hcase with rfl | rfl | rfl | rfl | rfl | rfl | rfl | rfl
          all_goals (
            go_wp2_with (go_at_call 36; refine (write_any n HN.out _ ge h7 ho7 _ (some ⟨wr.heap.size, 0, none⟩) 1 1 [ub (_ % 256)] tb (Tab_grown (g := ge) hT7 (World.grownBy_alloc _ _ _) (by omega)) (by omega) (hE7.alloc _) (RB.one_ wr 5 (bv_ub (Int.emod_nonneg _ (by decide)) (Int.emod_lt_of_pos _ (by decide))).symm) (by omega) (.inr (by simp; omega)) (by omega)).mono ?_; rintro e w8 ⟨rfl, hE8, hg8⟩; rw [HST.out _ (by rfl)] at hE8)
            exact ⟨⟨_, by omega, congrArg (Value.int .i64) (by omega), hE8, hg7.trans ((World.grownBy_alloc wr _ (some ge)).trans hg8)⟩, by simp only [intOf]; omega⟩)
        · obtain rfl : q = 8 := by omega
          rw [show (be8 M).take 8 = be8 M from rfl] at hE7
          rw [show (7 : Int) - ((8 : Nat) : Int) = -1 by decide]
          obtain ⟨ho8, _⟩ := feed_ok n tb (be8 M) h1 ho1
          have hF8 : feed n tb h1 (be8 M) = F := by
            rw [← HH1.out, ← feed_append, ← HF.out, padding, HM.out, hz]
            rfl
          rw [hF8] at hE7 ho8
          have hlt7 := hE7.lt
          have hZ7 := hZ3.grown hg7 (by intro e; injection e with e; omega)
          have hb7 : Below w.heap.size w wr := hb3.grown hg7 hb3.size (fun q hq => by cases hq; omega)
          repeat (first
            | ((with_reducible refine wpl_nilCheck ge 0 ?_ ?_); (focus rfl); simp only [Act.put, List.setIfInBounds_toArray, List.set_cons_zero, List.set_cons_succ])
            | ((with_reducible refine wpl_load_mid ge 0 (hashL F _) (u32s F.s) Tryd.underlying23 ?_ i8x32 hE7 (hashL_s ho8.towide) ?_ ?_ ?_); (focus rfl); (focus rw [u32s_length, ho8.s]); (focus rfl); simp only [Act.put, List.setIfInBounds_toArray, List.set_cons_zero, List.set_cons_succ])
            | go_values | go_skip | go_guarded | go_step | go_upon | go_back)
          have hZ8 : Blk wr w.heap.size 29 (bvs (outP F.s 0)).toArray := by rw [← hz32] at hZ7; exact hZ7
          clear hZ7 hZ3 hE5 hT3 hT5 hg5 hb3 hlt3 HF HH1 hF8
          go_loopw [48] (fun i wz => ∃ q : Nat, q ≤ 8 ∧ i = .int .i64 (q : Int) ∧ Blk wz w.heap.size 29 (bvs (outP F.s q)).toArray ∧ wr.grownBy wz (some w.heap.size)) (fun i _ => 8 - (intOf i).toNat)
          case atStart => exact ⟨0, by omega, rfl, hZ8, World.grownBy.refl _ _⟩
          case round =>
            obtain ⟨q, hq, rfl, hZ9, hg9⟩ := hrel
            by_cases hq8 : q < 8
            · have qi := idx8 F.s ho8.s q hq8
              have hst := outP_step F.s q ho8.s hq8
              obtain ⟨x, hx⟩ : ∃ x, F.s.getD q 0 = x := ⟨_, rfl⟩
              rw [hx] at qi hst
              have HST := Lib.hid hst
              clear hst hx
              have g1 : (q : Int) < 8 := by omega
              have g2 : IntKind.i64.wrap (4 * (q : Int)) = 4 * (q : Int) := IntWalk.i64_in _ (by omega)
              have g3 : (0 : Int) ≤ 4 * (q : Int) := by omega
              have g4 : 4 * (q : Int) ≤ 32 := by omega
              have g5 : (4 * (q : Int)).toNat = 4 * q := by omega
              have g6 : ¬ 32 = 4 * q := by omega
              have hw4 := w4_cells x
              have hZa := hZ9.alloc (.cells (bvs (w4 x)).toArray 5)
              have hra : RB (wr.alloc (.cells (bvs (w4 x)).toArray 5)) (some ⟨wr.heap.size, 0, none⟩) 4 (w4 x) := (Blk.new wr 5 (bvs (w4 x)).toArray).reads (w4 x) rfl
              have hk4 := Lib.hid (show 4 = Nat.min 4 (32 - 4 * q) from (Nat.min_eq_left (by omega)).symm)
              have hfit4 : 4 * q + 4 ≤ (bvs (outP F.s q)).length := by rw [bvs_length, outP_length _ _ ho8.s hq]; omega
              have ht4 : (w4 x).take 4 = w4 x := rfl
              have hg10 := (World.grownBy_alloc wr (.cells (bvs (w4 x)).toArray 5) (some w.heap.size)).trans (grownBy_setRow (wr.alloc (.cells (bvs (w4 x)).toArray 5)) w.heap.size (bvs (outP F.s (q + 1))).toArray)
              have hZb := hZa.setRow (bvs (outP F.s (q + 1))).toArray
              repeat (first
                | ((with_reducible refine wpl_copy_mid w.heap.size (4 * q) (32 - 4 * q) (32 - 4 * q) (some ⟨wr.heap.size, 0, none⟩) 4 4 _ _ hZa (w4 x) hra 4 ?_ ?_ ?_ ?_ ?_ ?_); (focus exact hk4.out); (focus decide); (focus exact hfit4); (focus rfl); (focus rfl); rw [ht4, HST.out])
                | go_values | go_skip | go_guarded | go_step | go_upon | go_back)
              exact ⟨⟨q + 1, by omega, congrArg (Value.int .i64) (by omega), hZb, hg9.trans hg10⟩, by simp only [intOf]; omega⟩
            · obtain rfl : q = 8 := by omega
              have hfin : outP F.s 8 = outB F.s := by
                rw [outP, List.take_of_length_le (by rw [ho8.s]; exact Nat.le_refl _)]
                simp
              rw [hfin] at hZ9
              have hl32 : (bvs (outB F.s)).toArray.size = 32 := by rw [bvs_size, outB_length, ho8.s]
              repeat (first
                | ((with_reducible refine wpl_load w.heap.size _ _ Tryd.underlying29 i32x8 hZ9 hl32 ?_ ?_); (focus rfl); simp only [Act.put, List.setIfInBounds_toArray, List.set_cons_zero, List.set_cons_succ])
                | ((with_reducible refine wpl_store w.heap.size _ _ (bvs (outB F.s)).toArray i32x8 hZ9 hl32 hl32 (bvs_all _) ?_ ?_ ?_); (focus rfl); (focus rfl))
                | go_values | go_skip | go_guarded | go_step | go_upon | go_back)
              refine bodyPost_ret (results_cell_row rfl _ _ w.heap.size _ _ (0, 0) _ rfl (hZ9.setRow _) Tryd.underlying29 rfl (by rw [hl32]; exact i32x8)) rfl ?_
              exact ⟨rfl, (hb7.grown hg9 hb7.size (fun p hp => by cases hp; exact Nat.le_refl _)).grown (grownBy_setRow _ _ _) (hb7.grown hg9 hb7.size (fun p hp => by cases hp; exact Nat.le_refl _)).size (fun p hp => by cases hp; exact Nat.le_refl _)⟩
    · have hk56 : ¬ (h1.k : Int) = 56 := by omega
      go_wp2_with (go_at_call 36; refine (write_any n HN.out _ ge h1 ho1 (all + 1 + j) (some ⟨wr.heap.size, 0, none⟩) 1 1 [0] tb (Tab_grown (g := ge) hT5 (World.grownBy_alloc _ _ _) (by omega)) (by omega) (hE5.alloc _) (RB.one_ wr 5 (by rfl)) (by omega) (.inr (by simp; omega)) (by omega)).mono ?_; rintro e w6 ⟨rfl, hE6, hg6⟩)
      have hE6' := hE6
      rw [hf1] at hE6'
      obtain ⟨ho6, hk6⟩ := feed_ok n tb [0] h1 ho1
      have c76 := row_ck hE6 ho6.towide
      have hmsr6 : msr ge w6 = ((120 - ((feed n tb h1 [0]).k : Int)) % 64).toNat := by unfold msr; rw [c76]
      refine ⟨⟨j + 1, by omega, hE6', hg5.trans ((World.grownBy_alloc wr (.cells #[.int .u8 0] 5) (some ge)).trans hg6)⟩, ?_⟩
      rw [hmsr, hmsr6, hk6]
      simp only [List.length_cons, List.length_nil]
      omega
end Go.Proofs.YtohfgplaocgadaaDoor
