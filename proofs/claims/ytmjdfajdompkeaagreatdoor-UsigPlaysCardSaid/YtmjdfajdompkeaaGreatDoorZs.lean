/- ratchetref05: a sector's count; ratchetref01.Half. -/
import Derived.Test.YtmjdfajdompkeaaGreatDoorZr
import Derived.Test.YtmjdfajdompkeaaGreatDoorZc
namespace Go.Proofs.YtmjdfajdompkeaaGreatDoor
open Go.RowKit Go.Rat
set_option maxHeartbeats 1000000 in
theorem rcount_any (w : World) (s : List UInt8) (hs : s.length = 128) :
    Calls Tryz.prog 54 #[.agg (bvs s).toArray] w fun e w' => e = .returned (.int .u64 (cntB s : Int)) ∧ Below w.heap.size w w' := by
  have hB := Blk.new w 89 (bvs s).toArray
  have hb1 := below_alloc w (.cells (bvs s).toArray 89)
  have hbs : (bvs s).toArray.size = 128 := by rw [bvs_size, hs]
  have hcell : ∀ j, j < 8 → (w.alloc (.cells (bvs s).toArray 89)).cell? ⟨w.heap.size, j, none⟩ = some (.int .u8 ((s.getD j 0).toNat : Int)) := fun j hj => by
    rw [hB.cell j, List.getElem?_toArray, bvs, List.getElem?_map, List.getD_eq_getElem?_getD, List.getElem?_eq_getElem (show j < s.length by omega)]
    rfl
  have HN : Hid (∀ j, j < 8 → Value.int .u64 (bits .or .u64 (IntKind.u64.wrap ((num (s.take j) : Int) * 256)) (IntKind.u64.wrap ((s.getD j 0).toNat : Int))) = .int .u64 (num (s.take (j + 1)) : Int)) := Lib.hid (fun j hj => num_next (by omega) hj)
  obtain ⟨Z, hZ⟩ : ∃ Z, (bvs s).toArray = Z := ⟨_, rfl⟩
  rw [hZ] at hB hb1 hbs hcell ⊢
  have HC : Hid (cntB s = num (s.take 8)) := Lib.hid rfl
  go_enter Tryz.func54, Tryz.ntmps54
  go_upto_region 1 with (fail)
  obtain ⟨w1, hw1⟩ : ∃ x, w.alloc (.cells Z 89) = x := ⟨_, rfl⟩
  rw [hw1] at hB hb1 hcell ⊢
  obtain ⟨G, hG⟩ : ∃ G, w.heap.size = G := ⟨_, rfl⟩
  rw [hG] at hcell ⊢
  have HCE := Lib.hid hcell
  clear hw1 hZ hB hs hbs hG hcell
  go_wp2_with fail
  go_loop [3, 4] (fun v i => ∃ j : Nat, j ≤ 8 ∧ i = .int .i64 j ∧ v = .int .u64 (num (s.take j))) (fun _ i => 8 - (intOf i).toNat)
  case atStart => exact ⟨0, Nat.zero_le _, rfl, rfl⟩
  case round =>
    obtain ⟨j, hj, rfl, rfl⟩ := hrel
    by_cases hlt : j < 8
    · have c0 := HCE.out j hlt
      have hn := HN.out j hlt
      obtain ⟨x, hx⟩ : ∃ x, s.getD j 0 = x := ⟨_, rfl⟩
      rw [hx] at c0 hn
      have HX := Lib.hid hn
      have hxl := x.toNat_lt
      have g1 : (j : Int) < 8 := by omega
      have g0 : (0 : Int) ≤ (j : Int) := by omega
      clear hn hx
      go_wp2_with fail
      have wx : IntKind.u64.wrap (x.toNat : Int) = (x.toNat : Int) := IntWalk.u64_in _ (by omega)
      have hX := HX.out
      rw [wx] at hX
      exact ⟨⟨j + 1, by omega, congrArg (Value.int .i64) (by omega), hX⟩, by simp only [intOf]; omega⟩
    · obtain rfl : j = 8 := by omega
      have g1 : ¬ ((8 : Nat) : Int) < 8 := by decide
      go_wp2_with fail
      go_ret
      refine ⟨?_, hb1⟩
      rw [HC.out]
      rfl
theorem rhalf_any (w : World) (A : Option Addr) (n c : Nat) (xs : List UInt8) (x : Nat) (hr : RB w A n xs) (hn : n ≤ 140737487000000) (hx : x < 65536) :
    Calls Tryz.prog 56 #[.slice A n c, .int .u16 x] w fun e w' => ∃ A' N' c', e = .returned (.slice A' N' c') ∧ OB 5 w' w.heap.size A' N' c' (xs ++ be 2 x) ∧ Below w.heap.size w w' := by
  go_enter Tryz.func56, Tryz.ntmps56
  go_wp2_with (go_at_call 45; refine (rput_any _ A n c xs x 2 hr hn (by omega) (by omega)).mono ?_; rintro e w1 ⟨A1, N1, c1, rfl, hO1, hb1⟩)
  go_ret
  exact ⟨A1, N1, c1, rfl, hO1, hb1⟩
end Go.Proofs.YtmjdfajdompkeaaGreatDoor
namespace Go.Proofs.YtmjdfajdompkeaaGreatDoor
open Go.RowKit Go.Rat
theorem allB_pad (b : List UInt8) (j : Nat) : (be 2 b.length ++ b ++ List.replicate j 0) ++ [(0 : UInt8)] = be 2 b.length ++ b ++ List.replicate (j + 1) 0 := by
  rw [List.append_assoc, List.replicate_succ']
set_option maxRecDepth 20000 in
set_option maxHeartbeats 4000000 in
theorem rwrite5_any (w : World) (base : Nat) (l : RL) (d : DS) (hD : RDk w base l d) (g : Nat) (hg : l.g = g) (hbase : base ≤ w.heap.size) (hlo : d.loose.length < 900000000) (p : Int) (hp : 0 ≤ p ∧ p + 10 ≤ 32768)
    (c : Nat) (hc : c < 2 ^ 64) (A : Option Addr) (n cap : Nat) (b : List UInt8) (hr : RB w A n b) (hn : n ≤ 1100) :
    Calls Tryz.prog 28 #[.pointer (some ⟨g, 0, none⟩), .int .i64 p, .int .u64 (c : Int), .slice A n cap] w fun e w' => ∃ l', e = .returned (.int .i64 (wrS d p c b 10).2) ∧ l'.g = g ∧ RDk w' base l' (wrS d p c b 10).1 ∧ RMoved w w' l l' := by
  have hxl := hr.len
  have hr0 : RB w none 0 [] := ⟨rfl, fun h => absurd h (by omega)⟩
  have u1 : IntKind.u16.wrap (n : Int) = (n : Int) := IntWalk.u16_in _ (by omega)
  go_enter Tryz.func28, Tryz.ntmps28
  go_upto_block 0 with (first
    | (go_at_call 56; refine (rhalf_any _ none 0 0 [] n hr0 (by omega) (by omega)).mono ?_; rintro e w1 ⟨A1, N1, c1, rfl, hO1, hb1⟩; have hl1 := hO1.len; simp only [List.nil_append, be_length] at hO1 hl1; subst hl1; simp only [])
    | (at_builtin; refine app_bytes rfl _ _ rfl w.heap.size _ _ _ (be 2 n) rfl hO1 _ _ _ b rfl (hr.below hb1) (by omega) hb1.size ?_; intro A2 N2 c2 w2 hc2 hc3 hO2 hG2))
  have hb2 : Below w.heap.size w w2 := hG2.own hb1 (Nat.le_refl _) hO1
  have hO2' : OB 5 w2 w.heap.size A2 N2 c2 (be 2 b.length ++ b ++ List.replicate 0 0) := by rw [hxl]; simpa using hO2
  have hD2 := hD.below hb2
  clear hb1 hO1 hG2 hO2 hc2 hc3 hr0
  go_cut [9] (fun v wx => ∃ (A3 : Option Addr) (c3 : Nat), v = .slice A3 1200 c3 ∧ OB 5 wx w.heap.size A3 1200 c3 (allB b) ∧ Below w.heap.size w wx)
  case first =>
    go_wp2_with fail
    go_loopw [9] (fun v wr => ∃ (k : Nat) (A3 : Option Addr) (N3 c3 : Nat), k + b.length ≤ 1198 ∧ v = .slice A3 N3 c3 ∧ OB 5 wr w.heap.size A3 N3 c3 (be 2 b.length ++ b ++ List.replicate k 0) ∧ Below w.heap.size w wr) (fun v _ => match v with | .slice _ N _ => 1200 - N | _ => 0)
    case atStart => exact ⟨0, A2, N2, c2, by omega, rfl, hO2', hb2⟩
    case round =>
      clear hO2' hb2 hD2
      obtain ⟨k, A3, N3, c3, hk, rfl, hO3, hb3⟩ := hrel
      have hl3 := hO3.len
      simp only [List.length_append, be_length, List.length_replicate] at hl3
      by_cases hlt : N3 < 1200
      · have g1 : (N3 : Int) < 1200 := by omega
        have h0 : bv (0 : UInt8) = .int .u8 0 := rfl
        go_wp2_with (at_builtin; refine app_bytes rfl _ _ rfl w.heap.size _ _ _ (be 2 b.length ++ b ++ List.replicate k 0) rfl (hO3.alloc _) _ _ _ [0] rfl (RB.one_ _ _ rfl) (by omega) (by simp; exact Nat.le_succ_of_le hb3.size) ?_; intro A4 N4 c4 w4 hc4 hc4' hO4 hG4)
        have hl4 := hO4.len
        rw [allB_pad b k] at hO4
        simp only [List.length_append, be_length, List.length_replicate, List.length_cons, List.length_nil] at hl4
        exact ⟨⟨k + 1, A4, N4, c4, by omega, rfl, hO4, hG4.own (below_alloc2 hb3 (Nat.le_refl _) _) (Nat.le_refl _) (hO3.alloc _)⟩, by simp only []; omega⟩
      · have g1 : ¬ (N3 : Int) < 1200 := by omega
        go_wp2_with fail
        go_meet
        obtain rfl : N3 = 1200 := by omega
        refine ⟨A3, c3, rfl, ?_, hb3⟩
        rw [allB, show 1198 - b.length = k by omega]
        exact hO3
  case rest =>
    clear hO2' hb2 hD2
    obtain ⟨A3, c3, rfl, hO3, hb3⟩ := hcut
    have hD3 := hD.below hb3
    have hD0 : Hid (True ∧ ∀ x, l.fp x → x < w.heap.size) := Lib.hid ⟨trivial, fun x hx => (hD.fp_lt hx).2⟩
    have hb1 : (be 2 n).length = 2 := be_length 2 n
    have hl1200 := allB_length (b := b) (by omega)
    clear hb1 hD
    go_wp2_with fail
    go_loopw [10] (fun i wr => ∃ (k : Nat) (l' : RL), k ≤ 10 ∧ i = .int .i64 (k : Int) ∧ (wrS d p c b k).2 = 0 ∧ RDk wr base l' (wrS d p c b k).1 ∧ l'.g = g ∧ RMoved w wr l l' ∧ OB 5 wr w.heap.size A3 1200 c3 (allB b) ∧ (∀ x, A3.map (·.block) = some x → ¬ l'.fp x)) (fun i _ => 10 - (intOf i).toNat)
    case atStart => exact ⟨0, l, by omega, rfl, rfl, hD3, hg, RMoved.of_below hb3, hO3, fun x hx hf => by have h1 := (OB.ge hO3 x hx).1; have h2 := (hD0.out).2 x hf; omega⟩
    case round =>
      obtain ⟨k, l', hk, rfl, he, hDk, hlk, hmk, hOk, hnf⟩ := hrel
      by_cases hk10 : k < 10
      · have g1 : (k : Int) < 10 := by omega
        obtain ⟨q, hq⟩ : ∃ q, k * 120 = q := ⟨_, rfl⟩
        have m1 : (k : Int) * 120 = (q : Int) := by omega
        have m2 : ((k : Int) + 1) * 120 = (q : Int) + 120 := by omega
        have hc3 := (OB.cap hOk).1
        have m3 : (q : Int) + 120 ≤ (c3 : Int) := by omega
        have m4 : (q : Int) ≤ (q : Int) + 120 := by omega
        have m5 : (0 : Int) ≤ (q : Int) := by omega
        have m6 : (0 : Int) ≤ (q : Int) + 120 := by omega
        have m7 : ¬ c3 = q := by omega
        have m8 : ((q : Int) + 120).toNat - q = 120 := by omega
        have w5 : IntKind.i64.wrap ((q : Int) + 120) = (q : Int) + 120 := IntWalk.i64_in _ (by omega)
        have w6 : IntKind.i64.wrap (q : Int) = (q : Int) := IntWalk.i64_in _ (by omega)
        have w7 : IntKind.i64.wrap ((k : Int) + 1) = (k : Int) + 1 := IntWalk.i64_in _ (by omega)
        obtain ⟨a3, ha3⟩ : ∃ a, A3 = some a := by
          obtain ⟨g3, cap3, hv, _, _⟩ := World.ownsRow.form hOk (by omega)
          injection hv with hv
          exact ⟨_, hv⟩
        subst ha3
        go_wp2_with fail
        refine wp_region_plan [(0, true), (2, true), (3, true), (4, true), (5, true), (6, true), (7, true), (8, true), (1, false), (9, false), (10, true)] (fun z => RB z (some a3) 1200 (allB b)) (by kernel_rfl) (by kernel_rfl) (by kernel_rfl) (by kernel_rfl) (fun _ _ d _ _ h => by cases d <;> exact h) (hOk.reads.below drew_below) ?_
        simp only [planOps, List.getElem?_toArray, List.getElem?_cons_zero, List.getElem?_cons_succ]
        iterate 8 (refine wpS_q ?_ (by rfl) ?_ ?_; rotate_left; (focus (intro z hz; (try dsimp only at hz); go_simp; rfl)); simp only [Act.put, List.setIfInBounds_toArray, List.set_cons_zero, List.set_cons_succ])
        have hpart : ∀ z, RB z (some a3) 1200 (allB b) → RB z (some (a3.add q)) 120 (partB b k) := fun z hz => by
          have h1 := Reads.cut hz (k := q) (cap := c3) (by omega) hc3
          rw [if_neg m7] at h1
          have h2 := Reads.take_ h1 (k := 120) (by omega)
          have he : bvs (partB b k) = ((bvs (allB b)).drop (q * 1)).take (120 * 1) := by
            simp only [partB, hq, bvs, List.map_take, List.map_drop, Nat.mul_one]
          unfold RB
          rw [he]
          simpa using h2
        refine wpS_l (by rfl) (fun K hK => ?_)
        go_wp2_with fail
        refine (rword_any _ none 0 0 [] c (RB.nil_ _ _) (by omega) hc).mono ?_
        rintro e w7 ⟨A7, N7, c7, rfl, hO7, hb7⟩
        have hb17 : Below wr.heap.size wr w7 := drew_below.trans hb7
        refine hK _ _ _ (hOk.reads.below hb17) (fun _ h => h) ?_
        clear hK
        rw [List.nil_append] at hO7
        have hl7 := hO7.len
        rw [be_length] at hl7
        subst hl7
        refine wpS_l (by rfl) (fun K hK => ?_)
        refine wp_appB _ _ rfl wr.heap.size _ _ _ (be 8 c) rfl hO7 _ _ _ (partB b k) rfl (hpart _ (hOk.reads.below hb17)) (by omega) hb17.size ?_
        intro A9 N9 c9 w9 _ _ hO9 hG9
        have hsl : (be 8 c ++ partB b k).length = 128 := secB_length c (by omega) hk10
        have hl9 : N9 = 128 := by rw [← hO9.len, hsl]
        subst hl9
        have hb79 : Below wr.heap.size wr w9 := hG9.own hb17 (Nat.le_refl _) hO7
        refine hK _ _ _ (hOk.reads.below hb79) (fun _ h => h) ?_
        clear hK hpart
        iterate 1 (refine wpS_q ?_ (by rfl) ?_ ?_; rotate_left; (focus (intro z hz; (try dsimp only at hz); go_simp; rfl)); simp only [Act.put, List.setIfInBounds_toArray, List.set_cons_zero, List.set_cons_succ])
        refine wpS_nil ?_
        go_upto_block 4 with (fail)
        obtain ⟨R, hR⟩ : ∃ R, be 8 c ++ partB b k = R := ⟨_, rfl⟩
        rw [hR] at hO9 hsl
        have hst : ∀ j, j < 128 → (bvs (R.take j ++ zs.drop j)).set j (.int .u8 ((R.getD j 0).toNat : Int)) = bvs (R.take (j + 1) ++ zs.drop (j + 1)) := fun j hj => by
          have hl : (bvs (R.take j)).length = j := by rw [bvs_length, List.length_take, hsl]; omega
          rw [bvs_append, List.set_append_right _ _ (by omega), hl, Nat.sub_self, List.drop_eq_getElem_cons (by rw [zs_length]; exact hj), List.take_add_one, List.getElem?_eq_getElem (by omega), List.getD_eq_getElem?_getD, List.getElem?_eq_getElem (by omega)]
          rw [bvs_append, bvs_append, List.append_assoc]
          rfl
        have HST := Lib.hid hst
        have HRR := Lib.hid hR
        have hY := Blk.new w9 89 (bvs zs).toArray
        have hbA := below_alloc w9 (.cells (bvs zs).toArray 89)
        have hO9A := hO9.alloc (.cells (bvs zs).toArray 89)
        have hzc : Tryz.zeroCells89 = (bvs zs).toArray := zc128
        rw [hzc]
        obtain ⟨G, hG⟩ : ∃ G, w9.heap.size = G := ⟨_, rfl⟩
        obtain ⟨wA, hwA⟩ : ∃ x, w9.alloc (.cells (bvs zs).toArray 89) = x := ⟨_, rfl⟩
        rw [hwA] at hY hbA hO9A ⊢
        rw [hG] at hY ⊢
        have hgeG := OB.ge hO9
        clear hst hR hzc hwA hO9
        go_cut [] (fun wx => Blk wx G 89 (bvs R).toArray ∧ Below w9.heap.size w9 wx)
        case first =>
          go_wp2_with fail
          go_loopw [13] (fun i wz => ∃ j : Nat, j ≤ 128 ∧ i = .int .i64 (j : Int) ∧ Blk wz G 89 (bvs (R.take j ++ zs.drop j)).toArray ∧ wA.grownBy wz (some G)) (fun i _ => 128 - (intOf i).toNat)
          case atStart => exact ⟨0, Nat.zero_le _, rfl, hY, World.grownBy.refl _ _⟩
          case round =>
            obtain ⟨j, hj, rfl, hGj, hgj⟩ := hrel
            have hRz : RB _ A9 128 R := hO9A.reads.grown hgj (.inl (fun e => by have := (hgeG G e).2; omega))
            by_cases hj128 : j < 128
            · have hset := hGj.set_ j (.int .u8 ((R.getD j 0).toNat : Int))
              rw [List.setIfInBounds_toArray, HST.out j hj128] at hset
              have hcx := hGj.cell j
              obtain ⟨u, hu⟩ : ∃ u, (bvs (R.take j ++ zs.drop j))[j]? = some u := ⟨_, List.getElem?_eq_getElem (by rw [bvs_length, List.length_append, List.length_take, List.length_drop, hsl, zs_length]; omega)⟩
              rw [List.getElem?_toArray, hu] at hcx
              have hfz := hGj.frozen j
              obtain ⟨a9, rfl, hb9, hc9'⟩ := hRz.at_ hj128
              have g1' : (j : Int) < 128 := by omega
              have g0' : (0 : Int) ≤ (j : Int) := by omega
              have hgset := hgj.trans (grownBy_set _ G j (.int .u8 ((R.getD j 0).toNat : Int)))
              obtain ⟨x, hx⟩ : ∃ x, R.getD j 0 = x := ⟨_, rfl⟩
              rw [hx] at hset hc9' hgset
              have HSET := Lib.hid hset
              clear hset hu hx
              go_wp2_with fail
              exact ⟨⟨j + 1, by omega, congrArg (Value.int .i64) (by omega), HSET.out, hgset⟩, by simp only [intOf]; omega⟩
            · obtain rfl : j = 128 := by omega
              have hfull : R.take 128 ++ zs.drop 128 = R := by rw [List.take_of_length_le (by omega), List.drop_of_length_le (by rw [zs_length]; omega), List.append_nil]
              rw [hfull] at hGj
              have g1' : ¬ ((128 : Nat) : Int) < 128 := by decide
              go_wp2_with fail
              go_meet
              exact ⟨hGj, hbA.grown hgj hbA.size (fun p hp => by cases hp; exact Nat.le_of_eq hG)⟩
        case rest =>
          obtain ⟨hBk, hbk⟩ := hcut
          have hRs : (bvs R).toArray.size = 128 := by rw [bvs_size, hsl]
          have hbc : Below wr.heap.size wr wc := hb79.trans (hbk.mono hb79.size)
          have hDc := hDk.below hbc
          have hOc : OB 5 wc w.heap.size (some a3) 1200 c3 (allB b) := OB.grown hOk (grownBy_of_below hbc none) (.inr rfl)
          repeat (first
            | ((with_reducible refine wpl_load G _ _ Tryz.underlying89 i128 hBk hRs ?_ ?_); (focus rfl); simp only [Act.put, List.setIfInBounds_toArray, List.set_cons_zero, List.set_cons_succ])
            | go_values | go_skip | go_guarded | go_step | go_upon | go_back)
          have hlo2 : (wrS d p c b k).1.loose.length < 1000000000 := by
            have := wrS_loose d p c b k
            omega
          have hbs : base ≤ wc.heap.size := Nat.le_trans hbase (Nat.le_trans hmk.chg.size hbc.size)
          have hwr : wrS d p c b (k + 1) = (writeD (wrS d p c b k).1 (p + (k : Int)) R, writeE (wrS d p c b k).1 (p + (k : Int))) := by
            rw [wrS, if_pos he, secB, HRR.out]
          refine (rgwrite wc base g l' _ hDc hlk hbs (p + (k : Int)) R hsl hlo2).mono ?_
          rintro e w15 ⟨l2, rfl, hl2, hD2, hm2⟩
          have hMM : RMoved w w15 l l2 := hmk.trans ((RMoved.of_below hbc).trans hm2)
          have hfst : writeD (wrS d p c b k).1 (p + (k : Int)) R = (wrS d p c b (k + 1)).1 := by rw [hwr]
          have hsnd : writeE (wrS d p c b k).1 (p + (k : Int)) = (wrS d p c b (k + 1)).2 := by rw [hwr]
          rw [hfst] at hD2
          rw [hsnd]
          have hO15 : OB 5 w15 w.heap.size (some a3) 1200 c3 (allB b) := hm2.chg.own hOc hnf
          have hnf2 : ∀ x, (some a3).map (·.block) = some x → ¬ l2.fp x := fun x hx hf => by
            rcases hm2.fp x hf with h1 | h1
            · exact hnf x hx h1
            · have := (OB.ge hOc x hx).2
              omega
          simp only []
          clear hfst hsnd hwr
          by_cases hE : (wrS d p c b (k + 1)).2 = 0
          · rw [hE]
            go_wp2_with fail
            exact ⟨⟨k + 1, l2, by omega, congrArg (Value.int .i64) (by omega), hE, hD2, hl2, hMM, hO15, hnf2⟩, by simp only [intOf]; omega⟩
          · have hst2 := wrS_stop hE (9 - k)
            rw [show k + 1 + (9 - k) = 10 by omega] at hst2
            have HST2 := Lib.hid hst2
            obtain ⟨E, hEE⟩ : ∃ E, (wrS d p c b (k + 1)).2 = E := ⟨_, rfl⟩
            rw [hEE] at hE ⊢
            have HEE := Lib.hid hEE
            clear hst2 hEE
            go_wp2_with fail
            go_ret
            refine ⟨l2, ?_, hl2, ?_, hMM⟩
            · rw [HST2.out, HEE.out]
              rfl
            · rw [HST2.out]
              exact hD2
      · obtain rfl : k = 10 := by omega
        have g1 : ¬ ((10 : Nat) : Int) < 10 := by decide
        have HE := Lib.hid he
        clear he
        go_wp2_with fail
        go_ret
        refine ⟨?_, l', hlk, hDk, hmk⟩
        rw [HE.out]
        rfl
end Go.Proofs.YtmjdfajdompkeaaGreatDoor
namespace Go.Proofs.YtmjdfajdompkeaaGreatDoor
open Go.RowKit Go.Rat
theorem or16 (a b : UInt8) : bits .or .i64 (IntKind.i64.wrap ((a.toNat : Int) * 256)) (b.toNat : Int) = ((a.toNat * 256 + b.toNat : Nat) : Int) := by
  have h : ∀ x y : UInt8, bits .or .i64 (IntKind.i64.wrap ((x.toNat : Int) * 256)) (y.toNat : Int) = ((x.toNat * 256 + y.toNat : Nat) : Int) := by
    intro x y
    have hw : ∀ n : Int, 0 ≤ n → n < 2 ^ 32 → IntKind.i64.wrap n = n := fun n h0 h1 => IntWalk.i64_in _ (by omega)
    have hx := x.toNat_lt
    have hy := y.toNat_lt
    rw [IntWalk.i64_in _ (by omega), show (x.toNat : Int) * 256 = ((x.toNat * 256 : Nat) : Int) by omega, (bits_nat .i64 32 (by decide) hw (x.toNat * 256) y.toNat (by omega) (by omega)).2]
    have := Nat.shiftLeft_add_eq_or_of_lt (i := 8) (b := y.toNat) (by omega) x.toNat
    rw [Nat.shiftLeft_eq] at this
    rw [← this]
  exact h a b
theorem num_two {xs : List UInt8} (h : 2 ≤ xs.length) : num (xs.take 2) = (xs.getD 0 0).toNat * 256 + (xs.getD 1 0).toNat := by
  match xs, h with
  | a :: b :: t, _ => simp [num]
theorem RDk.len {w : World} {base : Nat} {l : RL} {d : DS} (h : RDk w base l d) (a : Int) : (readB d a).length = 128 := by
  obtain ⟨r, h1, h2⟩ := h
  unfold readB
  split
  · rw [h2.now a, nowRL_is]
    split
    · exact lastV_ok h1.ok.soft a
    · exact lastV_ok h1.ok.sure a
  · exact zs_length
theorem RDk.view {w : World} {base : Nat} {l : RL} {d : DS} (h : RDk w base l d) (p : Int) (i : Nat) (s : List UInt8) (hs : viewD d p i = some s) : s.length = 128 := by
  unfold viewD at hs
  split at hs
  · cases hs
    exact h.len _
  · cases hs
set_option maxRecDepth 20000 in
set_option maxHeartbeats 8000000 in
theorem rread5_any (w : World) (base : Nat) (l : RL) (d : DS) (hD : RDk w base l d) (g : Nat) (hg : l.g = g) (q : Int) (hqb : 0 ≤ q ∧ q + 10 ≤ 32768) :
    Calls Tryz.prog 49 #[.pointer (some ⟨g, 0, none⟩), .int .i64 q] w fun e w' => ∃ A N c, e = .returned (.tuple #[.int .u64 ((rdF (viewD d q)).1 : Int), .slice A N c]) ∧ RB w' A N (rdF (viewD d q)).2 ∧ (∀ x, A.map (·.block) = some x → w.heap.size ≤ x ∧ x < w'.heap.size) ∧ (N ≤ c ∧ c ≤ 9223372036854775807) ∧ Below w.heap.size w w' := by
  have hFl : ∀ i s, viewD d q i = some s → s.length = 128 := hD.view q
  obtain ⟨F, hF⟩ : ∃ F, viewD d q = F := ⟨_, rfl⟩
  have hFv : ∀ i : Nat, F i = if readE d (q + (i : Int)) = 0 then some (readB d (q + (i : Int))) else none := fun i => by rw [← hF]; rfl
  rw [hF] at hFl ⊢
  have HFV := Lib.hid hFv
  have HFL := Lib.hid hFl
  clear hF hFv hFl
  go_enter Tryz.func49, Tryz.ntmps49
  go_upto_block 0 with (fail)
  go_cut [6, 7] (fun al n wx => ∃ (nk : Nat) (allk : List UInt8) (A : Option Addr) (N c : Nat), n = .int .u64 (nk : Int) ∧ al = .slice A N c ∧ rdS F 10 = some (nk, allk) ∧ OB 5 wx w.heap.size A N c allk ∧ Below w.heap.size w wx)
  case first =>
    go_wp2_with fail
    go_loopw [6, 7, 8] (fun al n i wr => ∃ (k nk : Nat) (allk : List UInt8) (A : Option Addr) (N c : Nat), k ≤ 10 ∧ i = .int .i64 (k : Int) ∧ n = .int .u64 (nk : Int) ∧ al = .slice A N c ∧ rdS F k = some (nk, allk) ∧ OB 5 wr w.heap.size A N c allk ∧ Below w.heap.size w wr) (fun _ _ i _ => 10 - (intOf i).toNat)
    case atStart => exact ⟨0, 0, [], none, 0, 0, by omega, rfl, rfl, rfl, rfl, OB.nil_ _ _ _, Below.refl _ _⟩
    case round =>
      obtain ⟨k, nk, allk, A, N, c, hk, rfl, rfl, rfl, hrd, hO, hbk⟩ := hrel
      by_cases hk10 : k < 10
      · have hDk := hD.below hbk
        have hFk := HFV.out k
        have hsl : (readB d (q + (k : Int))).length = 128 := hDk.len _
        obtain ⟨s, hs⟩ : ∃ s, readB d (q + (k : Int)) = s := ⟨_, rfl⟩
        obtain ⟨E, hE⟩ : ∃ E, readE d (q + (k : Int)) = E := ⟨_, rfl⟩
        rw [hs] at hFk hsl
        rw [hE] at hFk
        have HS := Lib.hid hs
        have HE := Lib.hid hE
        have HFK := Lib.hid hFk
        have HRD := Lib.hid hrd
        have hsz : (bvs s).toArray.size = 128 := by rw [bvs_size, hsl]
        have g1 : (k : Int) < 10 := by omega
        have g2 : (0 : Int) ≤ (k : Int) := by omega
        have hNl := hO.len
        have hal : allk.length = k * 120 := (rdS_len HFL.out k nk allk HRD.out).1
        have hnk : nk < 2 ^ 64 := (rdS_len HFL.out k nk allk HRD.out).2
        have hN12 : N ≤ 1200 := by omega
        have HNL := Lib.hid hNl
        clear hs hE hFk hrd hNl hal
        go_wp2_with fail
        refine (rgread _ base g _ _ hDk hg (q + (k : Int))).mono ?_
        rw [HS.out, HE.out]
        rintro e w3 ⟨rfl, hb⟩
        simp only []
        have hO := OB.grown hO (grownBy_of_below hb none) (.inr rfl)
        have hbk := hbk.trans (hb.mono hbk.size)
        have hw13 := hbk.size
        clear hb hDk
        repeat (first | ((with_reducible refine wpl_store_fresh (bvs s).toArray i128 ?_ hsz (bvs_all _) ?_ ?_ ?_); (focus kernel_rfl); (focus rfl); (focus rfl); intro w4 hB hl3 hb; simp only [Act.put]; refine Hid.out ?_) | go_values | go_skip | go_guarded | go_step | go_upon | go_back)
        refine Lib.hid ?_
        have hO := OB.grown hO (grownBy_of_below hb none) (.inr rfl)
        have hbk := hbk.trans (hb.mono hbk.size)
        clear hb hl3
        obtain ⟨gB, hgB⟩ : ∃ x, w3.heap.size = x := ⟨_, rfl⟩
        rw [hgB] at hB hw13 ⊢
        clear hgB
        by_cases hE0 : E = 0
        · subst hE0
          have hsome : F k = some s := HFK.out.trans (if_pos rfl)
          have HSM := Lib.hid hsome
          clear hsome
          by_cases hk0 : k = 0
          · subst hk0
            have hnx := rdS_next HRD.out HSM.out (.inl rfl)
            have HNX := Lib.hid hnx
            clear hnx
            repeat (first | ((with_reducible refine wpl_load gB _ _ Tryz.underlying89 i128 hB hsz ?_ ?_); (focus rfl); simp only [Act.put, List.setIfInBounds_toArray, List.set_cons_zero, List.set_cons_succ]) | go_values | go_skip | go_guarded | go_step | go_upon | go_back)
            refine (rcount_any _ s hsl).mono ?_
            rintro e w5 ⟨rfl, hb⟩
            simp only []
            have hO := OB.grown hO (grownBy_of_below hb none) (.inr rfl)
            have hbk := hbk.trans (hb.mono hbk.size)
            have hB := hB.below hb hB.lt
            have hR8 := blk_drop8 hB hsl
            clear hb
            go_wp2_with (at_builtin; refine app_bytes rfl _ _ rfl w.heap.size A N c allk rfl hO (some ⟨gB, 8, none⟩) 120 120 (s.drop 8) rfl hR8 (by omega) hbk.size ?_; intro A2 N2 c2 w6 hc2 hc2' hO2 hG2)
            have hbk := hG2.own hbk (Nat.le_refl _) hO
            exact ⟨⟨0 + 1, cntB s, allk ++ s.drop 8, A2, N2, c2, by omega, congrArg (Value.int .i64) (by omega), rfl, rfl, HNX.out, hO2, hbk⟩, by simp [intOf]⟩
          · have hk0' : 0 < k := by omega
            by_cases hcn : cntB s = nk
            · have hnx := rdS_next HRD.out HSM.out (.inr hcn)
              have HNX := Lib.hid hnx
              have hcne : ((cntB s : Int) != (nk : Int)) = false := by rw [hcn]; simp
              clear hnx hcn hk0
              repeat (first | ((with_reducible refine wpl_loadG gB _ (bvs s).toArray Tryz.underlying89 i128 hB hsz ?_ ?_ ?_); (focus rfl); (focus rfl); simp only [Act.put, List.setIfInBounds_toArray, List.set_cons_zero, List.set_cons_succ]) | go_values | go_skip | go_guarded | go_step | go_upon | go_back)
              refine (rcount_any _ s hsl).mono ?_
              rintro e w5' ⟨rfl, hb⟩
              simp only []
              have hO := OB.grown hO (grownBy_of_below hb none) (.inr rfl)
              have hbk := hbk.trans (hb.mono hbk.size)
              have hB := hB.below hb hB.lt
              clear hb
              repeat (first | ((with_reducible refine wpl_load gB _ _ Tryz.underlying89 i128 hB hsz ?_ ?_); (focus rfl); simp only [Act.put, List.setIfInBounds_toArray, List.set_cons_zero, List.set_cons_succ]) | go_values | go_skip | go_guarded | go_step | go_upon | go_back)
              refine (rcount_any _ s hsl).mono ?_
              rintro e w5 ⟨rfl, hb⟩
              simp only []
              have hO := OB.grown hO (grownBy_of_below hb none) (.inr rfl)
              have hbk := hbk.trans (hb.mono hbk.size)
              have hB := hB.below hb hB.lt
              have hR8 := blk_drop8 hB hsl
              clear hb
              go_wp2_with (at_builtin; refine app_bytes rfl _ _ rfl w.heap.size A N c allk rfl hO (some ⟨gB, 8, none⟩) 120 120 (s.drop 8) rfl hR8 (by omega) hbk.size ?_; intro A2 N2 c2 w6 hc2 hc2' hO2 hG2)
              have hbk := hG2.own hbk (Nat.le_refl _) hO
              exact ⟨⟨k + 1, cntB s, allk ++ s.drop 8, A2, N2, c2, by omega, congrArg (Value.int .i64) (by omega), rfl, rfl, HNX.out, hO2, hbk⟩, by simp [intOf]; omega⟩
            · have hbad := rdS_bad HRD.out HSM.out hk0 hcn hk10
              have HBAD := Lib.hid hbad
              have hcne : ((cntB s : Int) != (nk : Int)) = true := by simp; omega
              clear hbad hcn hk0
              repeat (first | ((with_reducible refine wpl_loadG gB _ (bvs s).toArray Tryz.underlying89 i128 hB hsz ?_ ?_ ?_); (focus rfl); (focus rfl); simp only [Act.put, List.setIfInBounds_toArray, List.set_cons_zero, List.set_cons_succ]) | go_values | go_skip | go_guarded | go_step | go_upon | go_back)
              refine (rcount_any _ s hsl).mono ?_
              rintro e w5' ⟨rfl, hb⟩
              simp only []
              have hbk := hbk.trans (hb.mono hbk.size)
              clear hb
              go_wp2_with fail
              go_ret2
              first | exact ⟨none, 0, ⟨0, by rw [HBAD.out]; rfl⟩, by rw [HBAD.out]; exact RB.nil_ _ _, fun x hx => by (cases hx), by first | trivial | exact ⟨by omega, by omega⟩ | omega, hbk⟩ | exact ⟨none, 0, 0, by rw [HBAD.out]; rfl, by rw [HBAD.out]; exact RB.nil_ _ _, fun x hx => by (cases hx), by first | trivial | exact ⟨by omega, by omega⟩ | omega, hbk⟩
        · have hne : (E != 0) = true := by simpa using hE0
          have hbad := rdF_lost hk10 (HFK.out.trans (if_neg hE0))
          have HBAD := Lib.hid hbad
          clear hbad hE0
          go_wp2_with fail
          go_ret2
          first | exact ⟨none, 0, ⟨0, by rw [HBAD.out]; rfl⟩, by rw [HBAD.out]; exact RB.nil_ _ _, fun x hx => by (cases hx), by first | trivial | exact ⟨by omega, by omega⟩ | omega, hbk⟩ | exact ⟨none, 0, 0, by rw [HBAD.out]; rfl, by rw [HBAD.out]; exact RB.nil_ _ _, fun x hx => by (cases hx), by first | trivial | exact ⟨by omega, by omega⟩ | omega, hbk⟩
      · obtain rfl : k = 10 := by omega
        have g1 : ¬ ((10 : Nat) : Int) < 10 := by omega
        go_wp2_with fail
        go_meet
        exact ⟨nk, allk, A, N, c, rfl, rfl, hrd, hO, hbk⟩
  case rest =>
    obtain ⟨nk, allk, A, N, c, rfl, rfl, hrd, hO, hbk⟩ := hcut
    have hal := (rdS_len HFL.out 10 nk allk hrd).1
    have hnk := (rdS_len HFL.out 10 nk allk hrd).2
    have hrf : rdF F = endF nk allk := by rw [rdF, hrd]
    have hNl := hO.len
    obtain rfl : N = 1200 := by omega
    obtain ⟨a, rfl, hal0, hc0⟩ := hO.reads.at_ (k := 0) (by omega)
    obtain ⟨a', e, _, hc1⟩ := hO.reads.at_ (k := 1) (by omega)
    cases e
    have ha0 : a.add 0 = a := by simp [Addr.add]
    have ha1 : a.add 1 = ⟨a.block, a.off + 1, none⟩ := by simp [Addr.add]
    rw [ha0] at hc0
    rw [ha1] at hc1
    have hcap := (OB.cap hO).1
    have hcap2 := (OB.cap hO).2
    have hge := OB.ge hO
    have hM := num_lt16 (ys := allk.take 2) (by rw [List.length_take]; omega)
    have hnum := num_two (xs := allk) (by omega)
    unfold endF at hrf
    have hor := or16 (allk.getD 0 0) (allk.getD 1 0)
    obtain ⟨M, hMe⟩ : ∃ M, num (allk.take 2) = M := ⟨_, rfl⟩
    rw [hMe] at hM hrf hnum
    rw [← hnum] at hor
    have HRF := Lib.hid hrf
    have HOR := Lib.hid hor
    have HAL := Lib.hid hal
    have hR := hO.reads
    obtain ⟨x0, hx0⟩ : ∃ x, allk.getD 0 0 = x := ⟨_, rfl⟩
    obtain ⟨x1, hx1⟩ : ∃ x, allk.getD 1 0 = x := ⟨_, rfl⟩
    rw [hx0] at hc0 HOR
    rw [hx1] at hc1 HOR
    have hx0l := x0.toNat_lt
    have hx1l := x1.toNat_lt
    have hwx0 : IntKind.i64.wrap (x0.toNat : Int) = (x0.toNat : Int) := IntWalk.i64_in _ (by omega)
    have hwx1 : IntKind.i64.wrap (x1.toNat : Int) = (x1.toNat : Int) := IntWalk.i64_in _ (by omega)
    have hwx2 : IntKind.i64.wrap ((x0.toNat : Int) * 256) = (x0.toNat : Int) * 256 := IntWalk.i64_in _ (by omega)
    have hor2 := HOR.out
    rw [hwx2] at hor2
    clear hrd hrf hNl hMe hD hor hx0 hx1 hnum hal
    go_wp2_with fail
    refine wp_region_plan [(0, true), (1, true), (2, true), (3, true), (4, true), (5, true), (6, true), (7, true), (8, true), (9, true), (10, true)] (fun z => z.cell? a = some (.int .u8 (x0.toNat : Int)) ∧ z.cell? ⟨a.block, a.off + 1, none⟩ = some (.int .u8 (x1.toNat : Int))) (by kernel_rfl) (by kernel_rfl) (by kernel_rfl) (by kernel_rfl) (fun _ _ d _ _ h => by cases d <;> exact h) ⟨hc0, hc1⟩ ?_
    simp only [planOps, List.getElem?_toArray, List.getElem?_cons_zero, List.getElem?_cons_succ]
    repeat (first
      | (refine wpS_skip (by rfl) ?_; simp only [Act.put, List.setIfInBounds_toArray, List.set_cons_zero, List.set_cons_succ])
      | (refine wpS_q ?_ (by rfl) ?_ ?_; rotate_left; (focus (intro z hz; (try dsimp only at hz); go_simp; rfl)); simp only [Act.put, List.setIfInBounds_toArray, List.set_cons_zero, List.set_cons_succ]))
    refine wpS_nil ?_
    have hbk := hbk.trans ((drew_below (w := wc)).mono hbk.size)
    have hR : RB wc.drew (some a) 1200 allk := hR.below drew_below
    have hge' : ∀ x, (some a : Option Addr).map (·.block) = some x → w.heap.size ≤ x ∧ x < wc.drew.heap.size := fun x hx => hge x hx
    obtain ⟨w2, hw2⟩ : ∃ x, wc.drew = x := ⟨_, rfl⟩
    rw [hw2] at hbk hR hge' ⊢
    clear hw2 hge hO hc0 hc1 hwx0 hwx1 hwx2 hor2 hx0l hx1l HOR hal0 ha0 ha1
    by_cases h11 : M ≤ 1100
    · have h11' : ¬ (1100 : Int) < (M : Int) := by omega
      go_upto_block 2 with (fail)
      go_cut [] (fun wx => wx = w2 ∧ anyB ((allk.drop 2).drop M) = false)
      case first =>
        go_wp2_with fail
        go_loopw [12] (fun i wr => ∃ j : Nat, j ≤ 1198 - M ∧ i = .int .i64 ((2 + M + j : Nat) : Int) ∧ wr = w2 ∧ anyB (((allk.drop 2).drop M).take j) = false) (fun i _ => 1200 - (intOf i).toNat)
        case atStart => exact ⟨0, Nat.zero_le _, congrArg (Value.int .i64) (by omega), rfl, rfl⟩
        case round =>
          obtain ⟨j, hj, rfl, rfl, hz⟩ := hrel
          have HZ := Lib.hid hz
          clear hz
          by_cases hlt : j < 1198 - M
          · have hstep := anyB_take ((allk.drop 2).drop M) (k := j) (by simp only [List.length_drop, HAL.out]; omega) HZ.out
            have hgd : ((allk.drop 2).drop M).getD j 0 = allk.getD (2 + M + j) 0 := by
              simp only [List.getD_eq_getElem?_getD, List.getElem?_drop]
              rw [show 2 + (M + j) = 2 + M + j by omega]
            rw [hgd] at hstep
            obtain ⟨a', e, _, hc⟩ := hR.at_ (k := 2 + M + j) (by omega)
            cases e
            obtain ⟨x, hx⟩ : ∃ x, allk.getD (2 + M + j) 0 = x := ⟨_, rfl⟩
            rw [hx] at hc hstep
            have hxl := x.toNat_lt
            obtain ⟨i, hi⟩ : ∃ i, 2 + M + j = i := ⟨_, rfl⟩
            rw [hi] at hc ⊢
            have g1 : (i : Int) < 1200 := by omega
            have g0 : (0 : Int) ≤ (i : Int) := by omega
            have HST := Lib.hid hstep
            clear hstep hgd hx
            by_cases hx0 : x = 0
            · have hne : ((x.toNat : Int) != 0) = false := by subst hx0; rfl
              go_wp2_with fail
              exact ⟨⟨j + 1, by omega, congrArg (Value.int .i64) (by omega), by first | rfl | trivial, by rw [HST.out, hx0]; rfl⟩, by simp only [intOf]; omega⟩
            · have hxn : x.toNat ≠ 0 := fun h => hx0 (UInt8.toNat_inj.1 h)
              have hne : ((x.toNat : Int) != 0) = true := by simp; omega
              have hany : anyB ((allk.drop 2).drop M) = true := anyB_pre _ (k := j + 1) (by rw [HST.out]; simpa using hx0)
              have hbad : rdF F = (0, []) := by rw [HRF.out, if_neg (by rw [all_anyB, hany]; rintro ⟨_, h⟩; cases h)]
              have HBAD := Lib.hid hbad
              clear hbad hany
              go_wp2_with fail
              go_ret2
              first | exact ⟨none, 0, ⟨0, by rw [HBAD.out]; rfl⟩, by rw [HBAD.out]; exact RB.nil_ _ _, fun x hx => by (cases hx), by first | trivial | exact ⟨by omega, by omega⟩ | omega, hbk⟩ | exact ⟨none, 0, 0, by rw [HBAD.out]; rfl, by rw [HBAD.out]; exact RB.nil_ _ _, fun x hx => by (cases hx), by first | trivial | exact ⟨by omega, by omega⟩ | omega, hbk⟩
          · obtain rfl : j = 1198 - M := by omega
            have g1 : ¬ ((2 + M + (1198 - M) : Nat) : Int) < 1200 := by omega
            go_wp2_with fail
            go_meet
            refine ⟨by first | rfl | trivial, ?_⟩
            have := HZ.out
            rwa [List.take_of_length_le (by simp only [List.length_drop, HAL.out]; omega)] at this
      case rest =>
        obtain ⟨rfl, hany⟩ := hcut
        have hfin : rdF F = (nk, (allk.drop 2).take M) := by rw [HRF.out, if_pos ⟨h11, by rw [all_anyB, hany]; rfl⟩]
        have HFIN := Lib.hid hfin
        have m7 : ¬ c = 2 := by omega
        have m8 : ((2 : Int) + (M : Int)).toNat - 2 = M := by omega
        have m4 : (2 : Int) ≤ 2 + (M : Int) := by omega
        have m3 : 2 + (M : Int) ≤ (c : Int) := by omega
        have w5 : IntKind.i64.wrap (2 + (M : Int)) = 2 + (M : Int) := IntWalk.i64_in _ (by omega)
        have hpart : RB wc (some (a.add 2)) M ((allk.drop 2).take M) := by
          have h1 := Reads.cut hR (k := 2) (cap := c) (by omega) hcap
          rw [if_neg m7] at h1
          have h2 := Reads.take_ h1 (k := M) (by omega)
          have he : bvs ((allk.drop 2).take M) = ((bvs allk).drop (2 * 1)).take (M * 1) := by
            simp only [bvs, List.map_take, List.map_drop, Nat.mul_one]
          unfold RB
          rw [he]
          simpa using h2
        clear hfin hany
        go_wp2_with fail
        refine wp_region_plan [(0, true), (1, true), (2, true), (3, true), (4, true), (5, true), (6, true)] (fun z => RB z (some a) 1200 allk) (by kernel_rfl) (by kernel_rfl) (by kernel_rfl) (by kernel_rfl) (fun _ _ d _ _ h => by cases d <;> exact h) hR ?_
        simp only [planOps, List.getElem?_toArray, List.getElem?_cons_zero, List.getElem?_cons_succ]
        repeat (first
          | (refine wpS_skip (by rfl) ?_; simp only [Act.put, List.setIfInBounds_toArray, List.set_cons_zero, List.set_cons_succ])
          | (refine wpS_q ?_ (by rfl) ?_ ?_; rotate_left; (focus (intro z hz; (try dsimp only at hz); go_simp; rfl)); simp only [Act.put, List.setIfInBounds_toArray, List.set_cons_zero, List.set_cons_succ]))
        refine wpS_nil ?_
        go_wp2_with fail
        go_ret2
        have ha2 : a.add 2 = ⟨a.block, a.off + 2, none⟩ := by simp [Addr.add]
        rw [ha2] at hpart
        have hb9 := drew_below (w := wc)
        exact ⟨some ⟨a.block, a.off + 2, none⟩, M, c - 2, by rw [HFIN.out]; rfl, by rw [HFIN.out]; exact hpart.below hb9, fun x hx => ⟨(hge' x hx).1, Nat.lt_of_lt_of_le (hge' x hx).2 hb9.size⟩, ⟨by omega, by omega⟩, hbk.trans (hb9.mono hbk.size)⟩
    · have h11' : (1100 : Int) < (M : Int) := by omega
      have hbad : rdF F = (0, []) := by rw [HRF.out, if_neg (fun h => h11 h.1)]
      have HBAD := Lib.hid hbad
      clear hbad
      go_wp2_with fail
      go_ret2
      first | exact ⟨none, 0, ⟨0, by rw [HBAD.out]; rfl⟩, by rw [HBAD.out]; exact RB.nil_ _ _, fun x hx => by (cases hx), by first | trivial | exact ⟨by omega, by omega⟩ | omega, hbk⟩ | exact ⟨none, 0, 0, by rw [HBAD.out]; rfl, by rw [HBAD.out]; exact RB.nil_ _ _, fun x hx => by (cases hx), by first | trivial | exact ⟨by omega, by omega⟩ | omega, hbk⟩
end Go.Proofs.YtmjdfajdompkeaaGreatDoor
namespace Go.Proofs.YtmjdfajdompkeaaGreatDoor
open Go.RowKit Go.Rat
/-- A cell of the document's, beside its disk. -/
structure RCellAt (w : World) (base : Nat) (l : RL) (k : Nat) (s : CS) : Prop where
  blk : ∃ A N c, Blk w k 83 #[.pointer (some ⟨l.g, 0, none⟩), .int .i64 s.p, .slice A N c, .int .i64 (s.which : Int), .bool s.dead] ∧ RB w A N s.b ∧ (∀ x, A.map (·.block) = some x → base ≤ x ∧ x < w.heap.size ∧ ¬ l.fp x ∧ x ≠ k) ∧ (N ≤ c ∧ c ≤ 9223372036854775807)
  out : ¬ l.fp k
  bk : base ≤ k
  wh : s.which ≤ 1
  len : s.b.length ≤ 1100
theorem RCellAt.lt {w : World} {base : Nat} {l : RL} {k : Nat} {s : CS} (h : RCellAt w base l k s) : k < w.heap.size := by
  obtain ⟨_, _, _, h1, _⟩ := h.blk
  exact h1.lt
/-- Where neither the cell nor its bytes are touched. -/
theorem RCellAt.kept {w w' : World} {base : Nat} {l l' : RL} {k : Nat} {s : CS} {F : Nat → Prop} (h : RCellAt w base l k s) (hc : Chg F w w') (hk : ¬ F k) (hF : ∀ x, F x → l.fp x ∨ x < base) (hg : l'.g = l.g) (hfp : ∀ x, l'.fp x → l.fp x ∨ w.heap.size ≤ x) : RCellAt w' base l' k s := by
  obtain ⟨A, N, c, h1, h2, h3, hcc⟩ := h.blk
  have hA : ∀ x, A.map (·.block) = some x → ¬ F x := fun x hx hf => by
    obtain ⟨a1, a2, a3, a4⟩ := h3 x hx
    rcases hF x hf with h4 | h4
    · exact a3 h4
    · omega
  refine ⟨⟨A, N, c, by rw [hg]; exact hc.blk h1 hk, hc.rb h2 hA, fun x hx => ?_, hcc⟩, fun hf => ?_, h.bk, h.wh, h.len⟩
  · obtain ⟨a1, a2, a3, a4⟩ := h3 x hx
    refine ⟨a1, Nat.lt_of_lt_of_le a2 hc.size, fun hf => ?_, a4⟩
    rcases hfp x hf with h4 | h4
    · exact a3 h4
    · omega
  · rcases hfp k hf with h4 | h4
    · exact h.out h4
    · have := h1.lt
      omega
theorem RCellAt.moved {w w' : World} {base : Nat} {l l' : RL} {k : Nat} {s : CS} (h : RCellAt w base l k s) (hm : RMoved w w' l l') : RCellAt w' base l' k s :=
  h.kept hm.chg h.out (fun _ hx => .inl hx) hm.g hm.fp
theorem RCellAt.below {w w' : World} {base : Nat} {l : RL} {k : Nat} {s : CS} (h : RCellAt w base l k s) (hb : Below w.heap.size w w') : RCellAt w' base l k s := h.moved (RMoved.of_below hb)
/-- A disk and a cell of the document's have moved on. -/
structure RCMoved (w w' : World) (l l' : RL) (k : Nat) : Prop where
  g : l'.g = l.g
  chg : Chg (fun x => l.fp x ∨ x = k) w w'
  fp : ∀ x, l'.fp x → l.fp x ∨ w.heap.size ≤ x
theorem RCMoved.of_moved {w w' : World} {l l' : RL} (h : RMoved w w' l l') (k : Nat) : RCMoved w w' l l' k := ⟨h.g, h.chg.mono (fun _ hx => .inl hx), h.fp⟩
theorem RCMoved.trans {a b c : World} {l m n : RL} {k : Nat} (h : RCMoved a b l m k) (q : RCMoved b c m n k) : RCMoved a c l n k :=
  ⟨q.g.trans h.g, h.chg.trans q.chg (fun x hx => by
    rcases hx with hx | hx
    · rcases h.fp x hx with h1 | h1
      · exact .inl (.inl h1)
      · exact .inr h1
    · exact .inl (.inr hx)), fun x hx => by
    rcases q.fp x hx with h1 | h1
    · exact h.fp x h1
    · exact .inr (Nat.le_trans h.chg.size h1)⟩
theorem RCMoved.set {w w' : World} {l l' : RL} {k : Nat} (h : RCMoved w w' l l' k) (i : Nat) (v : Value) : RCMoved w (w'.setCell ⟨k, i, none⟩ v) l l' k :=
  ⟨h.g, h.chg.trans (Chg.of_grown (F := fun x => x = k) (grownBy_set w' k i v) rfl) (fun _ hx => .inl (.inr hx)), h.fp⟩
/-- What was new behind w is no part of what w had. -/
theorem RCMoved.fresh {w w1 w2 : World} {l l' : RL} {k : Nat} (h : Below w.heap.size w w1) (hk : w.heap.size ≤ k) (q : RCMoved w1 w2 l l' k) : RMoved w w2 l l' :=
  ⟨q.g, (Chg.of_below l.fp h).trans q.chg (fun x hx => by
    rcases hx with hx | hx
    · exact .inl hx
    · exact .inr (by omega)), fun x hx => by
    rcases q.fp x hx with h1 | h1
    · exact .inl h1
    · exact .inr (Nat.le_trans h.size h1)⟩
theorem RDk.beside {w : World} {base : Nat} {l : RL} {d : DS} {k i : Nat} {v : Value} (h : RDk w base l d) (hk : ¬ l.fp k) : RDk (w.setCell ⟨k, i, none⟩ v) base l d :=
  h.kept (Chg.of_grown (F := fun x => x = k) (grownBy_set w k i v) rfl) (fun _ hx e => hk (e ▸ hx))
theorem slotV_zero (d : DS) (p : Int) : slotV d p 0 = rdF (viewD d p) := by
  unfold slotV
  rw [show p + ((0 * 10 : Nat) : Int) = p by omega]
theorem slotV_one (d : DS) (p : Int) : slotV d p 1 = rdF (viewD d (p + 10)) := by
  unfold slotV
  rw [show p + ((1 * 10 : Nat) : Int) = p + 10 by omega]
theorem rformat_far (w : World) (v : Value) (p : Int) (hp : ¬ (0 ≤ p ∧ p ≤ 32748)) : Calls Tryz.prog 9 #[v, .int .i64 p] w fun e w' => e = .returned (.int .i64 1) ∧ w = w' := by
  by_cases h1 : p < 0
  · go_enter Tryz.func9, Tryz.ntmps9
    go_wp2_with fail
    go_ret
    exact ⟨rfl, rfl⟩
  · have h2 : 32748 < p := by omega
    go_enter Tryz.func9, Tryz.ntmps9
    go_wp2_with fail
    go_ret
    exact ⟨rfl, rfl⟩
set_option maxHeartbeats 4000000 in
theorem rformat_any (w : World) (base : Nat) (l : RL) (d : DS) (hD : RDk w base l d) (g : Nat) (hg : l.g = g) (hbase : base ≤ w.heap.size) (hlo : d.loose.length < 800000000) (p : Int) (hp : 0 ≤ p ∧ p + 20 ≤ 32768) :
    Calls Tryz.prog 9 #[.pointer (some ⟨g, 0, none⟩), .int .i64 p] w fun e w' => ∃ l', e = .returned (.int .i64 (fmF d p).2) ∧ l'.g = g ∧ RDk w' base l' (fmF d p).1 ∧ RMoved w w' l l' := by
  obtain ⟨r1, h1⟩ : ∃ r, wrS d p 2 [] 10 = r := ⟨_, rfl⟩
  obtain ⟨r2, h2⟩ : ∃ r, wrS r1.1 (p + 10) 1 [] 10 = r := ⟨_, rfl⟩
  have hf : fmF d p = if r1.2 = 0 then (if r2.2 = 0 then (syncAll r2.1, syncE r2.1) else r2) else r1 := by rw [fmF, h1, h2]
  have hl1 := wrS_loose d p 2 [] 10
  rw [h1] at hl1
  have hw1 := fun w => rwrite5_any w base
  have hw : ∀ n : Int, p < n → n ≤ p + 20 → IntKind.i64.wrap n = n := fun n _ _ => IntWalk.i64_in _ (by omega)
  have hp1 : ¬ p < 0 := by omega
  have hp2 : ¬ 32748 < p := by omega
  have H1 := Lib.hid h1
  have H2 := Lib.hid h2
  have HF := Lib.hid hf
  clear h1 h2 hf hw1 hw
  go_enter Tryz.func9, Tryz.ntmps9
  go_wp2_with fail
  refine (rwrite5_any _ base l d hD g hg hbase (by omega) p (by omega) 2 (by omega) none 0 0 [] (RB.nil_ _ _) (by omega)).mono ?_
  rw [H1.out]
  rintro e w1 ⟨l1, rfl, hl1g, hD1, hm1⟩
  simp only []
  have hs1 := hm1.chg.size
  by_cases e1 : r1.2 = 0
  · have hF := HF.out
    rw [if_pos e1] at hF
    have HF2 := Lib.hid hF
    rw [e1]
    clear hF HF
    go_wp2_with fail
    refine (rwrite5_any _ base l1 r1.1 hD1 g hl1g (by omega) (by omega) (p + 10) (by omega) 1 (by omega) none 0 0 [] (RB.nil_ _ _) (by omega)).mono ?_
    rw [H2.out]
    rintro e w2 ⟨l2, rfl, hl2g, hD2, hm2⟩
    simp only []
    have hm12 := hm1.trans hm2
    have hs2 := hm12.chg.size
    by_cases e2 : r2.2 = 0
    · have hF := HF2.out
      rw [if_pos e2] at hF
      have HF3 := Lib.hid hF
      rw [e2]
      clear hF HF2 e1 e2
      go_wp2_with fail
      refine (rgsync _ base g _ _ hD2 hl2g (by omega)).mono ?_
      rintro e w3 ⟨l3, rfl, hl3g, hD3, hm3⟩
      simp only []
      have hm13 := hm12.trans hm3
      go_wp2_with fail
      go_ret
      exact ⟨l3, by rw [HF3.out]; rfl, hl3g, by rw [HF3.out]; exact hD3, hm13⟩
    · have hF := HF2.out
      rw [if_neg e2] at hF
      have HF3 := Lib.hid hF
      have e2' : (r2.2 == 0) = false := by simpa using e2
      clear hF HF2 e1 e2
      go_wp2_with fail
      go_ret
      exact ⟨l2, by rw [HF3.out]; rfl, hl2g, by rw [HF3.out]; exact hD2, hm12⟩
  · have hF := HF.out
    rw [if_neg e1] at hF
    have HF2 := Lib.hid hF
    have e1' : (r1.2 == 0) = false := by simpa using e1
    clear hF HF e1
    go_wp2_with fail
    go_ret
    exact ⟨l1, by rw [HF2.out]; rfl, hl1g, by rw [HF2.out]; exact hD1, hm1⟩
theorem ropen5_far (w : World) (v : Value) (p : Int) (hp : ¬ (0 ≤ p ∧ p ≤ 32748)) : Calls Tryz.prog 22 #[v, .int .i64 p] w fun e w' => e = .returned (.tuple #[.pointer none, .int .i64 1]) ∧ w = w' := by
  by_cases h1 : p < 0
  · go_enter Tryz.func22, Tryz.ntmps22
    go_wp2_with fail
    go_ret2
    exact ⟨rfl, rfl⟩
  · have h2 : 32748 < p := by omega
    go_enter Tryz.func22, Tryz.ntmps22
    go_wp2_with fail
    go_ret2
    exact ⟨rfl, rfl⟩
set_option maxRecDepth 20000 in
set_option maxHeartbeats 8000000 in
theorem ropen5_any (w : World) (base : Nat) (l : RL) (d : DS) (hD : RDk w base l d) (g : Nat) (hg : l.g = g) (hbase : base ≤ w.heap.size) (p : Int) (hp : 0 ≤ p ∧ p + 20 ≤ 32768) :
    Calls Tryz.prog 22 #[.pointer (some ⟨g, 0, none⟩), .int .i64 p] w fun e w' => ((opE d p ≠ 0 ∧ e = .returned (.tuple #[.pointer none, .int .i64 (opE d p)])) ∨
      (opE d p = 0 ∧ ∃ k, e = .returned (.tuple #[.pointer (some ⟨k, 0, none⟩), .int .i64 0]) ∧ RCellAt w' base l k (openCell d p) ∧ w.heap.size ≤ k)) ∧ Below w.heap.size w w' := by
  have hp1 : ¬ p < 0 := by omega
  have hp2 : ¬ 32748 < p := by omega
  obtain ⟨Ac, cc, _, k2, _⟩ := hD.cells
  rw [hg] at k2
  cases hoff : d.off
  · rw [hoff] at k2
    have ho : opE d p = if (slotV d p 0).1 = 0 ∧ (slotV d p 1).1 = 0 then 9 else 0 := by rw [opE, hoff, if_neg (by decide)]
    have hof : opF d p = if (slotV d p 0).1 < (slotV d p 1).1 then (1, (slotV d p 1).2) else (0, (slotV d p 0).2) := rfl
    have hwh := opF_wh d p
    have hln := opF_len d p
    have hfl : ∀ x, l.fp x → x < w.heap.size := fun x hx => (hD.fp_lt hx).2
    have h0 := rread5_any w base l d hD g hg p (by omega)
    have h1 := fun w1 (hD1 : RDk w1 base l d) => rread5_any w1 base l d hD1 g hg (p + 10) (by omega)
    rw [← slotV_zero] at h0
    simp only [← slotV_one] at h1
    obtain ⟨⟨n, a⟩, hn⟩ : ∃ x, slotV d p 0 = x := ⟨_, rfl⟩
    obtain ⟨⟨m, b⟩, hm⟩ : ∃ x, slotV d p 1 = x := ⟨_, rfl⟩
    rw [hn, hm] at ho hof
    rw [hn] at h0
    simp only [hm] at h1
    simp only at ho hof h0 h1
    have HO := Lib.hid ho
    have HOF := Lib.hid hof
    have HWH := Lib.hid hwh
    have HLN := Lib.hid hln
    have H1 := Lib.hid h1
    clear ho hof hoff hwh hln hn hm h1
    go_enter Tryz.func22, Tryz.ntmps22
    go_wp2_with fail
    refine h0.mono ?_
    rintro e w1 ⟨A0, N0, z0, rfl, hR0, hx0, hcc0, hb1⟩
    simp only []
    have hD1 := hD.below hb1
    go_wp2_with fail
    refine (H1.out w1 hD1).mono ?_
    rintro e w2 ⟨A1, N1, z1, rfl, hR1, hx1, hcc1, hb2⟩
    simp only []
    have hbb := below_next' hb1 hb2
    have hR0 := hR0.below hb2
    have hs12 : w.heap.size ≤ w1.heap.size ∧ w1.heap.size ≤ w2.heap.size := ⟨hb1.size, hb2.size⟩
    clear hD1 hD k2 h0 hb1 hb2 H1
    by_cases hz : n = 0 ∧ m = 0
    · obtain ⟨rfl, rfl⟩ := hz
      have hoe : opE d p = 9 := by rw [HO.out, if_pos ⟨rfl, rfl⟩]
      have HOE := Lib.hid hoe
      clear hoe
      go_wp2_with fail
      go_ret2
      exact ⟨.inl ⟨by rw [HOE.out]; decide, by rw [HOE.out]; rfl⟩, hbb⟩
    · have hoe : opE d p = 0 := by rw [HO.out, if_neg hz]
      have HOE := Lib.hid hoe
      have hK := Blk.new w2 83 #[.pointer (some ⟨g, 0, none⟩), .int .i64 p, .slice A0 N0 z0, .int .i64 0, .bool false]
      have hb3 := below_alloc w2 (.cells #[.pointer (some ⟨g, 0, none⟩), .int .i64 p, .slice A0 N0 z0, .int .i64 0, .bool false] 83)
      have hzz : ((n : Int) == 0) = false ∨ ((n : Int) == 0) = true ∧ ((m : Int) == 0) = false := by
        by_cases hn0 : n = 0
        · subst hn0
          exact .inr ⟨rfl, by simp; omega⟩
        · exact .inl (by simpa using hn0)
      obtain ⟨w3, hw3⟩ : ∃ x, w2.alloc (.cells #[.pointer (some ⟨g, 0, none⟩), .int .i64 p, .slice A0 N0 z0, .int .i64 0, .bool false] 83) = x := ⟨_, rfl⟩
      have HW3 := Lib.hid hw3
      rw [hw3] at hK hb3
      have hR0 := hR0.below hb3
      have hR1 := hR1.below hb3
      have hbb := below_next' hbb hb3
      have hs3 := hK.lt
      obtain ⟨k, hk⟩ : ∃ x, w2.heap.size = x := ⟨_, rfl⟩
      rw [hk] at hK hs3 hs12 hx1
      have HK := Lib.hid hk
      have hkf : ¬ l.fp k := fun hf => by have := hfl k hf; omega
      have ha0 : ∀ x, A0.map (·.block) = some x → base ≤ x ∧ x < k ∧ ¬ l.fp x ∧ x ≠ k := fun x hx => by
        have h3 := hx0 x hx
        exact ⟨by omega, by omega, fun hf => by have := hfl x hf; omega, by omega⟩
      have ha1 : ∀ x, A1.map (·.block) = some x → base ≤ x ∧ x < k ∧ ¬ l.fp x ∧ x ≠ k := fun x hx => by
        have h3 := hx1 x hx
        exact ⟨by omega, by omega, fun hf => by have := hfl x hf; omega, by omega⟩
      clear hoe hz hw3 hk hx0 hx1 hfl hb3
      by_cases hlt : n < m
      · have hff : opF d p = (1, b) := by rw [HOF.out, if_pos hlt]
        have HFF := Lib.hid hff
        have hlt' : (n : Int) < (m : Int) := by omega
        clear hff
        have f3 := hK.frozen 3
        have c3 := hK.cell 3
        have f2 := hK.frozen 2
        have c2 := hK.cell 2
        simp only [List.getElem?_toArray, List.getElem?_cons_zero, List.getElem?_cons_succ] at c2 c3
        have hK5 := hK.set_ 3 (.int .i64 1)
        have hK6 := hK5.set_ 2 (.slice A1 N1 z1)
        simp only [List.setIfInBounds_toArray, List.set_cons_zero, List.set_cons_succ] at hK6
        have hg5 := grownBy_set w3 k 3 (.int .i64 1)
        have hg6 := grownBy_set (w3.setCell ⟨k, 3, none⟩ (.int .i64 1)) k 2 (.slice A1 N1 z1)
        have hg56 := hg5.trans hg6
        have hR16 := (Chg.of_grown (F := fun x => x = k) hg56 rfl).rb hR1 (fun x hx => (ha1 x hx).2.2.2)
        have hbb6 := hbb.grown hg56 hbb.size (fun q hq => by cases hq; omega)
        have hs6 := hg56.size
        clear hK hK5 hg5 hg6 hg56 hR0 hR1 hbb
        rcases hzz with hz1 | ⟨hz1, hz2⟩
        all_goals
          go_upto_region 10 with (fail)
          rw [HW3.out, HK.out]
          go_wp2_with fail
          go_ret2
          exact ⟨.inr ⟨by rw [HOE.out], k, rfl, ⟨⟨A1, N1, z1, by rw [hg, openCell, HFF.out]; exact hK6, by rw [openCell, HFF.out]; exact hR16, fun x hx => ⟨(ha1 x hx).1, by have hq := (ha1 x hx).2.1; omega, (ha1 x hx).2.2⟩, hcc1⟩, hkf, by omega, HWH.out, HLN.out⟩, by omega⟩, hbb6⟩
      · have hff : opF d p = (0, a) := by rw [HOF.out, if_neg hlt]
        have HFF := Lib.hid hff
        have hlt' : ¬ (n : Int) < (m : Int) := by omega
        clear hff
        rcases hzz with hz1 | ⟨hz1, hz2⟩
        all_goals
          go_upto_region 10 with (fail)
          rw [HW3.out, HK.out]
          go_wp2_with fail
          go_ret2
          exact ⟨.inr ⟨by rw [HOE.out], k, rfl, ⟨⟨A0, N0, z0, by rw [hg, openCell, HFF.out]; exact hK, by rw [openCell, HFF.out]; exact hR0, fun x hx => ⟨(ha0 x hx).1, by have := (ha0 x hx).2.1; omega, (ha0 x hx).2.2⟩, hcc0⟩, hkf, by omega, HWH.out, HLN.out⟩, by omega⟩, hbb⟩
  · rw [hoff] at k2
    have ho : opE d p = 8 := by rw [opE, hoff, if_pos rfl]
    have HO := Lib.hid ho
    clear ho hoff
    go_enter Tryz.func22, Tryz.ntmps22
    go_wp2_with fail
    go_ret2
    exact ⟨.inl ⟨by rw [HO.out]; decide, by rw [HO.out]; rfl⟩, Below.refl _ _⟩
end Go.Proofs.YtmjdfajdompkeaaGreatDoor
namespace Go.Proofs.YtmjdfajdompkeaaGreatDoor
open Go.RowKit Go.Rat
theorem rput5_many (w : World) (k : Nat) (A : Option Addr) (n c : Nat) (hn : 1100 < n) :
    Calls Tryz.prog 24 #[.pointer (some ⟨k, 0, none⟩), .slice A n c] w fun e w' => e = .returned (.int .i64 6) ∧ w = w' := by
  have hn' : (1100 : Int) < (n : Int) := by omega
  go_enter Tryz.func24, Tryz.ntmps24
  go_wp2_with fail
  go_ret
  exact ⟨rfl, rfl⟩
end Go.Proofs.YtmjdfajdompkeaaGreatDoor
