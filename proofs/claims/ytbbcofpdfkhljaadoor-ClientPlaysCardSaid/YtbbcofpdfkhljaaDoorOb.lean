/- ratchetlaw25: numbers of replicas, letters; the law ClientLies, walked. -/
import Derived.Test.YtbbcofpdfkhljaaDoorOa
namespace Go.Rat
open Go.RowKit Go
/-- A struct that is built, guarded or not. -/
theorem wpl_buildW {P : Program} {w : World} {ops : Array Oper} {rest : List Oper} {a : Act} {Q : Exit → Act → World → Prop} {d : Option Tmp} {tt t : TypeId} {p : String} {af : Array Edge} {gd : Option (Nat × Bool)} {parts : List (Nat × Operand)} {ps : List (Nat × Value)} {v : Value}
    (h : ∀ w, (Instr.build t ps.toArray).run P w = .ok v w) (hw : Region.wanted { dst := d, op := .build t parts.toArray, type := tt, pos := p, after := af, guard := gd } (yielded ops a.tmps) = true) (hρ : (parts.map fun (i, x) => (i, a.eval x)) = ps) (hk : wpList P ops Q rest (a.put d v) w) :
    wpList P ops Q ({ dst := d, op := .build t parts.toArray, type := tt, pos := p, after := af, guard := gd } :: rest) a w := by
  subst hρ
  exact BigFrame.wpList_want hw fun _ hK => by
    unfold Oper.wp
    rw [run_buildS rfl (h _)]
    exact hK _ _ hk
end Go.Rat
namespace Go.Proofs.YtbbcofpdfkhljaaDoor
open Go.RowKit Go.Rat
/-- The letter of a number. -/
def ltr (x : UInt8) : UInt8 := UInt8.ofNat (97 + x.toNat % 3)
theorem ltr_int (x : UInt8) : (97 : Int) + (x.toNat : Int) % 3 = ((ltr x).toNat : Int) := by
  rw [ltr, UInt8.toNat_ofNat']; omega
def lieV (x : UInt8) : ToldV := ⟨5, 1, ⟨0, bstr [ltr x]⟩, 1⟩
theorem build_rp0 (w : World) : (Instr.build 36 [].toArray).run Tryd.prog w = .ok (.agg rp0.c.toArray) w := by
  go_simp
  rfl
theorem odd_any (w : World) (x : UInt8) : Calls Tryd.prog 18 #[.int .u8 (x.toNat : Int)] w fun e w' => e = .returned (.int .i64 (2 * ((x.toNat % 5 + 1 : Nat) : Int) + 1)) ∧ w' = w := by
  obtain ⟨f, hf⟩ : ∃ f, x.toNat % 5 = f := ⟨_, rfl⟩
  have hf5 : f < 5 := by omega
  have hm : (x.toNat : Int) % 5 = (f : Int) := by omega
  have hx := x.toNat_lt
  rw [hf]
  have hr : (2 : Int) * ((f + 1 : Nat) : Int) + 1 = 3 + 2 * (f : Int) := by omega
  rw [hr]
  clear hf hr
  go_enter Tryd.func18, Tryd.ntmps18
  go_wp2_with fail
  go_ret
  exact ⟨rfl, rfl⟩
theorem bools_at {w : World} {g : Nat} {T : TypeId} {b : List Bool} (h : Blk w g T (b.map Value.bool).toArray) {i : Nat} (hi : i < b.length) : w.cell? ⟨g, i, none⟩ = some (.bool (b.getD i false)) := by
  rw [h.cell i, List.getElem?_toArray, List.getElem?_map, List.getElem?_eq_getElem hi, List.getD_eq_getElem?_getD, List.getElem?_eq_getElem hi]
  rfl
theorem bools_set (b : List Bool) (i : Nat) (x : Bool) : (b.map Value.bool).toArray.setIfInBounds i (.bool x) = ((b.set i x).map Value.bool).toArray := by
  rw [List.setIfInBounds_toArray, List.map_set]
theorem zb12 : (#[.bool false, .bool false, .bool false, .bool false, .bool false, .bool false, .bool false, .bool false, .bool false, .bool false, .bool false, .bool false] : Array Value) = ((List.replicate 12 false).map Value.bool).toArray := rfl
theorem build_lie (w : World) (x : UInt8) : (Instr.build 38 [(0, .int .i64 5), (1, .int .u64 1), (2, .agg #[.int .i64 0, .string (bstr [ltr x])]), (3, .int .u64 1)].toArray).run Tryd.prog w = .ok (.agg (lieV x).c.toArray) w := by
  simp only [lieV, ToldV.c]
  go_simp
theorem let_any (w : World) (y : UInt8) : ∃ w5 gl, (Instr.buildSlice 64 1 [(0, .int .u8 (y.toNat : Int))].toArray).run Tryd.prog w = .ok (.slice (some ⟨gl, 0, none⟩) 1 1) w5 ∧ (convert 64 9 (.slice (some ⟨gl, 0, none⟩) 1 1)).run Tryd.prog w5 = .ok (.string (bstr [y])) w5 ∧ Below w.heap.size w w5 :=
  ⟨w.alloc (.cells #[.int .u8 (y.toNat : Int)] 5), w.heap.size, by go_simp, conv_str (RB.one_ (x := y) w 5 (v := .int .u8 (y.toNat : Int)) rfl) 1, below_alloc w _⟩
theorem told_ones (t : ToldV) : t.c.toArray.all (·.oneCell') = true := by simp [ToldV.c, Value.oneCell']
theorem rp_ones (t : RpV) : t.c.toArray.all (·.oneCell') = true := by simp [RpV.c, Value.oneCell']
set_option maxRecDepth 20000 in
set_option maxHeartbeats 8000000 in
theorem clientLies_any (n : Nat) (hn64 : n = 64) (w : World) (nn : UInt8) (A : Option Addr) (m c : Nat) (lies : List UInt8) (hr : RB w A m lies) (truth : UInt8) (tb : List Int) (htb : H.tblL = tb) (hT : H.Tab w tb) :
    Calls Tryd.prog 6 #[.int .u8 (nn.toNat : Int), .slice A m c, .int .u8 (truth.toNat : Int)] w fun e w' => e = .returned (.bool true) ∧ Below w.heap.size w w' := by
  have hwk := fun w' (h : Below w.heap.size w w') => works25_any n hn64 w' tb htb (H.Tab.below hT h)
  have HW := Lib.hid hwk
  have HTB := Lib.hid hT
  have HN := Lib.hid hn64
  clear hwk hT htb hn64
  by_cases hbig : 60 < m
  · have hbi : (60 : Int) < (m : Int) := by omega
    go_enter Tryd.func6, Tryd.ntmps6
    go_wp2_with fail
    refine (HW.out w (Below.refl _ _)).mono ?_
    rintro e w1 ⟨rfl, hb⟩
    simp only []
    go_wp2_with fail
    go_ret
    exact ⟨rfl, hb⟩
  have hbi : ¬ (60 : Int) < (m : Int) := by omega
  have hodd := fun w => odd_any w nn
  obtain ⟨f, hf⟩ : ∃ f, nn.toNat % 5 + 1 = f := ⟨_, rfl⟩
  rw [hf] at hodd
  have hf1 : 1 ≤ f := by omega
  have hf5 : f ≤ 5 := by omega
  have HODD := Lib.hid hodd
  clear hodd hf hbig
  have hf1' : (1 : Int) ≤ (f : Int) := by omega
  have hf5' : (f : Int) ≤ 5 := by omega
  have hdiv : (2 * (f : Int)).tdiv 2 = (f : Int) := by rw [Int.tdiv_eq_ediv_of_nonneg (by omega)]; omega
  have hwf : IntKind.i64.wrap (f : Int) = (f : Int) := IntWalk.i64_in _ (by omega)
  have hwf2 : IntKind.i64.wrap (2 * (f : Int)) = 2 * (f : Int) := IntWalk.i64_in _ (by omega)
  have hac := askC_yes n tb (2 * (f : Int) + 1) 5 0 rq0 tol0 opW opW_may
  rw [Nat.zero_add] at hac
  have hqt := askQ_tag n tb 5 1 opW
  obtain ⟨Q, hQ⟩ : ∃ Q, askQ n tb 5 1 opW = Q := ⟨_, rfl⟩
  rw [hQ] at hac hqt
  have HAC := Lib.hid hac
  clear hac hQ
  have hqs : Q.c.toArray.size = 40 := by rw [List.size_toArray, rqc_length Q hqt]
  have hq1 : Q.c.toArray.all (·.oneCell') = true := by simpa using rqc_one Q
  have hzs : rq0.c.toArray.size = 40 := rfl
  have hz1 : rq0.c.toArray.all (·.oneCell') = true := by simpa using rqc_one rq0
  go_enter Tryd.func6, Tryd.ntmps6
  go_wp2_with fail
  refine (HODD.out w).mono ?_
  rintro e w1 ⟨rfl, rfl⟩
  simp only []
  go_wp2_with fail
  refine (cnew_yes w1 (2 * (f : Int) + 1) 5 ⟨⟨by omega, by omega, by omega⟩, by omega, by omega⟩).mono ?_
  rintro e w2 ⟨rfl, hX, hb⟩
  simp only []
  obtain ⟨g, hg⟩ : ∃ x, w1.heap.size = x := ⟨_, rfl⟩
  rw [hg] at hX ⊢
  have HG := Lib.hid hg
  clear hg
  have hask := cask_any n HN.out w2 g ⟨2 * (f : Int) + 1, 5, 0, false, rq0, tol0⟩ hX ⟨z32_length, tol0_len⟩ (by show (0 : Nat) < 1000000; omega) opW tb (fun z hz => H.Tab.below HTB.out (hb.trans (below_of_grownBy hz (fun q hq => by cases hq; exact Nat.le_of_eq HG.out) hb.size)))
  rw [HAC.out] at hask
  go_wp2_with fail
  refine hask.mono ?_
  rintro e w3 ⟨rfl, hX3, hg3⟩
  simp only []
  have hb3 := hb.trans (below_of_grownBy hg3 (fun q hq => by cases hq; exact Nat.le_of_eq HG.out) hb.size)
  clear hask hg3 hX hb
  repeat (first
    | ((with_reducible refine wpl_store_fresh Q.c.toArray i44 ?_ hqs hq1 ?_ ?_ ?_); (focus kernel_rfl); (focus rfl); (focus rfl); intro w4 hQ4 hl4 hb4; simp only [Act.put]; refine Hid.out ?_)
    | go_values | go_skip | go_guarded | go_step | go_upon | go_back)
  refine Lib.hid ?_
  have hX4 := hX3.below hb4 hX3.lt
  have hb4 := below_next' hb3 hb4
  clear hQ4 hl4 hX3 hb3
  have hy := ltr_int truth
  have htr := truth.toNat_lt
  have hls : (lieV truth).c.toArray.size = 5 := rfl
  have hl1 := told_ones (lieV truth)
  obtain ⟨w5, gl, hbs, hcv, hb5⟩ := let_any w4 (ltr truth)
  have hX5 := hX4.below hb5 hX4.lt
  have hb5 := below_next' hb4 hb5
  repeat (first
    | ((with_reducible refine wpl_buildSl hbs ?_ ?_); (focus rfl); simp only [Act.put, List.setIfInBounds_toArray, List.set_cons_zero, List.set_cons_succ])
    | ((with_reducible refine wpl_store_fresh (lieV truth).c.toArray iTold ?_ hls hl1 ?_ ?_ ?_); (focus kernel_rfl); (focus rfl); (focus rfl); intro w6 hRT hl6 hb6; simp only [Act.put]; refine Hid.out ?_)
    | go_values | go_skip | go_guarded | go_step | go_upon | go_back)
  refine Lib.hid ?_
  have hX6 := hX5.below hb6 hX5.lt
  have hb6 := below_next' hb5 hb6
  have hXlt := hX5.lt
  clear hcv hbs hX4 hX5 hb4 hb5 hl6 hy htr
  obtain ⟨gr, hgr⟩ : ∃ x, w5.heap.size = x := ⟨_, rfl⟩
  rw [hgr] at hRT ⊢
  have hner : g ≠ gr := by rw [← hgr]; exact Nat.ne_of_lt hXlt
  clear hgr
  go_upto_region 14 with (fail)
  rw [zb12]
  have hBn := Blk.new w6 65 ((List.replicate 12 false).map Value.bool).toArray
  have hX7 : Blk (w6.alloc (.cells ((List.replicate 12 false).map Value.bool).toArray 65)) g 73 (ClV.mk (2 * (f : Int) + 1) 5 1 true Q tol0).c.toArray := hX6.alloc _
  have hR7 := hRT.alloc (.cells ((List.replicate 12 false).map Value.bool).toArray 65)
  have hb7 := below_next' hb6 (below_alloc w6 (.cells ((List.replicate 12 false).map Value.bool).toArray 65))
  have hgb1 := Nat.ne_of_lt hX6.lt
  have hgb3 := hX6.lt
  have hgb2 := Nat.ne_of_lt hRT.lt
  obtain ⟨w7, hw7⟩ : ∃ x, w6.alloc (.cells ((List.replicate 12 false).map Value.bool).toArray 65) = x := ⟨_, rfl⟩
  rw [hw7] at hBn hX7 hR7 hb7 ⊢
  obtain ⟨gb, hgb⟩ : ∃ x, w6.heap.size = x := ⟨_, rfl⟩
  rw [hgb] at hBn hgb1 hgb2 hgb3 ⊢
  clear hw7 hgb hX6 hRT hb6 hXlt hls hl1
  have hrc : (lieV truth).cl = 5 := rfl
  have hrm : (lieV truth).tm = 1 := rfl
  obtain ⟨rt, hrt⟩ : ∃ t, lieV truth = t := ⟨_, rfl⟩
  rw [hrt] at hR7 hrc hrm
  clear hrt
  have hL0 := lies0 f rt Q
  obtain ⟨c0, hc0⟩ : ∃ c, ClV.mk (2 * (f : Int) + 1) 5 1 true Q tol0 = c := ⟨_, rfl⟩
  rw [hc0] at hL0 hX7
  obtain ⟨b0, hb0⟩ : ∃ b, List.replicate 12 false = b := ⟨_, rfl⟩
  rw [hb0] at hL0 hBn
  clear hc0 hb0
  have hrts : rt.c.toArray.size = 5 := rfl
  have hrp0 : rp0.c.toArray.size = 2 := rfl
  have hrp1 := rp_ones rp0
  go_upto_block 0 with (fail)
  go_wp2_with fail
  go_loopw [14, 16] (fun ag i wr => ∃ (k a : Nat) (c' : ClV) (b : List Bool), k ≤ m ∧ i = .int .i64 (k : Int) ∧ ag = .int .i64 (a : Int) ∧ Lies f rt Q c' a b ∧ Blk wr g 73 c'.c.toArray ∧ Blk wr gb 65 (b.map Value.bool).toArray ∧ Blk wr gr 38 rt.c.toArray ∧ Below w1.heap.size w1 wr) (fun _ i _ => m - (intOf i).toNat)
  case atStart => exact ⟨0, 0, c0, b0, Nat.zero_le _, rfl, rfl, hL0, hX7, hBn, hR7, hb7⟩
  case round =>
    clear hL0 hX7 hBn hR7 hb7
    obtain ⟨k, a, c', b, hk, rfl, rfl, hL, hX, hB, hR, hbk⟩ := hrel
    by_cases hkm : k < m
    · have g1 : (k : Int) < (m : Int) := by omega
      have g0 : (0 : Int) ≤ (k : Int) := by omega
      obtain ⟨ad, rfl, hadl, hce⟩ := hr.at_ hkm
      obtain ⟨x, hx⟩ : ∃ x, lies.getD k 0 = x := ⟨_, rfl⟩
      rw [hx] at hce
      have hcell : wr.cell? (ad.add k) = some (.int .u8 (x.toNat : Int)) := (hbk.cell (by rw [block_of_add]; exact hadl)).trans hce
      have hyx := ltr_int x
      have hxl := x.toNat_lt
      have hp : k % f < f := Nat.mod_lt _ (by omega)
      have hmod : (k : Int).tmod (f : Int) = ((k % f : Nat) : Int) := by rw [Int.tmod_eq_emod_of_nonneg (by omega)]; rfl
      obtain ⟨p, hpe⟩ : ∃ p, k % f = p := ⟨_, rfl⟩
      rw [hpe] at hp hmod
      have hf0 : ¬ (f : Int) = 0 := by omega
      have hp5 : (p : Int) < 5 := by omega
      have hp0 : (0 : Int) ≤ (p : Int) := by omega
      have hwp : IntKind.i64.wrap (p : Int) = (p : Int) := IntWalk.i64_in _ (by omega)
      obtain ⟨c2, hH, hL2⟩ := lie_step hL hf5 p hp (lieV x) rfl rfl
      obtain ⟨w8, gl, hbs, hcv, hb8⟩ := let_any wr (ltr x)
      have hX8 := hX.below hb8 hX.lt
      have hB8 := hB.below hb8 hB.lt
      have hR8 := hR.below hb8 hR.lt
      have hb8 := below_next' hbk hb8
      have hls : (lieV x).c.toArray.size = 5 := rfl
      have hl1 := told_ones (lieV x)
      clear hx hce hadl hpe
      go_upto_region 18 with (fail)
      repeat (first
        | ((with_reducible refine wpl_buildSl hbs ?_ ?_); (focus rfl); simp only [Act.put, List.setIfInBounds_toArray, List.set_cons_zero, List.set_cons_succ])
        | ((with_reducible refine wpl_store_fresh (lieV x).c.toArray iTold ?_ hls hl1 ?_ ?_ ?_); (focus kernel_rfl); (focus rfl); (focus rfl); intro w9 hT9 hl9 hb9; simp only [Act.put]; refine Hid.out ?_)
        | go_values | go_skip | go_guarded | go_step | go_upon | go_back)
      refine Lib.hid ?_
      have hX9 := hX8.below hb9 hX8.lt
      have hB9 := hB8.below hb9 hB8.lt
      have hR9 := hR8.below hb9 hR8.lt
      have hb9 := below_next' hb8 hb9
      have hgt := Nat.ne_of_lt hX8.lt
      obtain ⟨gt, hgte⟩ : ∃ x, w8.heap.size = x := ⟨_, rfl⟩
      rw [hgte] at hT9 hgt ⊢
      clear hgte hbs hcv hX8 hB8 hR8 hb8 hl9 hX hB hR hbk hcell hyx hxl
      have hn' : c'.n = 2 * (f : Int) + 1 := by rw [hL.eq]
      have hh := chear_any w9 g c' hX9 (hL.ok hqt) ⟨by rw [hn']; omega, by rw [hn']; omega⟩ (1 + (p : Int)) (lieV x)
      have hH' : hearC c' (1 + (p : Int)) (lieV x) = (c2, rp0, false) := by rw [Int.add_comm]; exact hH
      rw [hH'] at hh
      clear hH' hH
      obtain ⟨tl, htl⟩ : ∃ t, lieV x = t := ⟨_, rfl⟩
      simp only [htl] at hh hT9 hls hL2
      clear hl1
      clear htl
      repeat (first
        | ((with_reducible refine wpl_loadS gt _ tl.c.toArray Tryd.underlying38 rfl iTold hT9 hls ?_ ?_ ?_); (focus rfl); (focus rfl); simp only [Act.put, List.setIfInBounds_toArray, List.set_cons_zero, List.set_cons_succ])
        | (go_at_call 12; refine Hid.out ?_)
        | go_values | go_skip | go_guarded | go_step | go_upon | go_back)
      refine Lib.hid ?_
      refine hh.mono ?_
      rintro e w10 ⟨rfl, hX10, hg10⟩
      simp only []
      have hB10 := hB9.grown hg10 (by intro e; injection e with e; exact hgb1 e.symm)
      have hR10 := hR9.grown hg10 (by intro e; injection e with e; exact hner e.symm)
      have hT10 := hT9.grown hg10 (by intro e; injection e with e; exact hgt e.symm)
      have hb10 := hb9.trans (below_of_grownBy hg10 (fun q hq => by cases hq; exact Nat.le_of_eq HG.out) hb9.size)
      clear hh hg10 hX9 hB9 hR9 hT9 hb9
      repeat (first
        | ((with_reducible refine wpl_store_fresh rp0.c.toArray iRp ?_ hrp0 hrp1 ?_ ?_ ?_); (focus kernel_rfl); (focus rfl); (focus rfl); intro w11 hP11 hl11 hb11; simp only [Act.put]; refine Hid.out ?_)
        | go_values | go_skip | go_guarded | go_step | go_upon | go_back)
      refine Lib.hid ?_
      have hX11 := hX10.below hb11 hX10.lt
      have hB11 := hB10.below hb11 hB10.lt
      have hR11 := hR10.below hb11 hR10.lt
      have hT11 := hT10.below hb11 hT10.lt
      have hb11 := below_next' hb10 hb11
      obtain ⟨gp, hgpe⟩ : ∃ x, w10.heap.size = x := ⟨_, rfl⟩
      rw [hgpe] at hP11 ⊢
      clear hgpe hl11 hX10 hB10 hR10 hT10 hb10
      have hne := fun x => eq_rp 9998 rp0 rp0 x
      simp only [decide_true] at hne
      have HNE := Lib.hid hne
      clear hne
      have hcb := bools_at hB11 (i := p + 1) (by rw [hL.blen]; omega)
      rw [Nat.add_comm p 1] at hcb
      have hfb := hB11.frozen (1 + p)
      have haf := (hL.truths hqt).2
      have ha0 : (0 : Int) ≤ (a : Int) := by omega
      have ha5 : (a : Int) ≤ 5 := by omega
      have hB12 := hB11.set_ (1 + p) (.bool true)
      rw [bools_set, show b.set (1 + p) true = b.set (p + 1) true by rw [Nat.add_comm]] at hB12
      have hX12 := hX11.far (p := ⟨gb, 1 + p, none⟩) hgb1 (.bool true)
      have hR12 := hR11.far (p := ⟨gb, 1 + p, none⟩) hgb2 (.bool true)
      have hb12 := hb11.grown (grownBy_set w11 gb (1 + p) (.bool true)) hb11.size (fun q hq => by cases hq; have := HG.out; omega)
      have heq := fun x => eq_told 9997 tl rt x
      obtain ⟨bq, hbq⟩ : ∃ q, b.getD (1 + p) false = q := ⟨_, rfl⟩
      rw [Nat.add_comm p 1, hbq, Nat.add_comm 1 p] at hL2
      rw [hbq] at hcb
      obtain ⟨eq', hee⟩ : ∃ q, decide (tl = rt) = q := ⟨_, rfl⟩
      simp only [hee] at heq
      have HEQ := Lib.hid heq
      have HEE := Lib.hid hee
      have HL2 := Lib.hid hL2
      clear heq hee hL2 hbq hL hn'
      go_upto_region 20 with (fail)
      cases bq
      · cases eq'
        · have hno : ¬ tl = rt := of_decide_eq_false HEE.out
          have hL3 := HL2.out
          rw [if_neg (fun h => hno h.2)] at hL3
          repeat (first
            | ((with_reducible refine wpl_loadS gp _ rp0.c.toArray Tryd.underlying36 rfl iRp hP11 hrp0 ?_ ?_ ?_); (focus rfl); (focus rfl); simp only [Act.put, List.setIfInBounds_toArray, List.set_cons_zero, List.set_cons_succ])
            | ((with_reducible refine wpl_buildW (ps := []) build_rp0 ?_ ?_ ?_); (focus rfl); (focus rfl); simp only [Act.put, List.setIfInBounds_toArray, List.set_cons_zero, List.set_cons_succ])
            | ((with_reducible refine wpl_neqS gRp (HNE.out _) ?_ ?_ ?_ ?_); (focus rfl); (focus rfl); (focus rfl); simp only [Act.put, List.setIfInBounds_toArray, List.set_cons_zero, List.set_cons_succ])
            | ((with_reducible refine wpl_loadS gt _ tl.c.toArray Tryd.underlying38 rfl iTold hT11 hls ?_ ?_ ?_); (focus rfl); (focus rfl); simp only [Act.put, List.setIfInBounds_toArray, List.set_cons_zero, List.set_cons_succ])
            | ((with_reducible refine wpl_loadS gr _ rt.c.toArray Tryd.underlying38 rfl iTold hR11 hrts ?_ ?_ ?_); (focus rfl); (focus rfl); simp only [Act.put, List.setIfInBounds_toArray, List.set_cons_zero, List.set_cons_succ])
            | ((with_reducible refine wpl_eqS gTold (HEQ.out _) ?_ ?_ ?_ ?_); (focus rfl); (focus rfl); (focus rfl); simp only [Act.put, List.setIfInBounds_toArray, List.set_cons_zero, List.set_cons_succ])
            | go_values | go_skip | go_guarded | go_step | go_upon | go_back)
          exact ⟨⟨k + 1, a, c2, b.set (p + 1) true, by omega, congrArg (Value.int .i64) (by omega), rfl, hL3, hX12, hB12, hR12, hb12⟩, by simp only [intOf]; omega⟩
        · have hye : tl = rt := of_decide_eq_true HEE.out
          have hL3 := HL2.out
          rw [if_pos ⟨rfl, hye⟩] at hL3
          repeat (first
            | ((with_reducible refine wpl_loadS gp _ rp0.c.toArray Tryd.underlying36 rfl iRp hP11 hrp0 ?_ ?_ ?_); (focus rfl); (focus rfl); simp only [Act.put, List.setIfInBounds_toArray, List.set_cons_zero, List.set_cons_succ])
            | ((with_reducible refine wpl_buildW (ps := []) build_rp0 ?_ ?_ ?_); (focus rfl); (focus rfl); simp only [Act.put, List.setIfInBounds_toArray, List.set_cons_zero, List.set_cons_succ])
            | ((with_reducible refine wpl_neqS gRp (HNE.out _) ?_ ?_ ?_ ?_); (focus rfl); (focus rfl); (focus rfl); simp only [Act.put, List.setIfInBounds_toArray, List.set_cons_zero, List.set_cons_succ])
            | ((with_reducible refine wpl_loadS gt _ tl.c.toArray Tryd.underlying38 rfl iTold hT11 hls ?_ ?_ ?_); (focus rfl); (focus rfl); simp only [Act.put, List.setIfInBounds_toArray, List.set_cons_zero, List.set_cons_succ])
            | ((with_reducible refine wpl_loadS gr _ rt.c.toArray Tryd.underlying38 rfl iTold hR11 hrts ?_ ?_ ?_); (focus rfl); (focus rfl); simp only [Act.put, List.setIfInBounds_toArray, List.set_cons_zero, List.set_cons_succ])
            | ((with_reducible refine wpl_eqS gTold (HEQ.out _) ?_ ?_ ?_ ?_); (focus rfl); (focus rfl); (focus rfl); simp only [Act.put, List.setIfInBounds_toArray, List.set_cons_zero, List.set_cons_succ])
            | go_values | go_skip | go_guarded | go_step | go_upon | go_back)
          exact ⟨⟨k + 1, a + 1, c2, b.set (p + 1) true, by omega, congrArg (Value.int .i64) (by omega), congrArg (Value.int .i64) (by omega), hL3, hX12, hB12, hR12, hb12⟩, by simp only [intOf]; omega⟩
      · have hL3 := HL2.out
        rw [if_neg (fun h => by cases h.1)] at hL3
        repeat (first
          | ((with_reducible refine wpl_loadS gp _ rp0.c.toArray Tryd.underlying36 rfl iRp hP11 hrp0 ?_ ?_ ?_); (focus rfl); (focus rfl); simp only [Act.put, List.setIfInBounds_toArray, List.set_cons_zero, List.set_cons_succ])
          | ((with_reducible refine wpl_buildW (ps := []) build_rp0 ?_ ?_ ?_); (focus rfl); (focus rfl); simp only [Act.put, List.setIfInBounds_toArray, List.set_cons_zero, List.set_cons_succ])
          | ((with_reducible refine wpl_neqS gRp (HNE.out _) ?_ ?_ ?_ ?_); (focus rfl); (focus rfl); (focus rfl); simp only [Act.put, List.setIfInBounds_toArray, List.set_cons_zero, List.set_cons_succ])
          | go_values | go_skip | go_guarded | go_step | go_upon | go_back)
        exact ⟨⟨k + 1, a, c2, b.set (p + 1) true, by omega, congrArg (Value.int .i64) (by omega), rfl, hL3, hX12, hB12, hR12, hb12⟩, by simp only [intOf]; omega⟩
    · obtain rfl : k = m := by omega
      have g1 : ¬ (k : Int) < (k : Int) := by omega
      obtain ⟨hT0, haf⟩ := hL.truths hqt
      clear hB
      go_wp2_with fail
      go_loopw [14, 21] (fun ag j wr' => ∃ (s a' pj : Nat) (c2 : ClV), s ≤ f + 1 ∧ pj = f + s ∧ a' ≤ f + s ∧ j = .int .i64 ((pj : Int) + 1) ∧ ag = .int .i64 (a' : Int) ∧ Truths f rt c2 a' s ∧ Blk wr' g 73 c2.c.toArray ∧ Blk wr' gr 38 rt.c.toArray ∧ Below w1.heap.size w1 wr') (fun _ j _ => 20 - (intOf j).toNat)
      case atStart => exact ⟨0, a, f, c', by omega, by omega, by omega, rfl, rfl, hT0, hX, hR, hbk⟩
      case round =>
        clear hT0 hX hR hbk hL haf
        obtain ⟨s, a', pj, c2, hs1, hpj, has, rfl, rfl, hT, hX, hR, hbk⟩ := hrel
        have HPJ := Lib.hid hpj
        have hpb : pj ≤ 11 := by omega
        have hab : a' ≤ 11 := by omega
        have hp0 : (0 : Int) ≤ (pj : Int) := by omega
        have hp11 : (pj : Int) ≤ 11 := by omega
        have ha0 : (0 : Int) ≤ (a' : Int) := by omega
        have ha11 : (a' : Int) ≤ 11 := by omega
        by_cases hs : s ≤ f
        · have g2 : (pj : Int) + 1 ≤ 2 * (f : Int) + 1 := by omega
          obtain ⟨c3, r, hH, hr1, hr2, hT3⟩ := truth_step hT hf5 hs hrc hrm
          rw [← hpj] at hH
          have hh := chear_any wr g c2 hX hT.ok ⟨by rw [hT.n_]; omega, by rw [hT.n_]; omega⟩ ((pj : Int) + 1) rt
          rw [hH] at hh
          obtain ⟨d, hd⟩ : ∃ d, decide (a' + 1 = f + 1) = d := ⟨_, rfl⟩
          rw [hd] at hh
          have HD := Lib.hid hd
          have HR1 := Lib.hid hr1
          have hrs : r.c.toArray.size = 2 := rfl
          have hro := rp_ones r
          clear hH hd hpj hr1 hr2
          repeat (first
            | ((with_reducible refine wpl_loadS gr _ rt.c.toArray Tryd.underlying38 rfl iTold hR hrts ?_ ?_ ?_); (focus rfl); (focus rfl); simp only [Act.put, List.setIfInBounds_toArray, List.set_cons_zero, List.set_cons_succ])
            | (go_at_call 12; refine Hid.out ?_)
            | go_values | go_skip | go_guarded | go_step | go_upon | go_back)
          refine Lib.hid ?_
          refine hh.mono ?_
          rintro e w10 ⟨rfl, hX10, hg10⟩
          simp only []
          have hR10 := hR.grown hg10 (by intro e; injection e with e; exact hner e.symm)
          have hb10 := hbk.trans (below_of_grownBy hg10 (fun q hq => by cases hq; exact Nat.le_of_eq HG.out) hbk.size)
          clear hh hg10 hX hR hbk
          repeat (first
            | ((with_reducible refine wpl_store_fresh r.c.toArray iRp ?_ hrs hro ?_ ?_ ?_); (focus kernel_rfl); (focus rfl); (focus rfl); intro w11 hP11 hl11 hb11; simp only [Act.put]; refine Hid.out ?_)
            | go_values | go_skip | go_guarded | go_step | go_upon | go_back)
          refine Lib.hid ?_
          have hX11 := hX10.below hb11 hX10.lt
          have hR11 := hR10.below hb11 hR10.lt
          have hb11 := below_next' hb10 hb11
          obtain ⟨gp, hgpe⟩ : ∃ x, w10.heap.size = x := ⟨_, rfl⟩
          rw [hgpe] at hP11 ⊢
          clear hgpe hl11 hX10 hR10 hb10
          have hlr : rt.rp.c.length = 2 := rfl
          have hcr : (rt.c.drop 2).take 2 = rt.rp.c := rfl
          cases d
          · have hne : ¬ a' + 1 = f + 1 := of_decide_eq_false HD.out
            have hq : ((a' : Int) + 1 == (f : Int) + 1) = false := beq_eq_false_iff_ne.2 (by omega)
            have hq' : ¬ (a' : Int) = (f : Int) := by omega
            repeat (first
              | go_values | go_skip | go_guarded | go_step | go_upon | go_back)
            exact ⟨⟨s + 1, a' + 1, pj + 1, c3, by omega, by have := HPJ.out; omega, by omega, congrArg (Value.int .i64) (by omega), congrArg (Value.int .i64) (by omega), hT3, hX11, hR11, hb11⟩, by simp only [intOf]; omega⟩
          · have hye : a' + 1 = f + 1 := of_decide_eq_true HD.out
            have hrr := HR1.out hye
            subst hrr
            have hneq := fun x => eq_rp 9998 rt.rp rt.rp x
            simp only [decide_true] at hneq
            have HNE := Lib.hid hneq
            have hq : ((a' : Int) + 1 == (f : Int) + 1) = true := beq_iff_eq.2 (by omega)
            clear hneq hye
            repeat (first
              | ((with_reducible refine wpl_loadS gp _ rt.rp.c.toArray Tryd.underlying36 rfl iRp hP11 hrs ?_ ?_ ?_); (focus rfl); (focus rfl); simp only [Act.put, List.setIfInBounds_toArray, List.set_cons_zero, List.set_cons_succ])
              | ((with_reducible refine wpl_loadM gr 2 rt.c rt.rp.c Tryd.underlying36 rfl iRp hR11 hcr hlr ?_ ?_ ?_); (focus rfl); (focus rfl); simp only [Act.put, List.setIfInBounds_toArray, List.set_cons_zero, List.set_cons_succ])
              | ((with_reducible refine wpl_neqS gRp (HNE.out _) ?_ ?_ ?_ ?_); (focus rfl); (focus rfl); (focus rfl); simp only [Act.put, List.setIfInBounds_toArray, List.set_cons_zero, List.set_cons_succ])
              | go_values | go_skip | go_guarded | go_step | go_upon | go_back)
            exact ⟨⟨s + 1, a' + 1, pj + 1, c3, by omega, by have := HPJ.out; omega, by omega, congrArg (Value.int .i64) (by omega), congrArg (Value.int .i64) (by omega), hT3, hX11, hR11, hb11⟩, by simp only [intOf]; omega⟩
        · have g2 : ¬ (pj : Int) + 1 ≤ 2 * (f : Int) + 1 := by omega
          have hpe := hT.many (by have := hT.le; omega)
          have hpp := cpend_any wr g c2 hX hT.ok
          rw [hpe] at hpp
          have hqs2 : c2.q.c.toArray.size = 40 := by rw [List.size_toArray, rqc_length _ hT.ok.tag]
          have hq2 : c2.q.c.toArray.all (·.oneCell') = true := by simpa using rqc_one c2.q
          repeat (first
            | (go_at_call 16; refine Hid.out ?_)
            | go_values | go_skip | go_guarded | go_step | go_upon | go_back)
          refine Lib.hid ?_
          refine hpp.mono ?_
          rintro e w10 ⟨rfl, hb10⟩
          simp only []
          have hb10 := below_next' hbk hb10
          repeat (first
            | ((with_reducible refine wpl_store_fresh c2.q.c.toArray i44 ?_ hqs2 hq2 ?_ ?_ ?_); (focus kernel_rfl); (focus rfl); (focus rfl); intro w11 hP11 hl11 hb11; simp only [Act.put]; refine Hid.out ?_)
            | go_values | go_skip | go_guarded | go_step | go_upon | go_back)
          refine Lib.hid ?_
          have hb11 := below_next' hb10 hb11
          repeat (first
            | (go_at_call 8; refine Hid.out ?_)
            | go_values | go_skip | go_guarded | go_step | go_upon | go_back)
          refine Lib.hid ?_
          refine (HW.out w11 hb11).mono ?_
          rintro e w12 ⟨rfl, hb12⟩
          simp only []
          go_wp2_with fail
          go_ret
          exact ⟨rfl, below_next' hb11 hb12⟩
theorem clientLies_walk (W : World) (hT : H.Tab W H.tblL) (nn : UInt8) (A : Option Addr) (m c : Nat) (lies : List UInt8) (_ : lies.length = m) (hr : RB W A m lies) (_ : m ≤ c) (_ : m ≤ 140737488351232) (_ : ∀ ad, A = some ad → ad.block < W.heap.size) (truth : UInt8) :
    Calls Tryd.prog 6 #[.int .u8 (nn.toNat : Int), .slice A m c, .int .u8 (truth.toNat : Int)] W fun e w' => e = .returned (.bool true) ∧ Below W.heap.size W w' :=
  clientLies_any 64 rfl W nn A m c lies hr truth H.tblL rfl hT
end Go.Proofs.YtbbcofpdfkhljaaDoor
