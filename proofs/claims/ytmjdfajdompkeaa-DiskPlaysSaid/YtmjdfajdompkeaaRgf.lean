/- The document's disk: Read. -/
import Derived.Test.YtmjdfajdompkeaaRge
namespace Go.Proofs.Ytmjdfajdompkeaa
open Go.RowKit Go.Rat
theorem sureL_is (l : List RW) (a : Int) : sureL l a = secW (lastV l a) := by
  rw [sureL, lastV]
  cases lastL l a <;> rfl
theorem nowRL_is (r : RS) (a : Int) : nowRL r a = secW (if (lastL r.soft a).isSome = true then lastV r.soft a else lastV r.sure a) := by
  rw [nowRL, lastV]
  cases lastL r.soft a with
  | some x => rfl
  | none => exact sureL_is _ _
theorem lastV_ok {l : List RW} (h : ∀ x ∈ l, RWok x) (a : Int) : (lastV l a).b.length = 128 := by
  rw [lastV]
  cases hl : lastL l a with
  | some x => exact (h x (lastL_mem hl).1).2
  | none => exact zs_length
theorem rwC_all (x : RW) : (rwC x).toArray.all (·.oneCell') = true := by
  rw [List.all_toArray, List.all_eq_true]
  exact rwC_one _
set_option maxRecDepth 20000 in
set_option maxHeartbeats 4000000 in
theorem rread_any (w : World) (base : Nat) (l : RL) (r : RS) (h : RefAt w base l r) (a : Int) :
    Calls Try.prog 30 #[.pointer (some ⟨l.g, 0, none⟩), .int .i64 a] w fun e w' => e = .returned (.tuple #[.agg (bvs (readRB r a)).toArray, .int .i64 (readRE r a)]) ∧ Below w.heap.size w w' := by
  have hZ := Blk.new w 28 (bvs zs).toArray
  have hb1 := below_alloc w (.cells (bvs zs).toArray 28)
  obtain ⟨z, hz⟩ : ∃ z : Array Value, (bvs zs).toArray = z := ⟨_, rfl⟩
  have hzc : Try.zeroCells28 = z := by rw [← hz]; exact zc128
  have hzs : z.size = 128 := by rw [← hz]; exact zsA_size
  have hz1 : z.all (·.oneCell') = true := by rw [← hz]; exact bvs_all _
  rw [hz] at hZ hb1
  have HZ := Lib.hid hz
  clear hz
  have h1 := h.below hb1
  have hzi : (Try.prog.info? 28).map (·.size) = some z.size := by rw [hzs]; exact i128
  go_enter Try.func30, Try.ntmps30
  go_upto_region 1 with (fail)
  generalize w.alloc (.cells z 28) = w1 at *
  have c0 := h1.blk.cell 0
  have c1 := h1.blk.cell 1
  have c2 := h1.blk.cell 2
  simp only [List.getElem?_toArray, List.getElem?_cons_zero, List.getElem?_cons_succ] at c0 c1 c2
  have hbad : ∀ E : Int, readyE r.off a = E → E ≠ 0 → Ending.returned (.tuple #[.agg z, .int .i64 E]) = Ending.returned (.tuple #[.agg (bvs (readRB r a)).toArray, .int .i64 (readRE r a)]) := fun E hE hne => by
    rw [readRB, readRE, hE, if_neg (fun q => hne q.1), if_neg hne, HZ.out]
  have HBAD := Lib.hid hbad
  clear hbad
  cases hoff : r.off
  · rw [hoff] at c2 HBAD
    by_cases hr : 0 ≤ a ∧ a < 32768
    · have hx1 := lastV_ok h.ok.soft a
      have hx2 := lastV_ok h.ok.sure a
      have hnow := nowRL_is r a
      have hl1 := fun w' (hh : RWs w' base l.A2 l.c2 r.soft) => rlast_any w' base l.c2 l.A2 r.soft hh h.ok.soft _ rfl a
      have hl2 := fun w' (hh : RWs w' base l.A1 l.c1 r.sure) => rlast_any w' base l.c1 l.A1 r.sure hh h.ok.sure _ rfl a
      generalize lastV r.soft a = x1 at *
      generalize lastV r.sure a = x2 at *
      generalize (lastL r.sure a).isSome = v2 at *
      have HL1 := Lib.hid hl1
      have HL2 := Lib.hid hl2
      have hs1 : (rwC x1).toArray.size = 130 := by simpa using rwC_length hx1
      have hs2 : (rwC x2).toArray.size = 130 := by simpa using rwC_length hx2
      have ho1 := rwC_all x1
      have ho2 := rwC_all x2
      have hrR : readyE r.off a = 0 := by rw [hoff]; exact readyE_ok hr
      have hrE : readRE r a = if (nowRL r a).lost = true then 9 else 0 := by rw [readRE, if_pos hrR]
      have hrB : readRB r a = if (nowRL r a).lost = false then (nowRL r a).b else zs := by
        rw [readRB]
        by_cases hl : (nowRL r a).lost = false
        · rw [if_pos ⟨hrR, hl⟩, if_pos hl]
        · rw [if_neg (fun h => hl h.2), if_neg hl]
      have HRE := Lib.hid hrE
      have HRB := Lib.hid hrB
      have HNOW := Lib.hid hnow
      obtain ⟨v, hv⟩ : ∃ v, (lastL r.soft a).isSome = v := ⟨_, rfl⟩
      have HV := Lib.hid hv
      have g1 : ¬ a < 0 := by omega
      have g2 : ¬ 32768 ≤ a := by omega
      clear hl1 hl2 hrR hrE hrB hnow hv HBAD hoff
      obtain ⟨C1, hC1⟩ : ∃ C, (rwC x1).toArray = C := ⟨_, rfl⟩
      obtain ⟨C2, hC2⟩ : ∃ C, (rwC x2).toArray = C := ⟨_, rfl⟩
      rw [hC1] at hs1 ho1 HL1
      rw [hC2] at hs2 ho2 HL2
      have HC1 := Lib.hid hC1
      have HC2 := Lib.hid hC2
      clear hC1 hC2
      obtain ⟨N1, hN1⟩ : ∃ N, r.soft.length = N := ⟨_, rfl⟩
      obtain ⟨N2, hN2⟩ : ∃ N, r.sure.length = N := ⟨_, rfl⟩
      rw [hN1] at c1 HL1
      rw [hN2] at c0 HL2
      have HN2 := Lib.hid hN2
      clear hN1 hN2
      repeat (first
        | (go_at_call 59; refine (HL1.out _ h1.row2).mono ?_; rw [HV.out]; rintro e w2 ⟨rfl, hb2⟩; simp only [])
        | ((with_reducible refine wpl_store_fresh C1 r130 ?_ hs1 ho1 ?_ ?_ ?_); (focus kernel_rfl); (focus rfl); (focus rfl); intro w3 hW3 hl3 hb3; simp only [Act.put]; refine Hid.out ?_)
        | go_values | go_skip | go_guarded | go_step | go_upon | go_back)
      refine Lib.hid ?_
      have hZ3 := (hZ.below hb2 hZ.lt).below hb3 (Nat.lt_of_lt_of_le hZ.lt hb2.size)
      have hbb3 := below_next' (below_next' hb1 hb2) hb3
      have h3 := (h1.below hb2).below hb3
      have hlt6 : w.heap.size < w2.heap.size := by have := hZ.lt; have := hb2.size; omega
      have c03 := h3.blk.cell 0
      simp only [List.getElem?_toArray, List.getElem?_cons_zero] at c03
      rw [HN2.out] at c03
      clear hZ hb1 h1 hb2 hb3 c0 c1 c2 HL1 hl3
      obtain ⟨G6, hG6⟩ : ∃ x, w2.heap.size = x := ⟨_, rfl⟩
      rw [hG6] at hW3 hlt6 ⊢
      clear hG6
      obtain ⟨X, hX⟩ : ∃ X, (if v = true then x1 else x2) = X := ⟨_, rfl⟩
      have hnowX : nowRL r a = secW X := by rw [HNOW.out, HV.out, hX]
      have hXl : X.b.length = 128 := by
        rw [← hX]
        cases v
        · exact hx2
        · exact hx1
      have HNX := Lib.hid hnowX
      have HX := Lib.hid hX
      clear hX hnowX HNOW
      go_upto_if 30 with (fail)
      go_cut [] (fun wx => Blk wx G6 114 (rwC X).toArray ∧ Blk wx w.heap.size 28 z ∧ Below w.heap.size w wx)
      case first =>
        cases v
        · repeat (first
            | (go_at_call 59; refine (HL2.out _ h3.row1).mono ?_; rintro e w4 ⟨rfl, hb4⟩; simp only []; have hW4 := hW3.below hb4 hW3.lt; have hZ4 := hZ3.below hb4 hZ3.lt; have hbb4 := below_next' hbb3 hb4; clear hW3 hZ3)
            | ((with_reducible refine wpl_store G6 _ _ C2 r130 hW4 hs1 hs2 ho2 ?_ ?_ ?_); (focus rfl); (focus rfl); simp only [Act.put])
            | go_values | go_skip | go_guarded | go_step | go_upon | go_back)
          go_meet
          have hx : x2 = X := by have := HX.out; simpa using this
          exact ⟨by rw [← hx, HC2.out]; exact hW4.setRow _, hZ4.grown (grownBy_setRow _ _ _) (by intro e; injection e with e; omega), hbb4.grown (grownBy_setRow _ _ _) hbb4.size (fun q hq => by cases hq; omega)⟩
        · go_wp2_with fail
          go_meet
          have hx : x1 = X := by have := HX.out; simpa using this
          exact ⟨by rw [← hx, HC1.out]; exact hW3, hZ3, hbb3⟩
      case rest =>
        obtain ⟨hW5, hZ5, hb5⟩ := hcut
        clear hZ3 hbb3 h3 hW3 c03 HL2 HC1 HC2 ho1 ho2 hs1 hs2
        have hbl : (bvs X.b).length = 128 := by rw [bvs_length, hXl]
        have hbs : (bvs X.b).toArray.size = 128 := by simpa using hbl
        have hXc : (rwC X)[129]? = some (.bool X.lost) := by
          rw [rwC, List.getElem?_cons_succ, List.getElem?_append_right (by omega), hbl]; rfl
        have hmid : ((rwC X).drop 1).take 128 = bvs X.b := by
          rw [rwC, List.drop_succ_cons, List.drop_zero, ← hbl, List.take_left]
        have hfin : Ending.returned (.tuple #[.agg (if X.lost = true then z else (bvs X.b).toArray), .int .i64 (if X.lost = true then 9 else 0)]) = Ending.returned (.tuple #[.agg (bvs (readRB r a)).toArray, .int .i64 (readRE r a)]) := by
          rw [HRE.out, HRB.out, HNX.out, secW]
          cases hl : X.lost
          · rfl
          · simp [HZ.out]
        have HFIN := Lib.hid hfin
        have c129 := hW5.cell 129
        rw [List.getElem?_toArray, hXc] at c129
        have HMID := Lib.hid hmid
        clear hXc hfin hmid HNX HRE HRB HX
        generalize hL : rwC X = L at *
        clear hL
        cases hl : X.lost
        · rw [hl] at HFIN c129
          repeat (first
            | ((with_reducible refine wpl_load_mid G6 1 L (bvs X.b) Try.underlying28 rfl i128 hW5 HMID.out hbl ?_ ?_); (focus rfl); simp only [Act.put, List.setIfInBounds_toArray, List.set_cons_zero, List.set_cons_succ])
            | ((with_reducible refine wpl_store w.heap.size _ _ (bvs X.b).toArray i128 hZ5 hzs hbs (bvs_all _) ?_ ?_ ?_); (focus rfl); (focus rfl))
            | go_values | go_skip | go_guarded | go_step | go_upon | go_back)
          refine bodyPost_ret (results_cell_tmp rfl _ _ w.heap.size _ _ (0, 0) _ _ rfl rfl (hZ5.setRow _) Try.underlying28 rfl (by rw [hbs]; exact i128)) rfl ?_
          exact ⟨HFIN.out, hb5.grown (grownBy_setRow _ _ _) hb5.size (fun p hp => by cases hp; exact Nat.le_refl _)⟩
        · rw [hl] at HFIN c129
          repeat (first
            | ((with_reducible refine wpl_store w.heap.size _ _ z i128 hZ5 hzs hzs hz1 ?_ ?_ ?_); (focus rfl); (focus rfl))
            | go_values | go_skip | go_guarded | go_step | go_upon | go_back)
          refine bodyPost_ret (results_cell_tmp rfl _ _ w.heap.size _ _ (0, 0) _ _ rfl rfl (hZ5.setRow _) Try.underlying28 rfl hzi) rfl ?_
          exact ⟨HFIN.out, hb5.grown (grownBy_setRow _ _ _) hb5.size (fun p hp => by cases hp; exact Nat.le_refl _)⟩
    · have hrE : readyE false a = 1 := readyE_bad hr
      have hfin := HBAD.out 1 hrE (by decide)
      have HFIN := Lib.hid hfin
      clear hfin HBAD
      by_cases hlt : a < 0
      · repeat (first
          | ((with_reducible refine wpl_store w.heap.size _ _ z i128 hZ hzs hzs hz1 ?_ ?_ ?_); (focus rfl); (focus rfl))
          | go_values | go_skip | go_guarded | go_step | go_upon | go_back)
        refine bodyPost_ret (results_cell_tmp rfl _ _ w.heap.size _ _ (0, 0) _ _ rfl rfl (hZ.setRow _) Try.underlying28 rfl hzi) rfl ?_
        exact ⟨HFIN.out, hb1.grown (grownBy_setRow _ _ _) hb1.size (fun p hp => by cases hp; exact Nat.le_refl _)⟩
      · have g2 : 32768 ≤ a := by omega
        repeat (first
          | ((with_reducible refine wpl_store w.heap.size _ _ z i128 hZ hzs hzs hz1 ?_ ?_ ?_); (focus rfl); (focus rfl))
          | go_values | go_skip | go_guarded | go_step | go_upon | go_back)
        refine bodyPost_ret (results_cell_tmp rfl _ _ w.heap.size _ _ (0, 0) _ _ rfl rfl (hZ.setRow _) Try.underlying28 rfl hzi) rfl ?_
        exact ⟨HFIN.out, hb1.grown (grownBy_setRow _ _ _) hb1.size (fun p hp => by cases hp; exact Nat.le_refl _)⟩
  · rw [hoff] at c2
    have hfin := HBAD.out 8 (by rw [hoff]; rfl) (by decide)
    have HFIN := Lib.hid hfin
    clear hfin HBAD
    repeat (first
      | ((with_reducible refine wpl_store w.heap.size _ _ z i128 hZ hzs hzs hz1 ?_ ?_ ?_); (focus rfl); (focus rfl))
      | go_values | go_skip | go_guarded | go_step | go_upon | go_back)
    refine bodyPost_ret (results_cell_tmp rfl _ _ w.heap.size _ _ (0, 0) _ _ rfl rfl (hZ.setRow _) Try.underlying28 rfl hzi) rfl ?_
    exact ⟨HFIN.out, hb1.grown (grownBy_setRow _ _ _) hb1.size (fun p hp => by cases hp; exact Nat.le_refl _)⟩
end Go.Proofs.Ytmjdfajdompkeaa
