/- The document's disk: Read. -/
import Derived.Test.YtmjdfajdompkeaaKq5
namespace Go.Proofs.Ytmjdfajdompkeaa
open Go.RowKit Go.Rat
theorem sureL_is (l : List RW) (a : Int) : sureL l a = secW (lastV l a) := by
  rw [sureL, lastV]
  cases lastL l a <;> rfl
theorem nowRL_is (r : RS) (a : Int) : nowRL r a = secW (if (lastL r.soft a).isSome = true then lastV r.soft a else lastV r.sure a) := by
  rw [nowRL, lastV]
  cases lastL r.soft a with
  | some x => rfl
  | none => exact sureL_is _ _
theorem lastV_ok {l : List RW} (h : ∀ x ∈ l, RWok x) (a : Int) : (lastV l a).b.length = 128 := by
  rw [lastV]
  cases hl : lastL l a with
  | some x => exact (h x (lastL_mem hl).1).2
  | none => exact zs_length
theorem rwC_all (x : RW) : (rwC x).toArray.all (·.oneCell') = true := by
  rw [List.all_toArray, List.all_eq_true]
  exact rwC_one _
set_option maxRecDepth 20000 in
set_option maxHeartbeats 4000000 in
theorem rread_any (w : World) (base : Nat) (l : RL) (r : RS) (h : RefAt w base l r) (a : Int) :
    Calls Try.prog 30 #[.pointer (some ⟨l.g, 0, none⟩), .int .i64 a] w fun e w' => e = .returned (.tuple #[.agg (bvs (readRB r a)).toArray, .int .i64 (readRE r a)]) ∧ Below w.heap.size w w' := by
  have hZ := Blk.new w 28 (bvs zs).toArray
  have hb1 := below_alloc w (.cells (bvs zs).toArray 28)
  obtain ⟨z, hz⟩ : ∃ z : Array Value, (bvs zs).toArray = z := ⟨_, rfl⟩
  have hzc : Try.zeroCells28 = z := by rw [← hz]; exact zc128
  have hzs : z.size = 128 := by rw [← hz]; exact zsA_size
  have hz1 : z.all (·.oneCell') = true := by rw [← hz]; exact bvs_all _
  rw [hz] at hZ hb1
  have HZ := Lib.hid hz
  clear hz
  have h1 := h.below hb1
  have hzi : (Try.prog.info? 28).map (·.size) = some z.size := by rw [hzs]; exact i128
  go_enter Try.func30, Try.ntmps30
  go_upto_region 1 with (fail)
  generalize w.alloc (.cells z 28) = w1 at *
  have c0 := h1.blk.cell 0
  have c1 := h1.blk.cell 1
  have c2 := h1.blk.cell 2
  simp only [List.getElem?_toArray, List.getElem?_cons_zero, List.getElem?_cons_succ] at c0 c1 c2
  have hbad : ∀ E : Int, readyE r.off a = E → E ≠ 0 → Ending.returned (.tuple #[.agg z, .int .i64 E]) = Ending.returned (.tuple #[.agg (bvs (readRB r a)).toArray, .int .i64 (readRE r a)]) := fun E hE hne => by
    rw [readRB, readRE, hE, if_neg (fun q => hne q.1), if_neg hne, HZ.out]
  have HBAD := Lib.hid hbad
  clear hbad
  cases hoff : r.off
  · rw [hoff] at c2 HBAD
    by_cases hr : 0 ≤ a ∧ a < 32768
    · have hx1 := lastV_ok h.ok.soft a
      have hx2 := lastV_ok h.ok.sure a
      have hnow := nowRL_is r a
      have hl1 := fun w' (hh : RWs w' base l.A2 l.c2 r.soft) => rlast_any w' base l.c2 l.A2 r.soft hh h.ok.soft _ rfl a
      have hl2 := fun w' (hh : RWs w' base l.A1 l.c1 r.sure) => rlast_any w' base l.c1 l.A1 r.sure hh h.ok.sure _ rfl a
      generalize lastV r.soft a = x1 at *
      generalize lastV r.sure a = x2 at *
      generalize (lastL r.sure a).isSome = v2 at *
      have HL1 := Lib.hid hl1
      have HL2 := Lib.hid hl2
      have hs1 : (rwC x1).toArray.size = 130 := by simpa using rwC_length hx1
      have hs2 : (rwC x2).toArray.size = 130 := by simpa using rwC_length hx2
      have ho1 := rwC_all x1
      have ho2 := rwC_all x2
      have hrR : readyE r.off a = 0 := by rw [hoff]; exact readyE_ok hr
      have hrE : readRE r a = if (nowRL r a).lost = true then 9 else 0 := by rw [readRE, if_pos hrR]
      have hrB : readRB r a = if (nowRL r a).lost = false then (nowRL r a).b else zs := by
        rw [readRB]
        by_cases hl : (nowRL r a).lost = false
        · rw [if_pos ⟨hrR, hl⟩, if_pos hl]
        · rw [if_neg (fun h => hl h.2), if_neg hl]
      have HRE := Lib.hid hrE
      have HRB := Lib.hid hrB
      have HNOW := Lib.hid hnow
      obtain ⟨v, hv⟩ : ∃ v, (lastL r.soft a).isSome = v := ⟨_, rfl⟩
      have HV := Lib.hid hv
      have g1 : ¬ a < 0 := by omega
      have g2 : ¬ 32768 ≤ a := by omega
      clear hl1 hl2 hrR hrE hrB hnow hv HBAD hoff
      obtain ⟨C1, hC1⟩ : ∃ C, (rwC x1).toArray = C := ⟨_, rfl⟩
      obtain ⟨C2, hC2⟩ : ∃ C, (rwC x2).toArray = C := ⟨_, rfl⟩
      rw [hC1] at hs1 ho1 HL1
      rw [hC2] at hs2 ho2 HL2
      have HC1 := Lib.hid hC1
      have HC2 := Lib.hid hC2
      clear hC1 hC2
      obtain ⟨N1, hN1⟩ : ∃ N, r.soft.length = N := ⟨_, rfl⟩
      obtain ⟨N2, hN2⟩ : ∃ N, r.sure.length = N := ⟨_, rfl⟩
      rw [hN1] at c1 HL1
      rw [hN2] at c0 HL2
      have HN2 := Lib.hid hN2
      clear hN1 hN2
      repeat (first
        | (go_at_call 59; refine (HL1.out _ h1.row2).mono ?_; rw [HV.out]; rintro e w2 ⟨rfl, hb2⟩; simp only [])
        | ((with_reducible refine wpl_store_fresh C1 r130 ?_ hs1 ho1 ?_ ?_ ?_); (focus kernel_rfl); (focus rfl); (focus rfl); intro w3 hW3 hl3 hb3; simp only [Act.put]; refine Hid.out ?_)
        | go_values | go_skip | go_guarded | go_step | go_upon | go_back)
      refine Lib.hid ?_
      have hZ3 := (hZ.below hb2 hZ.lt).below hb3 (Nat.lt_of_lt_of_le hZ.lt hb2.size)
      have hbb3 := below_next' (below_next' hb1 hb2) hb3
      have h3 := (h1.below hb2).below hb3
      have hlt6 : w.heap.size < w2.heap.size := by have := hZ.lt; have := hb2.size; omega
      have c03 := h3.blk.cell 0
      simp only [List.getElem?_toArray, List.getElem?_cons_zero] at c03
      rw [HN2.out] at c03
      clear hZ hb1 h1 hb2 hb3 c0 c1 c2 HL1 hl3
      obtain ⟨G6, hG6⟩ : ∃ x, w2.heap.size = x := ⟨_, rfl⟩
      rw [hG6] at hW3 hlt6 ⊢
      clear hG6
      obtain ⟨X, hX⟩ : ∃ X, (if v = true then x1 else x2) = X := ⟨_, rfl⟩
      have hnowX : nowRL r a = secW X := by rw [HNOW.out, HV.out, hX]
      have hXl : X.b.length = 128 := by
        rw [← hX]
        cases v
        · exact hx2
        · exact hx1
      have HNX := Lib.hid hnowX
      have HX := Lib.hid hX
      clear hX hnowX HNOW
      go_upto_if 30 with (fail)
      go_cut [] (fun wx => Blk wx G6 114 (rwC X).toArray ∧ Blk wx w.heap.size 28 z ∧ Below w.heap.size w wx)
      case first =>
        cases v
        · repeat (first
            | (go_at_call 59; refine (HL2.out _ h3.row1).mono ?_; rintro e w4 ⟨rfl, hb4⟩; simp only []; have hW4 := hW3.below hb4 hW3.lt; have hZ4 := hZ3.below hb4 hZ3.lt; have hbb4 := below_next' hbb3 hb4; clear hW3 hZ3)
            | ((with_reducible refine wpl_store G6 _ _ C2 r130 hW4 hs1 hs2 ho2 ?_ ?_ ?_); (focus rfl); (focus rfl); simp only [Act.put])
            | go_values | go_skip | go_guarded | go_step | go_upon | go_back)
          go_meet
          have hx : x2 = X := by have := HX.out; simpa using this
          exact ⟨by rw [← hx, HC2.out]; exact hW4.setRow _, hZ4.grown (grownBy_setRow _ _ _) (by intro e; injection e with e; omega), hbb4.grown (grownBy_setRow _ _ _) hbb4.size (fun q hq => by cases hq; omega)⟩
        · go_wp2_with fail
          go_meet
          have hx : x1 = X := by have := HX.out; simpa using this
          exact ⟨by rw [← hx, HC1.out]; exact hW3, hZ3, hbb3⟩
      case rest =>
        obtain ⟨hW5, hZ5, hb5⟩ := hcut
        clear hZ3 hbb3 h3 hW3 c03 HL2 HC1 HC2 ho1 ho2 hs1 hs2
        have hbl : (bvs X.b).length = 128 := by rw [bvs_length, hXl]
        have hbs : (bvs X.b).toArray.size = 128 := by simpa using hbl
        have hXc : (rwC X)[129]? = some (.bool X.lost) := by
          rw [rwC, List.getElem?_cons_succ, List.getElem?_append_right (by omega), hbl]; rfl
        have hmid : ((rwC X).drop 1).take 128 = bvs X.b := by
          rw [rwC, List.drop_succ_cons, List.drop_zero, ← hbl, List.take_left]
        have hfin : Ending.returned (.tuple #[.agg (if X.lost = true then z else (bvs X.b).toArray), .int .i64 (if X.lost = true then 9 else 0)]) = Ending.returned (.tuple #[.agg (bvs (readRB r a)).toArray, .int .i64 (readRE r a)]) := by
          rw [HRE.out, HRB.out, HNX.out, secW]
          cases hl : X.lost
          · rfl
          · simp [HZ.out]
        have HFIN := Lib.hid hfin
        have c129 := hW5.cell 129
        rw [List.getElem?_toArray, hXc] at c129
        have HMID := Lib.hid hmid
        clear hXc hfin hmid HNX HRE HRB HX
        generalize hL : rwC X = L at *
        clear hL
        cases hl : X.lost
        · rw [hl] at HFIN c129
          repeat (first
            | ((with_reducible refine wpl_load_mid G6 1 L (bvs X.b) Try.underlying28 rfl i128 hW5 HMID.out hbl ?_ ?_); (focus rfl); simp only [Act.put, List.setIfInBounds_toArray, List.set_cons_zero, List.set_cons_succ])
            | ((with_reducible refine wpl_store w.heap.size _ _ (bvs X.b).toArray i128 hZ5 hzs hbs (bvs_all _) ?_ ?_ ?_); (focus rfl); (focus rfl))
            | go_values | go_skip | go_guarded | go_step | go_upon | go_back)
          refine bodyPost_ret (results_cell_tmp rfl _ _ w.heap.size _ _ (0, 0) _ _ rfl rfl (hZ5.setRow _) Try.underlying28 rfl (by rw [hbs]; exact i128)) rfl ?_
          exact ⟨HFIN.out, hb5.grown (grownBy_setRow _ _ _) hb5.size (fun p hp => by cases hp; exact Nat.le_refl _)⟩
        · rw [hl] at HFIN c129
          repeat (first
            | ((with_reducible refine wpl_store w.heap.size _ _ z i128 hZ5 hzs hzs hz1 ?_ ?_ ?_); (focus rfl); (focus rfl))
            | go_values | go_skip | go_guarded | go_step | go_upon | go_back)
          refine bodyPost_ret (results_cell_tmp rfl _ _ w.heap.size _ _ (0, 0) _ _ rfl rfl (hZ5.setRow _) Try.underlying28 rfl hzi) rfl ?_
          exact ⟨HFIN.out, hb5.grown (grownBy_setRow _ _ _) hb5.size (fun p hp => by cases hp; exact Nat.le_refl _)⟩
    · have hrE : readyE false a = 1 := readyE_bad hr
      have hfin := HBAD.out 1 hrE (by decide)
      have HFIN := Lib.hid hfin
      clear hfin HBAD
      by_cases hlt : a < 0
      · repeat (first
          | ((with_reducible refine wpl_store w.heap.size _ _ z i128 hZ hzs hzs hz1 ?_ ?_ ?_); (focus rfl); (focus rfl))
          | go_values | go_skip | go_guarded | go_step | go_upon | go_back)
        refine bodyPost_ret (results_cell_tmp rfl _ _ w.heap.size _ _ (0, 0) _ _ rfl rfl (hZ.setRow _) Try.underlying28 rfl hzi) rfl ?_
        exact ⟨HFIN.out, hb1.grown (grownBy_setRow _ _ _) hb1.size (fun p hp => by cases hp; exact Nat.le_refl _)⟩
      · have g2 : 32768 ≤ a := by omega
        repeat (first
          | ((with_reducible refine wpl_store w.heap.size _ _ z i128 hZ hzs hzs hz1 ?_ ?_ ?_); (focus rfl); (focus rfl))
          | go_values | go_skip | go_guarded | go_step | go_upon | go_back)
        refine bodyPost_ret (results_cell_tmp rfl _ _ w.heap.size _ _ (0, 0) _ _ rfl rfl (hZ.setRow _) Try.underlying28 rfl hzi) rfl ?_
        exact ⟨HFIN.out, hb1.grown (grownBy_setRow _ _ _) hb1.size (fun p hp => by cases hp; exact Nat.le_refl _)⟩
  · rw [hoff] at c2
    have hfin := HBAD.out 8 (by rw [hoff]; rfl) (by decide)
    have HFIN := Lib.hid hfin
    clear hfin HBAD
    repeat (first
      | ((with_reducible refine wpl_store w.heap.size _ _ z i128 hZ hzs hzs hz1 ?_ ?_ ?_); (focus rfl); (focus rfl))
      | go_values | go_skip | go_guarded | go_step | go_upon | go_back)
    refine bodyPost_ret (results_cell_tmp rfl _ _ w.heap.size _ _ (0, 0) _ _ rfl rfl (hZ.setRow _) Try.underlying28 rfl hzi) rfl ?_
    exact ⟨HFIN.out, hb1.grown (grownBy_setRow _ _ _) hb1.size (fun p hp => by cases hp; exact Nat.le_refl _)⟩
end Go.Proofs.Ytmjdfajdompkeaa
namespace Go.Proofs.Ytmjdfajdompkeaa
open Go.RowKit Go.Rat
def softR (r : RS) (x : RW) : RS := { r with soft := r.soft ++ [x] }
def writeR (r : RS) (a : Int) (b : List UInt8) : RS := if readyE r.off a = 0 then burnR (softR r ⟨a, b, false⟩) else r
def writeRE (r : RS) (a : Int) : Int := if readyE r.off a = 0 then (if r.fuse = 0 then 8 else 0) else readyE r.off a
def syncR (r : RS) : RS := if r.off = true then r else if r.fuse = 0 then burnR r else { burnR r with sure := r.soft.foldl putL r.sure, soft := [] }
def syncRE (r : RS) : Int := if r.off = true then 8 else if r.fuse = 0 then 8 else 0
theorem burnR_soft (r : RS) : (burnR r).soft = r.soft ∧ (burnR r).sure = r.sure := by
  unfold burnR
  split
  · exact ⟨rfl, rfl⟩
  · split <;> exact ⟨rfl, rfl⟩
theorem rburns_g (w : World) (base g : Nat) (l : RL) (r : RS) (h : RefAt w base l r) (hg : l.g = g) :
    Calls Try.prog 60 #[.pointer (some ⟨g, 0, none⟩)] w fun e w' => e = .returned (.bool (decide (r.fuse = 0))) ∧ RefAt w' base l (burnR r) ∧ w.grownBy w' (some l.g) := by
  subst hg
  exact rburns_any w base l r h
theorem rput_g (w : World) (base g : Nat) (l : RL) (r : RS) (h : RefAt w base l r) (hg : l.g = g) (hbase : base ≤ w.heap.size) (x : RW) (hx : RWok x) (L : List Value) (hL : rwC x = L) :
    Calls Try.prog 61 #[.pointer (some ⟨g, 0, none⟩), .agg L.toArray] w fun e w' => ∃ l', e = .returned (.tuple #[]) ∧ l'.g = g ∧ RefAt w' base l' { r with sure := putL r.sure x } ∧ RMoved w w' l l' := by
  subst hg hL
  refine (rdput_any w base l r h hbase x hx).mono ?_
  rintro e w' ⟨l', h1, h2, h3⟩
  exact ⟨l', h1, h3.g, h2, h3⟩
/-- The row of loose writes has grown. -/
theorem RefAt.setSoft {w w' : World} {base : Nat} {l : RL} {r : RS} (h : RefAt w base l r) {x : RW} (hx : RWok x) {A : Option Addr} {c : Nat} (hrow : RWs w' base A c (r.soft ++ [x]))
    (hB : Blk w' l.g 51 #[.slice l.A1 r.sure.length l.c1, .slice A (r.soft ++ [x]).length c, .bool r.off, .int .i64 r.fuse])
    (h1 : RWs w' base l.A1 l.c1 r.sure) (hA : ∀ q, A.map (·.block) = some q → l.A2.map (·.block) = some q ∨ w.heap.size ≤ q) : RefAt w' base { l with A2 := A, c2 := c } (softR r x) :=
  ⟨hB, h1, hrow, h.n1, fun e => by
    rcases hA l.g e with h1 | h1
    · exact h.n2 h1
    · have := h.blk.lt
      omega, fun q hq e => by
    rcases hA q e with h1 | h1
    · exact h.n12 q hq h1
    · have := (h.row1.lt q hq).2
      omega, h.bg, ⟨h.ok.sure, fun y hy => by
    rcases List.mem_append.1 hy with h1 | h1
    · exact h.ok.soft y h1
    · rw [List.mem_singleton.1 h1]; exact hx, h.ok.fuse, h.ok.nod⟩⟩
theorem rmoved_soft {w w' : World} {l : RL} {A : Option Addr} {c : Nat} (hc : Chg l.fp w w') (hA : ∀ q, A.map (·.block) = some q → l.A2.map (·.block) = some q ∨ w.heap.size ≤ q) : RMoved w w' l { l with A2 := A, c2 := c } :=
  ⟨rfl, hc, fun x hx => by
    rcases hx with hx | hx | hx
    · exact .inl (.inl hx)
    · exact .inl (.inr (.inl hx))
    · rcases hA x hx with h1 | h1
      · exact .inl (.inr (.inr h1))
      · exact .inr h1⟩
set_option maxRecDepth 20000 in
set_option maxHeartbeats 4000000 in
theorem rwrite_any (w : World) (base : Nat) (l : RL) (r : RS) (h : RefAt w base l r) (hbase : base ≤ w.heap.size) (a : Int) (b : List UInt8) (hb : b.length = 128) (hlo : r.soft.length < 1000000000) :
    Calls Try.prog 31 #[.pointer (some ⟨l.g, 0, none⟩), .int .i64 a, .agg (bvs b).toArray] w fun e w' => ∃ l', e = .returned (.int .i64 (writeRE r a)) ∧ RefAt w' base l' (writeR r a b) ∧ RMoved w w' l l' := by
  have hX := Blk.new w 28 (bvs b).toArray
  have hb1 := below_alloc w (.cells (bvs b).toArray 28)
  have hbs : (bvs b).toArray.size = 128 := by rw [bvs_size, hb]
  have h1 := h.below hb1
  have hgx : ¬ l.fp w.heap.size := fun hf => by have := (h.fp_lt hf).2; omega
  go_enter Try.func31, Try.ntmps31
  go_upto_region 1 with (fail)
  generalize w.alloc (.cells (bvs b).toArray 28) = w1 at *
  obtain ⟨G, hG⟩ : ∃ G, w.heap.size = G := ⟨_, rfl⟩
  rw [hG] at hX hgx ⊢
  have HG := Lib.hid hG
  clear hG
  obtain ⟨k, hn⟩ : ∃ n, r.soft.length = n := ⟨_, rfl⟩
  have HN := Lib.hid hn
  rw [hn] at hlo
  have c1 := h1.blk.cell 1
  have c2 := h1.blk.cell 2
  simp only [List.getElem?_toArray, List.getElem?_cons_zero, List.getElem?_cons_succ, hn] at c1 c2
  clear hn
  have hbad : ∀ E : Int, readyE r.off a = E → E ≠ 0 → writeRE r a = E ∧ writeR r a b = r := fun E hE hne => by
    rw [writeRE, writeR, hE, if_neg hne, if_neg hne]
    exact ⟨rfl, rfl⟩
  have HBAD := Lib.hid hbad
  clear hbad
  cases hoff : r.off
  · by_cases hra : 0 ≤ a ∧ a < 32768
    · have hr : readyE r.off a = 0 := by rw [hoff]; exact readyE_ok hra
      have hwE : writeRE r a = if r.fuse = 0 then 8 else 0 := by rw [writeRE, if_pos hr]
      have hwR : writeR r a b = burnR (softR r ⟨a, b, false⟩) := by rw [writeR, if_pos hr]
      have HWE := Lib.hid hwE
      have HWR := Lib.hid hwR
      rw [hoff] at c2
      have g1 : ¬ a < 0 := by omega
      have g2 : ¬ 32768 ≤ a := by omega
      have hx : RWok ⟨a, b, false⟩ := ⟨hra, hb⟩
      have hxl := rwC_length hx.2
      clear hr hwE hwR HBAD hoff
      go_wp2_with fail
      have hbw : base ≤ w1.heap.size := Nat.le_trans hbase hb1.size
      have hXd : Blk w1.drew G 28 (bvs b).toArray := hX
      refine wp_region_barb [(0, 0), (1, 0), (2, 0), (3, 0), (4, 1), (5, 0), (6, 0), (7, 0), (8, 2)] 9 [(10, true), (11, true), (12, false)] (fun z => Blk z G 28 (bvs b).toArray) (fun z => z.cell? ⟨l.g, 1, none⟩ = some (.slice l.A2 k l.c2)) _ (by rfl) (by kernel_rfl) (by kernel_rfl) (by kernel_rfl) (by kernel_rfl) (fun _ _ d _ _ h => by cases d <;> exact h) hXd c1 ?_
      simp only [planOpsN, List.getElem?_toArray, List.getElem?_cons_zero, List.getElem?_cons_succ]
      iterate 4 (refine wpC_0 ?_ (by rfl) ?_ ?_; rotate_left; (focus (intro z hz; (try dsimp only at hz); go_simp; rfl)); simp only [Act.put, List.setIfInBounds_toArray, List.set_cons_zero, List.set_cons_succ])
      refine wpC_1 (.slice l.A2 k l.c2) (by rfl) (fun z hz => by go_simp) ?_
      simp only [Act.put, List.setIfInBounds_toArray, List.set_cons_zero, List.set_cons_succ]
      iterate 1 (refine wpC_0 ?_ (by rfl) ?_ ?_; rotate_left; (focus (intro z hz; (try dsimp only at hz); go_simp; rfl)); simp only [Act.put, List.setIfInBounds_toArray, List.set_cons_zero, List.set_cons_succ])
      refine wpC_0 (.agg (bvs b).toArray) (by rfl) (fun z hz => load_row_run rfl G (bvs b).toArray Try.underlying28 rfl i128 hz hbs rfl) ?_
      simp only [Act.put, List.setIfInBounds_toArray, List.set_cons_zero, List.set_cons_succ]
      refine wpC_0 (.agg (rwC ⟨a, b, false⟩).toArray) (by rfl) (fun z _ => build_r a b hb rfl rfl) ?_
      simp only [Act.put, List.setIfInBounds_toArray, List.set_cons_zero, List.set_cons_succ]
      refine wpC_2 (by rfl) (fun K hK => ?_)
      refine wp_runO _ (buildS_r (rwC ⟨a, b, false⟩) hxl rfl) ?_
      simp only [Act.put, List.setIfInBounds_toArray, List.set_cons_zero, List.set_cons_succ]
      obtain ⟨x, hxe⟩ : ∃ x : RW, (⟨a, b, false⟩ : RW) = x := ⟨_, rfl⟩
      rw [hxe] at hx HWR hxl ⊢
      clear hxe
      have h4 : RefAt (w1.drew.alloc (.cells (rwC x).toArray 114)) base l r := (h1.below drew_below).below (below_alloc w1.drew _)
      have hX4 : Blk (w1.drew.alloc (.cells (rwC x).toArray 114)) G 28 (bvs b).toArray := Blk.alloc (w := w1.drew) hXd _
      have hW4 := Blk.new w1.drew 114 (rwC x).toArray
      have hb4 : Below w.heap.size w (w1.drew.alloc (.cells (rwC x).toArray 114)) := below_next' (below_next' hb1 drew_below) (below_alloc w1.drew _)
      have hs4 : w1.heap.size < (w1.drew.alloc (.cells (rwC x).toArray 114)).heap.size := hW4.lt
      have hg4 : w1.drew.heap.size = w1.heap.size := rfl
      have c14 := h4.blk.cell 1
      simp only [List.getElem?_toArray, List.getElem?_cons_zero, List.getElem?_cons_succ, HN.out] at c14
      refine hK _ _ hX4 c14 ?_
      clear hK hX hXd c1 c2
      obtain ⟨w4, hw4⟩ : ∃ q, w1.drew.alloc (.cells (rwC x).toArray 114) = q := ⟨_, rfl⟩
      rw [hw4] at h4 hX4 hW4 hb4 hs4 c14 ⊢
      rw [hg4] at hW4 ⊢
      clear hw4
      obtain ⟨g4, hg4'⟩ : ∃ x, w1.heap.size = x := ⟨_, rfl⟩
      rw [hg4'] at hW4 hs4 ⊢
      have HG4 := Lib.hid hg4'
      clear hg4 hg4'
      refine wpC_nil ⟨by rfl, ?_⟩
      refine wp_appR _ _ (by rfl) base l.A2 l.c2 r.soft k HN.out (by rfl) h4.row2 x hx.2 g4 (by rfl) hW4 (by omega) (by have := HG4.out; omega) ?_
      intro A2 c2 w5 hR5 hG5
      have hA2 : ∀ g, A2.map (·.block) = some g → l.A2.map (·.block) = some g ∨ w.heap.size ≤ g := fun g hg => by
        rcases hG5.lies with h1 | ⟨g', h1, h2, _⟩
        · exact .inl (h1 ▸ hg)
        · rw [h1] at hg
          cases hg
          have := hb4.size
          exact .inr (by omega)
      have hX5 := hX4.grown hG5.grown (fun e => hgx (.inr (.inr e.symm)))
      have hD5 := h4.blk.grown hG5.grown (fun e => h.n2 e.symm)
      have hc5 : Chg l.fp w w5 := (Chg.of_below l.fp hb4).trans (Chg.of_grown' (F := l.fp) hG5.grown (fun g hg => .inr (.inr hg))) (fun x hx => .inl hx)
      have hR15 := (Chg.of_grown' (F := fun q => l.A2.map (·.block) = some q) hG5.grown (fun g hg => hg)).own h4.row1 (fun q hq e => h.n12 q hq e)
      have c15 := hD5.cell 1
      have f15 := hD5.frozen 1
      simp only [List.getElem?_toArray, List.getElem?_cons_zero, List.getElem?_cons_succ, HN.out] at c15
      refine ⟨fun z => Blk z G 28 (bvs b).toArray, hX5, fun _ h => h, ?_⟩
      clear hX4 hW4 hG5 hb4 c14 h4
      simp only [planOps, List.getElem?_toArray, List.getElem?_cons_zero, List.getElem?_cons_succ]
      iterate 2 (refine wpS_q ?_ (by rfl) ?_ ?_; rotate_left; (focus (intro z hz; (try dsimp only at hz); go_simp; rfl)))
      simp only [Act.put, List.setIfInBounds_toArray]
      refine wpS_l (by rfl) (fun K hK => ?_)
      go_wp2_with fail
      have hg6 := grownBy_set w5 l.g 1 (.slice A2 (k + 1) c2)
      have hX6 := hX5.grown hg6 (by intro e; injection e with e; exact hgx (.inl e))
      have hD6 := hD5.set_ 1 (.slice A2 (k + 1) c2)
      simp only [List.setIfInBounds_toArray, List.set_cons_zero, List.set_cons_succ] at hD6
      have hrg : A2.map (·.block) ≠ some l.g := fun e => by
        rcases hA2 _ e with h2 | h2
        · exact h.n2 h2
        · have := h.blk.lt
          omega
      have hR6 := (Chg.of_grown (F := fun x => x = l.g) hg6 rfl).own hR5 (fun x hx e => hrg (by rw [hx, e]))
      have hR16 := (Chg.of_grown (F := fun x => x = l.g) hg6 rfl).own hR15 (fun x hx e => h.n1 (by rw [hx, e]))
      have hc6 : Chg l.fp w (w5.setCell ⟨l.g, 1, none⟩ (.slice A2 (k + 1) c2)) := hc5.trans (Chg.of_grown (F := l.fp) hg6 (.inl rfl)) (fun x hx => .inl hx)
      have hfin := h.setSoft hx (A := A2) (c := c2) hR6 (by rw [List.length_append, HN.out]; exact hD6) hR16 hA2
      have hmv := rmoved_soft hc6 (c := c2) hA2
      refine hK _ _ (fun z => Blk z G 28 (bvs b).toArray) hX6 (fun _ h => h) ?_
      clear hK hX5 hD5 hR5 hR15 hc5 c15 f15 hg6 hD6 hR6 hR16
      refine wpS_nil ?_
      generalize w5.setCell ⟨l.g, 1, none⟩ (.slice A2 (k + 1) c2) = w6 at *
      have hfu : (softR r x).fuse = r.fuse := rfl
      obtain ⟨v, hv⟩ : ∃ v, decide (r.fuse = 0) = v := ⟨_, rfl⟩
      have HV := Lib.hid hv
      have hwE2 : writeRE r a = if v = true then 8 else 0 := by
        rw [HWE.out, ← hv]
        by_cases hf : r.fuse = 0
        · simp [hf]
        · simp [hf]
      have HWE2 := Lib.hid hwE2
      clear hv hwE2 HWE hX6 hrg hc6 hA2
      cases v
      all_goals
        go_wp2_with (go_at_call 60; refine (rburns_g w6 base l.g { l with A2 := A2, c2 := c2 } (softR r x) hfin rfl).mono ?_; rw [hfu, HV.out]; rintro e w7 ⟨rfl, hD7, hg7⟩)
        go_ret
        first
          | exact ⟨_, by rw [HWE2.out]; rfl, by rw [HWR.out]; exact hD7, hmv.trans (RMoved.of_grown hg7)⟩
          | exact ⟨by rw [HWE2.out]; rfl, _, by rw [HWR.out]; exact hD7, hmv.trans (RMoved.of_grown hg7)⟩
    · have hfin := HBAD.out 1 (by rw [hoff]; exact readyE_bad hra) (by decide)
      have HFIN := Lib.hid hfin
      rw [hoff] at c2
      clear hfin HBAD hoff
      by_cases hlt : a < 0
      · go_wp2_with fail
        go_ret
        first
          | exact ⟨l, by rw [HFIN.out.1]; rfl, by rw [HFIN.out.2]; exact h1, RMoved.of_below hb1⟩
          | exact ⟨by rw [HFIN.out.1]; rfl, l, by rw [HFIN.out.2]; exact h1, RMoved.of_below hb1⟩
      · have g2 : 32768 ≤ a := by omega
        go_wp2_with fail
        go_ret
        first
          | exact ⟨l, by rw [HFIN.out.1]; rfl, by rw [HFIN.out.2]; exact h1, RMoved.of_below hb1⟩
          | exact ⟨by rw [HFIN.out.1]; rfl, l, by rw [HFIN.out.2]; exact h1, RMoved.of_below hb1⟩
  · have hfin := HBAD.out 8 (by rw [hoff]; rfl) (by decide)
    have HFIN := Lib.hid hfin
    rw [hoff] at c2
    clear hfin HBAD hoff
    go_wp2_with fail
    go_ret
    first
          | exact ⟨l, by rw [HFIN.out.1]; rfl, by rw [HFIN.out.2]; exact h1, RMoved.of_below hb1⟩
          | exact ⟨by rw [HFIN.out.1]; rfl, l, by rw [HFIN.out.2]; exact h1, RMoved.of_below hb1⟩
end Go.Proofs.Ytmjdfajdompkeaa
namespace Go.Proofs.Ytmjdfajdompkeaa
open Go.RowKit Go.Rat
/-- The loose writes are gone. -/
theorem RefAt.clear {w w' : World} {base : Nat} {l : RL} {r : RS} (h : RefAt w base l r) (off : Bool) (fuse : Int) (hf : -1 ≤ fuse ∧ fuse ≤ 9223372036854775807) (hg : w.grownBy w' (some l.g))
    (hB : Blk w' l.g 51 #[.slice l.A1 r.sure.length l.c1, .slice none 0 0, .bool off, .int .i64 fuse]) : RefAt w' base { l with A2 := none, c2 := 0 } { r with soft := [], off := off, fuse := fuse } :=
  have hc := Chg.of_grown (F := fun x => x = l.g) hg rfl
  ⟨hB, hc.own h.row1 (fun x hx e => h.n1 (by rw [hx, e])), World.ownsRow_nil _ _ _ _, h.n1, by simp, by simp, h.bg, ⟨h.ok.sure, by simp, hf, h.ok.nod⟩⟩
theorem rmoved_clear {w w' wr : World} {l l1 : RL} (hm : RMoved w wr l l1) (hg : wr.grownBy w' (some l1.g)) : RMoved w w' l { l1 with A2 := none, c2 := 0 } :=
  ⟨hm.g, hm.chg.trans (Chg.of_grown (F := l1.fp) hg (.inl rfl)) hm.fp, fun x hx => by
    rcases hx with hx | hx | hx
    · exact hm.fp x (.inl hx)
    · exact hm.fp x (.inr (.inl hx))
    · cases hx⟩
theorem putL_foldl (l : List RW) (k : Nat) (hk : k < l.length) (s : List RW) : (l.take (k + 1)).foldl putL s = putL ((l.take k).foldl putL s) l[k] := by
  rw [List.take_add_one, List.getElem?_eq_getElem hk, Option.toList_some, List.foldl_append]
  rfl
set_option maxRecDepth 20000 in
set_option maxHeartbeats 4000000 in
theorem rsync_any (w : World) (base : Nat) (l : RL) (r : RS) (h : RefAt w base l r) (hbase : base ≤ w.heap.size) :
    Calls Try.prog 32 #[.pointer (some ⟨l.g, 0, none⟩)] w fun e w' => ∃ l', e = .returned (.int .i64 (syncRE r)) ∧ RefAt w' base l' (syncR r) ∧ RMoved w w' l l' := by
  have c2 := h.blk.cell 2
  simp only [List.getElem?_toArray, List.getElem?_cons_zero, List.getElem?_cons_succ] at c2
  cases hoff : r.off
  · rw [hoff] at c2
    obtain ⟨v, hv⟩ : ∃ v, decide (r.fuse = 0) = v := ⟨_, rfl⟩
    have HV := Lib.hid hv
    cases v
    · have hf0 : ¬ r.fuse = 0 := by simpa using hv
      have hfin : syncRE r = 0 ∧ syncR r = { burnR r with sure := r.soft.foldl putL r.sure, soft := [] } := by
        simp [syncRE, syncR, hoff, hf0]
      have HFIN := Lib.hid hfin
      have hbu := burnR_soft r
      have HBU := Lib.hid hbu
      obtain ⟨g, hg⟩ : ∃ g, l.g = g := ⟨_, rfl⟩
      rw [hg] at c2 ⊢
      have HG := Lib.hid hg
      clear hfin hoff hf0 hv hbu hg
      go_enter Try.func32, Try.ntmps32
      go_upto_region 3 with (go_at_call 60; refine (rburns_g w base g l r h HG.out).mono ?_; rw [HV.out]; rintro e w1 ⟨rfl, h1, hg1⟩; simp only [])
      have hbw : base ≤ w1.heap.size := Nat.le_trans hbase hg1.size
      have hmv1 := RMoved.of_grown hg1
      obtain ⟨r1, hr1⟩ : ∃ r1, burnR r = r1 := ⟨_, rfl⟩
      rw [hr1] at h1 HBU HFIN
      obtain ⟨n, hn⟩ : ∃ n, r1.soft.length = n := ⟨_, rfl⟩
      have HN := Lib.hid hn
      clear h hg1 HV hr1 c2 hn
      go_wp2_with fail
      go_loopw [3] (fun i wr => ∃ (k : Nat) (l1 : RL), k ≤ n ∧ i = .int .i64 (k : Int) ∧ l1.g = g ∧ RefAt wr base l1 { r1 with sure := (r1.soft.take k).foldl putL r1.sure } ∧ base ≤ wr.heap.size ∧ RMoved w wr l l1) (fun i _ => n - (intOf i).toNat)
      case atStart => exact ⟨0, l, Nat.zero_le _, rfl, HG.out, h1, hbw, hmv1⟩
      case round =>
        clear h1 hbw hmv1
        obtain ⟨k, l1, hk, rfl, hg1, h1, hbw, hmv1⟩ := hrel
        have c1 := h1.blk.cell 1
        simp only [List.getElem?_toArray, List.getElem?_cons_zero, List.getElem?_cons_succ, HN.out, hg1] at c1
        by_cases hkn : k < n
        · have hkl : k < r1.soft.length := by have := HN.out; omega
          obtain ⟨g2, L, hA, hgB, hgL, hLl⟩ := h1.row2.at_ h1.ok.soft hkl
          have hx := h1.ok.soft _ (List.getElem_mem hkl)
          have hstep := putL_foldl r1.soft k hkl r1.sure
          have hgL' : (L.drop (k * 130)).take 130 = rwC r1.soft[k] := hgL
          generalize r1.soft[k] = x at *
          have hcl := rwC_length hx.2
          obtain ⟨cx, hcx⟩ : ∃ cx, rwC x = cx := ⟨_, rfl⟩
          rw [hcx] at hgL' hcl
          have HCX := Lib.hid hcx
          have HGL := Lib.hid hgL'
          have HSTEP := Lib.hid hstep
          rw [hA] at c1
          have g1 : (k : Int) < (n : Int) := by omega
          have g0 : (0 : Int) ≤ (k : Int) := by omega
          have hnl : n ≤ 9223372036854775807 := by
            have := own_cap h1.row2
            have e : ({ r1 with sure := (r1.soft.take k).foldl putL r1.sure } : RS).soft.length = n := HN.out
            rw [e] at this
            omega
          clear hgL hgL' hstep hcx hA
          repeat (first
            | ((with_reducible refine wpl_load_mid g2 (k * 130) L cx Try.underlying114 rfl r130 hgB HGL.out hcl ?_ ?_); (focus rfl); simp only [Act.put, List.setIfInBounds_toArray, List.set_cons_zero, List.set_cons_succ])
            | (go_at_call 61; refine (rput_g _ base g l1 _ h1 hg1 hbw x hx cx HCX.out).mono ?_; rintro e w3 ⟨l3, rfl, hg3, h3, hm3⟩; simp only []; refine Hid.out ?_)
            | go_values | go_skip | go_guarded | go_step | go_upon | go_back)
          refine Lib.hid ?_
          have h3 : RefAt w3 base l3 { r1 with sure := (r1.soft.take (k + 1)).foldl putL r1.sure } := by rw [HSTEP.out]; exact h3
          have hbw3 := Nat.le_trans hbw hm3.chg.size
          have hmv3 := hmv1.trans hm3
          clear h1 hbw hmv1 c1 hgB hm3 hg1
          go_wp2_with fail
          exact ⟨⟨k + 1, l3, by omega, by first | omega | exact congrArg (Value.int .i64) (by omega), hg3, h3, hbw3, hmv3⟩, by simp only [intOf]; omega⟩
        · obtain rfl : k = n := by omega
          have g1 : ¬ (k : Int) < (k : Int) := by omega
          have hfull : (r1.soft.take k).foldl putL r1.sure = r.soft.foldl putL r.sure := by rw [← HN.out, List.take_length, HBU.out.1, HBU.out.2]
          rw [hfull] at h1
          have f1 := h1.blk.frozen 1
          have hgr := grownBy_set wr l1.g 1 (.slice none 0 0)
          have hB := h1.blk.set_ 1 (.slice none 0 0)
          simp only [List.setIfInBounds_toArray, List.set_cons_zero, List.set_cons_succ] at hB
          have hfin := h1.clear r1.off r1.fuse h1.ok.fuse hgr hB
          have hmf := rmoved_clear hmv1 hgr
          rw [hg1] at hgr f1 hfin hmf
          have HFI := Lib.hid hfin
          clear hB h1 hfull
          go_wp2_with fail
          go_ret
          first
            | exact ⟨by rw [HFIN.out.1]; rfl, _, by rw [HFIN.out.2]; exact HFI.out, hmf⟩
            | exact ⟨_, by rw [HFIN.out.1]; rfl, by rw [HFIN.out.2]; exact HFI.out, hmf⟩
    · have hf0 : r.fuse = 0 := by simpa using hv
      have hfin : syncRE r = 8 ∧ syncR r = burnR r := by
        simp [syncRE, syncR, hoff, hf0]
      have HFIN := Lib.hid hfin
      clear hfin hoff hf0 hv
      go_enter Try.func32, Try.ntmps32
      go_wp2_with (go_at_call 60; refine (rburns_any w base l r h).mono ?_; rw [HV.out]; rintro e w1 ⟨rfl, h1, hg1⟩; simp only [])
      go_ret
      first
        | exact ⟨l, by rw [HFIN.out.1]; rfl, by rw [HFIN.out.2]; exact h1, RMoved.of_grown hg1⟩
        | exact ⟨by rw [HFIN.out.1]; rfl, l, by rw [HFIN.out.2]; exact h1, RMoved.of_grown hg1⟩
  · rw [hoff] at c2
    have hfin : syncRE r = 8 ∧ syncR r = r := by simp [syncRE, syncR, hoff]
    have HFIN := Lib.hid hfin
    clear hfin hoff
    go_enter Try.func32, Try.ntmps32
    go_wp2_with fail
    go_ret
    first
      | exact ⟨l, by rw [HFIN.out.1]; rfl, by rw [HFIN.out.2]; exact h, RMoved.refl _ _⟩
      | exact ⟨by rw [HFIN.out.1]; rfl, l, by rw [HFIN.out.2]; exact h, RMoved.refl _ _⟩
end Go.Proofs.Ytmjdfajdompkeaa
namespace Go.Proofs.Ytmjdfajdompkeaa
open Go.RowKit Go.Rat
def onR (r : RS) (ps : List UInt8) : RS := if r.off = true then ⟨onL r.soft 0 ps r.sure, [], false, -1⟩ else r
def onRE (r : RS) : Int := if r.off = true then 0 else 3
def stepL (l : List RW) (x : RW) (p : Nat) : List RW := if p % 4 = 0 then l else if p % 4 = 2 then putL l ⟨x.at_, zs, true⟩ else putL l x
theorem onL_snoc (ps : List UInt8) (x : RW) : ∀ (s : List RW) (i : Nat) (l : List RW), onL (s ++ [x]) i ps l = stepL (onL s i ps l) x (ps.getD (i + s.length) 0).toNat
  | [], i, l => rfl
  | y :: s, i, l => by
    rw [List.cons_append, onL, onL, onL_snoc ps x s, List.length_cons, show i + 1 + s.length = i + (s.length + 1) by omega]
set_option maxRecDepth 20000 in
set_option maxHeartbeats 4000000 in
theorem ron_any (w : World) (base : Nat) (l : RL) (r : RS) (h : RefAt w base l r) (hbase : base ≤ w.heap.size) (A' : Option Addr) (m c' : Nat) (ps : List UInt8) (hr : RB w A' m ps) (hap : m ≠ 0 → ∀ x, A'.map (·.block) = some x → ¬ l.fp x) :
    Calls Try.prog 35 #[.pointer (some ⟨l.g, 0, none⟩), .slice A' m c'] w fun e w' => ∃ l', e = .returned (.int .i64 (onRE r)) ∧ RefAt w' base l' (onR r ps) ∧ RMoved w w' l l' := by
  have c2 := h.blk.cell 2
  simp only [List.getElem?_toArray, List.getElem?_cons_zero, List.getElem?_cons_succ] at c2
  cases hoff : r.off
  · rw [hoff] at c2
    have hfin : onRE r = 3 ∧ onR r ps = r := by simp [onRE, onR, hoff]
    have HFIN := Lib.hid hfin
    clear hfin hoff
    go_enter Try.func35, Try.ntmps35
    go_wp2_with fail
    go_ret
    first
      | exact ⟨l, by rw [HFIN.out.1]; rfl, by rw [HFIN.out.2]; exact h, RMoved.refl _ _⟩
      | exact ⟨by rw [HFIN.out.1]; rfl, l, by rw [HFIN.out.2]; exact h, RMoved.refl _ _⟩
  · rw [hoff] at c2
    have hfin : onRE r = 0 ∧ onR r ps = ⟨onL r.soft 0 ps r.sure, [], false, -1⟩ := by simp [onRE, onR, hoff]
    have HFIN := Lib.hid hfin
    have hml := hr.len
    have HR := Lib.hid hr
    obtain ⟨n, hn⟩ : ∃ n, r.soft.length = n := ⟨_, rfl⟩
    have HN := Lib.hid hn
    obtain ⟨g, hg⟩ : ∃ g, l.g = g := ⟨_, rfl⟩
    rw [hg] at c2 ⊢
    have HG := Lib.hid hg
    clear hfin hoff hr hn hg
    go_enter Try.func35, Try.ntmps35
    go_wp2_with fail
    go_loopw [5] (fun i wr => ∃ (k : Nat) (l1 : RL), k ≤ n ∧ i = .int .i64 (k : Int) ∧ l1.g = g ∧ RefAt wr base l1 { r with sure := onL (r.soft.take k) 0 ps r.sure } ∧ base ≤ wr.heap.size ∧ RMoved w wr l l1) (fun i _ => n - (intOf i).toNat)
    case atStart => exact ⟨0, l, Nat.zero_le _, rfl, HG.out, h, hbase, RMoved.refl _ _⟩
    case round =>
      clear c2
      obtain ⟨k, l1, hk, rfl, hg1, h1, hbw, hmv1⟩ := hrel
      have c1 := h1.blk.cell 1
      simp only [List.getElem?_toArray, List.getElem?_cons_zero, List.getElem?_cons_succ, HN.out, hg1] at c1
      by_cases hkn : k < n
      · have hkl : k < r.soft.length := by have := HN.out; omega
        obtain ⟨g2, L, hA, hgB, hgL, hLl⟩ := h1.row2.at_ h1.ok.soft hkl
        have hx := h1.ok.soft _ (List.getElem_mem hkl)
        have hstep : onL (r.soft.take (k + 1)) 0 ps r.sure = stepL (onL (r.soft.take k) 0 ps r.sure) r.soft[k] (ps.getD k 0).toNat := by
          rw [List.take_add_one, List.getElem?_eq_getElem hkl, Option.toList_some, onL_snoc, List.length_take, Nat.zero_add, Nat.min_eq_left (by omega)]
        have hgL' : (L.drop (k * 130)).take 130 = rwC r.soft[k] := hgL
        generalize r.soft[k] = x at *
        have hcl := rwC_length hx.2
        have hxo := rwC_all x
        have hcs : (rwC x).toArray.size = 130 := by simpa using hcl
        have hx0 : (rwC x)[0]? = some (.int .i64 x.at_) := rfl
        obtain ⟨cx, hcx⟩ : ∃ cx, rwC x = cx := ⟨_, rfl⟩
        rw [hcx] at hgL' hcl hxo hcs hx0
        have HCX := Lib.hid hcx
        have HGL := Lib.hid hgL'
        have HSTEP := Lib.hid hstep
        rw [hA] at c1
        have g1 : (k : Int) < (n : Int) := by omega
        have g0 : (0 : Int) ≤ (k : Int) := by omega
        have hnl : n ≤ 9223372036854775807 := by
          have := own_cap h1.row2
          have e : ({ r with sure := onL (r.soft.take k) 0 ps r.sure } : RS).soft.length = n := HN.out
          rw [e] at this
          omega
        have hrr : RB wr A' m ps := hmv1.chg.rbN HR.out hap
        obtain ⟨q, hq⟩ : ∃ q, (ps.getD k 0).toNat % 4 = q := ⟨_, rfl⟩
        clear hgL hgL' hstep hcx hA
        go_upto_if 25 with (fail)
        go_cut [6] (fun p wx => p = .int .u8 (q : Int) ∧ wx = wr)
        case first =>
          have HQ := Lib.hid hq
          clear hq
          by_cases hkm : k < m
          · obtain ⟨ad, rfl, _, hc⟩ := hrr.at_ hkm
            have hq := HQ.out
            have hb := (ps.getD k 0).toNat_lt
            generalize (ps.getD k 0).toNat = p at *
            have hpq : (p : Int) % 4 = (q : Int) := by omega
            have g2 : (k : Int) < (m : Int) := by omega
            clear hq HQ
            go_wp2_with fail
            go_meet
            first | exact ⟨congrArg (Value.int .u8) hpq, rfl⟩ | exact ⟨rfl, rfl⟩
          · have hq0 : q = 0 := by rw [← HQ.out, List.getD_eq_getElem?_getD, List.getElem?_eq_none (by omega)]; rfl
            subst hq0
            have g2 : ¬ (k : Int) < (m : Int) := by omega
            go_wp2_with fail
            go_meet
            exact ⟨rfl, rfl⟩
        case rest =>
          obtain ⟨rfl, rfl⟩ := hcut
          clear hrr
          repeat (first
            | ((with_reducible refine wpl_load_mid g2 (k * 130) L cx Try.underlying114 rfl r130 hgB HGL.out hcl ?_ ?_); (focus rfl); simp only [Act.put, List.setIfInBounds_toArray, List.set_cons_zero, List.set_cons_succ])
            | ((with_reducible refine wpl_store_fresh cx.toArray r130 ?_ hcs hxo ?_ ?_ ?_); (focus kernel_rfl); (focus rfl); (focus rfl); intro w3 hW3 hl3 hb3; simp only [Act.put]; refine Hid.out ?_)
            | go_values | go_skip | go_guarded | go_step | go_upon | go_back)
          refine Lib.hid ?_
          have h3 := h1.below hb3
          have hbw3 := Nat.le_trans hbw hb3.size
          have hm3 := hmv1.trans (RMoved.of_below hb3)
          have hw0 := hW3.cell 0
          rw [List.getElem?_toArray, hx0] at hw0
          have hGl : ¬ l1.fp wc.heap.size := fun hf => by have := (h1.fp_lt hf).2; omega
          have hGw : w.heap.size ≤ wc.heap.size := hmv1.chg.size
          clear h1 hbw hmv1 c1 hgB hb3 hl3
          obtain ⟨G, hG⟩ : ∃ x, wc.heap.size = x := ⟨_, rfl⟩
          rw [hG] at hW3 hw0 hGl hGw ⊢
          clear hG
          have hq3 : q = 0 ∨ q = 2 ∨ q = 1 ∨ q = 3 := by omega
          have HTK : Hid ((cx.drop 0).take 130 = cx) := Lib.hid (by rw [List.drop_zero, ← hcl, List.take_length])
          have HQ := Lib.hid hq
          clear hq
          rcases hq3 with rfl | rfl | rfl | rfl
          · have h4 : RefAt w3 base l1 { r with sure := onL (r.soft.take (k + 1)) 0 ps r.sure } := by rw [HSTEP.out, stepL, if_pos HQ.out]; exact h3
            clear h3 hW3 hw0
            go_wp2_with fail
            exact ⟨⟨k + 1, l1, by omega, by first | omega | exact congrArg (Value.int .i64) (by omega), hg1, h4, hbw3, hm3⟩, by simp only [intOf]; omega⟩
          · have hy : RWok ⟨x.at_, zs, true⟩ := ⟨hx.1, zs_length⟩
            have hyl := rwC_length hy.2
            have hyo := rwC_all ⟨x.at_, zs, true⟩
            have hys : (rwC ⟨x.at_, zs, true⟩).toArray.size = 130 := by simpa using hyl
            have hst : stepL (onL (r.soft.take k) 0 ps r.sure) x (ps.getD k 0).toNat = putL (onL (r.soft.take k) 0 ps r.sure) ⟨x.at_, zs, true⟩ := by rw [stepL, HQ.out]; rfl
            rw [hst] at HSTEP
            clear hst HQ
            have hzl : (Try.zeroCells114.setIfInBounds 0 (.int .i64 x.at_)).setIfInBounds 129 (.bool true) = (rwC ⟨x.at_, zs, true⟩).toArray := by
              rw [zr130, List.setIfInBounds_toArray, List.setIfInBounds_toArray, rwC, rwC, List.set_cons_zero, List.set_cons_succ, List.set_append_right _ _ (by rw [bvs_length, zs_length]; omega), bvs_length, zs_length]
              rfl
            obtain ⟨cy, hcy⟩ : ∃ cy, rwC ⟨x.at_, zs, true⟩ = cy := ⟨_, rfl⟩
            rw [hcy] at hyl hyo hys hzl
            have HCY := Lib.hid hcy
            clear hcy
            repeat (first
              | ((with_reducible refine wpl_store G _ _ cy.toArray r130 hW3 hcs hys hyo ?_ ?_ ?_); (focus rfl); (focus rfl); simp only [Act.put]; refine Hid.out ?_)
              | go_values | go_skip | go_guarded | go_step | go_upon | go_back)
            refine Lib.hid ?_
            have hgs := grownBy_setRow w3 G cy.toArray
            have hW5 := hW3.setRow cy.toArray
            have h5 := h3.kept (Chg.of_grown (F := fun x => x = G) hgs rfl) (fun x hx e => hGl (e ▸ hx))
            have hbw5 := Nat.le_trans hbw3 hgs.size
            have hm5 : RMoved w (w3.setRow G cy.toArray) l l1 := ⟨hm3.g, hm3.chg.trans (Chg.of_grown (F := fun x => x = G) hgs rfl) (fun x e => .inr (e ▸ hGw)), hm3.fp⟩
            have HTY : Hid ((cy.drop 0).take 130 = cy) := Lib.hid (by rw [List.drop_zero, ← hyl, List.take_length])
            clear h3 hbw3 hm3 hW3 hw0 hgs hzl
            generalize w3.setRow G cy.toArray = w5 at *
            repeat (first
              | ((with_reducible refine wpl_load_mid G 0 cy cy Try.underlying114 rfl r130 hW5 HTY.out hyl ?_ ?_); (focus rfl); simp only [Act.put, List.setIfInBounds_toArray, List.set_cons_zero, List.set_cons_succ])
              | (go_at_call 61; refine (rput_g _ base g l1 _ h5 hg1 hbw5 _ hy cy HCY.out).mono ?_; rintro e w4 ⟨l4, rfl, hg4, h4, hm4⟩; simp only []; refine Hid.out ?_)
              | go_values | go_skip | go_guarded | go_step | go_upon | go_back)
            refine Lib.hid ?_
            have h4 : RefAt w4 base l4 { r with sure := onL (r.soft.take (k + 1)) 0 ps r.sure } := by rw [HSTEP.out]; exact h4
            have hbw4 := Nat.le_trans hbw5 hm4.chg.size
            have hmv4 := hm5.trans hm4
            clear h5 hbw5 hm5 hm4 hW5
            go_wp2_with fail
            exact ⟨⟨k + 1, l4, by omega, by first | omega | exact congrArg (Value.int .i64) (by omega), hg4, h4, hbw4, hmv4⟩, by simp only [intOf]; omega⟩
          all_goals
            have hst : stepL (onL (r.soft.take k) 0 ps r.sure) x (ps.getD k 0).toNat = putL (onL (r.soft.take k) 0 ps r.sure) x := by rw [stepL, HQ.out]; rfl
            rw [hst] at HSTEP
            clear hst HQ
            repeat (first
              | ((with_reducible refine wpl_load_mid G 0 cx cx Try.underlying114 rfl r130 hW3 HTK.out hcl ?_ ?_); (focus rfl); simp only [Act.put, List.setIfInBounds_toArray, List.set_cons_zero, List.set_cons_succ])
              | (go_at_call 61; refine (rput_g _ base g l1 _ h3 hg1 hbw3 x hx cx HCX.out).mono ?_; rintro e w4 ⟨l4, rfl, hg4, h4, hm4⟩; simp only []; refine Hid.out ?_)
              | go_values | go_skip | go_guarded | go_step | go_upon | go_back)
            refine Lib.hid ?_
            have h4 : RefAt w4 base l4 { r with sure := onL (r.soft.take (k + 1)) 0 ps r.sure } := by rw [HSTEP.out]; exact h4
            have hbw4 := Nat.le_trans hbw3 hm4.chg.size
            have hmv4 := hm3.trans hm4
            clear h3 hbw3 hm3 hm4 hW3 hw0
            go_wp2_with fail
            exact ⟨⟨k + 1, l4, by omega, by first | omega | exact congrArg (Value.int .i64) (by omega), hg4, h4, hbw4, hmv4⟩, by simp only [intOf]; omega⟩
      · obtain rfl : k = n := by omega
        have g1 : ¬ (k : Int) < (k : Int) := by omega
        have hfull : onL (r.soft.take k) 0 ps r.sure = onL r.soft 0 ps r.sure := by rw [← HN.out, List.take_length]
        rw [hfull] at h1
        have f1 := h1.blk.frozen 1
        have f2 := h1.blk.frozen 2
        have f3 := h1.blk.frozen 3
        have c2 := h1.blk.cell 2
        have c3 := h1.blk.cell 3
        simp only [List.getElem?_toArray, List.getElem?_cons_zero, List.getElem?_cons_succ] at c2 c3
        have hgr := ((grownBy_set wr l1.g 1 (.slice none 0 0)).trans (grownBy_set (wr.setCell ⟨l1.g, 1, none⟩ (.slice none 0 0)) l1.g 2 (.bool false))).trans (grownBy_set ((wr.setCell ⟨l1.g, 1, none⟩ (.slice none 0 0)).setCell ⟨l1.g, 2, none⟩ (.bool false)) l1.g 3 (.int .i64 (-1)))
        have hB := ((h1.blk.set_ 1 (.slice none 0 0)).set_ 2 (.bool false)).set_ 3 (.int .i64 (-1))
        simp only [List.setIfInBounds_toArray, List.set_cons_zero, List.set_cons_succ] at hB
        have hfin := h1.clear false (-1) (by omega) hgr hB
        have hmf := rmoved_clear hmv1 hgr
        rw [hg1] at hgr f1 f2 f3 c2 c3 hfin hmf
        have HFI := Lib.hid hfin
        clear hB h1 hfull
        go_wp2_with fail
        go_ret
        first
          | exact ⟨by rw [HFIN.out.1]; rfl, _, by rw [HFIN.out.2]; exact HFI.out, hmf⟩
          | exact ⟨_, by rw [HFIN.out.1]; rfl, by rw [HFIN.out.2]; exact HFI.out, hmf⟩
end Go.Proofs.Ytmjdfajdompkeaa
namespace Go.Proofs.Ytmjdfajdompkeaa
open Go.RowKit Go.Rat
/-- A disk of the document's that goes with d. -/
def RDk (w : World) (base : Nat) (l : RL) (d : DS) : Prop := ∃ r, RefAt w base l r ∧ RefD d r
section
variable {w w' : World} {base : Nat} {l l' : RL} {d : DS} {r : RS} {F : Nat → Prop}
theorem RDk.fp_lt (h : RDk w base l d) {x : Nat} (hx : l.fp x) : base ≤ x ∧ x < w.heap.size := by
  obtain ⟨r, h1, _⟩ := h
  exact h1.fp_lt hx
theorem RDk.kept (h : RDk w base l d) (hc : Chg F w w') (hF : ∀ x, l.fp x → ¬ F x) : RDk w' base l d := by
  obtain ⟨r, h1, h2⟩ := h
  exact ⟨r, h1.kept hc hF, h2⟩
theorem RDk.below (h : RDk w base l d) (hb : Below w.heap.size w w') : RDk w' base l d := by
  obtain ⟨r, h1, h2⟩ := h
  exact ⟨r, h1.below hb, h2⟩
theorem RefD.len (h : RefD d r) : r.soft.length = d.loose.length := by rw [h.soft, List.length_map]
theorem RDk.cells (h : RDk w base l d) : ∃ A c, w.cell? ⟨l.g, 1, none⟩ = some (.slice A d.loose.length c) ∧ w.cell? ⟨l.g, 2, none⟩ = some (.bool d.off) ∧ w.frozen? ⟨l.g, 3, none⟩ = false ∧ ∃ u, w.cell? ⟨l.g, 3, none⟩ = some u := by
  obtain ⟨r, h1, h2⟩ := h
  have c1 := h1.blk.cell 1
  have c2 := h1.blk.cell 2
  have c3 := h1.blk.cell 3
  simp only [List.getElem?_toArray, List.getElem?_cons_zero, List.getElem?_cons_succ] at c1 c2 c3
  rw [h2.len] at c1
  rw [h2.off] at c2
  exact ⟨_, _, c1, c2, h1.blk.frozen 3, _, c3⟩
theorem RDk.fuses (h : RDk w base l d) (n : Int) (hn : n ≤ 9223372036854775807) : RDk (w.setCell ⟨l.g, 3, none⟩ (.int .i64 (max n (-1)))) base l (fuseD d n) := by
  obtain ⟨r, h1, h2⟩ := h
  have hB := h1.blk.set_ 3 (.int .i64 (max n (-1)))
  simp only [List.setIfInBounds_toArray, List.set_cons_zero, List.set_cons_succ] at hB
  exact ⟨_, h1.turn r.off (max n (-1)) (by omega) (grownBy_set w l.g 3 _) hB, h2.fuses n⟩
theorem RefD.writes (h : RefD d r) (a : Int) (b : List UInt8) : RefD (writeD d a b) (writeR r a b) ∧ writeRE r a = writeE d a := by
  unfold writeD writeR writeRE writeE burnB
  rw [h.off, h.fuse]
  by_cases hr : readyE d.off a = 0
  · rw [if_pos hr, if_pos hr, if_pos hr, if_pos hr]
    refine ⟨(h.put a b).burn, ?_⟩
    by_cases hf : d.fuse = 0
    · simp [hf]
    · simp [hf]
  · rw [if_neg hr, if_neg hr, if_neg hr, if_neg hr]
    exact ⟨h, rfl⟩
theorem RefD.syncs (h : RefD d r) : RefD (syncAll d) (syncR r) ∧ syncRE r = syncE d := by
  unfold syncAll syncR syncRE syncE burnB
  rw [h.off, h.fuse]
  by_cases ho : d.off = true
  · simp only [ho, if_true]
    exact ⟨h, trivial⟩
  · simp only [ho]
    by_cases hf : d.fuse = 0
    · simp only [hf, decide_true, if_true]
      exact ⟨h.burn, trivial⟩
    · simp only [hf, decide_false]
      have h1 := h.burn.sync
      rw [(burnR_soft r).1, (burnR_soft r).2] at h1
      exact ⟨h1, rfl⟩
theorem RefD.ons (h : RefD d r) (ps : List UInt8) : RefD (onAll d ps) (onR r ps) ∧ onRE r = onE d := by
  unfold onAll onR onRE onE
  rw [h.off]
  by_cases ho : d.off = true
  · simp only [ho, if_true]
    exact ⟨h.on ps, trivial⟩
  · simp only [ho]
    exact ⟨h, trivial⟩
end
theorem rgnew (w : World) : Calls Try.prog 29 #[] w fun e w' => ∃ l : RL, e = .returned (.pointer (some ⟨l.g, 0, none⟩)) ∧ RDk w' w.heap.size l ds0 ∧ l.g = w.heap.size ∧ Below w.heap.size w w' := by
  refine (rnew_any w).mono ?_
  rintro e w' ⟨l, h1, h2, h3, h4⟩
  exact ⟨l, h1, ⟨rs0, h2, refD0⟩, h3, h4⟩
section
variable (w : World) (base : Nat) (g : Nat) (l : RL) (d : DS) (h : RDk w base l d) (hg : l.g = g)
include h hg
theorem rgread (a : Int) : Calls Try.prog 30 #[.pointer (some ⟨g, 0, none⟩), .int .i64 a] w fun e w' => e = .returned (.tuple #[.agg (bvs (readB d a)).toArray, .int .i64 (readE d a)]) ∧ Below w.heap.size w w' := by
  subst hg
  obtain ⟨r, h1, h2⟩ := h
  rw [(h2.reads a).1, (h2.reads a).2]
  exact rread_any w base l r h1 a
theorem rgoff : Calls Try.prog 34 #[.pointer (some ⟨g, 0, none⟩)] w fun e w' => ∃ l', e = .returned (.tuple #[]) ∧ l'.g = g ∧ RDk w' base l' (offD d) ∧ RMoved w w' l l' := by
  subst hg
  obtain ⟨r, h1, h2⟩ := h
  refine (roff_any w base l r h1).mono ?_
  rintro e w' ⟨k1, k2, k3⟩
  exact ⟨l, k1, rfl, ⟨_, k2, h2.offs⟩, RMoved.of_grown k3⟩
theorem rgwrite (hbase : base ≤ w.heap.size) (a : Int) (b : List UInt8) (hb : b.length = 128) (hlo : d.loose.length < 1000000000) : Calls Try.prog 31 #[.pointer (some ⟨g, 0, none⟩), .int .i64 a, .agg (bvs b).toArray] w fun e w' => ∃ l', e = .returned (.int .i64 (writeE d a)) ∧ l'.g = g ∧ RDk w' base l' (writeD d a b) ∧ RMoved w w' l l' := by
  subst hg
  obtain ⟨r, h1, h2⟩ := h
  obtain ⟨h3, h4⟩ := h2.writes a b
  rw [← h4]
  refine (rwrite_any w base l r h1 hbase a b hb (by rw [h2.len]; exact hlo)).mono ?_
  rintro e w' ⟨l', k1, k2, k3⟩
  exact ⟨l', k1, k3.g, ⟨_, k2, h3⟩, k3⟩
theorem rgsync (hbase : base ≤ w.heap.size) : Calls Try.prog 32 #[.pointer (some ⟨g, 0, none⟩)] w fun e w' => ∃ l', e = .returned (.int .i64 (syncE d)) ∧ l'.g = g ∧ RDk w' base l' (syncAll d) ∧ RMoved w w' l l' := by
  subst hg
  obtain ⟨r, h1, h2⟩ := h
  obtain ⟨h3, h4⟩ := h2.syncs
  rw [← h4]
  refine (rsync_any w base l r h1 hbase).mono ?_
  rintro e w' ⟨l', k1, k2, k3⟩
  exact ⟨l', k1, k3.g, ⟨_, k2, h3⟩, k3⟩
theorem rgon (hbase : base ≤ w.heap.size) (A' : Option Addr) (m c' : Nat) (ps : List UInt8) (hr : RB w A' m ps) (hap : m ≠ 0 → ∀ x, A'.map (·.block) = some x → ¬ l.fp x) : Calls Try.prog 35 #[.pointer (some ⟨g, 0, none⟩), .slice A' m c'] w fun e w' => ∃ l', e = .returned (.int .i64 (onE d)) ∧ l'.g = g ∧ RDk w' base l' (onAll d ps) ∧ RMoved w w' l l' := by
  subst hg
  obtain ⟨r, h1, h2⟩ := h
  obtain ⟨h3, h4⟩ := h2.ons ps
  rw [← h4]
  refine (ron_any w base l r h1 hbase A' m c' ps hr hap).mono ?_
  rintro e w' ⟨l', k1, k2, k3⟩
  exact ⟨l', k1, k3.g, ⟨_, k2, h3⟩, k3⟩
end
/-- Both disks, side by side, that go with one d. -/
structure Two (w : World) (base : Nat) (l : DL) (L : RL) (d : DS) : Prop where
  p : DiskAt w base l d
  r : RDk w base L d
  x : ∀ x, l.fp x → ¬ L.fp x
section
variable {w w' : World} {base : Nat} {l l' : DL} {L L' : RL} {d d' : DS}
theorem Two.below (h : Two w base l L d) (hb : Below w.heap.size w w') : Two w' base l L d := ⟨h.p.below hb, h.r.below hb, h.x⟩
/-- The program's has moved. -/
theorem Two.left (h : Two w base l L d) (hm : Moved w w' l l') (hD : DiskAt w' base l' d') : DiskAt w' base l' d' ∧ RDk w' base L d ∧ ∀ x, l'.fp x → ¬ L.fp x :=
  ⟨hD, h.r.kept hm.chg (fun x hx hf => h.x x hf hx), fun x hx hf => by
    rcases hm.fp x hx with h1 | h1
    · exact h.x x h1 hf
    · have := (h.r.fp_lt hf).2
      omega⟩
/-- The document's has moved behind it. -/
theorem Two.right (h : DiskAt w base l d' ∧ RDk w base L d ∧ ∀ x, l.fp x → ¬ L.fp x) (hm : RMoved w w' L L') (hR : RDk w' base L' d') : Two w' base l L' d' :=
  ⟨h.1.kept hm.chg (fun x hx hf => h.2.2 x hx hf), hR, fun x hx hf => by
    rcases hm.fp x hf with h1 | h1
    · exact h.2.2 x hx h1
    · have := (h.1.fp_lt hx).2
      omega⟩
end
end Go.Proofs.Ytmjdfajdompkeaa
