/- ratchetref07: Next. -/
import Derived.Test.YtmjdfajdompkeaaGreatDoorZw
namespace Go.Proofs.YtmjdfajdompkeaaGreatDoor
open Go.RowKit Go.Rat
/-- A disk, a counter and its cell of the document's have moved on. -/
structure RUMoved (w w' : World) (l l' : RL) (k kc : Nat) : Prop where
  g : l'.g = l.g
  chg : Chg (fun x => l.fp x ∨ x = k ∨ x = kc) w w'
  fp : ∀ x, l'.fp x → l.fp x ∨ w.heap.size ≤ x
theorem RUMoved.of_moved {w w' : World} {l l' : RL} (h : RMoved w w' l l') (k kc : Nat) : RUMoved w w' l l' k kc := ⟨h.g, h.chg.mono (fun _ hx => .inl hx), h.fp⟩
theorem RUMoved.of_cell {w w' : World} {l l' : RL} {kc : Nat} (h : RCMoved w w' l l' kc) (k : Nat) : RUMoved w w' l l' k kc := ⟨h.g, h.chg.mono (fun _ hx => hx.elim .inl (fun e => .inr (.inr e))), h.fp⟩
theorem RUMoved.trans {a b c : World} {l m n : RL} {k kc : Nat} (h : RUMoved a b l m k kc) (q : RUMoved b c m n k kc) : RUMoved a c l n k kc :=
  ⟨q.g.trans h.g, h.chg.trans q.chg (fun x hx => by
    rcases hx with hx | hx
    · rcases h.fp x hx with h1 | h1
      · exact .inl (.inl h1)
      · exact .inr h1
    · exact .inl (.inr hx)), fun x hx => by
    rcases q.fp x hx with h1 | h1
    · exact h.fp x h1
    · exact .inr (Nat.le_trans h.chg.size h1)⟩
theorem RUMoved.set {w w' : World} {l l' : RL} {k kc : Nat} (h : RUMoved w w' l l' k kc) (i : Nat) (v : Value) : RUMoved w (w'.setCell ⟨k, i, none⟩ v) l l' k kc :=
  ⟨h.g, h.chg.trans (Chg.of_grown (F := fun x => x = k) (grownBy_set w' k i v) rfl) (fun _ hx => .inl (.inr (.inl hx))), h.fp⟩
theorem RUMoved.row {w w' : World} {l l' : RL} {k kc g : Nat} (h : RUMoved w w' l l' k kc) (hg : w.heap.size ≤ g) (cs : Array Value) : RUMoved w (w'.setRow g cs) l l' k kc :=
  ⟨h.g, h.chg.trans (Chg.of_grown (F := fun x => x = g) (grownBy_setRow w' g cs) rfl) (fun x hx => .inr (by omega)), h.fp⟩
theorem own_typed {w : World} {base size n c N : Nat} {T : TypeId} {A : Option Addr} {xs : List Value} (h : w.ownsRow base T size (.slice A n c) N xs) {x : Nat} (hx : A.map (·.block) = some x) : ∃ cur, w.heap[x]? = some (.cells cur T (0, 0)) := by
  rcases h.2 with ⟨h3, _⟩ | ⟨g, cap, cur, hv, hbg, hc, rest⟩
  · injection h3 with h4
    rw [h4] at hx
    cases hx
  · injection hv with h4
    rw [h4] at hx
    cases hx
    exact ⟨cur, hc⟩
theorem RDk.typed {w : World} {base : Nat} {l : RL} {d : DS} (h : RDk w base l d) {x : Nat} (hx : l.fp x) : ∃ T cs, Blk w x T cs ∧ T ≠ 5 := by
  obtain ⟨r, h1, _⟩ := h
  rcases hx with rfl | hx | hx
  · exact ⟨_, _, h1.blk, by decide⟩
  · obtain ⟨cur, hc⟩ := own_typed h1.row1 hx
    exact ⟨_, cur, hc, by decide⟩
  · obtain ⟨cur, hc⟩ := own_typed h1.row2 hx
    exact ⟨_, cur, hc, by decide⟩
theorem RDk.nb8 {w : World} {base : Nat} {l : RL} {d : DS} (h : RDk w base l d) {x : Nat} (hx : l.fp x) : NB8 w x := by
  obtain ⟨T, cs, h1, h2⟩ := h.typed hx
  exact Blk.nb8 h1 h2
theorem DiskAt.nb8 {w : World} {base : Nat} {l : DL} {d : DS} (h : DiskAt w base l d) {x : Nat} (hx : l.fp x) : NB8 w x := by
  rcases hx with rfl | rfl | rfl | hx
  · exact Blk.nb8 h.blk (by decide)
  · rintro ⟨cur, hc⟩
    obtain ⟨es, cl, h1, _⟩ := h.sure
    rw [h1] at hc
    cases hc
  · rintro ⟨cur, hc⟩
    obtain ⟨es, cl, h1, _⟩ := h.now
    rw [h1] at hc
    cases hc
  · obtain ⟨cur, hc⟩ := own_typed h.row hx
    exact Blk.nb8 (T := 91) (cs := cur) hc (by decide)
theorem RCellW.nb8 {w : World} {base : Nat} {l : RL} {k : Nat} {s : CS} (h : RCellW w base l k s) : NB8 w k := by
  obtain ⟨v, h1⟩ := h.blk
  exact Blk.nb8 h1 (by decide)
theorem RUsigAt.put {w w' : World} {base : Nat} {l l' : RL} {d : DS} {k kc : Nat} {s : US} (h : RUsigAt w base l k kc s) (hD : RDk w base l d) (hm : RCMoved w w' l l' kc) {c' : CS} (hC : RCellW w' base l' kc c') : RUsigAt w' base l' k kc { s with c := c' } := by
  obtain ⟨A, N, c, h1, h2⟩ := h.blk
  have hnF : ¬ (l.fp k ∨ k = kc) := fun hf => hf.elim h.out h.ne
  refine ⟨⟨A, N, c, hm.chg.blk h1 hnF, hm.chg.own h2 (fun x hx hf => ?_)⟩, hC, h.ne, fun hf => ?_, h.bk, h.n_, h.b_⟩
  · rcases hf with hf | hf
    · exact OB.not_nb8 h2 hx (hD.nb8 hf)
    · exact OB.not_nb8 h2 hx (hf ▸ h.cell.nb8)
  · rcases hm.fp k hf with h6 | h6
    · exact h.out h6
    · have := h1.lt
      omega
set_option maxRecDepth 20000 in
set_option maxHeartbeats 8000000 in
theorem rnext7_any (n : Nat) (hn64 : n = 64) (w : World) (base : Nat) (l : RL) (d : DS) (hD : RDk w base l d) (g : Nat) (hg : l.g = g) (hbase : base ≤ w.heap.size) (hlo : d.loose.length < 800000000) (k kc : Nat) (s : US) (hU : RUsigAt w base l k kc s) (hp : 0 ≤ s.c.p ∧ s.c.p + 20 ≤ 32768)
    (A : Option Addr) (m cap : Nat) (b : List UInt8) (hr : RB w A m b) (hm5 : m ≤ 5000) (hap : m ≠ 0 → ∀ x, A.map (·.block) = some x → ¬ l.fp x ∧ x ≠ k ∧ x ≠ kc) (tb : List Int) (htb : H.tblL = tb) :
    Calls Tryz.prog 14 #[.pointer (some ⟨k, 0, none⟩), .slice A m cap] w fun e w' => ∃ l', e = .returned (.tuple #[.int .u64 ((nextU n tb d s b).2.2.1 : Int), .agg (bvs (nextU n tb d s b).2.2.2.1).toArray, .int .i64 (nextU n tb d s b).2.2.2.2]) ∧ l'.g = g ∧ RDk w' base l' (nextU n tb d s b).1 ∧ RUsigAt w' base l' k kc (nextU n tb d s b).2.1 ∧ RUMoved w w' l l' k kc := by
  have HN := Lib.hid hn64
  have HTB := Lib.hid htb
  clear hn64 htb
  have hml : b.length = m := hr.len
  have hF : nextU n tb d s b = if 1024 < m then (d, s, 0, z32, 6) else if 65536 ≤ s.n then (d, s, 0, z32, 10) else if s.c.dead = true then (d, s, 0, z32, 8) else
      if (ptF d s.c.p s.c.which (be 8 (s.n + 1) ++ b)).2 = 0 then ((ptF d s.c.p s.c.which (be 8 (s.n + 1) ++ b)).1, ⟨s.i, s.n + 1, b, putCell s.c (be 8 (s.n + 1) ++ b) 0⟩, s.n + 1, H.numF n tb s.i (s.n + 1) b, 0)
      else ((ptF d s.c.p s.c.which (be 8 (s.n + 1) ++ b)).1, { s with c := putCell s.c (be 8 (s.n + 1) ++ b) (ptF d s.c.p s.c.which (be 8 (s.n + 1) ++ b)).2 }, 0, z32, (ptF d s.c.p s.c.which (be 8 (s.n + 1) ++ b)).2) := by rw [← hml]; rfl
  obtain ⟨R, hR⟩ : ∃ R, nextU n tb d s b = R := ⟨_, rfl⟩
  rw [hR] at hF ⊢
  have HF := Lib.hid hF
  clear hF hR
  have hZ := Blk.new w 44 (bvs z32).toArray
  have hb1 := below_alloc w (.cells (bvs z32).toArray 44)
  obtain ⟨z, hz⟩ : ∃ z : Array Value, (bvs z32).toArray = z := ⟨_, rfl⟩
  have hzc := zc32
  rw [hz] at hZ hb1 hzc
  have hzs : z.size = 32 := by rw [← hz]; rfl
  have hz1 : z.all (·.oneCell') = true := by rw [← hz]; exact bvs_all _
  have HZ := Lib.hid hz
  clear hz
  have hGl : ¬ l.fp w.heap.size := fun hf => by have := (hD.fp_lt hf).2; omega
  have hGk : w.heap.size ≠ k ∧ w.heap.size ≠ kc := ⟨by have := hU.lt; omega, by have := hU.cell.lt; omega⟩
  have hU1 := hU.below hb1
  obtain ⟨A0, N0, c0', hB0, hO0⟩ := hU1.blk
  obtain ⟨N, hNe⟩ : ∃ N, s.n = N := ⟨_, rfl⟩
  obtain ⟨ii, hie⟩ : ∃ i, s.i = i := ⟨_, rfl⟩
  rw [hNe, hie] at hB0
  have hN65 := hU.n_
  rw [hNe] at hN65
  have c0 := hB0.cell 0
  have c1 := hB0.cell 1
  have c2 := hB0.cell 2
  simp only [List.getElem?_toArray, List.getElem?_cons_zero, List.getElem?_cons_succ] at c0 c1 c2
  have HNE := Lib.hid hNe
  have HIE := Lib.hid hie
  clear hNe hie hO0
  go_enter Tryz.func14, Tryz.ntmps14
  go_upto_region 1 with (fail)
  obtain ⟨w1, hw1⟩ : ∃ x, w.alloc (.cells z 44) = x := ⟨_, rfl⟩
  rw [hw1] at hZ hb1 hU1 hB0 c0 c1 c2 ⊢
  clear hw1
  obtain ⟨G, hG⟩ : ∃ G, w.heap.size = G := ⟨_, rfl⟩
  rw [hG] at hZ hGl hGk ⊢
  have hGw : G < w1.heap.size := hZ.lt
  have HG := Lib.hid hG
  have hsw := hb1.size
  clear hG
  by_cases h1 : 1024 < m
  · have h1' : (1024 : Int) < (m : Int) := by omega
    obtain rfl : R = (d, s, 0, z32, 6) := by have := HF.out; rwa [if_pos h1] at this
    clear HF h1
    repeat (first
      | ((with_reducible refine wpl_store G _ _ z i32 hZ hzs hzs hz1 ?_ ?_ ?_); (focus rfl); (focus rfl))
      | go_values | go_skip | go_guarded | go_step | go_upon | go_back)
    have hbF : Below w.heap.size w (w1.setRow G z) := hb1.grown (grownBy_setRow w1 G z) hsw (fun q hq => by cases hq; exact Nat.le_of_eq HG.out)
    refine bodyPost_ret (results_tmp_cell_tmp rfl _ _ G _ _ (0, 0) _ _ _ rfl rfl rfl (hZ.setRow z) Tryz.underlying44 rfl (by rw [hzs]; exact i32)) rfl ?_
    first
      | exact ⟨l, by rw [HZ.out]; rfl, hg, hD.below hbF, hU.below hbF, RUMoved.of_moved (RMoved.of_below hbF) k kc⟩
      | exact ⟨by rw [HZ.out]; rfl, l, hg, hD.below hbF, hU.below hbF, RUMoved.of_moved (RMoved.of_below hbF) k kc⟩
  have h1' : ¬ (1024 : Int) < (m : Int) := by omega
  have hF1 := HF.out
  rw [if_neg h1, HNE.out] at hF1
  by_cases h2 : 65536 ≤ N
  · have h2' : (65536 : Int) ≤ (N : Int) := by omega
    obtain rfl : R = (d, s, 0, z32, 10) := by rwa [if_pos h2] at hF1
    clear HF h1 hF1
    repeat (first
      | ((with_reducible refine wpl_store G _ _ z i32 hZ hzs hzs hz1 ?_ ?_ ?_); (focus rfl); (focus rfl))
      | go_values | go_skip | go_guarded | go_step | go_upon | go_back)
    have hbF : Below w.heap.size w (w1.setRow G z) := hb1.grown (grownBy_setRow w1 G z) hsw (fun q hq => by cases hq; exact Nat.le_of_eq HG.out)
    refine bodyPost_ret (results_tmp_cell_tmp rfl _ _ G _ _ (0, 0) _ _ _ rfl rfl rfl (hZ.setRow z) Tryz.underlying44 rfl (by rw [hzs]; exact i32)) rfl ?_
    first
      | exact ⟨l, by rw [HZ.out]; rfl, hg, hD.below hbF, hU.below hbF, RUMoved.of_moved (RMoved.of_below hbF) k kc⟩
      | exact ⟨by rw [HZ.out]; rfl, l, hg, hD.below hbF, hU.below hbF, RUMoved.of_moved (RMoved.of_below hbF) k kc⟩
  have h2' : ¬ (65536 : Int) ≤ (N : Int) := by omega
  rw [if_neg h2] at hF1
  have HF := Lib.hid hF1
  have hwr : IntKind.u64.wrap ((N : Int) + 1) = ((N + 1 : Nat) : Int) := by
    simp [IntKind.wrap, IntKind.bits, IntKind.signed]; omega
  clear hF1 h1
  go_wp2_with fail
  refine wp_region_plan [(0, true), (1, true), (2, true), (3, true), (4, true), (5, true), (6, true), (7, true), (8, true), (10, true), (9, false), (11, false), (12, false), (13, true)] (fun z => z.cell? ⟨k, 1, none⟩ = some (.pointer (some ⟨kc, 0, none⟩)) ∧ z.cell? ⟨k, 2, none⟩ = some (.int .u64 (N : Int))) (by kernel_rfl) (by kernel_rfl) (by kernel_rfl) (by kernel_rfl) (fun _ _ d _ _ h => by cases d <;> exact h) ⟨c1, c2⟩ ?_
  simp only [planOps, List.getElem?_toArray, List.getElem?_cons_zero, List.getElem?_cons_succ]
  iterate 10 (refine wpS_q ?_ (by rfl) ?_ ?_; rotate_left; (focus (intro z hz; (try dsimp only at hz); go_simp; rfl)); simp only [Act.put, List.setIfInBounds_toArray, List.set_cons_zero, List.set_cons_succ])
  refine wpS_l (by rfl) (fun K hK => ?_)
  go_wp2_with fail
  refine (rword_any w1.drew none 0 0 [] (N + 1) (RB.nil_ _ _) (by omega) (by omega)).mono ?_
  rintro e w2 ⟨A2, N2, c2', rfl, hO2, hb2⟩
  have hb12 : Below w1.heap.size w1 w2 := drew_below.trans hb2
  have hr2 := hr.below (below_next' hb1 hb12)
  rw [List.nil_append] at hO2
  obtain rfl : N2 = 8 := hO2.len.symm.trans (be_length 8 _)
  have hBx := hB0.below hb12 hB0.lt
  clear c0 c1 c2
  have c1 := hBx.cell 1
  have c2 := hBx.cell 2
  simp only [List.getElem?_toArray, List.getElem?_cons_zero, List.getElem?_cons_succ] at c1 c2
  refine hK _ _ _ ⟨c1, c2⟩ (fun _ h => h) ?_
  clear hK hb2 hBx
  refine wpS_l (by rfl) (fun K hK => ?_)
  refine wp_appB _ _ (by rfl) w1.heap.size A2 8 c2' (be 8 (N + 1)) rfl (OB.mono hO2 (by have := (drew_below (w := w1)).size; omega)) A m cap b rfl hr2 (by omega) hb12.size ?_
  intro A3 N3 c3 w3 hc3 hc3' hO3 hG3
  have hb13 : Below w1.heap.size w1 w3 := hG3.own hb12 (Nat.le_refl _) (OB.mono hO2 (by have := (drew_below (w := w1)).size; omega))
  have hb03 := below_next' hb1 hb13
  have hD3 := hD.below hb03
  have hU3 := hU.below hb03
  have hr3 := hr.below hb03
  have hZ3 := hZ.below hb13 hZ.lt
  have hB3 := hB0.below hb13 hB0.lt
  clear c1 c2
  have c1 := hB3.cell 1
  have c2 := hB3.cell 2
  simp only [List.getElem?_toArray, List.getElem?_cons_zero, List.getElem?_cons_succ] at c1 c2
  refine hK _ _ _ ⟨c1, c2⟩ (fun _ h => h) ?_
  obtain rfl : N3 = m + 8 := by have := hO3.len; rw [List.length_append, be_length, hml] at this; omega
  have hr3' := hO3.reads
  have hap3 : m + 8 ≠ 0 → ∀ x, A3.map (·.block) = some x → ¬ l.fp x ∧ x ≠ kc := fun _ x hx => by
    have h1 := (OB.ge hO3 x hx).1
    exact ⟨fun hf => by have := (hD.fp_lt hf).2; omega, by have := hU1.cell.lt; omega⟩
  have hbase3 : base ≤ w3.heap.size := by have := hb03.size; omega
  clear hK hb12 hr2 hO2 hG3 hU1 hB0 hZ c1 c2
  obtain ⟨bb, hbb⟩ : ∃ x, be 8 (N + 1) ++ b = x := ⟨_, rfl⟩
  rw [hbb] at hO3 hr3'
  have HF : Hid (R = if s.c.dead = true then (d, s, 0, z32, 8) else if (ptF d s.c.p s.c.which bb).2 = 0 then ((ptF d s.c.p s.c.which bb).1, ⟨s.i, N + 1, b, putCell s.c bb 0⟩, N + 1, H.numF n tb s.i (N + 1) b, 0)
      else ((ptF d s.c.p s.c.which bb).1, ⟨s.i, N, s.b, putCell s.c bb (ptF d s.c.p s.c.which bb).2⟩, 0, z32, (ptF d s.c.p s.c.which bb).2)) := by rw [← hbb]; exact HF
  clear hbb
  refine wpS_l (by rfl) (fun K hK => ?_)
  go_wp2_with fail
  cases hdead : s.c.dead
  · have hF1 := HF.out
    rw [hdead, if_neg (by decide)] at hF1
    refine (rput5W_any w3 base l d hD3 g hg hbase3 hlo kc s.c hU3.cell hp hdead A3 (m + 8) c3 bb hr3' (by omega) hap3).mono ?_
    obtain ⟨⟨dr, E⟩, hre⟩ : ∃ r, ptF d s.c.p s.c.which bb = r := ⟨_, rfl⟩
    rw [hre] at hF1 ⊢
    simp only at hF1 ⊢
    rintro e w4 ⟨l4, rfl, hlg4, hD4, hC4, hm4⟩
    have hU4 : RUsigAt w4 base l4 k kc ⟨s.i, N, s.b, putCell s.c bb E⟩ := by
      have := hU3.put hD3 hm4 hC4
      rw [← HNE.out]
      exact this
    have hs13 := hb13.size
    have hGl4 : ¬ l4.fp G := fun hf => by
      rcases hm4.fp G hf with h | h
      · exact hGl h
      · omega
    have hZ4 := hm4.chg.blk hZ3 (fun q => q.elim hGl hGk.2)
    have hB4 := hm4.chg.blk hB3 (fun q => q.elim hU.out hU.ne)
    have hr4 : RB w4 A m b := hm4.chg.rbN hr3 (fun hm0 x hx hf => hf.elim (hap hm0 x hx).1 (hap hm0 x hx).2.2)
    have hmm : RUMoved w w4 l l4 k kc := (RUMoved.of_moved (RMoved.of_below hb03) k kc).trans (RUMoved.of_cell hm4 k)
    have hne := hU.ne
    have hkf4 := hU4.out
    have hbk := hU.bk
    have c1 := hB4.cell 1
    have c2 := hB4.cell 2
    simp only [List.getElem?_toArray, List.getElem?_cons_zero, List.getElem?_cons_succ] at c1 c2
    refine hK _ _ _ ⟨c1, c2⟩ (fun _ h => h) ?_
    clear hK hm4 hb13 hb03 hD3 hU3 hr3 hZ3 hB3 hO3 hr3' hap3 HF hre c1
    iterate 1 (refine wpS_q ?_ (by rfl) ?_ ?_; rotate_left; (focus (intro z hz; (try dsimp only at hz); go_simp; rfl)); simp only [Act.put, List.setIfInBounds_toArray, List.set_cons_zero, List.set_cons_succ])
    refine wpS_nil ?_
    by_cases hE : E = 0
    · subst hE
      rw [if_pos rfl] at hF1
      subst hF1
      have hrx : (5 : Nat) = 5 := rfl
      clear hrx
      have hmc : m ≤ 1024 := by omega
      have hK5 := hB4.set_ 2 (.int .u64 ((N : Int) + 1))
      simp only [List.setIfInBounds_toArray, List.set_cons_zero, List.set_cons_succ] at hK5
      have f2 := hB4.frozen 2
      have hg5 := grownBy_set w4 k 2 (.int .u64 ((N : Int) + 1))
      have hc5 := Chg.of_grown (F := fun x => x = k) hg5 rfl
      have hD5 := hD4.kept hc5 (fun x hx e => hkf4 (e ▸ hx))
      have hC5 := hC4.kept hc5 (fun e => hne e.symm) rfl (fun _ hx => .inl hx)
      have hr5 : RB (w4.setCell ⟨k, 2, none⟩ (.int .u64 ((N : Int) + 1))) A m b := hc5.rbN hr4 (fun hm0 x hx e => (hap hm0 x hx).2.1 e)
      have hZ5 := hc5.blk hZ4 hGk.1
      have hmm5 := hmm.set 2 (.int .u64 ((N : Int) + 1))
      have hs5 := hg5.size
      clear hg5 hc5 hB4 hU4 hD4 hC4 hr4 hZ4 hmm
      go_upto_region 9 with (fail)
      obtain ⟨w5, hw5⟩ : ∃ x, w4.setCell ⟨k, 2, none⟩ (.int .u64 ((N : Int) + 1)) = x := ⟨_, rfl⟩
      rw [hw5] at hK5 hD5 hC5 hr5 hZ5 hmm5 hs5 ⊢
      clear hw5 f2 c2
      go_wp2_with (at_builtin; refine app_bytes rfl _ _ rfl w5.heap.size _ _ _ [] rfl (OB.empty _ _) _ _ _ b rfl (hr5.below (below_alloc _ _)) (by omega) (by simp) ?_; intro A8 N8 c8 w8 hc8 hc8' hO8 hG8; refine Hid.out ?_)
      refine Lib.hid ?_
      have hb8 : Below w5.heap.size w5 w8 := hG8.below (below_alloc _ _) (by simp) (by simp)
      have hK8 := hK5.below hb8 hK5.lt
      have hD8 := hD5.below hb8
      have hC8 := hC5.below hb8
      have hr8 := hr5.below hb8
      have hZ8 := hZ5.below hb8 hZ5.lt
      have hmm8 := hmm5.trans (RUMoved.of_moved (RMoved.of_below hb8) k kc)
      have hs8 := hb8.size
      rw [List.nil_append] at hO8
      have hkl5 := hK5.lt
      have f3 := hK8.frozen 3
      have c3 := hK8.cell 3
      simp only [List.getElem?_toArray, List.getElem?_cons_zero, List.getElem?_cons_succ] at c3
      have hK9 := hK8.set_ 3 (.slice A8 N8 c8)
      simp only [List.setIfInBounds_toArray, List.set_cons_zero, List.set_cons_succ] at hK9
      have hg9 := grownBy_set w8 k 3 (.slice A8 N8 c8)
      have hc9 := Chg.of_grown (F := fun x => x = k) hg9 rfl
      have hO9 := hc9.own hO8 (fun x hx e => by have := (OB.ge hO8 x hx).1; omega)
      have hO9 := OB.mono (B := base) hO9 (by have := hmm5.chg.size; omega)
      have hD9 := hD8.kept hc9 (fun x hx e => hkf4 (e ▸ hx))
      have hC9 := hC8.kept hc9 (fun e => hne e.symm) rfl (fun _ hx => .inl hx)
      have hr9 : RB (w8.setCell ⟨k, 3, none⟩ (.slice A8 N8 c8)) A m b := hc9.rbN hr8 (fun hm0 x hx e => (hap hm0 x hx).2.1 e)
      have hZ9 := hc9.blk hZ8 hGk.1
      have hmm9 := hmm8.set 3 (.slice A8 N8 c8)
      have hs9 := hg9.size
      clear hK5 hD5 hC5 hr5 hZ5 hmm5 hK8 hD8 hC8 hr8 hZ8 hmm8 hG8 hb8 hO8 hg9 hc9
      go_upto_region 10 with (fail)
      obtain ⟨w9, hw9⟩ : ∃ x, w8.setCell ⟨k, 3, none⟩ (.slice A8 N8 c8) = x := ⟨_, rfl⟩
      rw [hw9] at hK9 hO9 hD9 hC9 hr9 hZ9 hmm9 hs9 ⊢
      clear hw9 f3 c3
      have c0 := hK9.cell 0
      have c2 := hK9.cell 2
      simp only [List.getElem?_toArray, List.getElem?_cons_zero, List.getElem?_cons_succ] at c0 c2
      have hcast : ((N + 1 : Nat) : Int) = (N : Int) + 1 := by omega
      refine wp_region_plan [(0, true), (1, true), (2, true), (3, true), (4, true), (5, true), (6, true), (7, true), (8, true), (9, true), (10, true), (11, true), (12, true), (13, false), (14, true), (15, false), (16, true)] (fun z => z.cell? ⟨k, 0, none⟩ = some (.int .i64 ii) ∧ z.cell? ⟨k, 2, none⟩ = some (.int .u64 ((N : Int) + 1))) (by kernel_rfl) (by kernel_rfl) (by kernel_rfl) (by kernel_rfl) (fun _ _ d _ _ h => by cases d <;> exact h) ⟨c0, c2⟩ ?_
      simp only [planOps, List.getElem?_toArray, List.getElem?_cons_zero, List.getElem?_cons_succ]
      iterate 13 (refine wpS_q ?_ (by rfl) ?_ ?_; rotate_left; (focus (intro z hz; (try dsimp only at hz); go_simp; rfl)); simp only [Act.put, List.setIfInBounds_toArray, List.set_cons_zero, List.set_cons_succ])
      refine wpS_l (by rfl) (fun K hK => ?_)
      go_wp2_with fail
      rw [← hcast]
      refine (H.rnumbered_any n HN.out w9.drew ii (N + 1) (by omega) A m cap b (hr9.below drew_below) (by omega) tb HTB.out).mono ?_
      rintro e w10 ⟨rfl, hb10⟩
      have hb10 : Below w9.heap.size w9 w10 := drew_below.trans hb10
      have hK10 := hK9.below hb10 hK9.lt
      have hZ10 := hZ9.below hb10 hZ9.lt
      clear c0 c2
      have c0 := hK10.cell 0
      have c2 := hK10.cell 2
      simp only [List.getElem?_toArray, List.getElem?_cons_zero, List.getElem?_cons_succ] at c0 c2
      refine hK _ _ _ ⟨c0, c2⟩ (fun _ h => h) ?_
      clear hK
      iterate 1 (refine wpS_q ?_ (by rfl) ?_ ?_; rotate_left; (focus (intro z hz; (try dsimp only at hz); go_simp; rfl)); simp only [Act.put, List.setIfInBounds_toArray, List.set_cons_zero, List.set_cons_succ])
      refine wpS_l (by rfl) (fun K hK => ?_)
      have hnl := H.numF_length n tb ii (N + 1) b
      refine wp_storeRow rfl G 44 z (bvs (H.numF n tb ii (N + 1) b)).toArray i32 hZ10 hzs (by rw [bvs_size, hnl]) (by simpa using bvs_one (H.numF n tb ii (N + 1) b)) rfl rfl ?_
      have hcF := Chg.of_grown (F := fun x => x = G) (grownBy_setRow w10 G (bvs (H.numF n tb ii (N + 1) b)).toArray) rfl
      have hKF := hcF.blk hK10 (fun e => hGk.1 e.symm)
      have hD10 := hD9.below hb10
      have hC10 := hC9.below hb10
      have hO10 : OB 5 w10 base A8 N8 c8 b := (Chg.of_below (fun _ => False) hb10).own hO9 (fun _ _ h => h)
      have hmm10 := hmm9.trans (RUMoved.of_moved (RMoved.of_below hb10) k kc)
      have hDF := hD10.kept hcF (fun x hx e => hGl4 (e ▸ hx))
      have hCF := hC10.kept hcF (fun e => hGk.2 e.symm) rfl (fun _ hx => .inl hx)
      have hOF := hcF.own hO10 (fun x hx e => OB.not_nb8 hO10 hx (e ▸ Blk.nb8 hZ10 (by decide)))
      have hMF := hmm10.row (Nat.le_of_eq HG.out) (bvs (H.numF n tb ii (N + 1) b)).toArray
      have hRF := hZ10.setRow (bvs (H.numF n tb ii (N + 1) b)).toArray
      have hUF : RUsigAt (w10.setRow G (bvs (H.numF n tb ii (N + 1) b)).toArray) base l4 k kc ⟨ii, N + 1, b, putCell s.c bb 0⟩ := ⟨⟨A8, N8, c8, by rw [hcast]; exact hKF, hOF⟩, hCF, hne, hkf4, hbk, (show N + 1 ≤ 65536 by omega), (show b.length ≤ 1024 by omega)⟩
      clear c0 c2
      have c0 := hKF.cell 0
      have c2 := hKF.cell 2
      simp only [List.getElem?_toArray, List.getElem?_cons_zero, List.getElem?_cons_succ] at c0 c2
      refine hK _ _ _ ⟨c0, c2⟩ (fun _ h => h) ?_
      clear hK
      obtain ⟨wF, hwF⟩ : ∃ x, w10.setRow G (bvs (H.numF n tb ii (N + 1) b)).toArray = x := ⟨_, rfl⟩
      rw [hwF] at hDF hUF hMF hRF ⊢
      clear hwF hKF hOF hCF hcF hD10 hC10 hO10 hK10 hZ10 c0 c2 hD9 hC9 hO9 hK9 hZ9
      iterate 1 (refine wpS_q ?_ (by rfl) ?_ ?_; rotate_left; (focus (intro z hz; (try dsimp only at hz); go_simp; rfl)); simp only [Act.put, List.setIfInBounds_toArray, List.set_cons_zero, List.set_cons_succ])
      refine wpS_nil ?_
      go_wp2_with fail
      refine bodyPost_ret (results_tmp_cell_tmp rfl _ _ G _ _ (0, 0) _ _ _ rfl rfl rfl hRF Tryz.underlying44 rfl (by rw [bvs_size, hnl]; exact i32)) rfl ?_
      rw [HIE.out]
      first
        | exact ⟨l4, congrArg (fun v => Ending.returned (.tuple #[v, .agg (bvs (H.numF n tb ii (N + 1) b)).toArray, .int .i64 0])) (congrArg (Value.int .u64) hcast.symm), hlg4, hDF, hUF, hMF⟩
        | exact ⟨congrArg (fun v => Ending.returned (.tuple #[v, .agg (bvs (H.numF n tb ii (N + 1) b)).toArray, .int .i64 0])) (congrArg (Value.int .u64) hcast.symm), l4, hlg4, hDF, hUF, hMF⟩
    · rw [if_neg hE] at hF1
      subst hF1
      have hE' : (E != 0) = true := by simpa using hE
      clear hE c2
      repeat (first
        | ((with_reducible refine wpl_store G _ _ z i32 hZ4 hzs hzs hz1 ?_ ?_ ?_); (focus rfl); (focus rfl))
        | go_values | go_skip | go_guarded | go_step | go_upon | go_back)
      have hcF := Chg.of_grown (F := fun x => x = G) (grownBy_setRow w4 G z) rfl
      have hDF := hD4.kept hcF (fun x hx e => hGl4 (e ▸ hx))
      have hUF := hU4.kept hcF (fun e => hGk.1 e.symm) (fun e => hGk.2 e.symm) (fun x e => e ▸ Blk.nb8 hZ4 (by decide)) rfl (fun _ hx => .inl hx)
      have hMF := hmm.row (Nat.le_of_eq HG.out) z
      refine bodyPost_ret (results_tmp_cell_tmp rfl _ _ G _ _ (0, 0) _ _ _ rfl rfl rfl (hZ4.setRow z) Tryz.underlying44 rfl (by rw [hzs]; exact i32)) rfl ?_
      first
        | exact ⟨l4, by rw [HZ.out]; rfl, hlg4, hDF, hUF, hMF⟩
        | exact ⟨by rw [HZ.out]; rfl, l4, hlg4, hDF, hUF, hMF⟩
  · have hF1 := HF.out
    rw [hdead, if_pos rfl] at hF1
    subst hF1
    refine (rput5W_dead w3 base l kc s.c hU3.cell hdead A3 (m + 8) c3 (by omega)).mono ?_
    rintro e w4 ⟨rfl, rfl⟩
    have c1 := hB3.cell 1
    have c2 := hB3.cell 2
    simp only [List.getElem?_toArray, List.getElem?_cons_zero, List.getElem?_cons_succ] at c1 c2
    refine hK _ _ _ ⟨c1, c2⟩ (fun _ h => h) ?_
    clear hK HF c1 c2
    iterate 1 (refine wpS_q ?_ (by rfl) ?_ ?_; rotate_left; (focus (intro z hz; (try dsimp only at hz); go_simp; rfl)); simp only [Act.put, List.setIfInBounds_toArray, List.set_cons_zero, List.set_cons_succ])
    refine wpS_nil ?_
    repeat (first
      | ((with_reducible refine wpl_store G _ _ z i32 hZ3 hzs hzs hz1 ?_ ?_ ?_); (focus rfl); (focus rfl))
      | go_values | go_skip | go_guarded | go_step | go_upon | go_back)
    have hbF : Below w.heap.size w (w3.setRow G z) := hb03.grown (grownBy_setRow w3 G z) hb03.size (fun q hq => by cases hq; exact Nat.le_of_eq HG.out)
    refine bodyPost_ret (results_tmp_cell_tmp rfl _ _ G _ _ (0, 0) _ _ _ rfl rfl rfl (hZ3.setRow z) Tryz.underlying44 rfl (by rw [hzs]; exact i32)) rfl ?_
    first
      | exact ⟨l, by rw [HZ.out]; rfl, hg, hD.below hbF, hU.below hbF, RUMoved.of_moved (RMoved.of_below hbF) k kc⟩
      | exact ⟨by rw [HZ.out]; rfl, l, hg, hD.below hbF, hU.below hbF, RUMoved.of_moved (RMoved.of_below hbF) k kc⟩
end Go.Proofs.YtmjdfajdompkeaaGreatDoor
