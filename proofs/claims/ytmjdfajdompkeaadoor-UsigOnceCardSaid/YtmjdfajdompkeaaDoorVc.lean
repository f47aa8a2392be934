/- usig: Next. -/
import Derived.Test.YtmjdfajdompkeaaDoorVb
namespace Go.Proofs.YtmjdfajdompkeaaDoor
open Go.RowKit Go.Rat
def z32 : List UInt8 := List.replicate 32 0
theorem z32_length : z32.length = 32 := by rw [z32, List.length_replicate]
/-- Next: the disk, the counter, the number, its tag, the error. -/
def nextU (n : Nat) (tb : List Int) (d : DS) (s : US) (b : List UInt8) : DS × US × Nat × List UInt8 × Int :=
  if 1024 < b.length then (d, s, 0, z32, 6) else if 65536 ≤ s.n then (d, s, 0, z32, 10) else if s.c.dead = true then (d, s, 0, z32, 8) else
  if (ptF d s.c.p s.c.which (be 8 (s.n + 1) ++ b)).2 = 0 then ((ptF d s.c.p s.c.which (be 8 (s.n + 1) ++ b)).1, ⟨s.i, s.n + 1, b, putCell s.c (be 8 (s.n + 1) ++ b) 0⟩, s.n + 1, H.numF n tb s.i (s.n + 1) b, 0)
  else ((ptF d s.c.p s.c.which (be 8 (s.n + 1) ++ b)).1, { s with c := putCell s.c (be 8 (s.n + 1) ++ b) (ptF d s.c.p s.c.which (be 8 (s.n + 1) ++ b)).2 }, 0, z32, (ptF d s.c.p s.c.which (be 8 (s.n + 1) ++ b)).2)
/-- A slot, a block's row, a slot. -/
theorem results_tmp_cell_tmp {P : Program} {fn : Func} {p q r : Tmp} {ty : TypeId} (h : fn.results = #[.tmp r, .cell p ty, .tmp q]) (tmps : Array Value) (w : World) (g : Nat) (t : TypeId) (cs : Array Value) (fr : Nat × Nat) (d : TypeDesc) (v u : Value)
    (hp : tmps.getD p undef = .pointer (some ⟨g, 0, none⟩)) (hq : tmps.getD q undef = v) (hr : tmps.getD r undef = u) (hg : w.heap[g]? = some (.cells cs t fr))
    (hu : P.underlying ty = some d) (hd : (match d with | .struct _ | .array _ _ => true | _ => false) = true) (hi : (P.info? ty).map (·.size) = some cs.size) :
    (results fn tmps).run P w = .ok (.tuple #[u, .agg cs, v]) w := by
  have hp' : tmps[p]?.getD undef = .pointer (some ⟨g, 0, none⟩) := by simpa using hp
  have hq' : tmps[q]?.getD undef = v := by simpa using hq
  have hr' : tmps[r]?.getD undef = u := by simpa using hr
  simp [results, h, hp', hq', hr', asAddr, run_loadVar_row w g t ty cs fr d hg hu hd hi]
theorem i32 : (Tryd.prog.info? 24).map (·.size) = some 32 := by kernel_rfl
theorem UMoved.of_moved {w w' : World} {l l' : DL} (h : Moved w w' l l') (k kc : Nat) : UMoved w w' l l' k kc := ⟨h.g, h.chg.mono (fun _ hx => .inl hx), h.fp⟩
theorem UMoved.refl (w : World) (l : DL) (k kc : Nat) : UMoved w w l l k kc := UMoved.of_moved (Moved.refl w l) k kc
theorem UMoved.trans {a b c : World} {l m n : DL} {k kc : Nat} (h : UMoved a b l m k kc) (q : UMoved b c m n k kc) : UMoved a c l n k kc :=
  ⟨q.g.trans h.g, h.chg.trans q.chg (fun x hx => by
    rcases hx with hx | hx
    · rcases h.fp x hx with h1 | h1
      · exact .inl (.inl h1)
      · exact .inr h1
    · exact .inl (.inr hx)), fun x hx => by
    rcases q.fp x hx with h1 | h1
    · exact h.fp x h1
    · exact .inr (Nat.le_trans h.chg.size h1)⟩
theorem UMoved.of_cell {w w' : World} {l l' : DL} {kc : Nat} (h : CMoved w w' l l' kc) (k : Nat) : UMoved w w' l l' k kc :=
  ⟨h.g, h.chg.mono (fun _ hx => hx.imp id .inr), h.fp⟩
theorem UMoved.set {w w' : World} {l l' : DL} {k kc : Nat} (h : UMoved w w' l l' k kc) (i : Nat) (v : Value) : UMoved w (w'.setCell ⟨k, i, none⟩ v) l l' k kc :=
  ⟨h.g, h.chg.trans (Chg.of_grown (F := fun x => x = k) (grownBy_set w' k i v) rfl) (fun _ hx => .inl (.inr (.inl hx))), h.fp⟩
theorem UMoved.row {w w' : World} {l l' : DL} {k kc g : Nat} (h : UMoved w w' l l' k kc) (hg : w.heap.size ≤ g) (cs : Array Value) : UMoved w (w'.setRow g cs) l l' k kc :=
  ⟨h.g, h.chg.trans (Chg.of_grown (F := fun x => x = g) (grownBy_setRow w' g cs) rfl) (fun x hx => .inr (by rw [hx]; exact hg)), h.fp⟩
/-- Its own block has turned. -/
theorem UsigAt.turn {w w' : World} {base : Nat} {l : DL} {k kc : Nat} {s : US} (h : UsigAt w base l k kc s) (hc : Chg (fun x => x = k) w w') {n' : Nat} {b' : List UInt8} {A : Option Addr} {N cc : Nat} (hB : Blk w' k 85 #[.pointer (some ⟨kc, 0, none⟩), .int .i64 s.i, .int .u64 (n' : Int), .slice A N cc])
    (hO : OB 5 w' w.heap.size A N cc b') (hbase : base ≤ w.heap.size) (hlt : ∀ x, l.fp x → x < w.heap.size) (hn : n' ≤ 65536) (hb : b'.length ≤ 1024) : UsigAt w' base l k kc ⟨s.i, n', b', s.c⟩ := by
  obtain ⟨_, _, _, q, _⟩ := h.blk
  refine ⟨⟨A, N, cc, hB, OB.mono hO hbase, fun x hx hf => ?_⟩, h.cell.kept hc (fun e => h.ne e.symm) (fun _ hx => .inr ⟨_, _, hx ▸ q, usig_ne8⟩) rfl (fun _ h => .inl h), h.ne, h.out, h.bk, hn, hb⟩
  have := (hO.ge x hx).1
  have := hlt x hf
  omega
theorem z32_ne8 : (24 : TypeId) ≠ 5 := by decide
theorem UsigAt.row {w : World} {base : Nat} {l : DL} {k kc g : Nat} {s : US} {cs : Array Value} (h : UsigAt w base l k kc s) (hB : Blk w g 24 cs) (h1 : g ≠ k) (h2 : g ≠ kc) (cs' : Array Value) : UsigAt (w.setRow g cs') base l k kc s :=
  h.kept (Chg.of_grown (F := fun x => x = g) (grownBy_setRow w g cs') rfl) (fun e => h1 e.symm) (fun e => h2 e.symm) (fun _ hx => .inr ⟨_, _, hx ▸ hB, z32_ne8⟩) rfl (fun _ h => .inl h)
/-- A Put into its cell. -/
theorem UsigAt.put {w w' : World} {base : Nat} {l l' : DL} {k kc : Nat} {s : US} (h : UsigAt w base l k kc s) (hm : CMoved w w' l l' kc) {c' : CS} (hC : CellAt w' base l' kc c') : UsigAt w' base l' k kc { s with c := c' } := by
  obtain ⟨A, N, c, h1, h2, h3⟩ := h.blk
  obtain ⟨_, _, _, q1, _⟩ := h.cell.blk
  have hA : ∀ x, A.map (·.block) = some x → ¬ (l.fp x ∨ x = kc) := fun x hx hf => by
    rcases hf with hf | rfl
    · exact h3 x hx hf
    · exact OB_ne h2 q1 cell_ne8 hx
  refine ⟨⟨A, N, c, hm.chg.blk h1 (fun hf => ?_), hm.chg.own h2 hA, fun x hx hf => ?_⟩, hC, h.ne, fun hf => ?_, h.bk, h.n_, h.b_⟩
  · rcases hf with hf | hf
    · exact h.out hf
    · exact h.ne hf
  · rcases hm.fp x hf with h6 | h6
    · exact h3 x hx h6
    · have := (h2.ge x hx).2
      omega
  · rcases hm.fp k hf with h6 | h6
    · exact h.out h6
    · have := h1.lt
      omega
theorem zc32 : (#[.int .u8 0, .int .u8 0, .int .u8 0, .int .u8 0, .int .u8 0, .int .u8 0, .int .u8 0, .int .u8 0, .int .u8 0, .int .u8 0, .int .u8 0, .int .u8 0, .int .u8 0, .int .u8 0, .int .u8 0, .int .u8 0, .int .u8 0, .int .u8 0, .int .u8 0, .int .u8 0, .int .u8 0, .int .u8 0, .int .u8 0, .int .u8 0, .int .u8 0, .int .u8 0, .int .u8 0, .int .u8 0, .int .u8 0, .int .u8 0, .int .u8 0, .int .u8 0] : Array Value) = (bvs z32).toArray := rfl
set_option maxRecDepth 20000 in
set_option maxHeartbeats 8000000 in
theorem unext_any (n : Nat) (hn64 : n = 64) (w : World) (base : Nat) (l : DL) (d : DS) (hD : DiskAt w base l d) (g : Nat) (hg : l.g = g) (hbase : base ≤ w.heap.size) (hlo : d.loose.length < 900000000) (k kc : Nat) (s : US) (hU : UsigAt w base l k kc s) (hp : 0 ≤ s.c.p ∧ s.c.p + 20 ≤ 32768)
    (A : Option Addr) (m cap : Nat) (b : List UInt8) (hr : RB w A m b) (hmc : m ≤ cap) (hap : m ≠ 0 → ∀ x, A.map (·.block) = some x → ¬ l.fp x ∧ x ≠ k ∧ x ≠ kc) (tb : List Int) (w0 : World) (hT : H.Tab w0 tb) (hb0 : Below w0.heap.size w0 w) (hw0 : w0.heap.size ≤ base) :
    Calls Tryd.prog 19 #[.pointer (some ⟨k, 0, none⟩), .slice A m cap] w fun e w' => ∃ l', e = .returned (.tuple #[.int .u64 ((nextU n tb d s b).2.2.1 : Int), .agg (bvs (nextU n tb d s b).2.2.2.1).toArray, .int .i64 (nextU n tb d s b).2.2.2.2]) ∧ l'.g = g ∧ DiskAt w' base l' (nextU n tb d s b).1 ∧ UsigAt w' base l' k kc (nextU n tb d s b).2.1 ∧ UMoved w w' l l' k kc := by
  have HN := Lib.hid hn64
  clear hn64
  have hml : b.length = m := hr.len
  have hF : nextU n tb d s b = if 1024 < m then (d, s, 0, z32, 6) else if 65536 ≤ s.n then (d, s, 0, z32, 10) else if s.c.dead = true then (d, s, 0, z32, 8) else
      if (ptF d s.c.p s.c.which (be 8 (s.n + 1) ++ b)).2 = 0 then ((ptF d s.c.p s.c.which (be 8 (s.n + 1) ++ b)).1, ⟨s.i, s.n + 1, b, putCell s.c (be 8 (s.n + 1) ++ b) 0⟩, s.n + 1, H.numF n tb s.i (s.n + 1) b, 0)
      else ((ptF d s.c.p s.c.which (be 8 (s.n + 1) ++ b)).1, { s with c := putCell s.c (be 8 (s.n + 1) ++ b) (ptF d s.c.p s.c.which (be 8 (s.n + 1) ++ b)).2 }, 0, z32, (ptF d s.c.p s.c.which (be 8 (s.n + 1) ++ b)).2) := by rw [← hml]; rfl
  obtain ⟨R, hR⟩ : ∃ R, nextU n tb d s b = R := ⟨_, rfl⟩
  rw [hR] at hF ⊢
  have HF := Lib.hid hF
  clear hF hR
  have hZ := Blk.new w 24 (bvs z32).toArray
  have hb1 := below_alloc w (.cells (bvs z32).toArray 24)
  obtain ⟨z, hz⟩ : ∃ z : Array Value, (bvs z32).toArray = z := ⟨_, rfl⟩
  have hzc := zc32
  rw [hz] at hZ hb1 hzc
  have hzs : z.size = 32 := by rw [← hz]; rfl
  have hz1 : z.all (·.oneCell') = true := by rw [← hz]; exact bvs_all _
  have HZ := Lib.hid hz
  clear hz
  have hD1 := hD.below hb1
  have hU1 := hU.below hb1
  have hr1 := hr.below hb1
  have hGl : ¬ l.fp w.heap.size := fun hf => by have := (hD.fp_lt hf).2; omega
  have hGk : w.heap.size ≠ k ∧ w.heap.size ≠ kc := ⟨by have := hU.lt; omega, by have := hU.cell.lt; omega⟩
  go_enter Tryd.func19, Tryd.ntmps19
  go_upto_block 0 with (fail)
  generalize w.alloc (.cells z 24) = w1 at *
  have hm1 : UMoved w w1 l l k kc := UMoved.of_moved (Moved.of_below hb1) k kc
  obtain ⟨G, hG⟩ : ∃ G, w.heap.size = G := ⟨_, rfl⟩
  rw [hG] at hZ hGl hGk ⊢
  have HG := Lib.hid hG
  clear hG
  have hbw : base ≤ w1.heap.size := by have := hb1.size; omega
  have HB0 : Hid (∀ w' l', UMoved w w' l l' k kc → Below w0.heap.size w0 w') := Lib.hid fun w' l' hm => (base_umoved ⟨hb0, hbase⟩ hw0 hD hU hm).1
  clear hzc hD hU hr hb1
  have hz1l : ∀ v ∈ z.toList, v.oneCell' = true := by
    rw [← HZ.out]
    exact bvs_one _
  have hm11 : UMoved w1 w1 l l k kc := UMoved.refl _ _ _ _
  have hGw : G < w1.heap.size := hZ.lt
  have hfpz : ∀ (l2 : DL) (wx : World), UMoved w1 wx l l2 k kc → ¬ l2.fp G := fun l2 wx hm hf => by
    rcases hm.fp G hf with h1 | h1
    · exact hGl h1
    · omega
  have HFZ := Lib.hid hfpz
  clear hfpz
  by_cases h1 : 1024 < m
  · have h1' : (1024 : Int) < (m : Int) := by omega
    obtain rfl : R = (d, s, 0, z32, 6) := by have := HF.out; rwa [if_pos h1] at this
    go_wp2_with fail
    refine wp_region_plan [(0, true), (1, true), (2, false), (3, true)] (fun x => Blk x G 24 z) (by kernel_rfl) (by kernel_rfl) (by kernel_rfl) (by kernel_rfl) (fun _ _ d _ _ h => by cases d <;> exact h) hZ ?_
    simp only [planOps, List.getElem?_toArray, List.getElem?_cons_zero, List.getElem?_cons_succ]
    refine wpS_q (.agg z) (by rfl) (fun x hx => load_row_run rfl G z Tryd.underlying24 rfl i32 hx hzs rfl) ?_
    simp only [Act.put, List.setIfInBounds_toArray, List.set_cons_zero, List.set_cons_succ]
    iterate 1 (refine wpS_q ?_ (by rfl) ?_ ?_; rotate_left; (focus (intro z hz; (try dsimp only at hz); go_simp; rfl)); simp only [Act.put, List.setIfInBounds_toArray, List.set_cons_zero, List.set_cons_succ])
    refine wpS_l (by rfl) (fun K hK => ?_)
    have hZd : Blk w1.drew G 24 z := hZ
    refine wp_storeRow rfl G _ z z i32 hZd hzs hzs hz1l rfl rfl ?_
    have hgs := grownBy_setRow w1.drew G z
    have hDF := (DiskAt.below hD1 (drew_below (w := w1))).beside hgs (HFZ.out _ _ hm11)
    have hUF := (UsigAt.below hU1 (drew_below (w := w1))).row hZd hGk.1 hGk.2 z
    have hMF := (((hm1.trans hm11)).trans (UMoved.of_moved (Moved.of_below (drew_below (w := w1))) k kc)).row (Nat.le_of_eq HG.out) z
    have hZF := hZd.setRow z
    refine hK _ _ (fun x => Blk x G 24 z) hZF (fun _ h => h) ?_
    clear hK hgs hZd
    iterate 1 (refine wpS_q ?_ (by rfl) ?_ ?_; rotate_left; (focus (intro z hz; (try dsimp only at hz); go_simp; rfl)); simp only [Act.put, List.setIfInBounds_toArray, List.set_cons_zero, List.set_cons_succ])
    refine wpS_nil ?_
    generalize w1.drew.setRow G z = wF at *
    go_wp2_with fail
    refine bodyPost_ret (results_tmp_cell_tmp rfl _ _ G _ _ (0, 0) _ _ _ rfl rfl rfl hZF Tryd.underlying24 rfl (by rw [hzs]; exact i32)) rfl ?_
    first
      | exact ⟨l, by rw [HZ.out]; rfl, hg, hDF, hUF, hMF⟩
      | exact ⟨by rw [HZ.out]; rfl, l, hg, hDF, hUF, hMF⟩
  have h1' : ¬ (1024 : Int) < (m : Int) := by omega
  have hF1 := HF.out
  rw [if_neg h1] at hF1
  obtain ⟨A0, N0, c0', hB0, hO0, hA0⟩ := hU1.blk
  obtain ⟨N, hNe⟩ : ∃ N, s.n = N := ⟨_, rfl⟩
  rw [hNe] at hF1 hB0
  have c0 := hB0.cell 0
  have c2 := hB0.cell 2
  simp only [List.getElem?_toArray, List.getElem?_cons_zero, List.getElem?_cons_succ] at c0 c2
  clear HF h1
  by_cases h2 : 65536 ≤ N
  · have h2' : (65536 : Int) ≤ (N : Int) := by omega
    obtain rfl : R = (d, s, 0, z32, 10) := by rwa [if_pos h2] at hF1
    go_wp2_with fail
    refine wp_region_plan [(0, true), (1, true), (2, false), (3, true)] (fun x => Blk x G 24 z) (by kernel_rfl) (by kernel_rfl) (by kernel_rfl) (by kernel_rfl) (fun _ _ d _ _ h => by cases d <;> exact h) hZ ?_
    simp only [planOps, List.getElem?_toArray, List.getElem?_cons_zero, List.getElem?_cons_succ]
    refine wpS_q (.agg z) (by rfl) (fun x hx => load_row_run rfl G z Tryd.underlying24 rfl i32 hx hzs rfl) ?_
    simp only [Act.put, List.setIfInBounds_toArray, List.set_cons_zero, List.set_cons_succ]
    iterate 1 (refine wpS_q ?_ (by rfl) ?_ ?_; rotate_left; (focus (intro z hz; (try dsimp only at hz); go_simp; rfl)); simp only [Act.put, List.setIfInBounds_toArray, List.set_cons_zero, List.set_cons_succ])
    refine wpS_l (by rfl) (fun K hK => ?_)
    have hZd : Blk w1.drew G 24 z := hZ
    refine wp_storeRow rfl G _ z z i32 hZd hzs hzs hz1l rfl rfl ?_
    have hgs := grownBy_setRow w1.drew G z
    have hDF := (DiskAt.below hD1 (drew_below (w := w1))).beside hgs (HFZ.out _ _ hm11)
    have hUF := (UsigAt.below hU1 (drew_below (w := w1))).row hZd hGk.1 hGk.2 z
    have hMF := (((hm1.trans hm11)).trans (UMoved.of_moved (Moved.of_below (drew_below (w := w1))) k kc)).row (Nat.le_of_eq HG.out) z
    have hZF := hZd.setRow z
    refine hK _ _ (fun x => Blk x G 24 z) hZF (fun _ h => h) ?_
    clear hK hgs hZd
    iterate 1 (refine wpS_q ?_ (by rfl) ?_ ?_; rotate_left; (focus (intro z hz; (try dsimp only at hz); go_simp; rfl)); simp only [Act.put, List.setIfInBounds_toArray, List.set_cons_zero, List.set_cons_succ])
    refine wpS_nil ?_
    generalize w1.drew.setRow G z = wF at *
    go_wp2_with fail
    refine bodyPost_ret (results_tmp_cell_tmp rfl _ _ G _ _ (0, 0) _ _ _ rfl rfl rfl hZF Tryd.underlying24 rfl (by rw [hzs]; exact i32)) rfl ?_
    first
      | exact ⟨l, by rw [HZ.out]; rfl, hg, hDF, hUF, hMF⟩
      | exact ⟨by rw [HZ.out]; rfl, l, hg, hDF, hUF, hMF⟩
  have h2' : ¬ (65536 : Int) ≤ (N : Int) := by omega
  rw [if_neg h2] at hF1
  have HF := Lib.hid hF1
  have HNE := Lib.hid hNe
  have hwr : IntKind.u64.wrap ((N : Int) + 1) = ((N + 1 : Nat) : Int) := by
    simp [IntKind.wrap, IntKind.bits, IntKind.signed]; omega
  clear hF1 hNe hB0 hO0 hA0
  go_wp2_with fail
  refine wp_region_plan [(0, true), (1, true), (2, true), (3, true), (4, true), (5, true), (6, true), (7, true), (8, true), (10, true), (9, false), (11, false), (12, false), (13, true)] (fun z => z.cell? ⟨k, 0, none⟩ = some (.pointer (some ⟨kc, 0, none⟩)) ∧ z.cell? ⟨k, 2, none⟩ = some (.int .u64 (N : Int))) (by kernel_rfl) (by kernel_rfl) (by kernel_rfl) (by kernel_rfl) (fun _ _ d _ _ h => by cases d <;> exact h) ⟨c0, c2⟩ ?_
  simp only [planOps, List.getElem?_toArray, List.getElem?_cons_zero, List.getElem?_cons_succ]
  iterate 10 (refine wpS_q ?_ (by rfl) ?_ ?_; rotate_left; (focus (intro z hz; (try dsimp only at hz); go_simp; rfl)); simp only [Act.put, List.setIfInBounds_toArray, List.set_cons_zero, List.set_cons_succ])
  refine wpS_l (by rfl) (fun K hK => ?_)
  go_wp2_with fail
  refine (word_any w1.drew none 0 0 [] (N + 1) (RB.nil_ _ _) (by omega) (by omega)).mono ?_
  rintro e w2 ⟨A2, N2, c2', rfl, hO2, hb2⟩
  have hb12 : Below w1.heap.size w1 w2 := drew_below.trans hb2
  have hD2 := hD1.below hb12
  have hU2 := hU1.below hb12
  have hr2 := hr1.below hb12
  have hZ2 := hZ.below hb12 hZ.lt
  have hm2 := hm11.trans (UMoved.of_moved (Moved.of_below hb12) k kc)
  rw [List.nil_append] at hO2
  obtain rfl : N2 = 8 := hO2.len.symm.trans (be_length 8 _)
  have hOC : ∀ {w : World}, UsigAt w base l k kc s → w.cell? ⟨k, 0, none⟩ = some (.pointer (some ⟨kc, 0, none⟩)) ∧ w.cell? ⟨k, 2, none⟩ = some (.int .u64 (N : Int)) := fun {w} h => by
    obtain ⟨_, _, _, hB, _⟩ := h.blk
    have c0 := hB.cell 0
    have c2 := hB.cell 2
    simp only [List.getElem?_toArray, List.getElem?_cons_zero, List.getElem?_cons_succ, HNE.out] at c0 c2
    exact ⟨c0, c2⟩
  refine hK _ _ _ (hOC hU2) (fun _ h => h) ?_
  clear hK hb2
  refine wpS_l (by rfl) (fun K hK => ?_)
  refine wp_appB _ _ (by rfl) w1.heap.size A2 8 c2' (be 8 (N + 1)) rfl hO2 A m cap b rfl hr2 (by omega) hb12.size ?_
  intro A3 N3 c3 w3 hc3 hc3' hO3 hG3
  have hb13 : Below w1.heap.size w1 w3 := hG3.own hb12 (Nat.le_refl _) hO2
  have hD3 := hD1.below hb13
  have hU3 := hU1.below hb13
  have hr3 := hr1.below hb13
  have hZ3 := hZ.below hb13 hZ.lt
  have hm3 := hm11.trans (UMoved.of_moved (Moved.of_below hb13) k kc)
  refine hK _ _ _ (hOC hU3) (fun _ h => h) ?_
  obtain rfl : N3 = m + 8 := by have := hO3.len; rw [List.length_append, be_length, hml] at this; omega
  have hr3' := hO3.reads
  have hap3 : m + 8 ≠ 0 → ∀ x, A3.map (·.block) = some x → ¬ l.fp x ∧ x ≠ kc := fun _ x hx => by
    have h1 := (hO3.ge x hx).1
    exact ⟨fun hf => by have := (hD1.fp_lt hf).2; omega, by have := hU1.cell.lt; omega⟩
  have hbase3 : base ≤ w3.heap.size := Nat.le_trans hbw hb13.size
  clear hK hb12 hD2 hU2 hr2 hZ2 hm2 hO2 hG3 hb13 hD1 hU1 hr1 hZ c0 c2
  obtain ⟨bb, hbb⟩ : ∃ x, be 8 (N + 1) ++ b = x := ⟨_, rfl⟩
  rw [hbb] at hO3 hr3'
  have HF : Hid (R = if s.c.dead = true then (d, s, 0, z32, 8) else if (ptF d s.c.p s.c.which bb).2 = 0 then ((ptF d s.c.p s.c.which bb).1, ⟨s.i, N + 1, b, putCell s.c bb 0⟩, N + 1, H.numF n tb s.i (N + 1) b, 0)
      else ((ptF d s.c.p s.c.which bb).1, ⟨s.i, N, s.b, putCell s.c bb (ptF d s.c.p s.c.which bb).2⟩, 0, z32, (ptF d s.c.p s.c.which bb).2)) := by rw [← hbb]; exact HF
  clear hbb
  refine wpS_l (by rfl) (fun K hK => ?_)
  go_wp2_with fail
  cases hdead : s.c.dead
  · have hF1 := HF.out
    rw [hdead, if_neg (by decide)] at hF1
    refine (cput_any w3 base l d hD3 g hg hbase3 hlo kc s.c hU3.cell hp hdead A3 (m + 8) c3 bb hr3' (by omega) hap3).mono ?_
    obtain ⟨⟨dr, E⟩, hre⟩ : ∃ r, ptF d s.c.p s.c.which bb = r := ⟨_, rfl⟩
    rw [hre] at hF1 ⊢
    simp only at hF1 ⊢
    rintro e w4 ⟨l4, rfl, hlg4, hD4, hC4, hm4⟩
    have hU4 : UsigAt w4 base l4 k kc ⟨s.i, N, s.b, putCell s.c bb E⟩ := by
      have := hU3.put hm4 hC4
      rw [← HNE.out]
      exact this
    have hZ4 := hm4.chg.blk hZ3 (fun q => by
      rcases q with q | q
      · exact hGl q
      · exact hGk.2 q)
    have hr4 : RB w4 A m b := hm4.chg.rbN hr3 (fun hm0 x hx hf => by
      have := hap hm0 x hx
      rcases hf with hf | hf
      · exact this.1 hf
      · exact this.2.2 hf)
    have hm4 := hm3.trans (UMoved.of_cell hm4 k)
    obtain ⟨A5, N5, c5, hB5, hO5, hA5⟩ := hU4.blk
    have c0 := hB5.cell 0
    have c2 := hB5.cell 2
    simp only [List.getElem?_toArray, List.getElem?_cons_zero, List.getElem?_cons_succ] at c0 c2
    refine hK _ _ _ ⟨c0, c2⟩ (fun _ h => h) ?_
    clear hK hD3 hU3 hZ3 hr3 hm3 hO3 hr3' hap3
    iterate 1 (refine wpS_q ?_ (by rfl) ?_ ?_; rotate_left; (focus (intro z hz; (try dsimp only at hz); go_simp; rfl)); simp only [Act.put, List.setIfInBounds_toArray, List.set_cons_zero, List.set_cons_succ])
    refine wpS_nil ?_
    by_cases hE : E = 0
    · subst hE
      rw [if_pos rfl] at hF1
      subst hF1
      simp only at hB5 hO5
      have f2 := hB5.frozen 2
      go_upto_region 11 with (fail)
      have hg5 := grownBy_set w4 k 2 (.int .u64 ((N : Int) + 1))
      have hc5 : Chg (fun x => x = k) w4 (w4.setCell ⟨k, 2, none⟩ (.int .u64 ((N : Int) + 1))) := Chg.of_grown hg5 rfl
      have hB6 := hB5.set_ 2 (.int .u64 ((N : Int) + 1))
      simp only [List.setIfInBounds_toArray, List.set_cons_zero, List.set_cons_succ] at hB6
      have hr5 := hc5.rbN hr4 (fun hm0 x hx e => (hap hm0 x hx).2.1 e)
      have hZ5 := hZ4.grown hg5 (by intro e; injection e with e; exact hGk.1 e)
      obtain ⟨w5, hw5⟩ : ∃ x, w4.setCell ⟨k, 2, none⟩ (.int .u64 ((N : Int) + 1)) = x := ⟨_, rfl⟩
      rw [hw5] at hc5 hB6 hr5 hZ5 ⊢
      clear hw5 hg5 f2 c0 c2 hB5 hO5 hA5 hr4
      go_wp2_with fail
      refine (clone_any w5 A m cap b hr5 (by omega)).mono ?_
      rintro e w6 ⟨A6, c6, rfl, hO6, hb6⟩
      have hc6 := hc5.trans (Chg.of_below (fun x => x = k) hb6) (fun x hx => .inl hx)
      have hB6 := hB6.below hb6 hB6.lt
      have hZ6 := hZ5.below hb6 hZ5.lt
      have hr6 := hr5.below hb6
      have hO6 := OB.mono hO6 (B := w4.heap.size) hc5.size
      have f3 := hB6.frozen 3
      have c3' := hB6.cell 3
      simp only [List.getElem?_toArray, List.getElem?_cons_zero, List.getElem?_cons_succ] at c3'
      have hk4 := hU4.lt
      simp only []
      clear hb6 hr5 hZ5
      go_upto_region 12 with (fail)
      have hg7 := grownBy_set w6 k 3 (.slice A6 m c6)
      have hc7 := hc6.trans (Chg.of_grown (F := fun x => x = k) hg7 rfl) (fun x hx => .inl hx)
      have hB7 := hB6.set_ 3 (.slice A6 m c6)
      simp only [List.setIfInBounds_toArray, List.set_cons_zero, List.set_cons_succ] at hB7
      have hr7 := (Chg.of_grown (F := fun x => x = k) hg7 rfl).rbN hr6 (fun hm0 x hx e => (hap hm0 x hx).2.1 e)
      have hZ7 := hZ6.grown hg7 (by intro e; injection e with e; exact hGk.1 e)
      have hO7 := OB.grown hO6 hg7 (.inl (fun e => by have := (hO6.ge k e).1; omega))
      obtain ⟨w7, hw7⟩ : ∃ x, w6.setCell ⟨k, 3, none⟩ (.slice A6 m c6) = x := ⟨_, rfl⟩
      rw [hw7] at hc7 hB7 hr7 hZ7 hO7 ⊢
      have hbw4 : base ≤ w4.heap.size := by
        have := hm4.chg.size
        omega
      have hfl4 : ∀ x, l4.fp x → x < w4.heap.size := fun x hx => (hD4.fp_lt hx).2
      have hNc : ((N + 1 : Nat) : Int) = (N : Int) + 1 := by omega
      have hU7 := hU4.turn (n' := N + 1) hc7 (by rw [hNc]; exact hB7) hO7 hbw4 hfl4 (by omega) (by omega)
      have hD7 : DiskAt w7 base l4 dr := hD4.kept hc7 (fun x hx e => hU4.out (e ▸ hx))
      have hm7 : UMoved w1 w7 l l4 k kc := ⟨hm4.g, hm4.chg.trans hc7 (fun x hx => .inl (.inr (.inl hx))), hm4.fp⟩
      have hT7 := H.Tab.below hT (HB0.out _ _ (hm1.trans hm7))
      have c1 := hB7.cell 1
      have c2 := hB7.cell 2
      simp only [List.getElem?_toArray, List.getElem?_cons_zero, List.getElem?_cons_succ] at c1 c2
      clear hw7 hg7 f3 c3' hB6 hZ6 hr6 hO6 hc5 hc6 hc7 hU4 hD4 hm4 hC4 hZ4 hO7
      go_wp2_with fail
      refine wp_region_plan [(0, true), (1, true), (2, true), (3, true), (4, true), (5, true), (6, true), (7, true), (8, true), (9, true), (10, true), (11, true), (12, true), (13, false), (14, true), (15, false), (16, true)] (fun x => x.cell? ⟨k, 1, none⟩ = some (.int .i64 s.i) ∧ x.cell? ⟨k, 2, none⟩ = some (.int .u64 ((N : Int) + 1))) (by kernel_rfl) (by kernel_rfl) (by kernel_rfl) (by kernel_rfl) (fun _ _ d _ _ h => by cases d <;> exact h) ⟨c1, c2⟩ ?_
      simp only [planOps, List.getElem?_toArray, List.getElem?_cons_zero, List.getElem?_cons_succ]
      iterate 13 (refine wpS_q ?_ (by rfl) ?_ ?_; rotate_left; (focus (intro z hz; (try dsimp only at hz); go_simp; rfl)); simp only [Act.put, List.setIfInBounds_toArray, List.set_cons_zero, List.set_cons_succ])
      have hol := H.numF_length n tb s.i (N + 1) b
      refine wpS_l (by rfl) (fun K hK => ?_)
      go_wp2_with fail
      have hnum := H.numbered_any n HN.out w7.drew s.i (N + 1) (by omega) A m cap b hr7 hmc (by omega) tb (H.Tab.below hT7 drew_below)
      rw [hNc] at hnum
      refine hnum.mono ?_
      clear hnum
      obtain ⟨F, hF⟩ : ∃ F, H.numF n tb s.i (N + 1) b = F := ⟨_, rfl⟩
      rw [hF] at hol ⊢
      rintro e w8 ⟨rfl, hb8⟩
      have hb78 : Below w7.heap.size w7 w8 := drew_below.trans hb8
      have hZ8 := hZ7.below hb78 hZ7.lt
      have hU8 := hU7.below hb78
      have hD8 := hD7.below hb78
      have hm8 := hm7.trans (UMoved.of_moved (Moved.of_below hb78) k kc)
      have hB8 := hB7.below hb78 hB7.lt
      have c1 := hB8.cell 1
      have c2 := hB8.cell 2
      simp only [List.getElem?_toArray, List.getElem?_cons_zero, List.getElem?_cons_succ] at c1 c2
      refine hK _ _ _ ⟨c1, c2⟩ (fun _ h => h) ?_
      have hfs : (bvs F).toArray.size = 32 := by rw [bvs_size, hol]
      have HFE := Lib.hid hF
      clear hK hb78 hb8 hB7 hZ7 hU7 hD7 hm7 hr7 hT7 hF
      iterate 1 (refine wpS_q ?_ (by rfl) ?_ ?_; rotate_left; (focus (intro z hz; (try dsimp only at hz); go_simp; rfl)); simp only [Act.put, List.setIfInBounds_toArray, List.set_cons_zero, List.set_cons_succ])
      refine wpS_l (by rfl) (fun K hK => ?_)
      refine wp_storeRow rfl G _ z (bvs F).toArray i32 hZ8 hzs hfs (bvs_one _) rfl rfl ?_
      have hgs := grownBy_setRow w8 G (bvs F).toArray
      have hDF := hD8.beside hgs (HFZ.out _ _ hm8)
      have hUF := hU8.row hZ8 hGk.1 hGk.2 (bvs F).toArray
      have hMF := (hm1.trans hm8).row (Nat.le_of_eq HG.out) (bvs F).toArray
      have hZF := hZ8.setRow (bvs F).toArray
      have hBF := hB8.grown hgs (by intro e; injection e with e; exact hGk.1 e.symm)
      have c1 := hBF.cell 1
      have c2 := hBF.cell 2
      simp only [List.getElem?_toArray, List.getElem?_cons_zero, List.getElem?_cons_succ] at c1 c2
      refine hK _ _ _ ⟨c1, c2⟩ (fun _ h => h) ?_
      clear hK hgs hZ8 hU8 hD8 hm8 hB8 hBF
      iterate 1 (refine wpS_q ?_ (by rfl) ?_ ?_; rotate_left; (focus (intro z hz; (try dsimp only at hz); go_simp; rfl)); simp only [Act.put, List.setIfInBounds_toArray, List.set_cons_zero, List.set_cons_succ])
      refine wpS_nil ?_
      generalize w8.setRow G (bvs F).toArray = wF at *
      go_wp2_with fail
      refine bodyPost_ret (results_tmp_cell_tmp rfl _ _ G _ _ (0, 0) _ _ _ rfl rfl rfl hZF Tryd.underlying24 rfl (by rw [hfs]; exact i32)) rfl ?_
      first
        | exact ⟨l4, by rw [HFE.out]; rfl, hlg4, hDF, hUF, hMF⟩
        | exact ⟨by rw [HFE.out]; rfl, l4, hlg4, hDF, hUF, hMF⟩
    · have hE' : (E != 0) = true := by simpa using hE
      rw [if_neg hE] at hF1
      subst hF1
      have hZ := hZ4
      clear hB5 hO5 hA5 c0 c2
      go_wp2_with fail
      refine wp_region_plan [(0, true), (1, true), (2, true), (3, false), (4, true)] (fun x => Blk x G 24 z) (by kernel_rfl) (by kernel_rfl) (by kernel_rfl) (by kernel_rfl) (fun _ _ d _ _ h => by cases d <;> exact h) hZ ?_
      simp only [planOps, List.getElem?_toArray, List.getElem?_cons_zero, List.getElem?_cons_succ]
      refine wpS_q (.agg z) (by rfl) (fun x hx => load_row_run rfl G z Tryd.underlying24 rfl i32 hx hzs rfl) ?_
      simp only [Act.put, List.setIfInBounds_toArray, List.set_cons_zero, List.set_cons_succ]
      iterate 2 (refine wpS_q ?_ (by rfl) ?_ ?_; rotate_left; (focus (intro z hz; (try dsimp only at hz); go_simp; rfl)); simp only [Act.put, List.setIfInBounds_toArray, List.set_cons_zero, List.set_cons_succ])
      refine wpS_l (by rfl) (fun K hK => ?_)
      have hZd : Blk w4.drew G 24 z := hZ
      refine wp_storeRow rfl G _ z z i32 hZd hzs hzs hz1l rfl rfl ?_
      have hgs := grownBy_setRow w4.drew G z
      have hDF := (DiskAt.below hD4 (drew_below (w := w4))).beside hgs (HFZ.out _ _ hm4)
      have hUF := (UsigAt.below hU4 (drew_below (w := w4))).row hZd hGk.1 hGk.2 z
      have hMF := (((hm1.trans hm4)).trans (UMoved.of_moved (Moved.of_below (drew_below (w := w4))) k kc)).row (Nat.le_of_eq HG.out) z
      have hZF := hZd.setRow z
      refine hK _ _ (fun x => Blk x G 24 z) hZF (fun _ h => h) ?_
      clear hK hgs hZd
      iterate 1 (refine wpS_q ?_ (by rfl) ?_ ?_; rotate_left; (focus (intro z hz; (try dsimp only at hz); go_simp; rfl)); simp only [Act.put, List.setIfInBounds_toArray, List.set_cons_zero, List.set_cons_succ])
      refine wpS_nil ?_
      generalize w4.drew.setRow G z = wF at *
      go_wp2_with fail
      refine bodyPost_ret (results_tmp_cell_tmp rfl _ _ G _ _ (0, 0) _ _ _ rfl rfl rfl hZF Tryd.underlying24 rfl (by rw [hzs]; exact i32)) rfl ?_
      first
        | exact ⟨l4, by rw [HZ.out]; rfl, hlg4, hDF, hUF, hMF⟩
        | exact ⟨by rw [HZ.out]; rfl, l4, hlg4, hDF, hUF, hMF⟩
  · have hF1 := HF.out
    rw [hdead, if_pos rfl] at hF1
    subst hF1
    refine (cput_dead w3 base l kc s.c hU3.cell hdead A3 (m + 8) c3 (by omega)).mono ?_
    rintro e w4 ⟨rfl, rfl⟩
    refine hK _ _ _ (hOC hU3) (fun _ h => h) ?_
    have hZ := hZ3
    have c0 := (hOC hU3).1
    clear hK hr3 hO3 hr3' hap3 hZ3
    iterate 1 (refine wpS_q ?_ (by rfl) ?_ ?_; rotate_left; (focus (intro z hz; (try dsimp only at hz); go_simp; rfl)); simp only [Act.put, List.setIfInBounds_toArray, List.set_cons_zero, List.set_cons_succ])
    refine wpS_nil ?_
    go_wp2_with fail
    refine wp_region_plan [(0, true), (1, true), (2, true), (3, false), (4, true)] (fun x => Blk x G 24 z) (by kernel_rfl) (by kernel_rfl) (by kernel_rfl) (by kernel_rfl) (fun _ _ d _ _ h => by cases d <;> exact h) hZ ?_
    simp only [planOps, List.getElem?_toArray, List.getElem?_cons_zero, List.getElem?_cons_succ]
    refine wpS_q (.agg z) (by rfl) (fun x hx => load_row_run rfl G z Tryd.underlying24 rfl i32 hx hzs rfl) ?_
    simp only [Act.put, List.setIfInBounds_toArray, List.set_cons_zero, List.set_cons_succ]
    iterate 2 (refine wpS_q ?_ (by rfl) ?_ ?_; rotate_left; (focus (intro z hz; (try dsimp only at hz); go_simp; rfl)); simp only [Act.put, List.setIfInBounds_toArray, List.set_cons_zero, List.set_cons_succ])
    refine wpS_l (by rfl) (fun K hK => ?_)
    have hZd : Blk w3.drew G 24 z := hZ
    refine wp_storeRow rfl G _ z z i32 hZd hzs hzs hz1l rfl rfl ?_
    have hgs := grownBy_setRow w3.drew G z
    have hDF := (DiskAt.below hD3 (drew_below (w := w3))).beside hgs (HFZ.out _ _ hm3)
    have hUF := (UsigAt.below hU3 (drew_below (w := w3))).row hZd hGk.1 hGk.2 z
    have hMF := (((hm1.trans hm3)).trans (UMoved.of_moved (Moved.of_below (drew_below (w := w3))) k kc)).row (Nat.le_of_eq HG.out) z
    have hZF := hZd.setRow z
    refine hK _ _ (fun x => Blk x G 24 z) hZF (fun _ h => h) ?_
    clear hK hgs hZd
    iterate 1 (refine wpS_q ?_ (by rfl) ?_ ?_; rotate_left; (focus (intro z hz; (try dsimp only at hz); go_simp; rfl)); simp only [Act.put, List.setIfInBounds_toArray, List.set_cons_zero, List.set_cons_succ])
    refine wpS_nil ?_
    generalize w3.drew.setRow G z = wF at *
    go_wp2_with fail
    refine bodyPost_ret (results_tmp_cell_tmp rfl _ _ G _ _ (0, 0) _ _ _ rfl rfl rfl hZF Tryd.underlying24 rfl (by rw [hzs]; exact i32)) rfl ?_
    first
      | exact ⟨l, by rw [HZ.out]; rfl, hg, hDF, hUF, hMF⟩
      | exact ⟨by rw [HZ.out]; rfl, l, hg, hDF, hUF, hMF⟩
end Go.Proofs.YtmjdfajdompkeaaDoor
