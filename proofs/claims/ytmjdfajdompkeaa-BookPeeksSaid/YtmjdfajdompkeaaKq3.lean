/- disk: what Write needs. -/
import Derived.Test.YtmjdfajdompkeaaKq2
namespace Go.Proofs.Ytmjdfajdompkeaa
open Go.RowKit Go.Rat
/-- A disk has moved on: its own blocks alone have turned, others of its own may have come. -/
structure Moved (w w' : World) (l l' : DL) : Prop where
  g : (l'.g, l'.gs, l'.gn) = (l.g, l.gs, l.gn)
  chg : Chg l.fp w w'
  fp : ∀ x, l'.fp x → l.fp x ∨ w.heap.size ≤ x
theorem Moved.refl (w : World) (l : DL) : Moved w w l l := ⟨rfl, Chg.refl _ _, fun _ h => .inl h⟩
theorem Moved.trans {a b c : World} {l m n : DL} (h : Moved a b l m) (k : Moved b c m n) : Moved a c l n :=
  ⟨k.g.trans h.g, h.chg.trans k.chg h.fp, fun x hx => by
    rcases k.fp x hx with h1 | h1
    · exact h.fp x h1
    · exact .inr (Nat.le_trans h.chg.size h1)⟩
theorem Moved.of_below {w w' : World} {l : DL} (h : Below w.heap.size w w') : Moved w w' l l := ⟨rfl, Chg.of_below _ h, fun _ h => .inl h⟩
theorem Moved.of_grown {w w' : World} {l : DL} (h : w.grownBy w' (some l.g)) : Moved w w' l l := ⟨rfl, Chg.of_grown h (.inl rfl), fun _ h => .inl h⟩
def putD (d : DS) (a : Int) (b : List UInt8) : DS := { d with now := fun x => if x = a then ⟨b, false⟩ else d.now x, loose := d.loose ++ [(a, b)] }
def writeD (d : DS) (a : Int) (b : List UInt8) : DS := if readyE d.off a = 0 then burnD (putD d a b) else d
def writeE (d : DS) (a : Int) : Int := if readyE d.off a = 0 then (if burnB d = true then 8 else 0) else readyE d.off a
theorem putD_ok {d : DS} (h : DOk d) {a : Int} (ha : 0 ≤ a ∧ a < 32768) {b : List UInt8} (hb : b.length = 128) : DOk (putD d a b) :=
  ⟨h.sure, fun x => by
    show (if x = a then (⟨b, false⟩ : Sec) else d.now x).b.length = 128
    split
    · exact hb
    · exact h.now x, fun x hx => by
    rcases List.mem_append.1 hx with h1 | h1
    · exact h.loose x h1
    · obtain rfl : x = (a, b) := by simpa using h1
      exact ⟨ha, hb⟩, h.fuse⟩
theorem readyE_zero {off : Bool} {a : Int} (h : readyE off a = 0) : off = false ∧ 0 ≤ a ∧ a < 32768 := by
  cases off
  · refine ⟨rfl, ?_⟩
    by_cases h2 : 0 ≤ a ∧ a < 32768
    · exact h2
    · rw [readyE_bad h2] at h
      cases h
  · rw [readyE_off] at h
    cases h
theorem wp_mapStore {P : Program} {w : World} {o : Oper} {a : Act} {K : Act → World → Prop} {Q : Exit → Act → World → Prop} {z : Value} {b : Nat} {f : Int → Value} {t k e : TypeId} (m x v : Operand) (ho : o.op = .mapUpdate t m x v)
    (h : MapV z w b f) (hk : P.underlying k = some (.int .i64)) (ht : P.underlying t = some (.map k e)) (i : Int) (hi : (Lit.int .i64 i).wf = true) (val : Value)
    (hm : a.eval m = .map (some b)) (hx : a.eval x = .int .i64 i) (hv : a.eval v = val)
    (hK : ∀ w', MapV z w' b (fun q => if q = i then val else f q) → w.grownBy w' (some b) → K (a.put o.dst undef) w') : o.wp P a w K Q := by
  obtain ⟨w', hrun, h1, h2⟩ := h.store (P := P) hk ht i hi val
  unfold Oper.wp
  simp only [execOp, ho, hm, hx, hv, Sem.run_bind, Sem.run_pure, Result.andThen_ok, hrun]
  exact hK w' h1 h2
theorem foldl_put (xs : List Value) : ∀ (o k : Nat) (L : List Value), o + k + xs.length ≤ L.length →
    List.foldl (fun (cs : Array Value) (x : Value × Nat) => cs.setIfInBounds (o + x.2) x.1) L.toArray (xs.zipIdx k) = (L.take (o + k) ++ xs ++ L.drop (o + k + xs.length)).toArray := by
  induction xs with
  | nil => intro o k L _; simp
  | cons x xs ih =>
    intro o k L h
    simp only [List.length_cons] at h
    rw [List.zipIdx_cons, List.foldl_cons, List.setIfInBounds_toArray, ih o (k + 1) (L.set (o + k) x) (by rw [List.length_set]; omega)]
    congr 1
    have e1 : (L.set (o + k) x).take (o + (k + 1)) = L.take (o + k) ++ [x] := by
      rw [show o + (k + 1) = o + k + 1 by omega, List.take_add_one, List.take_set_of_le (Nat.le_refl _), List.getElem?_set_self (by omega)]
      rfl
    rw [e1, List.drop_set_of_lt (by omega), show o + (k + 1) + xs.length = o + k + (x :: xs).length by simp; omega]
    simp
theorem foldl_put0 (xs : List Value) (L : List Value) (h : xs.length ≤ L.length) :
    List.foldl (fun (cs : Array Value) (x : Value × Nat) => cs.setIfInBounds x.2 x.1) L.toArray xs.zipIdx = (xs ++ L.drop xs.length).toArray := by
  have := foldl_put xs 0 0 L (by omega)
  simpa using this
theorem foldl_full (xs : List Value) (Z : Array Value) (h : Z.size = xs.length) : List.foldl (fun (cs : Array Value) (x : Value × Nat) => cs.setIfInBounds x.2 x.1) Z xs.zipIdx = xs.toArray := by
  have := foldl_put0 xs Z.toList (by simp [h])
  rw [List.drop_of_length_le (by simp [h]), List.append_nil] at this
  simpa using this
theorem zc129 : Try.zeroCells110 = (secL zsec).toArray := by kernel_rfl
theorem zw129 : Try.zeroCells112 = (.int .i64 0 :: bvs zs).toArray := by kernel_rfl
theorem sec_fold (b : List UInt8) (hb : b.length = 128) : List.foldl (fun (cs : Array Value) (x : Value × Nat) => cs.setIfInBounds x.2 x.1) Try.zeroCells110 (bvs b).zipIdx = (secL ⟨b, false⟩).toArray := by
  rw [zc129, foldl_put0 _ _ (by rw [bvs_length, hb, secL_length zs_length]; omega)]
  congr 1
  rw [secL, secL, bvs_length, hb]
  congr 1
theorem build_sec {w : World} {ρ : Operand → Value} {d : Option Tmp} {x : Operand} {t : TypeId} {p : String} {af : Array Edge} {gd : Option (Nat × Bool)} (b : List UInt8) (hb : b.length = 128) (hx : ρ x = .agg (bvs b).toArray) :
    (execOp ρ { dst := d, op := .build 110 #[(0, x)], type := t, pos := p, after := af, guard := gd }).run Try.prog w = .ok (.value (.agg (secL ⟨b, false⟩).toArray)) w := by
  have hf := sec_fold b hb
  have hl : (bvs b).length = 128 := by rw [bvs_length, hb]
  go_simp
theorem build_wr {w : World} {ρ : Operand → Value} {d : Option Tmp} {x y : Operand} {t : TypeId} {p : String} {af : Array Edge} {gd : Option (Nat × Bool)} (i : Int) (b : List UInt8) (hb : b.length = 128) (hx : ρ x = .int .i64 i) (hy : ρ y = .agg (bvs b).toArray) :
    (execOp ρ { dst := d, op := .build 112 #[(0, x), (1, y)], type := t, pos := p, after := af, guard := gd }).run Try.prog w = .ok (.value (.agg (.int .i64 i :: bvs b).toArray)) w := by
  have hl : (bvs b).length = 128 := by rw [bvs_length, hb]
  have hz : Try.zeroCells112 = (.int .i64 0 :: bvs zs).toArray := zw129
  have hlz : (bvs zs).length = 128 := by rw [bvs_length, zs_length]
  have hf : List.foldl (fun (cs : Array Value) (x : Value × Nat) => cs.setIfInBounds (1 + x.2) x.1) (.int .i64 i :: bvs zs).toArray (bvs b).zipIdx = (.int .i64 i :: bvs b).toArray := by
    rw [show (bvs b).zipIdx = (bvs b).zipIdx 0 from rfl, foldl_put _ 1 0 _ (by rw [List.length_cons, hlz, hl]; omega)]
    congr 1
    rw [List.drop_of_length_le (by rw [List.length_cons, hlz, hl]; omega)]
    simp
  go_simp
theorem buildS_wr {w : World} {ρ : Operand → Value} {d : Option Tmp} {x : Operand} {t : TypeId} {p : String} {af : Array Edge} {gd : Option (Nat × Bool)} (i : Int) (b : List UInt8) (hb : b.length = 128) (hx : ρ x = .agg (.int .i64 i :: bvs b).toArray) :
    (execOp ρ { dst := d, op := .buildSlice 105 1 #[(0, x)], type := t, pos := p, after := af, guard := gd }).run Try.prog w = .ok (.value (.slice (some ⟨w.heap.size, 0, none⟩) 1 1)) (w.alloc (.cells (.int .i64 i :: bvs b).toArray 112)) := by
  have hl : (bvs b).length = 128 := by rw [bvs_length, hb]
  obtain ⟨L, hL⟩ : ∃ L : List Value, .int .i64 i :: bvs b = L := ⟨_, rfl⟩
  have hLl : L.length = 129 := by rw [← hL, List.length_cons, hl]
  rw [hL] at hx ⊢
  clear hL
  go_simp
  exact congrArg (fun c => w.alloc (.cells c 112)) (foldl_full L _ (by rw [hLl]; rfl))
theorem winfo : (Try.prog.info? 112).map (fun i => (i.zero, i.size, i.bytes)) = some (some (.agg Try.zeroCells112), 129, 136) := by kernel_rfl
theorem wp_appW {w : World} {o : Oper} {a : Act} {K : Act → World → Prop} {Q : Exit → Act → World → Prop} (s x : Operand)
    (ho : o.op = .call { callee := .builtin .append, args := #[s, x], argTypes := #[105, 105] })
    (base : Nat) (A : Option Addr) (n c : Nat) (xs : List Value) (hs : a.eval s = .slice A n c) (hown : w.ownsRow base 112 129 (.slice A n c) n xs)
    (i : Int) (b : List UInt8) (hb : b.length = 128) (g : Nat) (hx : a.eval x = .slice (some ⟨g, 0, none⟩) 1 1) (hB : Blk w g 112 (.int .i64 i :: bvs b).toArray) (hn : n < 1000000000) (hbase : base ≤ w.heap.size)
    (h : ∀ A2 c2 w2, w2.ownsRow base 112 129 (.slice A2 (n + 1) c2) (n + 1) (xs ++ .int .i64 i :: bvs b) → Grew w w2 A A2 → K (a.put o.dst (.slice A2 (n + 1) c2)) w2) :
    o.wp Try.prog a w K Q := by
  obtain ⟨i0, hi, hz0, hz1, hz2⟩ := info_parts winfo
  have hr : Reads w w.heap.size 129 (some ⟨g, 0, none⟩) 1 (.int .i64 i :: bvs b) := by
    refine ⟨by rw [List.length_cons, bvs_length, hb], fun _ => ⟨_, rfl, hB.lt, fun j u hu => ?_⟩⟩
    have := hB.cell j
    rw [show (⟨g, 0, none⟩ : Addr).add j = ⟨g, j, none⟩ by unfold Addr.add; split <;> simp_all, this, List.getElem?_toArray]
    exact hu
  obtain ⟨A2, c2, w2, hrun, h2, h3, h4⟩ := run_append_reads (P := Try.prog) w base 105 o.type 112 i0 _ 129 136 Try.underlying105 hi hz0 hz1 hz2 (by kernel_rfl) (by omega) A n c xs hown w.heap.size _ 1 1 (.int .i64 i :: bvs b) hr (by
    intro u hu
    rcases List.mem_cons.1 hu with rfl | hu
    · rfl
    · exact bvs_one _ u hu) (by simp only [maxLen]; omega) (by omega) hbase
  unfold Oper.wp
  simp only [execOp, ho, resolve, invoke, builtin, Sem.run_bind, Sem.run_pure, Result.andThen_ok, List.map_toArray, List.map_cons, List.map_nil, hs, hx, hrun]
  exact h _ _ _ h2 ⟨h3, h4.imp id fun h => ⟨_, h, Nat.le_refl _, (h2.lt _ (by cases A2 <;> simp_all [Value.ownBlock])).2⟩⟩
theorem wp_runO {P : Program} {w w' : World} {o : Oper} {a : Act} {K : Act → World → Prop} {Q : Exit → Act → World → Prop} (v : Value) (hr : (execOp a.eval o).run P w = .ok (.value v) w') (h : K (a.put o.dst v) w') : o.wp P a w K Q := by
  unfold Oper.wp
  rw [hr]
  exact h
/-- A disk whose block holds another row of loose writes. -/
theorem DiskAt.put {w : World} {base : Nat} {l : DL} {d : DS} {f : Int → Value} {A2 : Option Addr} {c2 : Nat} {a : Int} {b : List UInt8}
    (hB : Blk w l.g 107 #[.map (some l.gs), .map (some l.gn), .slice A2 (d.loose.length + 1) c2, .bool d.off, .int .i64 d.fuse])
    (hS : MapV (secV zsec) w l.gs (fun a => secV (d.sure a))) (hM : MapV (secV zsec) w l.gn f) (hf : ∀ q, f q = secV ((putD d a b).now q))
    (hR : w.ownsRow base 112 129 (.slice A2 (d.loose.length + 1) c2) (d.loose.length + 1) (looseC d.loose ++ .int .i64 a :: bvs b))
    (ne1 : l.g ≠ l.gs) (ne2 : l.g ≠ l.gn) (ne3 : l.gs ≠ l.gn) (rg : A2.map (·.block) ≠ some l.g) (rs : A2.map (·.block) ≠ some l.gs) (rn : A2.map (·.block) ≠ some l.gn) (bg : base ≤ l.g) (bs : base ≤ l.gs) (bn : base ≤ l.gn) (ok : DOk (putD d a b)) :
    DiskAt w base { l with A := A2, c := c2 } (putD d a b) := by
  have hlen : (putD d a b).loose.length = d.loose.length + 1 := by simp [putD]
  have hlc : looseC (putD d a b).loose = looseC d.loose ++ .int .i64 a :: bvs b := by simp [putD, looseC]
  exact ⟨by rw [hlen]; exact hB, hS, hM.ext hf, by rw [hlen, hlc]; exact hR, ne1, ne2, ne3, rg, rs, rn, bg, bs, bn, ok⟩
end Go.Proofs.Ytmjdfajdompkeaa
namespace Go.Proofs.Ytmjdfajdompkeaa
open Go.RowKit Go.Rat
set_option maxRecDepth 20000 in
set_option maxHeartbeats 4000000 in
theorem dwrite_any (w : World) (base : Nat) (l : DL) (d : DS) (h : DiskAt w base l d) (hbase : base ≤ w.heap.size) (a : Int) (b : List UInt8) (hb : b.length = 128) (hlo : d.loose.length < 1000000000) :
    Calls Try.prog 21 #[.pointer (some ⟨l.g, 0, none⟩), .int .i64 a, .agg (bvs b).toArray] w fun e w' => ∃ l', e = .returned (.int .i64 (writeE d a)) ∧ DiskAt w' base l' (writeD d a b) ∧ Moved w w' l l' := by
  have hB0 := Blk.new w 28 (bvs b).toArray
  have hb1 := below_alloc w (.cells (bvs b).toArray 28)
  have hbs : (bvs b).toArray.size = 128 := by rw [bvs_size, hb]
  have h1 := h.below hb1
  have hgw := h.blk.lt
  go_enter Try.func21, Try.ntmps21
  go_upto_region 1 with (fail)
  generalize w.alloc (.cells (bvs b).toArray 28) = w1 at *
  by_cases hr : readyE d.off a = 0
  · obtain ⟨hoff, hra⟩ := readyE_zero hr
    have HR := Lib.hid hr
    go_upto_region 4 with (go_at_call 57; refine (dready_any _ base l d h1 a).mono ?_; rw [HR.out]; rintro e w2 ⟨rfl, rfl⟩; simp only [])
    have c1 := h1.blk.cell 1
    simp only [List.getElem?_toArray, List.getElem?_cons_zero, List.getElem?_cons_succ] at c1
    refine wp_region_plan [(0, true), (1, true), (2, true), (3, true), (4, true), (5, true), (6, true), (7, false)]
      (fun z => z.cell? ⟨l.g, 1, none⟩ = some (.map (some l.gn)) ∧ Blk z w.heap.size 28 (bvs b).toArray) (by kernel_rfl) (by kernel_rfl) (by kernel_rfl) (by kernel_rfl) (fun _ _ d _ _ h => by cases d <;> exact h) ⟨c1, hB0⟩ ?_
    simp only [planOps, List.getElem?_toArray, List.getElem?_cons_zero, List.getElem?_cons_succ]
    repeat (first
      | (refine wpS_skip (by rfl) ?_; simp only [Act.put, List.setIfInBounds_toArray, List.set_cons_zero, List.set_cons_succ])
      | (refine wpS_q ?_ (by rfl) ?_ ?_; rotate_left; (focus (intro z hz; (try dsimp only at hz); go_simp; rfl)); simp only [Act.put, List.setIfInBounds_toArray, List.set_cons_zero, List.set_cons_succ]))
    refine wpS_q (.agg (bvs b).toArray) (by rfl) (fun z hz => load_row_run rfl w.heap.size (bvs b).toArray Try.underlying28 rfl i128 hz.2 hbs rfl) ?_
    simp only [Act.put, List.setIfInBounds_toArray, List.set_cons_zero, List.set_cons_succ]
    refine wpS_q (.agg (secL ⟨b, false⟩).toArray) (by rfl) (fun z _ => build_sec b hb rfl) ?_
    simp only [Act.put, List.setIfInBounds_toArray, List.set_cons_zero, List.set_cons_succ]
    refine wpS_l (by rfl) (fun K hK => ?_)
    refine wp_mapStore _ _ _ rfl (h1.now.below drew_below h1.now.lt) Try.underlying3 Try.underlying104 a (wf64 hra) (.agg (secL ⟨b, false⟩).toArray) rfl rfl rfl ?_
    intro w3 hM3 hg3
    have hB1 : Blk w1.drew w.heap.size 28 (bvs b).toArray := hB0
    have hB3 := hB1.grown hg3 (by intro e; injection e with e; have := h.now.lt; omega)
    have hD3 := (Blk.below (w := w1) h1.blk drew_below h1.blk.lt).grown hg3 (by intro e; injection e with e; exact h.ne2 e)
    have c13 := hD3.cell 1
    have c23 := hD3.cell 2
    have f23 := hD3.frozen 2
    simp only [List.getElem?_toArray, List.getElem?_cons_zero, List.getElem?_cons_succ] at c13 c23
    refine hK _ _ (fun z => z.cell? ⟨l.g, 1, none⟩ = some (.map (some l.gn)) ∧ Blk z w.heap.size 28 (bvs b).toArray) ⟨c13, hB3⟩ (fun _ h => h) ?_
    clear hK c1 c13
    refine wpS_nil ?_
    have hS3 := (h1.sure.below drew_below h1.sure.lt).grown hg3 (by intro e; injection e with e; exact h.ne3 e)
    have hR3 : w3.ownsRow base 112 129 (.slice l.A d.loose.length l.c) d.loose.length (looseC d.loose) := (Chg.of_grown (F := fun x => x = l.gn) hg3 rfl).own (w := w1.drew) h1.row (fun x hx e => h.rn (by rw [hx, e]))
    have hc3 : Chg l.fp w w3 := (Chg.of_below l.fp hb1).trans ((Chg.of_below l.fp (drew_below (w := w1))).trans (Chg.of_grown (F := l.fp) hg3 (.inr (.inr (.inl rfl)))) (fun x hx => .inl hx)) (fun x hx => .inl hx)
    clear hg3 hb1 hB0 h1
    go_wp2_with fail
    refine wp_region_barb [(0, 0), (1, 0), (2, 0), (3, 0), (4, 1), (5, 0), (6, 0), (7, 0), (8, 2)] 9 [(10, true), (11, true), (12, false)] (fun z => Blk z w.heap.size 28 (bvs b).toArray) (fun z => z.cell? ⟨l.g, 2, none⟩ = some (.slice l.A d.loose.length l.c)) _ (by rfl) (by kernel_rfl) (by kernel_rfl) (by kernel_rfl) (by kernel_rfl) (fun _ _ d _ _ h => by cases d <;> exact h) hB3 c23 ?_
    simp only [planOpsN, List.getElem?_toArray, List.getElem?_cons_zero, List.getElem?_cons_succ]
    iterate 4 (refine wpC_0 ?_ (by rfl) ?_ ?_; rotate_left; (focus (intro z hz; (try dsimp only at hz); go_simp; rfl)); simp only [Act.put, List.setIfInBounds_toArray, List.set_cons_zero, List.set_cons_succ])
    refine wpC_1 (.slice l.A d.loose.length l.c) (by rfl) (fun z hz => by go_simp) ?_
    simp only [Act.put, List.setIfInBounds_toArray, List.set_cons_zero, List.set_cons_succ]
    iterate 1 (refine wpC_0 ?_ (by rfl) ?_ ?_; rotate_left; (focus (intro z hz; (try dsimp only at hz); go_simp; rfl)); simp only [Act.put, List.setIfInBounds_toArray, List.set_cons_zero, List.set_cons_succ])
    refine wpC_0 (.agg (bvs b).toArray) (by rfl) (fun z hz => load_row_run rfl w.heap.size (bvs b).toArray Try.underlying28 rfl i128 hz hbs rfl) ?_
    simp only [Act.put, List.setIfInBounds_toArray, List.set_cons_zero, List.set_cons_succ]
    refine wpC_0 (.agg (.int .i64 a :: bvs b).toArray) (by rfl) (fun z _ => build_wr a b hb rfl rfl) ?_
    simp only [Act.put, List.setIfInBounds_toArray, List.set_cons_zero, List.set_cons_succ]
    refine wpC_2 (by rfl) (fun K hK => ?_)
    refine wp_runO _ (buildS_wr a b hb rfl) ?_
    simp only [Act.put, List.setIfInBounds_toArray, List.set_cons_zero, List.set_cons_succ]
    have hB4 : Blk (w3.drew.alloc (.cells (.int .i64 a :: bvs b).toArray 112)) w.heap.size 28 (bvs b).toArray := Blk.alloc (w := w3.drew) hB3 _
    have hD4 := Blk.alloc (w := w3.drew) hD3 (.cells (.int .i64 a :: bvs b).toArray 112)
    have c24 := hD4.cell 2
    simp only [List.getElem?_toArray, List.getElem?_cons_zero, List.getElem?_cons_succ] at c24
    have hW4 := Blk.new w3.drew 112 (.int .i64 a :: bvs b).toArray
    have hR4 := World.ownsRow.alloc (w := w3.drew) hR3 (.cells (.int .i64 a :: bvs b).toArray 112)
    have hS4 := MapV.grown (w := w3.drew) hS3 (World.grownBy_alloc w3.drew (.cells (.int .i64 a :: bvs b).toArray 112) none) (by simp)
    have hM4 := MapV.grown (w := w3.drew) hM3 (World.grownBy_alloc w3.drew (.cells (.int .i64 a :: bvs b).toArray 112) none) (by simp)
    have hc4 : Chg l.fp w (w3.drew.alloc (.cells (.int .i64 a :: bvs b).toArray 112)) := hc3.trans (Chg.of_below l.fp ((drew_below (w := w3)).alloc (Nat.le_refl _) _)) (fun x hx => .inl hx)
    have hbs4 := hc4.size
    refine hK _ _ hB4 c24 ?_
    clear hK hB3 c23 f23 hD3 hR3 hS3 hM3 hc3
    generalize w3.drew.alloc (.cells (.int .i64 a :: bvs b).toArray 112) = w4 at *
    generalize w3.drew.heap.size = g4 at *
    refine wpC_nil ⟨by rfl, ?_⟩
    refine wp_appW _ _ (by rfl) base l.A d.loose.length l.c (looseC d.loose) (by rfl) hR4 a b hb g4 (by rfl) hW4 hlo (by omega) ?_
    intro A2 c2 w5 hR5 hG5
    have hlA : ∀ g, l.A.map (·.block) = some g → g < w.heap.size := fun g hg => (h.fp_lt (.inr (.inr (.inr hg)))).2
    have hB5 := hB4.grown hG5.grown (by intro e; have := hlA _ e.symm; omega)
    have hD5 := hD4.grown hG5.grown (fun e => h.rg e.symm)
    have hS5 := hS4.grown hG5.grown (fun e => h.rs e.symm)
    have hM5 := hM4.grown hG5.grown (fun e => h.rn e.symm)
    have hc5 : Chg l.fp w w5 := hc4.trans (Chg.of_grown' (F := l.fp) hG5.grown (fun g hg => .inr (.inr (.inr hg)))) (fun x hx => .inl hx)
    have hA2 : ∀ g, A2.map (·.block) = some g → l.A.map (·.block) = some g ∨ w.heap.size ≤ g := fun g hg => by
      rcases hG5.lies with h1 | ⟨g', h1, h2, _⟩
      · exact .inl (h1 ▸ hg)
      · rw [h1] at hg
        cases hg
        exact .inr (by omega)
    have c25 := hD5.cell 2
    have f25 := hD5.frozen 2
    simp only [List.getElem?_toArray, List.getElem?_cons_zero, List.getElem?_cons_succ] at c25
    refine ⟨fun z => Blk z w.heap.size 28 (bvs b).toArray, hB5, fun _ h => h, ?_⟩
    clear hB4 hD4 hS4 hM4 hR4 hW4 hG5 hc4 hbs4 c24
    simp only [planOps, List.getElem?_toArray, List.getElem?_cons_zero, List.getElem?_cons_succ]
    iterate 2 (refine wpS_q ?_ (by rfl) ?_ ?_; rotate_left; (focus (intro z hz; (try dsimp only at hz); go_simp; rfl)))
    simp only [Act.put, List.setIfInBounds_toArray]
    refine wpS_l (by rfl) (fun K hK => ?_)
    go_wp2_with fail
    have hg6 := grownBy_set w5 l.g 2 (.slice A2 (d.loose.length + 1) c2)
    have hB6 := hB5.grown hg6 (by intro e; injection e with e; omega)
    have hD6 := hD5.set_ 2 (.slice A2 (d.loose.length + 1) c2)
    simp only [List.setIfInBounds_toArray, List.set_cons_zero, List.set_cons_succ] at hD6
    have hS6 := hS5.grown hg6 (by intro e; injection e with e; exact h.ne1 e.symm)
    have hM6 := hM5.grown hg6 (by intro e; injection e with e; exact h.ne2 e.symm)
    have hne : ∀ x, A2.map (·.block) = some x → l.A.map (·.block) ≠ some x → w.heap.size ≤ x := fun x hx hn => (hA2 x hx).resolve_left hn
    have hrg : A2.map (·.block) ≠ some l.g := fun e => by have := hne _ e h.rg; omega
    have hrs : A2.map (·.block) ≠ some l.gs := fun e => by have := hne _ e h.rs; have := h.sure.lt; omega
    have hrn : A2.map (·.block) ≠ some l.gn := fun e => by have := hne _ e h.rn; have := h.now.lt; omega
    have hR6 := (Chg.of_grown (F := fun x => x = l.g) hg6 rfl).own hR5 (fun x hx e => hrg (by rw [hx, e]))
    have hc6 : Chg l.fp w (w5.setCell ⟨l.g, 2, none⟩ (.slice A2 (d.loose.length + 1) c2)) := hc5.trans (Chg.of_grown (F := l.fp) hg6 (.inl rfl)) (fun x hx => .inl hx)
    refine hK _ _ (fun z => Blk z w.heap.size 28 (bvs b).toArray) hB6 (fun _ h => h) ?_
    clear hK hB5 hD5 hS5 hM5 hR5 hc5 c25 f25 hg6
    refine wpS_nil ?_
    generalize w5.setCell ⟨l.g, 2, none⟩ (.slice A2 (d.loose.length + 1) c2) = w6 at *
    have hfin : DiskAt w6 base { l with A := A2, c := c2 } (putD d a b) := DiskAt.put hD6 hS6 hM6 (fun q => by
      show (if q = a then _ else _) = secV (if q = a then _ else _)
      split <;> rfl) hR6 h.ne1 h.ne2 h.ne3 hrg hrs hrn h.bg h.bs h.bn (putD_ok h.ok hra hb)
    have hwD : writeD d a b = burnD (putD d a b) := by rw [writeD, if_pos hr]
    have hwE : writeE d a = if burnB (putD d a b) = true then 8 else 0 := by rw [writeE, if_pos hr]; rfl
    have hmv : Moved w w6 l { l with A := A2, c := c2 } := ⟨rfl, hc6, fun x hx => by
      rcases hx with hx | hx | hx | hx
      · exact .inl (.inl hx)
      · exact .inl (.inr (.inl hx))
      · exact .inl (.inr (.inr (.inl hx)))
      · rcases hA2 x hx with h1 | h1
        · exact .inl (.inr (.inr (.inr h1)))
        · exact .inr h1⟩
    obtain ⟨v, hv⟩ : ∃ v, burnB (putD d a b) = v := ⟨_, rfl⟩
    rw [hv] at hwE
    have HV := Lib.hid hv
    have HWD := Lib.hid hwD
    have HWE := Lib.hid hwE
    clear hwD hwE hv hr hoff hD6 hS6 hM6 hR6 hc6 hB6 hne hrg hrs hrn hA2 hlA hB1
    cases v
    all_goals
      go_wp2_with (go_at_call 58; refine (dburns_any w6 base { l with A := A2, c := c2 } (putD d a b) hfin).mono ?_; rw [HV.out]; rintro e w7 ⟨rfl, hD7, hg7⟩)
      go_ret
      exact ⟨_, by rw [HWE.out]; rfl, by rw [HWD.out]; exact hD7, hmv.trans (Moved.of_grown hg7)⟩
  · have hwD : writeD d a b = d := by rw [writeD, if_neg hr]
    have hwE : writeE d a = readyE d.off a := by rw [writeE, if_neg hr]
    obtain ⟨E, hE⟩ : ∃ E, readyE d.off a = E := ⟨_, rfl⟩
    rw [hE] at hr hwE
    have hr' : (E != 0) = true := by simpa using hr
    have HE := Lib.hid hE
    have HWD := Lib.hid hwD
    have HWE := Lib.hid hwE
    clear hE hwD hwE
    go_wp2_with (go_at_call 57; refine (dready_any _ base l d h1 a).mono ?_; rw [HE.out]; rintro e w2 ⟨rfl, rfl⟩)
    go_ret
    exact ⟨l, by rw [HWE.out]; rfl, by rw [HWD.out]; exact h1, Moved.of_below hb1⟩
end Go.Proofs.Ytmjdfajdompkeaa
namespace Go.Proofs.Ytmjdfajdompkeaa
open Go.RowKit Go.Rat
def upd (f : Int → Sec) (a : Int) (s : Sec) : Int → Sec := fun x => if x = a then s else f x
/-- What Sync makes sure: of each loose write's sector what is there now. -/
def syncF (now : Int → Sec) : List (Int × List UInt8) → (Int → Sec) → (Int → Sec)
  | [], f => f
  | x :: r, f => syncF now r (upd f x.1 (now x.1))
def syncD (d : DS) : DS := { d with sure := syncF d.now d.loose d.sure, loose := [] }
/-- What is picked of a loose write: 0 nothing, 1 and 3 itself, 2 lost. -/
def pickF (f : Int → Sec) (x : Int × List UInt8) (p : Nat) : Int → Sec :=
  if p % 4 = 0 then f else if p % 4 = 2 then upd f x.1 ⟨zs, true⟩ else upd f x.1 ⟨x.2, false⟩
def picksF : List (Int × List UInt8) → Nat → List UInt8 → (Int → Sec) → (Int → Sec)
  | [], _, _, f => f
  | x :: r, i, ps, f => picksF r (i + 1) ps (pickF f x (ps.getD i 0).toNat)
def onD (d : DS) (ps : List UInt8) : DS :=
  { d with sure := picksF d.loose 0 ps d.sure, now := syncF (picksF d.loose 0 ps d.sure) d.loose d.now, loose := [], off := false, fuse := -1 }
theorem syncF_snoc (now : Int → Sec) (l : List (Int × List UInt8)) (x : Int × List UInt8) : ∀ f, syncF now (l ++ [x]) f = upd (syncF now l f) x.1 (now x.1) := by
  induction l with
  | nil => intro f; rfl
  | cons y l ih => intro f; exact ih _
theorem picksF_snoc (l : List (Int × List UInt8)) (x : Int × List UInt8) (ps : List UInt8) : ∀ i f, picksF (l ++ [x]) i ps f = pickF (picksF l i ps f) x (ps.getD (i + l.length) 0).toNat := by
  induction l with
  | nil => intro i f; rfl
  | cons y l ih =>
    intro i f
    simp only [List.cons_append, picksF, ih, List.length_cons]
    rw [show i + 1 + l.length = i + (l.length + 1) by omega]
theorem upd_len {f : Int → Sec} (h : ∀ a, (f a).b.length = 128) {s : Sec} (hs : s.b.length = 128) (a : Int) : ∀ x, (upd f a s x).b.length = 128 := by
  intro x
  unfold upd
  split
  · exact hs
  · exact h x
theorem syncF_len {now : Int → Sec} (hn : ∀ a, (now a).b.length = 128) (l : List (Int × List UInt8)) : ∀ f : Int → Sec, (∀ a, (f a).b.length = 128) → ∀ x, (syncF now l f x).b.length = 128 := by
  induction l with
  | nil => intro f h; exact h
  | cons y l ih => intro f h; exact ih _ (upd_len h (hn _) _)
theorem pickF_len {f : Int → Sec} (h : ∀ a, (f a).b.length = 128) {x : Int × List UInt8} (hx : x.2.length = 128) (p : Nat) : ∀ a, (pickF f x p a).b.length = 128 := by
  unfold pickF
  split
  · exact h
  · split
    · exact upd_len h zs_length _
    · exact upd_len h hx _
theorem picksF_len (l : List (Int × List UInt8)) (ps : List UInt8) : (∀ x ∈ l, x.2.length = 128) → ∀ i (f : Int → Sec), (∀ a, (f a).b.length = 128) → ∀ x, (picksF l i ps f x).b.length = 128 := by
  induction l with
  | nil => intro _ i f h; exact h
  | cons y l ih => intro hl i f h; exact ih (fun x hx => hl x (by simp [hx])) _ _ (pickF_len h (hl y (by simp)) _)
theorem syncD_ok {d : DS} (h : DOk d) : DOk (syncD d) := ⟨syncF_len h.now _ _ h.sure, h.now, by simp [syncD], h.fuse⟩
theorem onD_ok {d : DS} (h : DOk d) (ps : List UInt8) : DOk (onD d ps) :=
  ⟨picksF_len _ _ (fun x hx => (h.loose x hx).2) _ _ h.sure, syncF_len (picksF_len _ _ (fun x hx => (h.loose x hx).2) _ _ h.sure) _ _ h.now, by simp [onD], by simp [onD]⟩
/-- The cells of the k-th loose write. -/
theorem looseC_at (l : List (Int × List UInt8)) (hl : ∀ x ∈ l, x.2.length = 128) : ∀ k, (hk : k < l.length) → ((looseC l).drop (k * 129)).take 129 = .int .i64 l[k].1 :: bvs l[k].2 := by
  induction l with
  | nil => intro k hk; simp at hk
  | cons x l ih =>
    intro k hk
    have hx : (Value.int .i64 x.1 :: bvs x.2).length = 129 := by rw [List.length_cons, bvs_length, hl x (by simp)]
    have hc : looseC (x :: l) = (.int .i64 x.1 :: bvs x.2) ++ looseC l := by simp [looseC]
    cases k with
    | zero => rw [hc, Nat.zero_mul, List.drop_zero, ← hx, List.take_left]; rfl
    | succ k =>
      rw [hc, show (k + 1) * 129 = (Value.int .i64 x.1 :: bvs x.2).length + k * 129 by rw [hx]; omega, List.drop_append]
      rw [List.drop_of_length_le (by omega), List.nil_append, Nat.add_sub_cancel_left]
      exact ih (fun x hx => hl x (by simp [hx])) k (by simpa using hk)
section
variable {w w' : World} {base : Nat} {l : DL} {d : DS}
theorem DiskAt.setSure (h : DiskAt w base l d) (hg : w.grownBy w' (some l.gs)) {f : Int → Sec} (hM : MapV (secV zsec) w' l.gs (fun a => secV (f a))) (hf : ∀ a, (f a).b.length = 128) : DiskAt w' base l { d with sure := f } :=
  ⟨h.blk.grown hg (by intro e; injection e with e; exact h.ne1 e), hM, h.now.grown hg (by intro e; injection e with e; exact h.ne3 e.symm),
    (Chg.of_grown (F := fun x => x = l.gs) hg rfl).own h.row (fun x hx e => h.rs (by rw [hx, e])), h.ne1, h.ne2, h.ne3, h.rg, h.rs, h.rn, h.bg, h.bs, h.bn, ⟨hf, h.ok.now, h.ok.loose, h.ok.fuse⟩⟩
theorem DiskAt.setNow (h : DiskAt w base l d) (hg : w.grownBy w' (some l.gn)) {f : Int → Sec} (hM : MapV (secV zsec) w' l.gn (fun a => secV (f a))) (hf : ∀ a, (f a).b.length = 128) : DiskAt w' base l { d with now := f } :=
  ⟨h.blk.grown hg (by intro e; injection e with e; exact h.ne2 e), h.sure.grown hg (by intro e; injection e with e; exact h.ne3 e), hM,
    (Chg.of_grown (F := fun x => x = l.gn) hg rfl).own h.row (fun x hx e => h.rn (by rw [hx, e])), h.ne1, h.ne2, h.ne3, h.rg, h.rs, h.rn, h.bg, h.bs, h.bn, ⟨h.ok.sure, hf, h.ok.loose, h.ok.fuse⟩⟩
theorem DiskAt.clear (h : DiskAt w base l d) (off : Bool) (fuse : Int) (hf : -1 ≤ fuse ∧ fuse ≤ 9223372036854775807) (hg : w.grownBy w' (some l.g))
    (hB : Blk w' l.g 107 #[.map (some l.gs), .map (some l.gn), .slice none 0 0, .bool off, .int .i64 fuse]) : DiskAt w' base { l with A := none, c := 0 } { d with loose := [], off := off, fuse := fuse } :=
  ⟨hB, h.sure.grown hg (by intro e; injection e with e; exact h.ne1 e.symm), h.now.grown hg (by intro e; injection e with e; exact h.ne2 e.symm), World.ownsRow_nil _ _ _ _,
    h.ne1, h.ne2, h.ne3, by simp, by simp, by simp, h.bg, h.bs, h.bn, ⟨h.ok.sure, h.ok.now, by simp, hf⟩⟩
/-- The block of the loose writes, and where the k-th lies. -/
theorem DiskAt.loose_at (h : DiskAt w base l d) {k : Nat} (hk : k < d.loose.length) : ∃ (g : Nat) (L : List Value), l.A = some ⟨g, 0, none⟩ ∧ Blk w g 112 L.toArray ∧ (L.drop (k * 129)).take 129 = .int .i64 d.loose[k].1 :: bvs d.loose[k].2 ∧ g ≠ l.g ∧ g ≠ l.gs ∧ g ≠ l.gn := by
  rcases h.row.2 with ⟨h1, h2⟩ | ⟨g, cap, cur, hv, hb, hg, hnc, hm, hcs, ht⟩
  · omega
  · injection hv with h3 h4 h5
    refine ⟨g, cur.toList, h3, hg, ?_, fun e => h.rg (by rw [h3, ← e]; rfl), fun e => h.rs (by rw [h3, ← e]; rfl), fun e => h.rn (by rw [h3, ← e]; rfl)⟩
    have := looseC_at d.loose (fun x hx => (h.ok.loose x hx).2) k hk
    have hle : (k + 1) * 129 ≤ d.loose.length * 129 := Nat.mul_le_mul_right _ hk
    rw [← ht, List.drop_take, List.take_take, Nat.min_eq_left (by omega)] at this
    exact this
end
theorem look_run {P : Program} {w : World} {ρ : Operand → Value} {d : Option Tmp} {m x : Operand} {t k e ty : TypeId} {p : String} {af : Array Edge} {gd : Option (Nat × Bool)} {z : Value} {b : Nat} {f : Int → Value} (h : MapV z w b f) (hk : P.underlying k = some (.int .i64)) (ht : P.underlying t = some (.map k e)) (hz : (zeroValue e).run P w = .ok z w) (i : Int) (hi : (Lit.int .i64 i).wf = true)
    (hm : ρ m = .map (some b)) (hx : ρ x = .int .i64 i) : (execOp ρ { dst := d, op := .lookup t m x false, type := ty, pos := p, after := af, guard := gd }).run P w = .ok (.value (f i)) w := by
  have hr := h.look hk ht hz i hi
  simp only [execOp, hm, hx, Sem.run_bind, Sem.run_pure, Result.andThen_ok, hr]
theorem cells_len {i : Int} {b : List UInt8} (hb : b.length = 128) : (.int .i64 i :: bvs b : List Value).length = 129 := by rw [List.length_cons, bvs_length, hb]
theorem cells_one {i : Int} {b : List UInt8} : (.int .i64 i :: bvs b : List Value).toArray.all (·.oneCell') = true := by simp [bvs, bv, Value.oneCell']
end Go.Proofs.Ytmjdfajdompkeaa
namespace Go.Proofs.Ytmjdfajdompkeaa
open Go.RowKit Go.Rat
/-- What Sync leaves, and answers. -/
def syncAll (d : DS) : DS := if d.off = true then d else if burnB d = true then burnD d else syncD (burnD d)
def syncE (d : DS) : Int := if d.off = true then 8 else if burnB d = true then 8 else 0
set_option maxRecDepth 20000 in
set_option maxHeartbeats 4000000 in
theorem dsync_any (w : World) (base : Nat) (l : DL) (d : DS) (h : DiskAt w base l d) :
    Calls Try.prog 23 #[.pointer (some ⟨l.g, 0, none⟩)] w fun e w' => ∃ l', e = .returned (.int .i64 (syncE d)) ∧ DiskAt w' base l' (syncAll d) ∧ Moved w w' l l' := by
  cases hoff : d.off
  · have hrE : readyE d.off 0 = 0 := by rw [hoff]; exact readyE_ok (by omega)
    obtain ⟨v, hv⟩ : ∃ v, burnB d = v := ⟨_, rfl⟩
    have HV := Lib.hid hv
    cases v
    · have hfin : syncE d = 0 ∧ syncAll d = syncD (burnD d) := by simp [syncE, syncAll, hoff, hv]
      have HFIN := Lib.hid hfin
      have HR := Lib.hid hrE
      clear hfin hrE hv hoff
      go_enter Try.func23, Try.ntmps23
      go_upto_region 6 with (first
        | (go_at_call 57; refine (dready_any _ base l d h 0).mono ?_; rw [HR.out]; rintro e w2 ⟨rfl, rfl⟩; simp only [])
        | (go_at_call 58; refine (dburns_any w base l d h).mono ?_; rw [HV.out]; rintro e w1 ⟨rfl, h1, hg1⟩; simp only []))
      have hmv1 := Moved.of_grown hg1
      clear h hg1 HV HR
      obtain ⟨d1, hd1⟩ : ∃ d1, burnD d = d1 := ⟨_, rfl⟩
      rw [hd1] at h1
      have HD1 := Lib.hid hd1
      clear hd1
      have c2 := h1.blk.cell 2
      simp only [List.getElem?_toArray, List.getElem?_cons_zero, List.getElem?_cons_succ] at c2
      go_wp2_with fail
      go_loopw [18] (fun i wr => ∃ k : Nat, k ≤ d1.loose.length ∧ i = .int .i64 (k : Int) ∧ DiskAt wr base l { d1 with sure := syncF d1.now (d1.loose.take k) d1.sure } ∧ Moved w wr l l) (fun i _ => d1.loose.length - (intOf i).toNat)
      case atStart => exact ⟨0, Nat.zero_le _, rfl, h1, hmv1⟩
      case round =>
        obtain ⟨k, hk, rfl, hk1, hmk⟩ := hrel
        clear h1 c2 hmv1
        by_cases hkl : k < d1.loose.length
        · obtain ⟨g, L, hA, hgB, hgL, hne1, hne2, hne3⟩ := hk1.loose_at hkl
          have hA' : l.A = some ⟨g, 0, none⟩ := hA
          have hx := hk1.ok.loose _ (List.getElem_mem hkl)
          have hstep : syncF d1.now (d1.loose.take (k + 1)) d1.sure = upd (syncF d1.now (d1.loose.take k) d1.sure) d1.loose[k].1 (d1.now d1.loose[k].1) := by
            rw [List.take_add_one, List.getElem?_eq_getElem hkl, Option.toList_some, syncF_snoc]
          have hgL' : (L.drop (k * 129)).take 129 = .int .i64 d1.loose[k].1 :: bvs d1.loose[k].2 := hgL
          generalize d1.loose[k] = x at *
          obtain ⟨i, b⟩ := x
          simp only at hx hstep hgL'
          have HSTEP := Lib.hid hstep
          have HGL := Lib.hid hgL'
          clear hstep hgL hgL'
          have hcl := cells_len (i := i) hx.2
          have hcs : (.int .i64 i :: bvs b : List Value).toArray.size = 129 := by simpa using hcl
          have hcap := own_cap hk1.row
          have hlen : d1.loose.length ≤ 9223372036854775807 := Nat.le_trans hcap.1 hcap.2
          clear hcap
          have g1 : (k : Int) < (d1.loose.length : Int) := by omega
          have g0 : (0 : Int) ≤ (k : Int) := by omega
          clear hA'
          repeat (first
            | ((with_reducible refine wpl_load_mid g (k * 129) L (.int .i64 i :: bvs b) Try.underlying112 rfl w129 hgB HGL.out hcl ?_ ?_); (focus rfl); simp only [Act.put, List.setIfInBounds_toArray, List.set_cons_zero, List.set_cons_succ])
            | ((with_reducible refine wpl_store_fresh (.int .i64 i :: bvs b).toArray w129 ?_ hcs cells_one ?_ ?_ ?_); (focus kernel_rfl); (focus rfl); (focus rfl); intro w3 hW3 hl3 hb3; simp only [Act.put])
            | go_values | go_skip | go_guarded | go_step | go_upon | go_back)
          have h3 := hk1.below hb3
          have hw3 := hW3.cell 0
          have c0 := h3.blk.cell 0
          have c1 := h3.blk.cell 1
          simp only [List.getElem?_toArray, List.getElem?_cons_zero, List.getElem?_cons_succ] at c0 c1 hw3
          have hneG : wr.heap.size ≠ l.gs := by have := hk1.sure.lt; omega
          have hm3 : Moved w w3 l l := hmk.trans (Moved.of_below hb3)
          refine wp_region_plan [(0, true), (1, true), (2, true), (3, true), (4, true), (5, true), (6, true), (7, true), (8, true), (9, true), (10, true), (11, true), (12, true), (13, false)]
            (fun z => z.cell? ⟨l.g, 0, none⟩ = some (.map (some l.gs)) ∧ z.cell? ⟨l.g, 1, none⟩ = some (.map (some l.gn)) ∧ z.cell? ⟨wr.heap.size, 0, none⟩ = some (.int .i64 i) ∧ MapV (secV zsec) z l.gn (fun a => secV (d1.now a))) (by kernel_rfl) (by kernel_rfl) (by kernel_rfl) (by kernel_rfl) (fun _ _ d _ _ h => by cases d <;> exact h) ⟨c0, c1, hw3, h3.now.below drew_below h3.now.lt⟩ ?_
          simp only [planOps, List.getElem?_toArray, List.getElem?_cons_zero, List.getElem?_cons_succ]
          iterate 12 (refine wpS_q ?_ (by rfl) ?_ ?_; rotate_left; (focus (intro z hz; (try dsimp only at hz); go_simp; rfl)); simp only [Act.put, List.setIfInBounds_toArray, List.set_cons_zero, List.set_cons_succ])
          refine wpS_q (secV (d1.now i)) (by rfl) (fun z hz => look_run hz.2.2.2 Try.underlying3 Try.underlying104 (zerosec z) i (wf64 hx.1) rfl rfl) ?_
          simp only [Act.put, List.setIfInBounds_toArray, List.set_cons_zero, List.set_cons_succ]
          refine wpS_l (by rfl) (fun K hK => ?_)
          refine wp_mapStore _ _ _ rfl (h3.sure.below drew_below h3.sure.lt) Try.underlying3 Try.underlying104 i (wf64 hx.1) (secV (d1.now i)) rfl rfl rfl ?_
          intro w4 hM4 hg4
          have h3d : DiskAt w3.drew base l { d1 with sure := syncF d1.now (d1.loose.take k) d1.sure } := h3.below drew_below
          have h4 := h3d.setSure hg4 (f := syncF d1.now (d1.loose.take (k + 1)) d1.sure) (hM4.ext (fun q => by
            rw [HSTEP.out]
            show (if q = i then _ else _) = secV (if q = i then _ else _)
            split <;> rfl)) (by rw [HSTEP.out]; exact upd_len h3.ok.sure (h3.ok.now i) i)
          have c04 := h4.blk.cell 0
          have c14 := h4.blk.cell 1
          simp only [List.getElem?_toArray, List.getElem?_cons_zero, List.getElem?_cons_succ] at c04 c14
          have hW4 : w4.cell? ⟨wr.heap.size, 0, none⟩ = some (.int .i64 i) := (World.cell?_of_block (hg4.block wr.heap.size hl3 (by intro e; injection e with e; exact hneG e))).trans hw3
          refine hK _ _ _ ⟨c04, c14, hW4, h4.now⟩ (fun _ h => h) ?_
          clear hK
          refine wpS_nil ?_
          have hm4 : Moved w w4 l l := hm3.trans ⟨rfl, (Chg.of_below l.fp (drew_below (w := w3))).trans (Chg.of_grown (F := l.fp) hg4 (.inr (.inl rfl))) (fun x hx => .inl hx), fun x hx => .inl hx⟩
          clear h3 c0 c1 hw3 hm3 h3d c04 c14 hW4 hg4 hM4 hmk hk1 hgB hb3 hW3
          go_wp2_with fail
          exact ⟨⟨k + 1, by omega, by omega, h4⟩, by simp only [intOf]; omega⟩
        · obtain rfl : k = d1.loose.length := by omega
          rw [List.take_of_length_le (Nat.le_refl _)] at hk1
          have g1 : ¬ (d1.loose.length : Int) < (d1.loose.length : Int) := by omega
          have c2 := hk1.blk.cell 2
          have f2 := hk1.blk.frozen 2
          simp only [List.getElem?_toArray, List.getElem?_cons_zero, List.getElem?_cons_succ] at c2
          have hg := grownBy_set wr l.g 2 (.slice none 0 0)
          have hB := hk1.blk.set_ 2 (.slice none 0 0)
          simp only [List.setIfInBounds_toArray, List.set_cons_zero, List.set_cons_succ] at hB
          have hfin := hk1.clear d1.off d1.fuse hk1.ok.fuse hg hB
          have hmf : Moved w (wr.setCell ⟨l.g, 2, none⟩ (.slice none 0 0)) l { l with A := none, c := 0 } := ⟨rfl, hmk.chg.trans (Chg.of_grown (F := l.fp) hg (.inl rfl)) (fun x hx => .inl hx), fun x hx => by
            rcases hx with hx | hx | hx | hx
            · exact .inl (.inl hx)
            · exact .inl (.inr (.inl hx))
            · exact .inl (.inr (.inr (.inl hx)))
            · cases hx⟩
          clear hk1 hB
          go_wp2_with fail
          go_ret
          exact ⟨by rw [HFIN.out.1]; rfl, { l with A := none, c := 0 }, by rw [HFIN.out.2, HD1.out]; exact hfin, hmf⟩
    · have hfin : syncE d = 8 ∧ syncAll d = burnD d := by simp [syncE, syncAll, hoff, hv]
      have HFIN := Lib.hid hfin
      have HR := Lib.hid hrE
      clear hfin hrE hv hoff
      go_enter Try.func23, Try.ntmps23
      go_wp2_with (first
        | (go_at_call 57; refine (dready_any _ base l d h 0).mono ?_; rw [HR.out]; rintro e w2 ⟨rfl, rfl⟩; simp only [])
        | (go_at_call 58; refine (dburns_any w base l d h).mono ?_; rw [HV.out]; rintro e w1 ⟨rfl, h1, hg1⟩; simp only []))
      go_ret
      exact ⟨l, by rw [HFIN.out.1]; rfl, by rw [HFIN.out.2]; exact h1, Moved.of_grown hg1⟩
  · have hrE : readyE d.off 0 = 8 := by rw [hoff]; rfl
    have hfin : syncE d = 8 ∧ syncAll d = d := by simp [syncE, syncAll, hoff]
    have HFIN := Lib.hid hfin
    have HR := Lib.hid hrE
    clear hfin hrE hoff
    go_enter Try.func23, Try.ntmps23
    go_wp2_with (go_at_call 57; refine (dready_any _ base l d h 0).mono ?_; rw [HR.out]; rintro e w2 ⟨rfl, rfl⟩; simp only [])
    go_ret
    exact ⟨l, by rw [HFIN.out.1]; rfl, by rw [HFIN.out.2]; exact h, Moved.refl _ _⟩
end Go.Proofs.Ytmjdfajdompkeaa
