/- cell: a slot is written. -/
import Derived.Test.YtmjdfajdompkeaaSx
namespace Go.Proofs.Ytmjdfajdompkeaa
open Go.RowKit Go.Rat Go.Shelf
attribute [local go_sem] Oper.semAt_some
def stp (p : Int) (c : Nat) (b : List UInt8) (s : DS × Int) (i : Fin 10) : DS × Int := if s.2 = 0 then (writeD s.1 (p + (i.1 : Int)) (secB c b i.1), writeE s.1 (p + (i.1 : Int))) else s
def wrL (d : DS) (p : Int) (c : Nat) (b : List UInt8) (l : List (Fin 10)) : DS × Int := l.foldl (stp p c b) (d, 0)
theorem wrL_snoc (d : DS) (p : Int) (c : Nat) (b : List UInt8) (l : List (Fin 10)) (i : Fin 10) : wrL d p c b (l ++ [i]) = stp p c b (wrL d p c b l) i := by
  rw [wrL, wrL, List.foldl_append]; rfl
theorem wrL_fr (d : DS) (p : Int) (c : Nat) (b : List UInt8) : ∀ k, k ≤ 10 → wrL d p c b (fr k) = wrS d p c b k
  | 0, _ => rfl
  | k + 1, h => by
    rw [fr, wrL_snoc, wrL_fr d p c b k (by omega), stp, wrS]
    simp only [Nat.mod_eq_of_lt (show k < 10 by omega)]
theorem writeD_loose (d : DS) (a : Int) (b : List UInt8) : (writeD d a b).loose.length ≤ d.loose.length + 1 := by
  unfold writeD burnD
  split
  · split
    · show (d.loose ++ [_]).length ≤ _; simp
    · split
      · show (d.loose ++ [_]).length ≤ _; simp
      · show (d.loose ++ [_]).length ≤ _; simp
  · omega
theorem wrL_loose (d : DS) (p : Int) (c : Nat) (b : List UInt8) (l : List (Fin 10)) : (wrL d p c b l).1.loose.length ≤ d.loose.length + l.length := by
  suffices H : ∀ (l : List (Fin 10)) (s : DS × Int), (l.foldl (stp p c b) s).1.loose.length ≤ s.1.loose.length + l.length from H l (d, 0)
  intro l
  induction l with
  | nil => intro s; exact Nat.le_refl _
  | cons i l ih =>
    intro s
    refine Nat.le_trans (ih _) ?_
    have : (stp p c b s i).1.loose.length ≤ s.1.loose.length + 1 := by
      unfold stp
      split
      · exact writeD_loose _ _ _
      · omega
    rw [List.length_cons]
    omega
/-- What stands between two rounds. -/
structure WInv (w : World) (base : Nat) (l : DL) (p : Int) (which bp bi be N : Nat) (ks : List Nat) (d : DS) (v : Int) (W : World) (l' : DL) : Prop where
  disk : DiskAt W base l' d
  mv : Moved w W l l'
  pl : Blk W bp 119 #[.pointer (some ⟨l.g, 0, none⟩), .int .i64 p]
  wh : Blk W bi 3 #[.int .i64 (which : Int)]
  er : Blk W be 26 #[.int .i64 v]
  out : ∀ k, (k = bp ∨ k = bi ∨ k = be ∨ k ∈ ks) → k < N ∧ ¬ l'.fp k
  size : N ≤ W.heap.size
  ms : l.gs < N
  mn : l.gn < N
  old : w.heap.size ≤ N
section
variable {w : World} {base : Nat} {l : DL} {p : Int} {which bp bi be N : Nat} {ks : List Nat} {d : DS} {v : Int} {W W' : World} {l' l2 : DL}
theorem cells_row {A : Option Addr} {e : TypeId} {size n c : Nat} {xs : List Value} (h : W.ownsRow base e size (.slice A n c) n xs) {k : Nat} (hk : A.map (·.block) = some k) : ∃ cs, W.heap[k]? = some (.cells cs e) := by
  rcases h.2 with ⟨h, _⟩ | ⟨g, cap, cur, hv, _, hg, _⟩
  · injection h with h1 h2 h3
    subst h1
    cases hk
  · injection hv with h1 h2 h3
    subst h1
    cases hk
    exact ⟨cur, hg⟩
theorem WInv.fp_cells (h : WInv w base l p which bp bi be N ks d v W l') {k : Nat} (hk : l'.fp k) : k < N ∨ ∃ cs t, W.heap[k]? = some (.cells cs t) := by
  have e1 := congrArg (fun x => x.2.1) h.mv.g
  have e2 := congrArg (fun x => x.2.2) h.mv.g
  have hs := h.ms
  have hn := h.mn
  rcases hk with rfl | rfl | rfl | hk
  · exact .inr ⟨_, _, h.disk.blk⟩
  · left; simp only at e1; omega
  · left; simp only at e2; omega
  · obtain ⟨cs, hc⟩ := cells_row h.disk.row hk
    exact .inr ⟨cs, _, hc⟩
theorem WInv.step (h : WInv w base l p which bp bi be N ks d v W l') {d2 : DS} (hm : Moved W W' l' l2) (hD : DiskAt W' base l2 d2) : WInv w base l p which bp bi be N ks d2 v W' l2 := by
  have hs := h.size
  refine ⟨hD, h.mv.trans hm, hm.chg.blk h.pl (h.out _ (.inl rfl)).2, hm.chg.blk h.wh (h.out _ (.inr (.inl rfl))).2, hm.chg.blk h.er (h.out _ (.inr (.inr (.inl rfl)))).2, fun k hk => ⟨(h.out k hk).1, fun hf => ?_⟩, Nat.le_trans hs hm.chg.size, h.ms, h.mn, h.old⟩
  rcases hm.fp k hf with h1 | h1
  · exact (h.out k hk).2 h1
  · have := (h.out k hk).1
    omega
theorem WInv.below (h : WInv w base l p which bp bi be N ks d v W l') (hb : Below W.heap.size W W') : WInv w base l p which bp bi be N ks d v W' l' := h.step (Moved.of_below hb) (h.disk.below hb)
theorem WInv.own (h : WInv w base l p which bp bi be N ks d v W l') {row : Option Nat} (hg : W.grownBy W' row) (hr : ∀ r, row = some r → N ≤ r ∧ ∃ o : Obj, W.heap[r]? = some o ∧ o.isCells = false) : WInv w base l p which bp bi be N ks d v W' l' := by
  have nc : ∀ r, row = some r → N ≤ r ∧ ∀ cs t, W.heap[r]? ≠ some (.cells cs t) := fun r e => by
    obtain ⟨h1, o, h2, h3⟩ := hr r e
    refine ⟨h1, fun cs t h4 => ?_⟩
    rw [h2] at h4
    cases h4
    cases h3
  have hch : Chg (fun x => row = some x) W W' := Chg.of_grown' hg (fun g e => e)
  have hB : ∀ {g : Nat} {T : TypeId} {cs : Array Value}, Blk W g T cs → Blk W' g T cs := fun hb => hch.blk hb (fun e => (nc _ e).2 _ _ hb)
  refine ⟨h.disk.kept hch (fun x hx e => ?_), ⟨h.mv.g, ⟨hg.os.trans h.mv.chg.os, hg.tape.trans h.mv.chg.tape, hg.output.trans h.mv.chg.output, Nat.le_trans h.mv.chg.size hg.size, fun k hk hf => (hg.block k (Nat.lt_of_lt_of_le hk h.mv.chg.size) (fun e => ?_)).trans (h.mv.chg.block k hk hf)⟩, h.mv.fp⟩, hB h.pl, hB h.wh, hB h.er, h.out, Nat.le_trans h.size hg.size, h.ms, h.mn, h.old⟩
  · obtain ⟨h1, h2⟩ := nc x e
    rcases h.fp_cells hx with h3 | ⟨cs, t, h3⟩
    · omega
    · exact h2 _ _ h3
  · have := (nc k e.symm).1
    have := h.old
    omega
theorem WInv.keeps (h : WInv w base l p which bp bi be N ks d v W l') (hm : Moved W W' l' l2) : KeepsFrom N W W' :=
  ⟨hm.chg.size, fun k o hk ho hc => (hm.chg.block k (Array.getElem?_eq_some_iff.1 ho).1 (fun hf => by
    rcases h.fp_cells hf with h1 | ⟨cs, t, h1⟩
    · omega
    · rw [h1] at ho
      cases ho
      cases hc)).trans ho⟩
theorem WInv.kps {gc ga gb : Nat} (h : WInv w base l p which bp bi be N [gc, ga, gb] d v W l') (hm : Moved W W' l' l2) : KpS gc ga gb W W' := by
  have hs := h.size
  have f : ∀ k, k ∈ [gc, ga, gb] → W'.heap[k]? = W.heap[k]? := fun k hk => hm.chg.block k (by have := (h.out k (.inr (.inr (.inr hk)))).1; omega) (h.out k (.inr (.inr (.inr hk)))).2
  exact ⟨hm.chg.size, f gc (by simp), f ga (by simp), f gb (by simp)⟩
theorem WInv.setE (h : WInv w base l p which bp bi be N ks d v W l') (hw : w.heap.size ≤ be) (h1 : bp ≠ be) (h2 : bi ≠ be) (u : Int) : WInv w base l p which bp bi be N ks d u (W.setCell ⟨be, 0, none⟩ (.int .i64 u)) l' := by
  have hg := grownBy_set W be 0 (.int .i64 u)
  refine ⟨h.disk.beside hg (h.out _ (.inr (.inr (.inl rfl)))).2, ⟨h.mv.g, ⟨hg.os.trans h.mv.chg.os, hg.tape.trans h.mv.chg.tape, hg.output.trans h.mv.chg.output, Nat.le_trans h.mv.chg.size hg.size, fun k hk hf => (hg.block k (Nat.lt_of_lt_of_le hk h.mv.chg.size) (fun e => by cases e; omega)).trans (h.mv.chg.block k hk hf)⟩, h.mv.fp⟩,
    h.pl.grown hg (fun e => by injection e with e; exact h1 e), h.wh.grown hg (fun e => by injection e with e; exact h2 e), h.er.set_ 0 (.int .i64 u), h.out, Nat.le_trans h.size hg.size, h.ms, h.mn, h.old⟩
end
set_option maxRecDepth 20000 in
set_option maxHeartbeats 4000000 in
theorem cwrite_any (w : World) (base : Nat) (l : DL) (d : DS) (hD : DiskAt w base l d) (g : Nat) (hg : l.g = g) (hbase : base ≤ w.heap.size) (hlo : d.loose.length < 900000000) (p : Int) (which : Nat) (hw : which ≤ 1) (hp : 0 ≤ p ∧ p + 20 ≤ 32768)
    (c : Nat) (hc : c < 2 ^ 64) (A : Option Addr) (n cap : Nat) (b : List UInt8) (hr : RB w A n b) (hn : n ≤ 1100) :
    Calls Try.prog 64 #[.agg #[.pointer (some ⟨g, 0, none⟩), .int .i64 p], .int .i64 (which : Int), .int .u64 (c : Int), .slice A n cap] w fun e w' => ∃ l', e = .returned (.int .i64 (wrS d (p + (which : Int) * 10) c b 10).2) ∧ l'.g = g ∧ DiskAt w' base l' (wrS d (p + (which : Int) * 10) c b 10).1 ∧ Moved w w' l l' := by
  have hxl := hr.len
  refine (callsIn_wide (n := 4)).1 ?_
  refine callsIn_of_wp_marks Try.func64 rfl trivial ?_ rfl
  simp only [Try.ntmps64, List.size_toArray, List.length_cons, List.length_nil, Nat.reduceAdd, Nat.reduceSub, Array.replicate_succ, Array.replicate_zero, List.push_toArray, List.append_toArray, List.nil_append, List.cons_append]
  refine (wpIn_wide (n := 4)).2 ?_
  go_wp2_with fail
  have hP := Blk.new w 119 #[.pointer (some ⟨g, 0, none⟩), .int .i64 p]
  have hb1 := below_alloc w (.cells #[.pointer (some ⟨g, 0, none⟩), .int .i64 p] 119)
  obtain ⟨w1, hw1⟩ : ∃ x, w.alloc (.cells #[.pointer (some ⟨g, 0, none⟩), .int .i64 p] 119) = x := ⟨_, rfl⟩
  rw [hw1] at hP hb1 ⊢
  have hs1 : w1.heap.size = w.heap.size + 1 := by rw [← hw1]; simp
  have hI := Blk.new w1 3 #[.int .i64 (which : Int)]
  have hb2 := below_alloc w1 (.cells #[.int .i64 (which : Int)] 3)
  obtain ⟨w2, hw2⟩ : ∃ x, w1.alloc (.cells #[.int .i64 (which : Int)] 3) = x := ⟨_, rfl⟩
  rw [hw2] at hI hb2 ⊢
  have hs2 : w2.heap.size = w.heap.size + 1 + 1 := by rw [← hw2]; simp; omega
  have hE := Blk.new w2 26 #[.int .i64 0]
  have hb3 := below_alloc w2 (.cells #[.int .i64 0] 26)
  obtain ⟨w3, hw3⟩ : ∃ x, w2.alloc (.cells #[.int .i64 0] 26) = x := ⟨_, rfl⟩
  rw [hw3] at hE hb3 ⊢
  have hs3 : w2.heap.size < w3.heap.size := hE.lt
  have hb02 := hb1.trans (hb2.mono (by omega))
  have hb03 := hb02.trans (hb3.mono (by omega))
  have hP3 := (hP.below hb2 (by omega)).below hb3 (by omega)
  have hI3 := hI.below hb3 (by omega)
  rw [hs1] at hI3
  rw [hs2] at hE hs3
  obtain ⟨bp, hbp⟩ : ∃ x, w.heap.size = x := ⟨_, rfl⟩
  obtain ⟨bi, hbi⟩ : ∃ x, w.heap.size + 1 = x := ⟨_, rfl⟩
  obtain ⟨be, hbe⟩ : ∃ x, w.heap.size + 1 + 1 = x := ⟨_, rfl⟩
  rw [hbe] at hE hs3 ⊢
  rw [hbi] at hI3 ⊢
  rw [hbp] at hP3 ⊢
  have HBP := Lib.hid hbp
  have HBI := Lib.hid hbi
  have HBE := Lib.hid hbe
  have hxx : bp < bi ∧ bi < be ∧ be < w3.heap.size := by omega
  have hr3 := hr.below hb03
  clear hP hI hb1 hb2 hb3 hs1 hs2 hs3 hw1 hw2 hw3 hb02 hbp hbi hbe
  refine (sectors_any w3 c A n cap b hr3 hn).mono ?_
  rintro e w5 ⟨gc, ga, gb, rfl, hS, hgc, hga, hgb, hgb5, hb5⟩
  have hb05 := hb03.trans (hb5.mono (by have := hb03.size; omega))
  have hP5 := hP3.below hb5 hP3.lt
  have hI5 := hI3.below hb5 hI3.lt
  have hE5 := hE.below hb5 hE.lt
  simp only []
  clear hb5 hb03 hP3 hI3 hE hr3
  go_wp2_with fail
  obtain ⟨N, hN⟩ : ∃ N, w5.heap.size = N := ⟨_, rfl⟩
  obtain ⟨q, hq⟩ : ∃ q, p + (which : Int) * 10 = q := ⟨_, rfl⟩
  have hH0 : WInv w base l p which bp bi be N [gc, ga, gb] d 0 w5 l := by
    have hgs := (hD.fp_lt (.inr (.inl rfl))).2
    have hgn := (hD.fp_lt (.inr (.inr (.inl rfl)))).2
    have h1 := HBP.out
    have h2 := hb05.size
    have hcl := hS.cnt.lt
    obtain ⟨cp, hHd, _⟩ := hS.hdr
    have hal := hHd.lt
    refine ⟨hD.below hb05, Moved.of_below hb05, by rw [hg]; exact hP5, hI5, hE5, fun k hk => ⟨?_, fun hf => ?_⟩, by omega, by omega, by omega, by omega⟩
    · have := hE5.lt
      simp at hk
      omega
    · have := (hD.fp_lt hf).2
      simp at hk
      omega
  refine (wpIn_wide (n := 4)).1 ?_
  refine wpIn_rangeFunc_ownH rfl (by omega) (gf := 104) (lb := #[.pointer (some ⟨gc, 0, none⟩), .pointer (some ⟨ga, 0, none⟩)]) rfl trivial (enters_of Try.func104 (by kernel_rfl) rfl)
    (sectors1_stops w5 gc ga gb c b hS (by omega) hc hS.cnt.lt (by obtain ⟨_, h, _⟩ := hS.hdr; exact h.lt) hgb5) (fun h k => h.trans k)
    (fun W l o o' hl h1 h2 h3 => ⟨by simp, ?kc, ?ka, ?kb⟩) (Below.refl _ _) (fun _ => rfl)
    (fun pre W => (wrL d q c b pre).2 = 0 ∧ ∃ l', WInv w base l p which bp bi be N [gc, ga, gb] (wrL d q c b pre).1 0 W l')
    (fun cc pre W => cc = .ret ∧ (wrL d q c b pre).2 ≠ 0 ∧ ∃ l', WInv w base l p which bp bi be N [gc, ga, gb] (wrL d q c b pre).1 (wrL d q c b pre).2 W l')
    ?hI ?hIx ⟨rfl, l, hH0⟩
    (fun x a' W => ∃ B, Blk W B 28 (bvs (secB c b x.1)).toArray ∧ a' = { tmps := #[.agg #[.pointer (some ⟨g, 0, none⟩), .int .i64 p], .int .i64 (which : Int), .int .u64 (c : Int), .slice A n cap, .pointer (some ⟨bp, 0, none⟩), .pointer (some ⟨bi, 0, none⟩), undef, undef, .pointer (some ⟨be, 0, none⟩), .int .i64 (x.1 : Int), .pointer (some ⟨B, 0, none⟩), undef, .int .u64 (c : Int), .slice A n cap, .func (.func 104) #[] #[.pointer (some ⟨gc, 0, none⟩), .pointer (some ⟨ga, 0, none⟩)], .int .i64 (x.1 : Int), .agg (bvs (secB c b x.1)).toArray, undef, undef, undef, undef, undef, undef, undef, undef, undef, undef, undef, undef, undef, undef], defers := [] })
    ?hAx ?assign ?body ?done ?stop
  case kc => exact World.putObj_heap_other (by have := hS.cnt.lt; omega)
  case ka => exact World.putObj_heap_other (by obtain ⟨_, h, _⟩ := hS.hdr; have := h.lt; omega)
  case kb => exact World.putObj_heap_other (by omega)
  case hI => exact fun s A B row ⟨h0, l', hi⟩ hgr hr => ⟨h0, l', hi.own hgr (fun r e => by rw [← hN]; exact hr r e)⟩
  case hIx => exact fun cc s A B row ⟨h0, h1, l', hi⟩ hgr hr => ⟨h0, h1, l', hi.own hgr (fun r e => by rw [← hN]; exact hr r e)⟩
  case hAx =>
    exact fun x a' s A B row ⟨b0, h1, h2⟩ hgr hr => ⟨b0, h1.grown hgr (fun e => by
      obtain ⟨_, o, h3, h4⟩ := hr _ e.symm
      rw [show A.heap[b0]? = _ from h1] at h3
      cases h3
      cases h4), h2⟩
  case assign =>
    rintro lr pre x W K ⟨h0, l', hi⟩ hK
    simp only [encS]
    have hsl := secB_length c (b := b) (by omega) x.2
    have hbs : (bvs (secB c b x.1)).toArray.size = 128 := by rw [bvs_size, hsl]
    clear hD hr hS hb05 hP5 hI5 hE5 hH0
    refine wpIn_seq_k (fun K2 hK2 => ?_)
    refine wpIn_region_of (by rintro ⟨a, w, h⟩; exact h) (by rfl) ?_
    go_wp2_with fail
    refine wpIn_region_of (by rintro ⟨a, w, h⟩; exact h) (by rfl) ?_
    repeat (first | ((with_reducible refine wpl_store_fresh (bvs (secB c b x.1)).toArray i128 ?_ hbs (bvs_all _) ?_ ?_ ?_); (focus kernel_rfl); (focus rfl); (focus rfl); intro w6 hSb hl3 hb; simp only [Act.put]; refine Hid.out ?_) | go_values | go_skip | go_guarded | go_step | go_upon | go_back)
    refine Lib.hid ?_
    have hm := Moved.of_below (l := l') hb
    exact hK _ _ (by rw [hN]; exact hi.keeps hm) (hi.kps hm) ⟨h0, l', hi.below hb⟩ ⟨_, hSb, rfl⟩
  case body =>
    rintro lr pre x a' W hlr ⟨rr, hrr⟩ ⟨h0, l', hi⟩ ⟨B, hB, rfl⟩ hlt
    have hsl := secB_length c (b := b) (by omega) x.2
    have hbs : (bvs (secB c b x.1)).toArray.size = 128 := by rw [bvs_size, hsl]
    have hst : wrL d q c b (pre ++ [x]) = (writeD (wrL d q c b pre).1 (q + (x.1 : Int)) (secB c b x.1), writeE (wrL d q c b pre).1 (q + (x.1 : Int))) := by rw [wrL_snoc, stp, if_pos h0]
    have hlo1 : (wrL d q c b pre).1.loose.length < 1000000000 := by have := wrL_loose d q c b pre; omega
    have hlg : l'.g = g := (congrArg Prod.fst hi.mv.g).trans hg
    have hbase' : base ≤ W.heap.size := Nat.le_trans hbase hi.mv.chg.size
    have c0 := hi.pl.cell 0
    have c1 := hi.pl.cell 1
    have c2 := hi.wh.cell 0
    simp only [List.getElem?_toArray, List.getElem?_cons_zero, List.getElem?_cons_succ] at c0 c1 c2
    rw [hg] at c0
    have hx10 := x.2
    have HST := Lib.hid hst
    have HN := Lib.hid hN
    have hbe : w.heap.size ≤ be ∧ bp ≠ be ∧ bi ≠ be := by have := HBP.out; omega
    obtain ⟨d1, hd1⟩ : ∃ d1, (wrL d q c b pre).1 = d1 := ⟨_, rfl⟩
    rw [hd1] at hi HST hlo1
    obtain ⟨E, hE⟩ : ∃ E, writeE d1 (q + (x.1 : Int)) = E := ⟨_, rfl⟩
    rw [hE] at HST
    have HE := Lib.hid hE
    clear hD hr hS hb05 hP5 hI5 hE5 hH0 hst hN hd1 hE h0 hrr hlr
    refine wpIn_block ?_
    refine wpIn_seq_k (fun K2 hK2 => ?_)
    refine wpIn_region_of (by rintro ⟨a, w, h⟩; exact h) (by rfl) ?_
    repeat (first | ((with_reducible refine wpl_load B _ _ Try.underlying28 i128 hB hbs ?_ ?_); (focus rfl); simp only [Act.put, List.setIfInBounds_toArray, List.set_cons_zero, List.set_cons_succ]) | go_values | go_skip | go_guarded | go_step | go_upon | go_back)
    refine (gwrite _ base g _ _ hi.disk hlg hbase' (q + (x.1 : Int)) (secB c b x.1) hsl hlo1).mono ?_
    rw [HE.out]
    rintro e w6 ⟨l2, rfl, hlg2, hD2, hm⟩
    have hi2 := hi.step hm hD2
    have hkf : KeepsFrom w5.heap.size W w6 := by rw [HN.out]; exact hi.keeps hm
    have hkp := hi.kps hm
    have c3 := hi2.er.cell 0
    have f3 := hi2.er.frozen 0
    simp only [List.getElem?_toArray, List.getElem?_cons_zero] at c3
    simp only []
    clear hm hi hD2 hB c0 c1 c2
    go_wp2_with fail
    refine wpIn_seq_k (fun K3 hK3 => ?_)
    refine wpIn_region_of (by rintro ⟨a, w, h⟩; exact h) (by rfl) ?_
    by_cases hE0 : E = 0
    · subst hE0
      go_wp2_with fail
      refine wpIn_cond_false rfl ?_
      refine wpIn_skip ?_
      exact ⟨hkf, hkp, by rw [HST.out], l2, by rw [HST.out]; exact hi2⟩
    · have hne : (E != 0) = true := by simpa using hE0
      have HE0 := Lib.hid hE0
      clear hE0
      go_wp2_with fail
      refine wpIn_cond_true rfl ?_
      refine wpIn_seq_k (fun K4 hK4 => ?_)
      refine wpIn_region_of (by rintro ⟨a, w, h⟩; exact h) (by rfl) ?_
      go_wp2_with fail
      refine wpIn_ret ?_
      exact ⟨hkf.trans ((KeepsOthers.setCell _ _ _).from _), rfl, by rw [HST.out]; exact HE0.out, l2, by rw [HST.out]; exact hi2.setE hbe.1 hbe.2.1 hbe.2.2 E⟩
  case done =>
    rintro D ys W hDs rfl ⟨h0, l', hi⟩ hKD
    have c3 := hi.er.cell 0
    have f3 := hi.er.frozen 0
    simp only [List.getElem?_toArray, List.getElem?_cons_zero] at c3
    rw [wrL_fr _ _ _ _ _ (Nat.le_refl 10)] at h0 hi
    have hlg : l'.g = g := (congrArg Prod.fst hi.mv.g).trans hg
    clear hD hr hS hb05 hP5 hI5 hE5 hH0
    have hbe : w.heap.size ≤ be ∧ bp ≠ be ∧ bi ≠ be := by have := HBP.out; omega
    have hi2 := hi.setE hbe.1 hbe.2.1 hbe.2.2 0
    have hK' := (KeepsOthers.setCell W ⟨be, 0, none⟩ (.int .i64 0)).same D _ hKD rfl
    have hi3 := hi2.own (grownBy_putObj' _ D (.deferred none)) (fun r e => by cases e; exact ⟨by omega, _, hK', rfl⟩)
    have hc5 := hi3.er.cell 0
    simp only [List.getElem?_toArray, List.getElem?_cons_zero] at hc5
    clear hi hi2
    go_wp2_with fail
    refine ⟨by simp, .inl ⟨_, _, rfl, run_takeDeferred hK', ?_⟩⟩
    refine ⟨.int .i64 0, ?_, l', by rw [hq, h0], hlg, by rw [hq]; exact hi3.disk, hi3.mv⟩
    simp [results, Try.f64, go_sem, hc5]
  case stop =>
    rintro D cc pre W hDs ⟨k, hk, rfl⟩ ⟨rfl, h0, l', hi⟩ hKD
    have hlg : l'.g = g := (congrArg Prod.fst hi.mv.g).trans hg
    rw [wrL_fr _ _ _ _ _ hk] at h0 hi
    have hst := wrS_stop h0 (10 - k)
    rw [show k + (10 - k) = 10 by omega] at hst
    rw [← hst] at hi
    clear hD hr hS hb05 hP5 hI5 hE5 hH0
    have hi3 := hi.own (grownBy_putObj' _ D (.deferred none)) (fun r e => by cases e; exact ⟨by omega, _, hKD, rfl⟩)
    have hc5 := hi3.er.cell 0
    simp only [List.getElem?_toArray, List.getElem?_cons_zero] at hc5
    clear hi
    refine wpIn_ret ?_
    refine ⟨by simp, .inl ⟨_, _, rfl, run_takeDeferred hKD, ?_⟩⟩
    refine ⟨.int .i64 (wrS d q c b 10).2, ?_, l', by rw [hq], hlg, by rw [hq]; exact hi3.disk, hi3.mv⟩
    simp [results, Try.f64, go_sem, hc5]
end Go.Proofs.Ytmjdfajdompkeaa
