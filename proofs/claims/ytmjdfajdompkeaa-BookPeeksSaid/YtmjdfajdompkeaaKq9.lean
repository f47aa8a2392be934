/- cell: a slot is written. -/
import Derived.Test.YtmjdfajdompkeaaKq8
namespace Go.Proofs.Ytmjdfajdompkeaa
open Go.RowKit Go.Rat Go.Shelf
attribute [local go_sem] Oper.semAt_some
def stp (p : Int) (c : Nat) (b : List UInt8) (s : DS × Int) (i : Fin 10) : DS × Int := if s.2 = 0 then (writeD s.1 (p + (i.1 : Int)) (secB c b i.1), writeE s.1 (p + (i.1 : Int))) else s
def wrL (d : DS) (p : Int) (c : Nat) (b : List UInt8) (l : List (Fin 10)) : DS × Int := l.foldl (stp p c b) (d, 0)
theorem wrL_snoc (d : DS) (p : Int) (c : Nat) (b : List UInt8) (l : List (Fin 10)) (i : Fin 10) : wrL d p c b (l ++ [i]) = stp p c b (wrL d p c b l) i := by
  rw [wrL, wrL, List.foldl_append]; rfl
theorem wrL_fr (d : DS) (p : Int) (c : Nat) (b : List UInt8) : ∀ k, k ≤ 10 → wrL d p c b (fr k) = wrS d p c b k
  | 0, _ => rfl
  | k + 1, h => by
    rw [fr, wrL_snoc, wrL_fr d p c b k (by omega), stp, wrS]
    simp only [Nat.mod_eq_of_lt (show k < 10 by omega)]
theorem writeD_loose (d : DS) (a : Int) (b : List UInt8) : (writeD d a b).loose.length ≤ d.loose.length + 1 := by
  unfold writeD burnD
  split
  · split
    · show (d.loose ++ [_]).length ≤ _; simp
    · split
      · show (d.loose ++ [_]).length ≤ _; simp
      · show (d.loose ++ [_]).length ≤ _; simp
  · omega
theorem wrL_loose (d : DS) (p : Int) (c : Nat) (b : List UInt8) (l : List (Fin 10)) : (wrL d p c b l).1.loose.length ≤ d.loose.length + l.length := by
  suffices H : ∀ (l : List (Fin 10)) (s : DS × Int), (l.foldl (stp p c b) s).1.loose.length ≤ s.1.loose.length + l.length from H l (d, 0)
  intro l
  induction l with
  | nil => intro s; exact Nat.le_refl _
  | cons i l ih =>
    intro s
    refine Nat.le_trans (ih _) ?_
    have : (stp p c b s i).1.loose.length ≤ s.1.loose.length + 1 := by
      unfold stp
      split
      · exact writeD_loose _ _ _
      · omega
    rw [List.length_cons]
    omega
/-- What stands between two rounds. -/
structure WInv (w : World) (base : Nat) (l : DL) (p : Int) (which bp bi be N : Nat) (ks : List Nat) (d : DS) (v : Int) (W : World) (l' : DL) : Prop where
  disk : DiskAt W base l' d
  mv : Moved w W l l'
  pl : Blk W bp 119 #[.pointer (some ⟨l.g, 0, none⟩), .int .i64 p]
  wh : Blk W bi 3 #[.int .i64 (which : Int)]
  er : Blk W be 26 #[.int .i64 v]
  out : ∀ k, (k = bp ∨ k = bi ∨ k = be ∨ k ∈ ks) → k < N ∧ ¬ l'.fp k
  size : N ≤ W.heap.size
  ms : l.gs < N
  mn : l.gn < N
  old : w.heap.size ≤ N
section
variable {w : World} {base : Nat} {l : DL} {p : Int} {which bp bi be N : Nat} {ks : List Nat} {d : DS} {v : Int} {W W' : World} {l' l2 : DL}
theorem cells_row {A : Option Addr} {e : TypeId} {size n c : Nat} {xs : List Value} (h : W.ownsRow base e size (.slice A n c) n xs) {k : Nat} (hk : A.map (·.block) = some k) : ∃ cs, W.heap[k]? = some (.cells cs e) := by
  rcases h.2 with ⟨h, _⟩ | ⟨g, cap, cur, hv, _, hg, _⟩
  · injection h with h1 h2 h3
    subst h1
    cases hk
  · injection hv with h1 h2 h3
    subst h1
    cases hk
    exact ⟨cur, hg⟩
theorem WInv.fp_cells (h : WInv w base l p which bp bi be N ks d v W l') {k : Nat} (hk : l'.fp k) : k < N ∨ ∃ cs t, W.heap[k]? = some (.cells cs t) := by
  have e1 := congrArg (fun x => x.2.1) h.mv.g
  have e2 := congrArg (fun x => x.2.2) h.mv.g
  have hs := h.ms
  have hn := h.mn
  rcases hk with rfl | rfl | rfl | hk
  · exact .inr ⟨_, _, h.disk.blk⟩
  · left; simp only at e1; omega
  · left; simp only at e2; omega
  · obtain ⟨cs, hc⟩ := cells_row h.disk.row hk
    exact .inr ⟨cs, _, hc⟩
theorem WInv.step (h : WInv w base l p which bp bi be N ks d v W l') {d2 : DS} (hm : Moved W W' l' l2) (hD : DiskAt W' base l2 d2) : WInv w base l p which bp bi be N ks d2 v W' l2 := by
  have hs := h.size
  refine ⟨hD, h.mv.trans hm, hm.chg.blk h.pl (h.out _ (.inl rfl)).2, hm.chg.blk h.wh (h.out _ (.inr (.inl rfl))).2, hm.chg.blk h.er (h.out _ (.inr (.inr (.inl rfl)))).2, fun k hk => ⟨(h.out k hk).1, fun hf => ?_⟩, Nat.le_trans hs hm.chg.size, h.ms, h.mn, h.old⟩
  rcases hm.fp k hf with h1 | h1
  · exact (h.out k hk).2 h1
  · have := (h.out k hk).1
    omega
theorem WInv.below (h : WInv w base l p which bp bi be N ks d v W l') (hb : Below W.heap.size W W') : WInv w base l p which bp bi be N ks d v W' l' := h.step (Moved.of_below hb) (h.disk.below hb)
theorem WInv.own (h : WInv w base l p which bp bi be N ks d v W l') {row : Option Nat} (hg : W.grownBy W' row) (hr : ∀ r, row = some r → N ≤ r ∧ ∃ o : Obj, W.heap[r]? = some o ∧ o.isCells = false) : WInv w base l p which bp bi be N ks d v W' l' := by
  have nc : ∀ r, row = some r → N ≤ r ∧ ∀ cs t, W.heap[r]? ≠ some (.cells cs t) := fun r e => by
    obtain ⟨h1, o, h2, h3⟩ := hr r e
    refine ⟨h1, fun cs t h4 => ?_⟩
    rw [h2] at h4
    cases h4
    cases h3
  have hch : Chg (fun x => row = some x) W W' := Chg.of_grown' hg (fun g e => e)
  have hB : ∀ {g : Nat} {T : TypeId} {cs : Array Value}, Blk W g T cs → Blk W' g T cs := fun hb => hch.blk hb (fun e => (nc _ e).2 _ _ hb)
  refine ⟨h.disk.kept hch (fun x hx e => ?_), ⟨h.mv.g, ⟨hg.os.trans h.mv.chg.os, hg.tape.trans h.mv.chg.tape, hg.output.trans h.mv.chg.output, Nat.le_trans h.mv.chg.size hg.size, fun k hk hf => (hg.block k (Nat.lt_of_lt_of_le hk h.mv.chg.size) (fun e => ?_)).trans (h.mv.chg.block k hk hf)⟩, h.mv.fp⟩, hB h.pl, hB h.wh, hB h.er, h.out, Nat.le_trans h.size hg.size, h.ms, h.mn, h.old⟩
  · obtain ⟨h1, h2⟩ := nc x e
    rcases h.fp_cells hx with h3 | ⟨cs, t, h3⟩
    · omega
    · exact h2 _ _ h3
  · have := (nc k e.symm).1
    have := h.old
    omega
theorem WInv.keeps (h : WInv w base l p which bp bi be N ks d v W l') (hm : Moved W W' l' l2) : KeepsFrom N W W' :=
  ⟨hm.chg.size, fun k o hk ho hc => (hm.chg.block k (Array.getElem?_eq_some_iff.1 ho).1 (fun hf => by
    rcases h.fp_cells hf with h1 | ⟨cs, t, h1⟩
    · omega
    · rw [h1] at ho
      cases ho
      cases hc)).trans ho⟩
theorem WInv.kps {gc ga gb : Nat} (h : WInv w base l p which bp bi be N [gc, ga, gb] d v W l') (hm : Moved W W' l' l2) : KpS gc ga gb W W' := by
  have hs := h.size
  have f : ∀ k, k ∈ [gc, ga, gb] → W'.heap[k]? = W.heap[k]? := fun k hk => hm.chg.block k (by have := (h.out k (.inr (.inr (.inr hk)))).1; omega) (h.out k (.inr (.inr (.inr hk)))).2
  exact ⟨hm.chg.size, f gc (by simp), f ga (by simp), f gb (by simp)⟩
theorem WInv.setE (h : WInv w base l p which bp bi be N ks d v W l') (hw : w.heap.size ≤ be) (h1 : bp ≠ be) (h2 : bi ≠ be) (u : Int) : WInv w base l p which bp bi be N ks d u (W.setCell ⟨be, 0, none⟩ (.int .i64 u)) l' := by
  have hg := grownBy_set W be 0 (.int .i64 u)
  refine ⟨h.disk.beside hg (h.out _ (.inr (.inr (.inl rfl)))).2, ⟨h.mv.g, ⟨hg.os.trans h.mv.chg.os, hg.tape.trans h.mv.chg.tape, hg.output.trans h.mv.chg.output, Nat.le_trans h.mv.chg.size hg.size, fun k hk hf => (hg.block k (Nat.lt_of_lt_of_le hk h.mv.chg.size) (fun e => by cases e; omega)).trans (h.mv.chg.block k hk hf)⟩, h.mv.fp⟩,
    h.pl.grown hg (fun e => by injection e with e; exact h1 e), h.wh.grown hg (fun e => by injection e with e; exact h2 e), h.er.set_ 0 (.int .i64 u), h.out, Nat.le_trans h.size hg.size, h.ms, h.mn, h.old⟩
end
set_option maxRecDepth 20000 in
set_option maxHeartbeats 4000000 in
theorem cwrite_any (w : World) (base : Nat) (l : DL) (d : DS) (hD : DiskAt w base l d) (g : Nat) (hg : l.g = g) (hbase : base ≤ w.heap.size) (hlo : d.loose.length < 900000000) (p : Int) (which : Nat) (hw : which ≤ 1) (hp : 0 ≤ p ∧ p + 20 ≤ 32768)
    (c : Nat) (hc : c < 2 ^ 64) (A : Option Addr) (n cap : Nat) (b : List UInt8) (hr : RB w A n b) (hn : n ≤ 1100) :
    Calls Try.prog 64 #[.agg #[.pointer (some ⟨g, 0, none⟩), .int .i64 p], .int .i64 (which : Int), .int .u64 (c : Int), .slice A n cap] w fun e w' => ∃ l', e = .returned (.int .i64 (wrS d (p + (which : Int) * 10) c b 10).2) ∧ l'.g = g ∧ DiskAt w' base l' (wrS d (p + (which : Int) * 10) c b 10).1 ∧ Moved w w' l l' := by
  have hxl := hr.len
  refine (callsIn_wide (n := 4)).1 ?_
  refine callsIn_of_wp_marks Try.func64 rfl trivial ?_ rfl
  simp only [Try.ntmps64, List.size_toArray, List.length_cons, List.length_nil, Nat.reduceAdd, Nat.reduceSub, Array.replicate_succ, Array.replicate_zero, List.push_toArray, List.append_toArray, List.nil_append, List.cons_append]
  refine (wpIn_wide (n := 4)).2 ?_
  go_wp2_with fail
  have hP := Blk.new w 119 #[.pointer (some ⟨g, 0, none⟩), .int .i64 p]
  have hb1 := below_alloc w (.cells #[.pointer (some ⟨g, 0, none⟩), .int .i64 p] 119)
  obtain ⟨w1, hw1⟩ : ∃ x, w.alloc (.cells #[.pointer (some ⟨g, 0, none⟩), .int .i64 p] 119) = x := ⟨_, rfl⟩
  rw [hw1] at hP hb1 ⊢
  have hs1 : w1.heap.size = w.heap.size + 1 := by rw [← hw1]; simp
  have hI := Blk.new w1 3 #[.int .i64 (which : Int)]
  have hb2 := below_alloc w1 (.cells #[.int .i64 (which : Int)] 3)
  obtain ⟨w2, hw2⟩ : ∃ x, w1.alloc (.cells #[.int .i64 (which : Int)] 3) = x := ⟨_, rfl⟩
  rw [hw2] at hI hb2 ⊢
  have hs2 : w2.heap.size = w.heap.size + 1 + 1 := by rw [← hw2]; simp; omega
  have hE := Blk.new w2 26 #[.int .i64 0]
  have hb3 := below_alloc w2 (.cells #[.int .i64 0] 26)
  obtain ⟨w3, hw3⟩ : ∃ x, w2.alloc (.cells #[.int .i64 0] 26) = x := ⟨_, rfl⟩
  rw [hw3] at hE hb3 ⊢
  have hs3 : w2.heap.size < w3.heap.size := hE.lt
  have hb02 := hb1.trans (hb2.mono (by omega))
  have hb03 := hb02.trans (hb3.mono (by omega))
  have hP3 := (hP.below hb2 (by omega)).below hb3 (by omega)
  have hI3 := hI.below hb3 (by omega)
  rw [hs1] at hI3
  rw [hs2] at hE hs3
  obtain ⟨bp, hbp⟩ : ∃ x, w.heap.size = x := ⟨_, rfl⟩
  obtain ⟨bi, hbi⟩ : ∃ x, w.heap.size + 1 = x := ⟨_, rfl⟩
  obtain ⟨be, hbe⟩ : ∃ x, w.heap.size + 1 + 1 = x := ⟨_, rfl⟩
  rw [hbe] at hE hs3 ⊢
  rw [hbi] at hI3 ⊢
  rw [hbp] at hP3 ⊢
  have HBP := Lib.hid hbp
  have HBI := Lib.hid hbi
  have HBE := Lib.hid hbe
  have hxx : bp < bi ∧ bi < be ∧ be < w3.heap.size := by omega
  have hr3 := hr.below hb03
  clear hP hI hb1 hb2 hb3 hs1 hs2 hs3 hw1 hw2 hw3 hb02 hbp hbi hbe
  refine (sectors_any w3 c A n cap b hr3 hn).mono ?_
  rintro e w5 ⟨gc, ga, gb, rfl, hS, hgc, hga, hgb, hgb5, hb5⟩
  have hb05 := hb03.trans (hb5.mono (by have := hb03.size; omega))
  have hP5 := hP3.below hb5 hP3.lt
  have hI5 := hI3.below hb5 hI3.lt
  have hE5 := hE.below hb5 hE.lt
  simp only []
  clear hb5 hb03 hP3 hI3 hE hr3
  go_wp2_with fail
  obtain ⟨N, hN⟩ : ∃ N, w5.heap.size = N := ⟨_, rfl⟩
  obtain ⟨q, hq⟩ : ∃ q, p + (which : Int) * 10 = q := ⟨_, rfl⟩
  have hH0 : WInv w base l p which bp bi be N [gc, ga, gb] d 0 w5 l := by
    have hgs := (hD.fp_lt (.inr (.inl rfl))).2
    have hgn := (hD.fp_lt (.inr (.inr (.inl rfl)))).2
    have h1 := HBP.out
    have h2 := hb05.size
    have hcl := hS.cnt.lt
    obtain ⟨cp, hHd, _⟩ := hS.hdr
    have hal := hHd.lt
    refine ⟨hD.below hb05, Moved.of_below hb05, by rw [hg]; exact hP5, hI5, hE5, fun k hk => ⟨?_, fun hf => ?_⟩, by omega, by omega, by omega, by omega⟩
    · have := hE5.lt
      simp at hk
      omega
    · have := (hD.fp_lt hf).2
      simp at hk
      omega
  refine (wpIn_wide (n := 4)).1 ?_
  refine wpIn_rangeFunc_ownH rfl (by omega) (gf := 104) (lb := #[.pointer (some ⟨gc, 0, none⟩), .pointer (some ⟨ga, 0, none⟩)]) rfl trivial (enters_of Try.func104 (by kernel_rfl) rfl)
    (sectors1_stops w5 gc ga gb c b hS (by omega) hc hS.cnt.lt (by obtain ⟨_, h, _⟩ := hS.hdr; exact h.lt) hgb5) (fun h k => h.trans k)
    (fun W l o o' hl h1 h2 h3 => ⟨by simp, ?kc, ?ka, ?kb⟩) (Below.refl _ _) (fun _ => rfl)
    (fun pre W => (wrL d q c b pre).2 = 0 ∧ ∃ l', WInv w base l p which bp bi be N [gc, ga, gb] (wrL d q c b pre).1 0 W l')
    (fun cc pre W => cc = .ret ∧ (wrL d q c b pre).2 ≠ 0 ∧ ∃ l', WInv w base l p which bp bi be N [gc, ga, gb] (wrL d q c b pre).1 (wrL d q c b pre).2 W l')
    ?hI ?hIx ⟨rfl, l, hH0⟩
    (fun x a' W => ∃ B, Blk W B 28 (bvs (secB c b x.1)).toArray ∧ a' = { tmps := #[.agg #[.pointer (some ⟨g, 0, none⟩), .int .i64 p], .int .i64 (which : Int), .int .u64 (c : Int), .slice A n cap, .pointer (some ⟨bp, 0, none⟩), .pointer (some ⟨bi, 0, none⟩), undef, undef, .pointer (some ⟨be, 0, none⟩), .int .i64 (x.1 : Int), .pointer (some ⟨B, 0, none⟩), undef, .int .u64 (c : Int), .slice A n cap, .func (.func 104) #[] #[.pointer (some ⟨gc, 0, none⟩), .pointer (some ⟨ga, 0, none⟩)], .int .i64 (x.1 : Int), .agg (bvs (secB c b x.1)).toArray, undef, undef, undef, undef, undef, undef, undef, undef, undef, undef, undef, undef, undef, undef], defers := [] })
    ?hAx ?assign ?body ?done ?stop
  case kc => exact World.putObj_heap_other (by have := hS.cnt.lt; omega)
  case ka => exact World.putObj_heap_other (by obtain ⟨_, h, _⟩ := hS.hdr; have := h.lt; omega)
  case kb => exact World.putObj_heap_other (by omega)
  case hI => exact fun s A B row ⟨h0, l', hi⟩ hgr hr => ⟨h0, l', hi.own hgr (fun r e => by rw [← hN]; exact hr r e)⟩
  case hIx => exact fun cc s A B row ⟨h0, h1, l', hi⟩ hgr hr => ⟨h0, h1, l', hi.own hgr (fun r e => by rw [← hN]; exact hr r e)⟩
  case hAx =>
    exact fun x a' s A B row ⟨b0, h1, h2⟩ hgr hr => ⟨b0, h1.grown hgr (fun e => by
      obtain ⟨_, o, h3, h4⟩ := hr _ e.symm
      rw [show A.heap[b0]? = _ from h1] at h3
      cases h3
      cases h4), h2⟩
  case assign =>
    rintro lr pre x W K ⟨h0, l', hi⟩ hK
    simp only [encS]
    have hsl := secB_length c (b := b) (by omega) x.2
    have hbs : (bvs (secB c b x.1)).toArray.size = 128 := by rw [bvs_size, hsl]
    clear hD hr hS hb05 hP5 hI5 hE5 hH0
    refine wpIn_seq_k (fun K2 hK2 => ?_)
    refine wpIn_region_of (by rintro ⟨a, w, h⟩; exact h) (by rfl) ?_
    go_wp2_with fail
    refine wpIn_region_of (by rintro ⟨a, w, h⟩; exact h) (by rfl) ?_
    repeat (first | ((with_reducible refine wpl_store_fresh (bvs (secB c b x.1)).toArray i128 ?_ hbs (bvs_all _) ?_ ?_ ?_); (focus kernel_rfl); (focus rfl); (focus rfl); intro w6 hSb hl3 hb; simp only [Act.put]; refine Hid.out ?_) | go_values | go_skip | go_guarded | go_step | go_upon | go_back)
    refine Lib.hid ?_
    have hm := Moved.of_below (l := l') hb
    exact hK _ _ (by rw [hN]; exact hi.keeps hm) (hi.kps hm) ⟨h0, l', hi.below hb⟩ ⟨_, hSb, rfl⟩
  case body =>
    rintro lr pre x a' W hlr ⟨rr, hrr⟩ ⟨h0, l', hi⟩ ⟨B, hB, rfl⟩ hlt
    have hsl := secB_length c (b := b) (by omega) x.2
    have hbs : (bvs (secB c b x.1)).toArray.size = 128 := by rw [bvs_size, hsl]
    have hst : wrL d q c b (pre ++ [x]) = (writeD (wrL d q c b pre).1 (q + (x.1 : Int)) (secB c b x.1), writeE (wrL d q c b pre).1 (q + (x.1 : Int))) := by rw [wrL_snoc, stp, if_pos h0]
    have hlo1 : (wrL d q c b pre).1.loose.length < 1000000000 := by have := wrL_loose d q c b pre; omega
    have hlg : l'.g = g := (congrArg Prod.fst hi.mv.g).trans hg
    have hbase' : base ≤ W.heap.size := Nat.le_trans hbase hi.mv.chg.size
    have c0 := hi.pl.cell 0
    have c1 := hi.pl.cell 1
    have c2 := hi.wh.cell 0
    simp only [List.getElem?_toArray, List.getElem?_cons_zero, List.getElem?_cons_succ] at c0 c1 c2
    rw [hg] at c0
    have hx10 := x.2
    have HST := Lib.hid hst
    have HN := Lib.hid hN
    have hbe : w.heap.size ≤ be ∧ bp ≠ be ∧ bi ≠ be := by have := HBP.out; omega
    obtain ⟨d1, hd1⟩ : ∃ d1, (wrL d q c b pre).1 = d1 := ⟨_, rfl⟩
    rw [hd1] at hi HST hlo1
    obtain ⟨E, hE⟩ : ∃ E, writeE d1 (q + (x.1 : Int)) = E := ⟨_, rfl⟩
    rw [hE] at HST
    have HE := Lib.hid hE
    clear hD hr hS hb05 hP5 hI5 hE5 hH0 hst hN hd1 hE h0 hrr hlr
    refine wpIn_block ?_
    refine wpIn_seq_k (fun K2 hK2 => ?_)
    refine wpIn_region_of (by rintro ⟨a, w, h⟩; exact h) (by rfl) ?_
    repeat (first | ((with_reducible refine wpl_load B _ _ Try.underlying28 i128 hB hbs ?_ ?_); (focus rfl); simp only [Act.put, List.setIfInBounds_toArray, List.set_cons_zero, List.set_cons_succ]) | go_values | go_skip | go_guarded | go_step | go_upon | go_back)
    refine (gwrite _ base g _ _ hi.disk hlg hbase' (q + (x.1 : Int)) (secB c b x.1) hsl hlo1).mono ?_
    rw [HE.out]
    rintro e w6 ⟨l2, rfl, hlg2, hD2, hm⟩
    have hi2 := hi.step hm hD2
    have hkf : KeepsFrom w5.heap.size W w6 := by rw [HN.out]; exact hi.keeps hm
    have hkp := hi.kps hm
    have c3 := hi2.er.cell 0
    have f3 := hi2.er.frozen 0
    simp only [List.getElem?_toArray, List.getElem?_cons_zero] at c3
    simp only []
    clear hm hi hD2 hB c0 c1 c2
    go_wp2_with fail
    refine wpIn_seq_k (fun K3 hK3 => ?_)
    refine wpIn_region_of (by rintro ⟨a, w, h⟩; exact h) (by rfl) ?_
    by_cases hE0 : E = 0
    · subst hE0
      go_wp2_with fail
      refine wpIn_cond_false rfl ?_
      refine wpIn_skip ?_
      exact ⟨hkf, hkp, by rw [HST.out], l2, by rw [HST.out]; exact hi2⟩
    · have hne : (E != 0) = true := by simpa using hE0
      have HE0 := Lib.hid hE0
      clear hE0
      go_wp2_with fail
      refine wpIn_cond_true rfl ?_
      refine wpIn_seq_k (fun K4 hK4 => ?_)
      refine wpIn_region_of (by rintro ⟨a, w, h⟩; exact h) (by rfl) ?_
      go_wp2_with fail
      refine wpIn_ret ?_
      exact ⟨hkf.trans ((KeepsOthers.setCell _ _ _).from _), rfl, by rw [HST.out]; exact HE0.out, l2, by rw [HST.out]; exact hi2.setE hbe.1 hbe.2.1 hbe.2.2 E⟩
  case done =>
    rintro D ys W hDs rfl ⟨h0, l', hi⟩ hKD
    have c3 := hi.er.cell 0
    have f3 := hi.er.frozen 0
    simp only [List.getElem?_toArray, List.getElem?_cons_zero] at c3
    rw [wrL_fr _ _ _ _ _ (Nat.le_refl 10)] at h0 hi
    have hlg : l'.g = g := (congrArg Prod.fst hi.mv.g).trans hg
    clear hD hr hS hb05 hP5 hI5 hE5 hH0
    have hbe : w.heap.size ≤ be ∧ bp ≠ be ∧ bi ≠ be := by have := HBP.out; omega
    have hi2 := hi.setE hbe.1 hbe.2.1 hbe.2.2 0
    have hK' := (KeepsOthers.setCell W ⟨be, 0, none⟩ (.int .i64 0)).same D _ hKD rfl
    have hi3 := hi2.own (grownBy_putObj' _ D (.deferred none)) (fun r e => by cases e; exact ⟨by omega, _, hK', rfl⟩)
    have hc5 := hi3.er.cell 0
    simp only [List.getElem?_toArray, List.getElem?_cons_zero] at hc5
    clear hi hi2
    go_wp2_with fail
    refine ⟨by simp, .inl ⟨_, _, rfl, run_takeDeferred hK', ?_⟩⟩
    refine ⟨.int .i64 0, ?_, l', by rw [hq, h0], hlg, by rw [hq]; exact hi3.disk, hi3.mv⟩
    simp [results, Try.f64, go_sem, hc5]
  case stop =>
    rintro D cc pre W hDs ⟨k, hk, rfl⟩ ⟨rfl, h0, l', hi⟩ hKD
    have hlg : l'.g = g := (congrArg Prod.fst hi.mv.g).trans hg
    rw [wrL_fr _ _ _ _ _ hk] at h0 hi
    have hst := wrS_stop h0 (10 - k)
    rw [show k + (10 - k) = 10 by omega] at hst
    rw [← hst] at hi
    clear hD hr hS hb05 hP5 hI5 hE5 hH0
    have hi3 := hi.own (grownBy_putObj' _ D (.deferred none)) (fun r e => by cases e; exact ⟨by omega, _, hKD, rfl⟩)
    have hc5 := hi3.er.cell 0
    simp only [List.getElem?_toArray, List.getElem?_cons_zero] at hc5
    clear hi
    refine wpIn_ret ?_
    refine ⟨by simp, .inl ⟨_, _, rfl, run_takeDeferred hKD, ?_⟩⟩
    refine ⟨.int .i64 (wrS d q c b 10).2, ?_, l', by rw [hq], hlg, by rw [hq]; exact hi3.disk, hi3.mv⟩
    simp [results, Try.f64, go_sem, hc5]
end Go.Proofs.Ytmjdfajdompkeaa
namespace Go.Proofs.Ytmjdfajdompkeaa
open Go.RowKit Go.Rat
set_option maxHeartbeats 1000000 in
theorem ccount_any (w : World) (s : List UInt8) (hs : s.length = 128) :
    Calls Try.prog 83 #[.agg (bvs s).toArray] w fun e w' => e = .returned (.int .u64 (cntB s : Int)) ∧ Below w.heap.size w w' := by
  have hB := Blk.new w 28 (bvs s).toArray
  have hb1 := below_alloc w (.cells (bvs s).toArray 28)
  have htk : takeF (s.take 8) false 8 = (s.take 8, [], false) := by
    have h8 : (s.take 8).length ≤ 8 := by rw [List.length_take]; omega
    refine (takeF_ok (xs := s.take 8) (k := 8) (by rw [List.length_take]; omega)).trans ?_
    rw [List.take_of_length_le (l := s.take 8) h8, List.drop_of_length_le (l := s.take 8) h8]
  have hR := Blk.reads hB (s.take 8) (by simp only [bvs, List.map_take, List.length_take]; rw [hs]; rfl)
  have hl8 : (s.take 8).length = 8 := by rw [List.length_take]; omega
  rw [hl8] at hR
  have hbs : (bvs s).toArray.size = 128 := by rw [bvs_size, hs]
  have HTK := Lib.hid htk
  clear htk
  obtain ⟨Z, hZ⟩ : ∃ Z, (bvs s).toArray = Z := ⟨_, rfl⟩
  rw [hZ] at hB hb1 hR hbs ⊢
  go_enter Try.func83, Try.ntmps83
  go_upto_region 1 with (fail)
  obtain ⟨w1, hw1⟩ : ∃ x, w.alloc (.cells Z 28) = x := ⟨_, rfl⟩
  rw [hw1] at hB hb1 hR ⊢
  clear hw1 hZ
  go_wp2_with fail
  refine (cnew_any w1 _ 8 128 (s.take 8) hR (by omega)).mono ?_
  rintro e w2 ⟨g, gb, rfl, hC, hg1, hg2, hg3, hb2⟩
  simp only []
  go_wp2_with fail
  refine (cword_any w2 g gb _ false hC).mono ?_
  rw [HTK.out]
  rintro e w3 ⟨rfl, hC3, hg4⟩
  simp only []
  have hb3 : Below w1.heap.size w1 w3 := hb2.grown hg4 hb2.size (fun q hq => by cases hq; exact hg1)
  clear hC hC3 hg4 hb2 hg3 hB hR
  go_wp2_with fail
  go_ret
  exact ⟨rfl, hb1.trans (hb3.mono hb1.size)⟩
def anyB (xs : List UInt8) : Bool := xs.any (· != 0)
theorem anyB_take (xs : List UInt8) {k : Nat} (hk : k < xs.length) (h : anyB (xs.take k) = false) : anyB (xs.take (k + 1)) = (xs.getD k 0 != 0) := by
  rw [List.take_add_one, List.getElem?_eq_getElem hk, anyB, List.any_append]
  unfold anyB at h
  rw [h, List.getD_eq_getElem?_getD, List.getElem?_eq_getElem hk]
  simp
theorem anyB_pre (xs : List UInt8) {k : Nat} (h : anyB (xs.take k) = true) : anyB xs = true := by
  unfold anyB at *
  rw [List.any_eq_true] at *
  obtain ⟨x, hx, h1⟩ := h
  exact ⟨x, List.mem_of_mem_take hx, h1⟩
theorem nz_any (w : World) (c : UInt8) : Calls Try.prog 90 #[.int .u8 (c.toNat : Int)] w fun e w' => e = .returned (.bool (c != 0)) ∧ w = w' := by
  have h : ((c.toNat : Int) != 0) = (c != 0) := by
    by_cases e : c = 0
    · subst e; rfl
    · have : c.toNat ≠ 0 := fun h => e (UInt8.toNat_inj.1 h)
      have h1 : ((c.toNat : Int) != 0) = true := by simp; omega
      rw [h1]; simp [e]
  have H := Lib.hid h
  clear h
  go_enter Try.func90, Try.ntmps90
  go_wp2_with fail
  go_ret
  exact ⟨congrArg (fun b => Ending.returned (.bool b)) H.out, rfl⟩
set_option maxHeartbeats 1000000 in
theorem indexFunc_any (w : World) (A : Option Addr) (n c : Nat) (xs : List UInt8) (hr : RB w A n xs) (hn : n ≤ 100000) :
    Calls Try.prog 103 #[.slice A n c, .func (.func 90) #[] #[]] w fun e w' => (∃ i : Int, e = .returned (.int .i64 i) ∧ (anyB xs = true ∧ 0 ≤ i ∨ anyB xs = false ∧ i = -1)) ∧ w = w' := by
  have hl := hr.len
  go_enter Try.func103, Try.ntmps103
  go_wp2_with fail
  go_loop [8] (fun i => ∃ k : Nat, k ≤ n ∧ i = .int .i64 (k : Int) ∧ anyB (xs.take k) = false) (fun i => n - (intOf i).toNat)
  case atStart => exact ⟨0, Nat.zero_le _, rfl, by simp [anyB]⟩
  case round =>
    obtain ⟨k, hk, rfl, hz⟩ := hrel
    have HZ := Lib.hid hz
    clear hz
    by_cases hkn : k < n
    · obtain ⟨ad, rfl, hadl, hc⟩ := hr.at_ hkn
      have hstep := anyB_take xs (k := k) (by omega) HZ.out
      have hb := (xs.getD k 0).toNat_lt
      obtain ⟨x, hx⟩ : ∃ x, xs.getD k 0 = x := ⟨_, rfl⟩
      rw [hx] at hc hstep
      clear hx
      have HST := Lib.hid hstep
      have g1 : (k : Int) < (n : Int) := by omega
      have g0 : (0 : Int) ≤ (k : Int) := by omega
      clear hstep hl
      obtain ⟨v, hv⟩ : ∃ v, (x != 0) = v := ⟨_, rfl⟩
      rw [hv] at HST
      have HV := Lib.hid hv
      clear hv
      cases v
      · go_wp2_with (refine (nz_any _ x).mono ?_; rw [HV.out]; rintro e w2 ⟨rfl, rfl⟩; simp only [])
        go_round
        case rel => exact ⟨k + 1, by omega, by go_num, HST.out⟩
        case measure => simp [intOf]; omega
      · go_wp2_with (refine (nz_any _ x).mono ?_; rw [HV.out]; rintro e w2 ⟨rfl, rfl⟩; simp only [])
        go_ret
        exact ⟨⟨_, rfl, .inl ⟨anyB_pre xs HST.out, g0⟩⟩, rfl⟩
    · obtain rfl : k = n := by omega
      have g1 : ¬ (k : Int) < (k : Int) := by omega
      have HL := Lib.hid hl
      clear hl
      go_wp2_with fail
      go_ret
      exact ⟨⟨_, rfl, .inr ⟨by have := HZ.out; rwa [List.take_of_length_le (by rw [HL.out]; exact Nat.le_refl _)] at this, rfl⟩⟩, rfl⟩
theorem contains_any (w : World) (A : Option Addr) (n c : Nat) (xs : List UInt8) (hr : RB w A n xs) (hn : n ≤ 100000) :
    Calls Try.prog 89 #[.slice A n c, .func (.func 90) #[] #[]] w fun e w' => e = .returned (.bool (anyB xs)) ∧ w = w' := by
  obtain ⟨v, hv⟩ : ∃ v, anyB xs = v := ⟨_, rfl⟩
  have HV := Lib.hid hv
  clear hv
  go_enter Try.func89, Try.ntmps89
  go_wp2_with fail
  refine (indexFunc_any w A n c xs hr hn).mono ?_
  rintro e w2 ⟨⟨i, rfl, h⟩, rfl⟩
  rw [HV.out] at h
  simp only []
  rcases h with ⟨rfl, h⟩ | ⟨rfl, rfl⟩
  · go_wp2_with fail
    go_ret
    exact ⟨congrArg (fun b => Ending.returned (.bool b)) HV.out.symm, rfl⟩
  · go_wp2_with fail
    go_ret
    exact ⟨congrArg (fun b => Ending.returned (.bool b)) HV.out.symm, rfl⟩
theorem may_any (w : World) (g : Nat) (p : Int) : Calls Try.prog 62 #[.agg #[.pointer (some ⟨g, 0, none⟩), .int .i64 p]] w fun e w' => e = .returned (.int .i64 (mayE p)) ∧ Below w.heap.size w w' := by
  by_cases h : 0 ≤ p ∧ p ≤ 32748
  · have hm : mayE p = 0 := if_pos h
    obtain ⟨h1, h2⟩ := h
    have h1' : ¬ p < 0 := by omega
    have h2' : ¬ 32748 < p := by omega
    have H := Lib.hid hm
    clear hm
    go_enter Try.func62, Try.ntmps62
    go_wp2_with fail
    go_ret
    exact ⟨congrArg (fun i => Ending.returned (.int .i64 i)) H.out.symm, below_alloc _ _⟩
  · have hm : mayE p = 1 := if_neg h
    have H := Lib.hid hm
    clear hm
    by_cases h1 : p < 0
    · clear h
      go_enter Try.func62, Try.ntmps62
      go_wp2_with fail
      go_ret
      exact ⟨congrArg (fun i => Ending.returned (.int .i64 i)) H.out.symm, below_alloc _ _⟩
    · have h2 : 32748 < p := by omega
      have h3 : 0 ≤ p := by omega
      clear h
      go_enter Try.func62, Try.ntmps62
      go_wp2_with fail
      go_ret
      exact ⟨congrArg (fun i => Ending.returned (.int .i64 i)) H.out.symm, below_alloc _ _⟩
theorem may_nil (w : World) (p : Int) : Calls Try.prog 62 #[.agg #[.pointer none, .int .i64 p]] w fun e w' => e = .returned (.int .i64 2) ∧ Below w.heap.size w w' := by
  go_enter Try.func62, Try.ntmps62
  go_wp2_with fail
  go_ret
  exact ⟨rfl, below_alloc _ _⟩
end Go.Proofs.Ytmjdfajdompkeaa
namespace Go.Proofs.Ytmjdfajdompkeaa
open Go.RowKit Go.Rat
theorem view_len {d : DS} (h : DOk d) {p : Int} {i : Nat} {s : List UInt8} (hs : viewD d p i = some s) : s.length = 128 := by
  unfold viewD at hs
  split at hs
  · cases hs
    exact readB_length h _
  · cases hs
theorem rdS_len {F : Nat → Option (List UInt8)} (hF : ∀ i s, F i = some s → s.length = 128) : ∀ k n all, rdS F k = some (n, all) → all.length = k * 120 ∧ n < 2 ^ 64
  | 0, n, all, h => by
    simp [rdS] at h
    obtain ⟨rfl, rfl⟩ := h
    simp
  | k + 1, n, all, h => by
    rw [rdS] at h
    split at h
    · next m al s h1 h2 =>
      split at h
      · simp only [Option.some.injEq, Prod.mk.injEq] at h
        have := (rdS_len hF k m al h1).1
        have hs := hF _ _ h2
        rw [← h.1, ← h.2]
        refine ⟨?_, cntB_lt s⟩
        rw [List.length_append, List.length_drop, this, hs, Nat.succ_mul]
      · cases h
    · cases h
theorem rdS_bad {F : Nat → Option (List UInt8)} {k n : Nat} {all s : List UInt8} (h1 : rdS F k = some (n, all)) (h2 : F k = some s) (hk : k ≠ 0) (hc : cntB s ≠ n) (hk10 : k < 10) : rdF F = (0, []) := by
  have h3 : rdS F (k + 1) = none := by
    rw [rdS, h1, h2]
    simp only []
    rw [if_neg (by rintro (h | h); exact hk h; exact hc h)]
  have up : ∀ j, rdS F (k + 1 + j) = none := by
    intro j
    induction j with
    | zero => exact h3
    | succ j ih => rw [← Nat.add_assoc, rdS, ih]
  have := up (10 - (k + 1))
  rw [show k + 1 + (10 - (k + 1)) = 10 by omega] at this
  rw [rdF, this]
theorem rdS_next {F : Nat → Option (List UInt8)} {k n : Nat} {all s : List UInt8} (h1 : rdS F k = some (n, all)) (h2 : F k = some s) (hc : k = 0 ∨ cntB s = n) : rdS F (k + 1) = some (cntB s, all ++ s.drop 8) := by
  rw [rdS, h1, h2]
  simp only []
  rw [if_pos hc]
theorem blk_drop8 {w : World} {g : Nat} {T : TypeId} {s : List UInt8} (hB : Blk w g T (bvs s).toArray) (hs : s.length = 128) : RB w (some ⟨g, 8, none⟩) 120 (s.drop 8) := by
  refine ⟨by rw [bvs_length, List.length_drop, hs], fun _ => ⟨_, rfl, hB.lt, fun j u hu => ?_⟩⟩
  have ha : ((⟨g, 8, none⟩ : Addr).add j) = ⟨g, 8 + j, none⟩ := by
    simp only [Addr.add]
    split
    · next h => subst h; rfl
    · rfl
  rw [ha, hB.cell (8 + j), List.getElem?_toArray, ← hu, bvs, bvs, List.map_drop, List.getElem?_drop]
theorem all_anyB (xs : List UInt8) : xs.all (· == 0) = !anyB xs := by
  unfold anyB
  induction xs with
  | nil => rfl
  | cons x xs ih =>
    rw [List.all_cons, List.any_cons, ih, Bool.not_or]
    congr 1
    cases h : (x == 0) <;> simp_all
set_option maxRecDepth 20000 in
set_option maxHeartbeats 8000000 in
theorem cread_any (w : World) (base : Nat) (l : DL) (d : DS) (hD : DiskAt w base l d) (g : Nat) (hg : l.g = g) (p : Int) (which : Nat) (hw : which ≤ 1) (hp : 0 ≤ p ∧ p + 20 ≤ 32768) :
    Calls Try.prog 63 #[.agg #[.pointer (some ⟨g, 0, none⟩), .int .i64 p], .int .i64 (which : Int)] w fun e w' => ∃ A N c, e = .returned (.tuple #[.int .u64 ((slotV d p which).1 : Int), .slice A N c]) ∧ OB 5 w' w.heap.size A N c (slotV d p which).2 ∧ Below w.heap.size w w' := by
  obtain ⟨q, hq⟩ : ∃ q, p + (which : Int) * 10 = q := ⟨_, rfl⟩
  have hsv : slotV d p which = rdF (viewD d q) := by rw [slotV, ← hq, show (((which * 10 : Nat) : Int)) = (which : Int) * 10 by omega]
  rw [hsv]
  have hqb : 0 ≤ q ∧ q + 10 ≤ 32768 := by omega
  have hFl : ∀ i s, viewD d q i = some s → s.length = 128 := fun i s h => view_len hD.ok h
  obtain ⟨F, hF⟩ : ∃ F, viewD d q = F := ⟨_, rfl⟩
  have hFv : ∀ i : Nat, F i = if readE d (q + (i : Int)) = 0 then some (readB d (q + (i : Int))) else none := fun i => by rw [← hF]; rfl
  rw [hF] at hFl ⊢
  have HFV := Lib.hid hFv
  have HFL := Lib.hid hFl
  clear hsv hF hFv hFl
  go_enter Try.func63, Try.ntmps63
  go_upto_block 0 with (fail)
  have hP := Blk.new w 119 #[.pointer (some ⟨g, 0, none⟩), .int .i64 p]
  have hb1 := below_alloc w (.cells #[.pointer (some ⟨g, 0, none⟩), .int .i64 p] 119)
  obtain ⟨w1, hw1⟩ : ∃ x, w.alloc (.cells #[.pointer (some ⟨g, 0, none⟩), .int .i64 p] 119) = x := ⟨_, rfl⟩
  rw [hw1] at hP hb1 ⊢
  have hs1 : w.heap.size < w1.heap.size := hP.lt
  have hD1 := hD.below hb1
  clear hw1 hD
  obtain ⟨bp, hbp⟩ : ∃ x, w.heap.size = x := ⟨_, rfl⟩
  rw [hbp] at hP ⊢
  have HBP := Lib.hid hbp
  clear hbp
  go_cut [4, 6] (fun n al wx => ∃ (nk : Nat) (allk : List UInt8) (A : Option Addr) (N c : Nat), n = .int .u64 (nk : Int) ∧ al = .slice A N c ∧ rdS F 10 = some (nk, allk) ∧ OB 5 wx w1.heap.size A N c allk ∧ Below w1.heap.size w1 wx)
  case first =>
    go_wp2_with fail
    go_loopw [4, 6, 13] (fun n al i wr => ∃ (k nk : Nat) (allk : List UInt8) (A : Option Addr) (N c : Nat), k ≤ 10 ∧ i = .int .i64 (k : Int) ∧ n = .int .u64 (nk : Int) ∧ al = .slice A N c ∧ rdS F k = some (nk, allk) ∧ OB 5 wr w1.heap.size A N c allk ∧ Below w1.heap.size w1 wr) (fun _ _ i _ => 10 - (intOf i).toNat)
    case atStart => exact ⟨0, 0, [], none, 0, 0, by omega, rfl, rfl, rfl, rfl, OB.nil_ _ _ _, Below.refl _ _⟩
    case round =>
      obtain ⟨k, nk, allk, A, N, c, hk, rfl, rfl, rfl, hrd, hO, hbk⟩ := hrel
      by_cases hk10 : k < 10
      · have hPk := hP.below hbk hP.lt
        have hDk := hD1.below hbk
        have c0 := hPk.cell 0
        have c1 := hPk.cell 1
        simp only [List.getElem?_toArray, List.getElem?_cons_zero, List.getElem?_cons_succ] at c0 c1
        have hFk := HFV.out k
        have hsl : (readB d (q + (k : Int))).length = 128 := readB_length hDk.ok _
        obtain ⟨s, hs⟩ : ∃ s, readB d (q + (k : Int)) = s := ⟨_, rfl⟩
        obtain ⟨E, hE⟩ : ∃ E, readE d (q + (k : Int)) = E := ⟨_, rfl⟩
        rw [hs] at hFk hsl
        rw [hE] at hFk
        have HS := Lib.hid hs
        have HE := Lib.hid hE
        have HFK := Lib.hid hFk
        have HRD := Lib.hid hrd
        have hsz : (bvs s).toArray.size = 128 := by rw [bvs_size, hsl]
        have g1 : (k : Int) < 10 := by omega
        have g2 : (0 : Int) ≤ (k : Int) := by omega
        have hNl := hO.len
        have hal : allk.length = k * 120 := (rdS_len HFL.out k nk allk HRD.out).1
        have hnk : nk < 2 ^ 64 := (rdS_len HFL.out k nk allk HRD.out).2
        have hN12 : N ≤ 1200 := by omega
        have HNL := Lib.hid hNl
        clear hs hE hFk hrd hNl hal
        go_wp2_with fail
        refine (gread _ base g _ _ hDk hg (q + (k : Int))).mono ?_
        rw [HS.out, HE.out]
        rintro e w3 ⟨rfl, hb⟩
        simp only []
        have hO := OB.grown hO (grownBy_of_below hb none) (.inr rfl)
        have hbk := hbk.trans (hb.mono hbk.size)
        have hw13 := hbk.size
        clear hb c0 c1 hDk hPk
        repeat (first | ((with_reducible refine wpl_store_fresh (bvs s).toArray i128 ?_ hsz (bvs_all _) ?_ ?_ ?_); (focus kernel_rfl); (focus rfl); (focus rfl); intro w4 hB hl3 hb; simp only [Act.put]; refine Hid.out ?_) | go_values | go_skip | go_guarded | go_step | go_upon | go_back)
        refine Lib.hid ?_
        have hO := OB.grown hO (grownBy_of_below hb none) (.inr rfl)
        have hbk := hbk.trans (hb.mono hbk.size)
        clear hb hl3
        have hgB1 : w1.heap.size ≤ w3.heap.size := hw13
        obtain ⟨gB, hgB⟩ : ∃ x, w3.heap.size = x := ⟨_, rfl⟩
        rw [hgB] at hB hgB1 ⊢
        clear hgB
        have hgb : w.heap.size ≤ gB := by omega
        by_cases hE0 : E = 0
        · subst hE0
          have hsome : F k = some s := HFK.out.trans (if_pos rfl)
          have HSM := Lib.hid hsome
          clear hsome
          by_cases hk0 : k = 0
          · subst hk0
            have hnx := rdS_next HRD.out HSM.out (.inl rfl)
            have HNX := Lib.hid hnx
            clear hnx
            repeat (first | ((with_reducible refine wpl_load gB _ _ Try.underlying28 i128 hB hsz ?_ ?_); (focus rfl); simp only [Act.put, List.setIfInBounds_toArray, List.set_cons_zero, List.set_cons_succ]) | go_values | go_skip | go_guarded | go_step | go_upon | go_back)
            refine (ccount_any _ s hsl).mono ?_
            rintro e w5 ⟨rfl, hb⟩
            simp only []
            have hO := OB.grown hO (grownBy_of_below hb none) (.inr rfl)
            have hbk := hbk.trans (hb.mono hbk.size)
            have hB := hB.below hb hB.lt
            have hR8 := blk_drop8 hB hsl
            clear hb
            go_wp2_with (at_builtin; refine app_bytes rfl _ _ rfl w1.heap.size A N c allk rfl hO (some ⟨gB, 8, none⟩) 120 120 (s.drop 8) rfl hR8 (by omega) hbk.size ?_; intro A2 N2 c2 w6 hc2 hc2' hO2 hG2)
            have hbk := hG2.own hbk (Nat.le_refl _) hO
            exact ⟨⟨0 + 1, cntB s, allk ++ s.drop 8, A2, N2, c2, by omega, congrArg (Value.int .i64) (by omega), rfl, rfl, HNX.out, hO2, hbk⟩, by simp [intOf]⟩
          · have hk0' : 0 < k := by omega
            by_cases hcn : cntB s = nk
            · have hnx := rdS_next HRD.out HSM.out (.inr hcn)
              have HNX := Lib.hid hnx
              have hcne : ((cntB s : Int) != (nk : Int)) = false := by rw [hcn]; simp
              clear hnx hcn hk0
              repeat (first | ((with_reducible refine wpl_loadG gB _ (bvs s).toArray Try.underlying28 i128 hB hsz ?_ ?_ ?_); (focus rfl); (focus rfl); simp only [Act.put, List.setIfInBounds_toArray, List.set_cons_zero, List.set_cons_succ]) | go_values | go_skip | go_guarded | go_step | go_upon | go_back)
              refine (ccount_any _ s hsl).mono ?_
              rintro e w5' ⟨rfl, hb⟩
              simp only []
              have hO := OB.grown hO (grownBy_of_below hb none) (.inr rfl)
              have hbk := hbk.trans (hb.mono hbk.size)
              have hB := hB.below hb hB.lt
              clear hb
              repeat (first | ((with_reducible refine wpl_load gB _ _ Try.underlying28 i128 hB hsz ?_ ?_); (focus rfl); simp only [Act.put, List.setIfInBounds_toArray, List.set_cons_zero, List.set_cons_succ]) | go_values | go_skip | go_guarded | go_step | go_upon | go_back)
              refine (ccount_any _ s hsl).mono ?_
              rintro e w5 ⟨rfl, hb⟩
              simp only []
              have hO := OB.grown hO (grownBy_of_below hb none) (.inr rfl)
              have hbk := hbk.trans (hb.mono hbk.size)
              have hB := hB.below hb hB.lt
              have hR8 := blk_drop8 hB hsl
              clear hb
              go_wp2_with (at_builtin; refine app_bytes rfl _ _ rfl w1.heap.size A N c allk rfl hO (some ⟨gB, 8, none⟩) 120 120 (s.drop 8) rfl hR8 (by omega) hbk.size ?_; intro A2 N2 c2 w6 hc2 hc2' hO2 hG2)
              have hbk := hG2.own hbk (Nat.le_refl _) hO
              exact ⟨⟨k + 1, cntB s, allk ++ s.drop 8, A2, N2, c2, by omega, congrArg (Value.int .i64) (by omega), rfl, rfl, HNX.out, hO2, hbk⟩, by simp [intOf]; omega⟩
            · have hbad := rdS_bad HRD.out HSM.out hk0 hcn hk10
              have HBAD := Lib.hid hbad
              have hcne : ((cntB s : Int) != (nk : Int)) = true := by simp; omega
              clear hbad hcn hk0
              repeat (first | ((with_reducible refine wpl_loadG gB _ (bvs s).toArray Try.underlying28 i128 hB hsz ?_ ?_ ?_); (focus rfl); (focus rfl); simp only [Act.put, List.setIfInBounds_toArray, List.set_cons_zero, List.set_cons_succ]) | go_values | go_skip | go_guarded | go_step | go_upon | go_back)
              refine (ccount_any _ s hsl).mono ?_
              rintro e w5' ⟨rfl, hb⟩
              simp only []
              have hbk := hbk.trans (hb.mono hbk.size)
              clear hb
              go_wp2_with fail
              go_ret2
              exact ⟨none, 0, 0, by rw [HBAD.out]; rfl, by rw [HBAD.out]; exact OB.nil_ _ _ _, hb1.trans (hbk.mono (Nat.le_of_lt hs1))⟩
        · have hne : (E != 0) = true := by simpa using hE0
          have hbad := rdF_lost hk10 (HFK.out.trans (if_neg hE0))
          have HBAD := Lib.hid hbad
          clear hbad hE0
          go_wp2_with fail
          go_ret2
          exact ⟨none, 0, 0, by rw [HBAD.out]; rfl, by rw [HBAD.out]; exact OB.nil_ _ _ _, hb1.trans (hbk.mono (Nat.le_of_lt hs1))⟩
      · obtain rfl : k = 10 := by omega
        have g1 : ¬ ((10 : Nat) : Int) < 10 := by omega
        go_wp2_with fail
        go_meet
        exact ⟨nk, allk, A, N, c, rfl, rfl, hrd, hO, hbk⟩
  case rest =>
    obtain ⟨nk, allk, A, N, c, rfl, rfl, hrd, hO, hbk⟩ := hcut
    have hal := (rdS_len HFL.out 10 nk allk hrd).1
    have hnk := (rdS_len HFL.out 10 nk allk hrd).2
    have hrf : rdF F = endF nk allk := by rw [rdF, hrd]
    have hNl := hO.len
    obtain rfl : N = 1200 := by omega
    have ht2 : takeF allk false 2 = (allk.take 2, allk.drop 2, false) := takeF_ok (k := 2) (by omega)
    have hM := num_lt16 (ys := allk.take 2) (by rw [List.length_take]; omega)
    have hl0 : (allk.drop 2).length = 1198 := by rw [List.length_drop]; omega
    unfold endF at hrf
    obtain ⟨M, hMe⟩ : ∃ M, num (allk.take 2) = M := ⟨_, rfl⟩
    obtain ⟨R, hRe⟩ : ∃ R, allk.drop 2 = R := ⟨_, rfl⟩
    rw [hMe] at hM hrf
    rw [hRe] at hl0 hrf ht2
    have HM := Lib.hid hMe
    have HT2 := Lib.hid ht2
    have HRF := Lib.hid hrf
    have HL0 := Lib.hid hl0
    clear hal hrd hrf hNl ht2 hMe hRe hP hD1 hl0
    go_wp2_with fail
    refine (cnew_any wc A 1200 c allk hO.reads (by omega)).mono ?_
    rintro e w3 ⟨gC, gb, rfl, hC, hg1, hg2, hg3, hb3⟩
    simp only []
    have hgC1 : w1.heap.size ≤ gC := Nat.le_trans hbk.size hg1
    have hbk := hbk.trans (hb3.mono hbk.size)
    clear hb3 hO hg3
    go_wp2_with fail
    refine (chalf_any w3 gC gb allk false hC).mono ?_
    rw [HT2.out, HM.out]
    rintro e w4 ⟨rfl, hC4, hgr4⟩
    simp only []
    have hbk := hbk.grown hgr4 hbk.size (fun q hq => by cases hq; exact hgC1)
    have hgC4 : gC < w4.heap.size := Nat.lt_of_lt_of_le hg2 hgr4.size
    clear hC hgr4
    by_cases h98 : M ≤ 1198
    · have ht3 : takeF R false (M : Int) = (R.take M, R.drop M, false) := takeF_ok (by rw [HL0.out]; exact h98)
      have hLd : (R.drop M).length = 1198 - M := by rw [List.length_drop, HL0.out]
      have ht4 : takeF (R.drop M) false (((1198 - M : Nat)) : Int) = (R.drop M, [], false) := by
        refine (takeF_ok (by rw [hLd]; exact Nat.le_refl _)).trans ?_
        rw [← hLd, List.take_of_length_le (Nat.le_refl _), List.drop_of_length_le (Nat.le_refl _)]
      have HT3 := Lib.hid ht3
      have HT4 := Lib.hid ht4
      have HLD := Lib.hid hLd
      clear ht3 ht4 hLd
      go_wp2_with fail
      refine (craw_any w4 gC gb R false (M : Int) hC4 (by rw [HL0.out]; omega)).mono ?_
      rw [HT3.out]
      rintro e w5 ⟨A1, N1, c1, rfl, hO5, hC5, hgr5⟩
      simp only []
      have hbk := hbk.grown hgr5 hbk.size (fun q hq => by cases hq; exact hgC1)
      have hA1 : A1.map (·.block) ≠ some gC := fun e => by have := (hO5.ge _ e).1; omega
      clear hC4 hgr5
      go_wp2_with fail
      refine (cleft_any w5 gC gb _ false hC5).mono ?_
      rw [HLD.out]
      rintro e w5' ⟨rfl, rfl⟩
      simp only []
      go_wp2_with fail
      refine (craw_any w5 gC gb _ false _ hC5 (by rw [HLD.out]; omega)).mono ?_
      rw [HT4.out]
      rintro e w6 ⟨A2, N2, c2, rfl, hO6, hC6, hgr6⟩
      simp only []
      have hbk := hbk.grown hgr6 hbk.size (fun q hq => by cases hq; exact hgC1)
      have hO5 := (OB.grown hO5 hgr6 (.inl hA1)).mono (B := w.heap.size) (by have := hbk.size; omega)
      have hR6 := hO6.reads
      have hN6 : N2 ≤ 100000 := by have := hO6.len; rw [HLD.out] at this; omega
      clear hC5 hgr6 hO6 hA1
      by_cases h11 : M ≤ 1100
      · have h11' : ¬ (1100 : Int) < (M : Int) := by omega
        obtain ⟨v, hv⟩ : ∃ v, anyB (R.drop M) = v := ⟨_, rfl⟩
        have HV := Lib.hid hv
        clear hv
        cases v
        · have hfin : rdF F = (nk, R.take M) := by rw [HRF.out, if_pos ⟨h11, by rw [all_anyB, HV.out]; rfl⟩]
          have HFIN := Lib.hid hfin
          clear hfin
          go_wp2_with (first
            | ((with_reducible refine (cok_any w6 gC gb _ false hC6).mono ?_); rintro e w7 ⟨rfl, rfl⟩; simp only [])
            | ((with_reducible refine (contains_any w6 A2 N2 c2 _ hR6 hN6).mono ?_); rw [HV.out]; rintro e w7 ⟨rfl, rfl⟩; simp only []))
          go_ret2
          exact ⟨A1, N1, c1, by rw [HFIN.out]; rfl, by rw [HFIN.out]; exact hO5, hb1.trans (hbk.mono (Nat.le_of_lt hs1))⟩
        · have hfin : rdF F = (0, []) := by rw [HRF.out, if_neg (by rw [all_anyB, HV.out]; rintro ⟨_, h⟩; cases h)]
          have HFIN := Lib.hid hfin
          clear hfin
          go_wp2_with (first
            | ((with_reducible refine (cok_any w6 gC gb _ false hC6).mono ?_); rintro e w7 ⟨rfl, rfl⟩; simp only [])
            | ((with_reducible refine (contains_any w6 A2 N2 c2 _ hR6 hN6).mono ?_); rw [HV.out]; rintro e w7 ⟨rfl, rfl⟩; simp only []))
          go_ret2
          exact ⟨none, 0, 0, by rw [HFIN.out]; rfl, by rw [HFIN.out]; exact OB.nil_ _ _ _, hb1.trans (hbk.mono (Nat.le_of_lt hs1))⟩
      · have h11' : (1100 : Int) < (M : Int) := by omega
        have hfin : rdF F = (0, []) := by rw [HRF.out, if_neg (fun h => h11 h.1)]
        have HFIN := Lib.hid hfin
        clear hfin
        go_wp2_with ((with_reducible refine (cok_any w6 gC gb _ false hC6).mono ?_); rintro e w7 ⟨rfl, rfl⟩; simp only [])
        go_ret2
        exact ⟨none, 0, 0, by rw [HFIN.out]; rfl, by rw [HFIN.out]; exact OB.nil_ _ _ _, hb1.trans (hbk.mono (Nat.le_of_lt hs1))⟩
    · have hfin : rdF F = (0, []) := by rw [HRF.out, if_neg (fun h => by omega)]
      have HFIN := Lib.hid hfin
      have ht3 : takeF R false (M : Int) = ([], R, true) := takeF_bad (.inr (.inr (by rw [HL0.out]; omega)))
      have ht4 : takeF R true 1198 = ([], R, true) := takeF_bad (.inl rfl)
      have HT3 := Lib.hid ht3
      have HT4 := Lib.hid ht4
      clear hfin ht3 ht4
      go_wp2_with fail
      refine (craw_any w4 gC gb R false (M : Int) hC4 (by rw [HL0.out]; omega)).mono ?_
      rw [HT3.out]
      rintro e w5 ⟨A1, N1, c1, rfl, hO5, hC5, hgr5⟩
      simp only []
      have hbk := hbk.grown hgr5 hbk.size (fun q hq => by cases hq; exact hgC1)
      clear hC4 hgr5 hO5
      go_wp2_with fail
      refine (cleft_any w5 gC gb _ true hC5).mono ?_
      rw [HL0.out]
      rintro e w5' ⟨rfl, rfl⟩
      simp only []
      go_wp2_with fail
      refine (craw_any w5 gC gb _ true 1198 hC5 (by rw [HL0.out]; omega)).mono ?_
      rw [HT4.out]
      rintro e w6 ⟨A2, N2, c2, rfl, hO6, hC6, hgr6⟩
      simp only []
      have hbk := hbk.grown hgr6 hbk.size (fun q hq => by cases hq; exact hgC1)
      clear hC5 hgr6 hO6
      go_wp2_with ((with_reducible refine (cok_any w6 gC gb _ true hC6).mono ?_); rintro e w7 ⟨rfl, rfl⟩; simp only [])
      go_ret2
      exact ⟨none, 0, 0, by rw [HFIN.out]; rfl, by rw [HFIN.out]; exact OB.nil_ _ _ _, hb1.trans (hbk.mono (Nat.le_of_lt hs1))⟩
end Go.Proofs.Ytmjdfajdompkeaa
namespace Go.Proofs.Ytmjdfajdompkeaa
open Go.RowKit Go.Rat
structure CS where
  p : Int
  b : List UInt8
  which : Nat
  dead : Bool
theorem OB_ne {w : World} {base : Nat} {A : Option Addr} {n c : Nat} {xs : List UInt8} {k : Nat} {T : TypeId} {cs : Array Value} (h : OB 5 w base A n c xs) (hB : Blk w k T cs) (hT : T ≠ 5) : A.map (·.block) ≠ some k := by
  intro e
  obtain ⟨cur, hc⟩ := cells_row h e
  rw [show w.heap[k]? = _ from hB] at hc
  injection hc with hc
  injection hc with _ h2
  exact hT h2
/-- A cell beside its disk. -/
structure CellAt (w : World) (base : Nat) (l : DL) (k : Nat) (s : CS) : Prop where
  blk : ∃ A N c, Blk w k 121 #[.pointer (some ⟨l.g, 0, none⟩), .int .i64 s.p, .slice A N c, .int .i64 (s.which : Int), .bool s.dead] ∧ OB 5 w base A N c s.b ∧ (∀ x, A.map (·.block) = some x → ¬ l.fp x)
  out : ¬ l.fp k
  bk : base ≤ k
  wh : s.which ≤ 1
  len : s.b.length ≤ 1100
theorem cell_ne8 : (121 : TypeId) ≠ 5 := by decide
theorem CellAt.lt {w : World} {base : Nat} {l : DL} {k : Nat} {s : CS} (h : CellAt w base l k s) : k < w.heap.size := by
  obtain ⟨_, _, _, h1, _⟩ := h.blk
  exact h1.lt
theorem CellAt.kept {w w' : World} {base : Nat} {l l' : DL} {k : Nat} {s : CS} {F : Nat → Prop} (h : CellAt w base l k s) (hc : Chg F w w') (hk : ¬ F k) (hF : ∀ x, F x → l.fp x ∨ ∃ T cs, Blk w x T cs ∧ T ≠ 5) (hg : l'.g = l.g) (hfp : ∀ x, l'.fp x → l.fp x ∨ w.heap.size ≤ x) : CellAt w' base l' k s := by
  obtain ⟨A, N, c, h1, h2, h3⟩ := h.blk
  have hA : ∀ x, A.map (·.block) = some x → ¬ F x := fun x hx hf => by
    rcases hF x hf with h4 | ⟨T, cs, h4, h5⟩
    · exact h3 x hx h4
    · exact OB_ne h2 h4 h5 hx
  refine ⟨⟨A, N, c, by rw [hg]; exact hc.blk h1 hk, hc.own h2 hA, fun x hx hf => ?_⟩, fun hf => ?_, h.bk, h.wh, h.len⟩
  · rcases hfp x hf with h4 | h4
    · exact h3 x hx h4
    · have := (h2.ge x hx).2
      omega
  · rcases hfp k hf with h4 | h4
    · exact h.out h4
    · have := h1.lt
      omega
theorem CellAt.moved {w w' : World} {base : Nat} {l l' : DL} {k : Nat} {s : CS} (h : CellAt w base l k s) (hm : Moved w w' l l') : CellAt w' base l' k s :=
  h.kept hm.chg h.out (fun _ hx => .inl hx) (congrArg Prod.fst hm.g) hm.fp
theorem CellAt.below {w w' : World} {base : Nat} {l : DL} {k : Nat} {s : CS} (h : CellAt w base l k s) (hb : Below w.heap.size w w') : CellAt w' base l k s := h.moved (Moved.of_below hb)
theorem endF_len (n : Nat) (all : List UInt8) : (endF n all).2.length ≤ 1100 := by
  unfold endF
  split
  · next h => simp only [List.length_take]; omega
  · simp
theorem rdF_len (F : Nat → Option (List UInt8)) : (rdF F).2.length ≤ 1100 := by
  unfold rdF
  split
  · simp
  · exact endF_len _ _
def openCell (d : DS) (p : Int) : CS := ⟨p, (opF d p).2, (opF d p).1, false⟩
theorem opF_wh (d : DS) (p : Int) : (opF d p).1 ≤ 1 := by
  unfold opF
  split <;> simp
theorem opF_len (d : DS) (p : Int) : (opF d p).2.length ≤ 1100 := by
  unfold opF
  split <;> exact rdF_len _
set_option maxRecDepth 20000 in
set_option maxHeartbeats 8000000 in
theorem copen_any (w : World) (base : Nat) (l : DL) (d : DS) (hD : DiskAt w base l d) (g : Nat) (hg : l.g = g) (hbase : base ≤ w.heap.size) (p : Int) (hp : 0 ≤ p ∧ p + 20 ≤ 32768) :
    Calls Try.prog 38 #[.pointer (some ⟨g, 0, none⟩), .int .i64 p] w fun e w' => ((opE d p ≠ 0 ∧ e = .returned (.tuple #[.pointer none, .int .i64 (opE d p)])) ∨
      (opE d p = 0 ∧ ∃ k, e = .returned (.tuple #[.pointer (some ⟨k, 0, none⟩), .int .i64 0]) ∧ CellAt w' base l k (openCell d p) ∧ w.heap.size ≤ k)) ∧ Below w.heap.size w w' := by
  have hmay : mayE p = 0 := if_pos ⟨hp.1, by omega⟩
  have HMAY := Lib.hid hmay
  clear hmay
  go_enter Try.func38, Try.ntmps38
  go_upto_region 2 with (fail)
  have hC := Blk.new w 121 #[.pointer (some ⟨g, 0, none⟩), .int .i64 p, .slice none 0 0, .int .i64 0, .bool false]
  have hb1 := below_alloc w (.cells #[.pointer (some ⟨g, 0, none⟩), .int .i64 p, .slice none 0 0, .int .i64 0, .bool false] 121)
  obtain ⟨w1, hw1⟩ : ∃ x, w.alloc (.cells #[.pointer (some ⟨g, 0, none⟩), .int .i64 p, .slice none 0 0, .int .i64 0, .bool false] 121) = x := ⟨_, rfl⟩
  rw [hw1] at hC hb1 ⊢
  have hs1 : w.heap.size < w1.heap.size := hC.lt
  have hD1 := hD.below hb1
  have hkf : ¬ l.fp w.heap.size := fun hf => by have := (hD.fp_lt hf).2; omega
  clear hw1 hD
  obtain ⟨k, hk⟩ : ∃ x, w.heap.size = x := ⟨_, rfl⟩
  rw [hk] at hC hkf hs1 ⊢
  have HK := Lib.hid hk
  clear hk
  have c0 := hC.cell 0
  have c1 := hC.cell 1
  simp only [List.getElem?_toArray, List.getElem?_cons_zero, List.getElem?_cons_succ] at c0 c1
  go_wp2_with fail
  refine (may_any w1 g p).mono ?_
  rw [HMAY.out]
  rintro e w2 ⟨rfl, hb2⟩
  simp only []
  have hbb : Below w.heap.size w w2 := hb1.trans (hb2.mono (by have := hb1.size; omega))
  have hC := hC.below hb2 hC.lt
  have hD2 := hD1.below hb2
  clear hb1 hb2 c0 c1 hD1
  go_wp2_with fail
  refine (gpower w2 base g l d hD2 hg).mono ?_
  rintro e w2' ⟨rfl, rfl⟩
  cases hoff : d.off
  · have ho : opE d p = if (slotV d p 0).1 = 0 ∧ (slotV d p 1).1 = 0 then 9 else 0 := by rw [opE, hoff, if_neg (by decide)]
    have hof : opF d p = if (slotV d p 0).1 < (slotV d p 1).1 then (1, (slotV d p 1).2) else (0, (slotV d p 0).2) := rfl
    have hwh := opF_wh d p
    have hln := opF_len d p
    have HO := Lib.hid ho
    have HOF := Lib.hid hof
    have HWH := Lib.hid hwh
    have HLN := Lib.hid hln
    clear ho hof hoff hwh hln
    have c0 := hC.cell 0
    have c1 := hC.cell 1
    simp only [List.getElem?_toArray, List.getElem?_cons_zero, List.getElem?_cons_succ] at c0 c1
    have hfl : ∀ x, l.fp x → x < w2.heap.size := fun x hx => (hD2.fp_lt hx).2
    simp only []
    go_wp2_with fail
    refine (cread_any w2 base l d hD2 g hg p 0 (by omega) hp).mono ?_
    rintro e w3 ⟨A0, N0, z0, rfl, hO0, hb3⟩
    simp only []
    have hbb3 := hbb.trans (hb3.mono hbb.size)
    have hC3 := hC.below hb3 hC.lt
    have hD3 := hD2.below hb3
    clear c0 c1 hC hD2
    have c0 := hC3.cell 0
    have c1 := hC3.cell 1
    simp only [List.getElem?_toArray, List.getElem?_cons_zero, List.getElem?_cons_succ] at c0 c1
    go_wp2_with fail
    refine (cread_any w3 base l d hD3 g hg p 1 (by omega) hp).mono ?_
    rintro e w4 ⟨A1, N1, z1, rfl, hO1, hb4⟩
    simp only []
    have hbb4 := hbb3.trans (hb4.mono hbb3.size)
    have hC4 := hC3.below hb4 hC3.lt
    have hD4 := hD3.below hb4
    have hO0 := OB.grown hO0 (grownBy_of_below hb4 none) (.inr rfl)
    have hf0 : ∀ x, A0.map (·.block) = some x → ¬ l.fp x := fun x hx hf => by
      have h1 := (hO0.ge x hx).1
      have h2 := hfl x hf
      omega
    have hf1 : ∀ x, A1.map (·.block) = some x → ¬ l.fp x := fun x hx hf => by
      have h1 := (hO1.ge x hx).1
      have h2 := hfl x hf
      have := hb3.size
      omega
    have hs23 : w.heap.size ≤ w2.heap.size ∧ w2.heap.size ≤ w3.heap.size := ⟨hbb.size, hb3.size⟩
    clear c0 c1 hC3 hD3 hD4 hbb hbb3 hb3 hb4 hs1 hfl
    obtain ⟨⟨n, a⟩, h0⟩ : ∃ x, slotV d p 0 = x := ⟨_, rfl⟩
    rw [h0] at HO HOF hO0 ⊢
    obtain ⟨⟨m, b⟩, h1⟩ : ∃ x, slotV d p 1 = x := ⟨_, rfl⟩
    rw [h1] at HO HOF hO1 ⊢
    clear h0 h1
    simp only at HO HOF hO0 hO1 ⊢
    by_cases hlt : n < m
    · skip
      have hoe : opE d p = 0 := by rw [HO.out, if_neg (by omega)]
      have hff : opF d p = (1, b) := by rw [HOF.out, if_pos hlt]
      have HOE := Lib.hid hoe
      have HFF := Lib.hid hff
      have hlt' : (n : Int) < (m : Int) := by omega
      clear hoe hff
      have f3 := hC4.frozen 3
      have c3 := hC4.cell 3
      have f2 := hC4.frozen 2
      have c2 := hC4.cell 2
      simp only [List.getElem?_toArray, List.getElem?_cons_zero, List.getElem?_cons_succ] at c2 c3
      have hC5 := hC4.set_ 3 (.int .i64 1)
      have hC6 := hC5.set_ 2 (.slice A1 N1 z1)
      simp only [List.setIfInBounds_toArray, List.set_cons_zero, List.set_cons_succ] at hC6
      have hg5 := grownBy_set w4 k 3 (.int .i64 1)
      have hg6 := grownBy_set (w4.setCell ⟨k, 3, none⟩ (.int .i64 1)) k 2 (.slice A1 N1 z1)
      have hO16 := (OB.grown (OB.grown hO1 hg5 (.inl (OB_ne hO1 hC4 cell_ne8))) hg6 (.inl (OB_ne hO1 hC4 cell_ne8))).mono (B := base) (by omega)
      have hbb6 := (hbb4.grown hg5 hbb4.size (fun q hq => by cases hq; exact Nat.le_of_eq HK.out)).grown hg6 (by have := hbb4.size; have := hg5.size; omega) (fun q hq => by cases hq; exact Nat.le_of_eq HK.out)
      clear hC4 hC5 hg5 hg6 hbb4 hO1 hO0
      by_cases hn0 : n = 0
      · subst hn0
        have hm0 : ((m : Int) == 0) = false := by simp; omega
        go_wp2_with fail
        go_ret2
        exact ⟨.inr ⟨by rw [HOE.out], k, rfl, ⟨⟨A1, N1, z1, by rw [hg, openCell, HFF.out]; exact hC6, by rw [openCell, HFF.out]; exact hO16, hf1⟩, hkf, by have := HK.out; omega, HWH.out, HLN.out⟩, Nat.le_of_eq HK.out⟩, hbb6⟩
      · have hn0' : ((n : Int) == 0) = false := by simpa using hn0
        clear hn0
        go_wp2_with fail
        go_ret2
        exact ⟨.inr ⟨by rw [HOE.out], k, rfl, ⟨⟨A1, N1, z1, by rw [hg, openCell, HFF.out]; exact hC6, by rw [openCell, HFF.out]; exact hO16, hf1⟩, hkf, by have := HK.out; omega, HWH.out, HLN.out⟩, Nat.le_of_eq HK.out⟩, hbb6⟩
    · by_cases hm0 : m = 0 ∧ n = 0
      · obtain ⟨rfl, rfl⟩ := hm0
        have hoe : opE d p = 9 := by rw [HO.out, if_pos ⟨rfl, rfl⟩]
        have HOE := Lib.hid hoe
        clear hoe
        go_wp2_with fail
        go_ret2
        exact ⟨.inl ⟨by rw [HOE.out]; decide, by rw [HOE.out]; rfl⟩, hbb4⟩
      · skip
        have hn0 : n ≠ 0 := by omega
        have hoe : opE d p = 0 := by rw [HO.out, if_neg (by omega)]
        have hff : opF d p = (0, a) := by rw [HOF.out, if_neg hlt]
        have HOE := Lib.hid hoe
        have HFF := Lib.hid hff
        have hlt' : ¬ (n : Int) < (m : Int) := by omega
        have hn0' : ((n : Int) == 0) = false := by simpa using hn0
        clear hoe hff hn0
        have f2 := hC4.frozen 2
        have c2 := hC4.cell 2
        simp only [List.getElem?_toArray, List.getElem?_cons_zero, List.getElem?_cons_succ] at c2
        have hC6 := hC4.set_ 2 (.slice A0 N0 z0)
        simp only [List.setIfInBounds_toArray, List.set_cons_zero, List.set_cons_succ] at hC6
        have hg6 := grownBy_set w4 k 2 (.slice A0 N0 z0)
        have hO06 := (OB.grown hO0 hg6 (.inl (OB_ne hO0 hC4 cell_ne8))).mono (B := base) (by omega)
        have hbb6 := hbb4.grown hg6 hbb4.size (fun q hq => by cases hq; exact Nat.le_of_eq HK.out)
        clear hC4 hg6 hbb4 hO1 hO0
        go_wp2_with fail
        go_ret2
        exact ⟨.inr ⟨by rw [HOE.out], k, rfl, ⟨⟨A0, N0, z0, by rw [hg, openCell, HFF.out]; exact hC6, by rw [openCell, HFF.out]; exact hO06, hf0⟩, hkf, by have := HK.out; omega, HWH.out, HLN.out⟩, Nat.le_of_eq HK.out⟩, hbb6⟩
  · have ho : opE d p = 8 := by rw [opE, hoff, if_pos rfl]
    have HO := Lib.hid ho
    clear ho hoff
    simp only []
    go_wp2_with fail
    go_ret2
    exact ⟨.inl ⟨by rw [HO.out]; decide, by rw [HO.out]; rfl⟩, hbb⟩
end Go.Proofs.Ytmjdfajdompkeaa
