/- book: a page is read. -/
import Derived.Test.YtmjdfajdompkeaaKq14
namespace Go.Proofs.Ytmjdfajdompkeaa
open Go.RowKit Go.Rat
def headL (h : PH) : List Value := [.int .u64 (h.life : Int), .int .u64 (h.number : Int), .int .u16 (h.page : Int), .int .u16 (h.pages : Int)]
def headV (h : PH) : Value := .agg (headL h).toArray
theorem page_cuts {s : List UInt8} (hs : s.length = 128) : ∃ s1 s2 s3 s4, takeF s false 8 = (s.take 8, s1, false) ∧ takeF s1 false 8 = (s1.take 8, s2, false) ∧ takeF s2 false 2 = (s2.take 2, s3, false) ∧ takeF s3 false 2 = (s3.take 2, s4, false) ∧ takeF s4 false 108 = (restR s, [], false) ∧
    headR s = ⟨num (s.take 8), num (s1.take 8), num (s2.take 2), num (s3.take 2)⟩ ∧ s4.length = 108 ∧ (restR s).length = 108 := by
  have l1 : (s.drop 8).length = 120 := by rw [List.length_drop]; omega
  have l2 : ((s.drop 8).drop 8).length = 112 := by rw [List.length_drop]; omega
  have l3 : (((s.drop 8).drop 8).drop 2).length = 110 := by rw [List.length_drop]; omega
  have l4 : ((((s.drop 8).drop 8).drop 2).drop 2).length = 108 := by rw [List.length_drop]; omega
  refine ⟨s.drop 8, (s.drop 8).drop 8, ((s.drop 8).drop 8).drop 2, (((s.drop 8).drop 8).drop 2).drop 2, takeF_ok (k := 8) (by omega), takeF_ok (k := 8) (by omega), takeF_ok (k := 2) (by omega), takeF_ok (k := 2) (by omega), ?_, rfl, l4, ?_⟩
  · have h := takeF_ok (xs := (((s.drop 8).drop 8).drop 2).drop 2) (k := 108) (by omega)
    have h2 : ((((s.drop 8).drop 8).drop 2).drop 2).drop 108 = [] := List.drop_of_length_le (by omega)
    rw [h2] at h
    exact h
  · rw [restR, List.length_take, l4]
    rfl
theorem rb_row {w : World} {g : Nat} {T : TypeId} {xs : List UInt8} (h : Blk w g T (bvs xs).toArray) (k : Nat) (hk : xs.length = k) : RB w (some ⟨g, 0, none⟩) k xs := by
  have := h.reads xs (by rw [List.take_of_length_le (by rw [bvs_length]; exact Nat.le_refl _)])
  rwa [hk] at this
theorem headL_length (h : PH) : (headL h).length = 4 := rfl
theorem headL_ones (h : PH) : (headL h).toArray.all (·.oneCell') = true := by simp [headL, Value.oneCell']
theorem i4 : (Try.prog.info? 158).map (·.size) = some 4 := by kernel_rfl
theorem results_head1 {fn : Func} {p q r : Tmp} (h : fn.results = #[.cell p 158, .tmp q, .tmp r]) (tmps : Array Value) (w : World) (g : Nat) (hd : PH) (v u : Value)
    (hp : tmps.getD p undef = .pointer (some ⟨g, 0, none⟩)) (hq : tmps.getD q undef = v) (hr : tmps.getD r undef = u) (hB : Blk w g 158 (headL hd).toArray) :
    (results fn tmps).run Try.prog w = .ok (.tuple #[headV hd, v, u]) w := by
  have hp' : tmps[p]?.getD undef = .pointer (some ⟨g, 0, none⟩) := by simpa using hp
  have hq' : tmps[q]?.getD undef = v := by simpa using hq
  have hr' : tmps[r]?.getD undef = u := by simpa using hr
  simp [results, h, hp', hq', hr', asAddr, run_loadVar_row w g 158 158 (headL hd).toArray (0, 0) _ hB Try.underlying158 rfl i4, headV]
theorem results_head2 {fn : Func} {p q r : Tmp} (h : fn.results = #[.tmp q, .cell p 158, .tmp r]) (tmps : Array Value) (w : World) (g : Nat) (hd : PH) (v u : Value)
    (hp : tmps.getD p undef = .pointer (some ⟨g, 0, none⟩)) (hq : tmps.getD q undef = v) (hr : tmps.getD r undef = u) (hB : Blk w g 158 (headL hd).toArray) :
    (results fn tmps).run Try.prog w = .ok (.tuple #[v, headV hd, u]) w := by
  have hp' : tmps[p]?.getD undef = .pointer (some ⟨g, 0, none⟩) := by simpa using hp
  have hq' : tmps[q]?.getD undef = v := by simpa using hq
  have hr' : tmps[r]?.getD undef = u := by simpa using hr
  simp [results, h, hp', hq', hr', asAddr, run_loadVar_row w g 158 158 (headL hd).toArray (0, 0) _ hB Try.underlying158 rfl i4, headV]
section
variable {w : World} {ops : Array Oper} {rest : List Oper} {a : Act} {Q : Exit → Act → World → Prop} {d : Option Tmp} {x y : Operand} {t : TypeId} {p : String} {af : Array Edge}
theorem wpl_head_put (g : Nat) (h h' : PH) (hB : Blk w g 158 (headL h).toArray) (hx : a.eval x = .pointer (some ⟨g, 0, none⟩)) (hy : a.eval y = headV h')
    (k : ∀ z, Blk z g 158 (headL h').toArray → w.grownBy z (some g) → wpList Try.prog ops Q rest (a.put d undef) z) :
    wpList Try.prog ops Q ({ dst := d, op := .store 158 x y, type := t, pos := p, after := af, guard := none } :: rest) a w :=
  wpl_store g 158 (headL h).toArray (headL h').toArray i4 hB rfl rfl (headL_ones h') hx hy (k _ (hB.setRow _) (grownBy_setRow _ _ _))
theorem wpl_head_get (g : Nat) (h : PH) (hB : Blk w g 158 (headL h).toArray) (hx : a.eval x = .pointer (some ⟨g, 0, none⟩)) (k : wpList Try.prog ops Q rest (a.put d (headV h)) w) :
    wpList Try.prog ops Q ({ dst := d, op := .load 158 x, type := t, pos := p, after := af, guard := none } :: rest) a w :=
  wpl_load_mid g 0 (headL h) (headL h) Try.underlying158 rfl i4 hB rfl rfl hx k
theorem wpl_head_getM {gd : Option (Nat × Bool)} (g : Nat) (h : PH) (hB : Blk w g 158 (headL h).toArray) (hw : Region.wanted { dst := d, op := .load 158 x, type := t, pos := p, after := af, guard := gd } (yielded ops a.tmps) = true)
    (hx : a.eval x = .pointer (some ⟨g, 0, none⟩)) (k : wpList Try.prog ops Q rest (a.put d (headV h)) w) :
    wpList Try.prog ops Q ({ dst := d, op := .load 158 x, type := t, pos := p, after := af, guard := gd } :: rest) a w :=
  wpl_loadM g 0 (headL h) (headL h) Try.underlying158 rfl i4 hB rfl rfl hw hx k
theorem head_get_run {o : Oper} (ho : o.op = .load 158 x) (g : Nat) (h : PH) (hB : Blk w g 158 (headL h).toArray) (hx : a.eval x = .pointer (some ⟨g, 0, none⟩)) : (execOp a.eval o).run Try.prog w = .ok (.value (headV h)) w :=
  load_mid_run ho g 0 (headL h) (headL h) Try.underlying158 rfl i4 hB rfl rfl hx
theorem wp_head_put {o' : Oper} {K : Act → World → Prop} (ho : o'.op = .store 158 x y) (g : Nat) (h h' : PH) (hB : Blk w g 158 (headL h).toArray)
    (hx : a.eval x = .pointer (some ⟨g, 0, none⟩)) (hy : a.eval y = headV h') (k : ∀ z, Blk z g 158 (headL h').toArray → w.grownBy z (some g) → K (a.put o'.dst undef) z) : o'.wp Try.prog a w K Q :=
  wp_store_midR ho g 0 (headL h) (headL h') i4 hB (by simp [headL]) (fun v hv => Array.all_eq_true_iff_forall_mem.1 (headL_ones h') v (by simpa using hv)) hx hy (k _ (hB.setRow _) (grownBy_setRow _ _ _))
end
theorem head_guard (op : BinOp) (x y : Operand) (g h : PH) (z : World) : (eqGuard op 158 x y (headV g) (headV h)).run Try.prog z = .ok () z := run_eqGuard_agg z op _ x y _ _ (by kernel_rfl)
theorem head_neq (g h : PH) (b : Bool) (hb : b = true ↔ ¬ (g.life = h.life ∧ g.number = h.number ∧ g.page = h.page ∧ g.pages = h.pages)) (z : World) : (binOp .neq 158 (headV g) (headV h)).run Try.prog z = .ok (.bool b) z := by
  have hS : Try.prog.underlying 158 = some (.struct (Try.prog.fieldsOf 158)) := by kernel_rfl
  have hp : Try.prog.stoodInHeld 158 = false := by kernel_rfl
  have u1 := Try.underlying90
  have u2 := Try.underlying134
  unfold headV headL
  rw [run_neq_struct, show (10000 : Nat) = 9999 + 1 from rfl, run_equalIn_agg z 9999 158 _ _ hS hp]
  simp only [Program.fieldsOf, Try.underlying158]
  go_simp
  by_cases h1 : g.life = h.life
  · by_cases h2 : g.number = h.number
    · by_cases h3 : g.page = h.page
      · by_cases h4 : g.pages = h.pages
        · have : b = false := by cases b with
            | false => rfl
            | true => exact absurd ⟨h1, h2, h3, h4⟩ (hb.1 rfl)
          simp [h1, h2, h3, h4, this]
        · have : b = true := hb.2 (fun q => h4 q.2.2.2)
          rw [if_pos (by omega), if_pos (by omega), if_pos (by omega), if_neg (by omega), this]
      · have : b = true := hb.2 (fun q => h3 q.2.2.1)
        rw [if_pos (by omega), if_pos (by omega), if_neg (by omega), this]
    · have : b = true := hb.2 (fun q => h2 q.2.1)
      rw [if_pos (by omega), if_neg (by omega), this]
  · have : b = true := hb.2 (fun q => h1 q.1)
    rw [if_neg (by omega), this]
set_option maxRecDepth 20000 in
set_option maxHeartbeats 4000000 in
theorem bpage_any (w : World) (base : Nat) (l : DL) (d : DS) (hD : DiskAt w base l d) (k : Nat) (s : BS) (hB : BookAt w base l k s) (p : Int) :
    Calls Try.prog 105 #[.pointer (some ⟨k, 0, none⟩), .int .i64 p] w fun e w' => ∃ A c, e = .returned (.tuple #[headV (((pgF (seeD d) s.lim p).map (·.1)).getD ⟨0, 0, 0, 0⟩), .slice A (((pgF (seeD d) s.lim p).map (·.2)).getD []).length c, .bool (pgF (seeD d) s.lim p).isSome]) ∧
      OB 5 w' w.heap.size A (((pgF (seeD d) s.lim p).map (·.2)).getD []).length c (((pgF (seeD d) s.lim p).map (·.2)).getD []) ∧ Below w.heap.size w w' := by
  obtain ⟨R, hR⟩ : ∃ R, pgF (seeD d) s.lim p = R := ⟨_, rfl⟩
  rw [hR]
  rw [pgF] at hR
  have HR := Lib.hid hR
  clear hR
  obtain ⟨lim, hlim⟩ : ∃ x, s.lim = x := ⟨_, rfl⟩
  have hK := hB.blk
  rw [hlim] at HR hK
  clear hB hlim
  go_enter Try.func105, Try.ntmps105
  go_upto_region 1 with (fail)
  have hH := Blk.new w 158 (headL ⟨0, 0, 0, 0⟩).toArray
  have hb1 := below_alloc w (.cells (headL ⟨0, 0, 0, 0⟩).toArray 158)
  have hal : (.cells #[.int .u64 0, .int .u64 0, .int .u16 0, .int .u16 0] 158 : Obj) = .cells (headL ⟨0, 0, 0, 0⟩).toArray 158 := rfl
  rw [hal]
  obtain ⟨w1, hw1⟩ : ∃ x, w.alloc (.cells (headL ⟨0, 0, 0, 0⟩).toArray 158) = x := ⟨_, rfl⟩
  rw [hw1] at hH hb1 ⊢
  have hK1 := hK.below hb1 hK.lt
  have hD1 := hD.below hb1
  have hs1 : w.heap.size < w1.heap.size := hH.lt
  clear hw1 hK hD hal
  obtain ⟨h0, hh0⟩ : ∃ x, w.heap.size = x := ⟨_, rfl⟩
  rw [hh0] at hH hs1 ⊢
  have HH := Lib.hid hh0
  clear hh0
  have c0 := hK1.cell 0
  have c2 := hK1.cell 2
  simp only [List.getElem?_toArray, List.getElem?_cons_zero, List.getElem?_cons_succ] at c0 c2
  by_cases hp : lim ≤ p
  · have hR := HR.out
    rw [if_pos hp] at hR
    subst hR
    repeat (first | ((with_reducible refine wpl_head_get h0 _ hH ?_ ?_); (focus rfl); simp only [Act.put]) | ((with_reducible refine wpl_head_put h0 _ ⟨0, 0, 0, 0⟩ hH ?_ ?_ ?_); (focus rfl); (focus rfl); intro w2 hH2 hg2; simp only [Act.put]; refine Hid.out ?_) | go_values | go_skip | go_guarded | go_step | go_upon | go_back)
    refine Lib.hid ?_
    go_wp2_with fail
    refine bodyPost_ret (results_head1 rfl _ _ h0 ⟨0, 0, 0, 0⟩ _ _ rfl rfl rfl hH2) rfl ?_
    exact ⟨none, 0, rfl, OB.nil_ _ _ _, hb1.grown hg2 (Nat.le_of_lt (by have := HH.out; omega)) (fun q hq => by cases hq; exact Nat.le_of_eq HH.out)⟩
  · have hR := HR.out
    rw [if_neg hp] at hR
    obtain ⟨E, hE⟩ : ∃ E, readE d p = E := ⟨_, rfl⟩
    obtain ⟨b, hb⟩ : ∃ b, readB d p = b := ⟨_, rfl⟩
    have hbl : b.length = 128 := by rw [← hb]; exact readB_length hD1.ok _
    rw [seeD, hE, hb] at hR
    have HR := Lib.hid hR
    have HE := Lib.hid hE
    have HBB := Lib.hid hb
    clear hR hE hb
    have hsz : (bvs b).toArray.size = 128 := by rw [bvs_size, hbl]
    go_wp2_with fail
    refine (gread w1 base l.g l d hD1 rfl p).mono ?_
    rw [HE.out, HBB.out]
    rintro e w3 ⟨rfl, hb3⟩
    have hH3 := hH.below hb3 hH.lt
    have hb13 : Below w.heap.size w w3 := hb1.trans (hb3.mono hb1.size)
    have hs3 : h0 < w3.heap.size := Nat.lt_of_lt_of_le hs1 hb3.size
    simp only []
    clear hb1 hb3 hD1 hK1 c0 c2 hH hs1
    repeat (first | ((with_reducible refine wpl_store_fresh (bvs b).toArray i128 ?_ hsz (bvs_all _) ?_ ?_ ?_); (focus kernel_rfl); (focus rfl); (focus rfl); intro w4 hB hl4 hb4; simp only [Act.put]; refine Hid.out ?_) | go_values | go_skip | go_guarded | go_step | go_upon | go_back)
    refine Lib.hid ?_
    have hH4 := hH3.below hb4 hH3.lt
    have hb14 := hb13.trans (hb4.mono hb13.size)
    obtain ⟨h1, hh1⟩ : ∃ x, w3.heap.size = x := ⟨_, rfl⟩
    rw [hh1] at hB hl4 ⊢
    have H1 := Lib.hid hh1
    clear hh1 hb4 hb13 hH3
    by_cases hE0 : E = 0
    · subst hE0
      have hR := HR.out
      rw [if_pos rfl] at hR
      simp only [] at hR
      subst hR
      obtain ⟨s1, s2, s3, s4, t1, t2, t3, t4, t5, hhd, hl4', hrl⟩ := page_cuts hbl
      have T1 := Lib.hid t1
      have T2 := Lib.hid t2
      have T3 := Lib.hid t3
      have T4 := Lib.hid t4
      have T5 := Lib.hid t5
      have HHD := Lib.hid hhd
      have hrd := rb_row hB 128 hbl
      have hb18 := hb14.size
      have hHH := HH.out
      clear t1 t2 t3 t4 t5 hhd HR HBB HE hB hp
      go_wp2_with fail
      refine (cnew_any w4 _ 128 128 b hrd (by omega)).mono ?_
      rintro e w5 ⟨gc, gb, rfl, hU, hg1, hg2, hg3, hb5⟩
      have hH := hH4.below hb5 hH4.lt
      have hbb := hb14.trans (hb5.mono hb14.size)
      simp only []
      have hgc : h0 < gc := Nat.lt_of_lt_of_le hH4.lt hg1
      have hgbh : gb ≠ some h0 := fun e => by have h1 := (hg3 _ e).1; have h2 := hH4.lt; omega
      clear hb5 hb14 hH4 hg1 hg2 hg3 hrd hl4 H1
      go_wp2_with fail
      refine (cword_any w5 gc gb _ false hU).mono ?_
      rw [T1.out]
      rintro e w6 ⟨rfl, hU, hg⟩
      have hH := hH.grown hg (by intro e; injection e with e; omega)
      have hbb := hbb.grown hg hbb.size (fun q hq => by cases hq; omega)
      simp only []
      clear hg
      go_wp2_with fail
      refine (cword_any w6 gc gb _ false hU).mono ?_
      rw [T2.out]
      rintro e w7 ⟨rfl, hU, hg⟩
      have hH := hH.grown hg (by intro e; injection e with e; omega)
      have hbb := hbb.grown hg hbb.size (fun q hq => by cases hq; omega)
      simp only []
      clear hg
      go_wp2_with fail
      refine (chalf_any w7 gc gb _ false hU).mono ?_
      rw [T3.out]
      rintro e w8 ⟨rfl, hU, hg⟩
      have hH := hH.grown hg (by intro e; injection e with e; omega)
      have hbb := hbb.grown hg hbb.size (fun q hq => by cases hq; omega)
      simp only []
      clear hg
      go_wp2_with fail
      refine (chalf_any w8 gc gb _ false hU).mono ?_
      rw [T4.out]
      rintro e w9 ⟨rfl, hU, hg⟩
      have hH := hH.grown hg (by intro e; injection e with e; omega)
      have hbb := hbb.grown hg hbb.size (fun q hq => by cases hq; omega)
      simp only []
      clear hg
      obtain ⟨hd, hhe⟩ : ∃ x, headR b = x := ⟨_, rfl⟩
      obtain ⟨rs, hrs⟩ : ∃ x, restR b = x := ⟨_, rfl⟩
      have HE1 := Lib.hid (HHD.out.symm.trans hhe)
      have HE2 := Lib.hid hhe
      have HE3 := Lib.hid hrs
      rw [hrs] at T5 hrl
      clear hhe hrs HHD T1 T2 T3 T4
      repeat (first | ((with_reducible refine wpl_head_put h0 _ hd hH ?_ ?_ ?_); (focus rfl); (focus rw [← HE1.out]; rfl); intro w10 hH2 hg2; simp only [Act.put]; refine Hid.out ?_) | go_values | go_skip | go_guarded | go_step | go_upon | go_back)
      refine Lib.hid ?_
      have hU := hU.grown hg2 (by intro e; injection e with e; omega) (.inl hgbh)
      have hbb := hbb.grown hg2 hbb.size (fun q hq => by cases hq; omega)
      clear hH hg2
      go_wp2_with fail
      refine wp_region_plan [(0, true), (1, true), (2, false), (3, false), (4, true), (5, true)] (fun z => Blk z h0 158 (headL hd).toArray) (by kernel_rfl) (by kernel_rfl) (by kernel_rfl) (by kernel_rfl) (fun _ _ d _ _ h => by cases d <;> exact h) hH2 ?_
      simp only [planOps, List.getElem?_toArray, List.getElem?_cons_zero, List.getElem?_cons_succ]
      refine wpS_q (headV hd) (by rfl) (fun z hz => head_get_run rfl h0 hd hz rfl) ?_
      simp only [Act.put]
      iterate 1 (refine wpS_q ?_ (by rfl) ?_ ?_; rotate_left; (focus (intro z hz; (try dsimp only at hz); go_simp; rfl)); simp only [Act.put, List.setIfInBounds_toArray, List.set_cons_zero, List.set_cons_succ])
      refine wpS_l (by rfl) (fun K hK => ?_)
      have hU := hU.grown (grownBy_of_below (drew_below (w := w10)) none) (by simp) (.inr rfl)
      go_wp2_with fail
      refine (craw_any w10.drew gc gb s4 false 108 hU (by omega)).mono ?_
      rw [T5.out]
      rintro e w11 ⟨A, N, c, rfl, hO0, _, hg⟩
      have hN : rs.length = N := hO0.len
      obtain rfl : N = 108 := by omega
      have hO : OB 5 w11 h0 A 108 c rs := hO0.mono (by have h1 := (below_next' hbb (drew_below (w := w10))).size; omega)
      have hbb0 := hbb
      have h0l : h0 < w10.drew.heap.size := hH2.lt
      have hbb := (below_next' hbb (drew_below (w := w10))).grown hg hbb.size (fun q hq => by cases hq; omega)
      have hA : ∀ x, A.map (·.block) = some x → x ≠ h0 := fun x hx => by
        have h1 := (hO0.ge x hx).1
        omega
      have hH2 : Blk w10.drew h0 158 (headL hd).toArray := hH2
      have hH := hH2.grown hg (by intro e; injection e with e; omega)
      refine hK _ _ (fun z => Blk z h0 158 (headL hd).toArray) hH (fun _ h => h) ?_
      clear hK hU hg hH2 hO0 hbb0 h0l hN
      refine wpS_l (by rfl) (fun K hK => ?_)
      refine wp_head_put rfl h0 hd hd hH rfl rfl ?_
      intro w12 hH2 hg
      refine hK _ _ (fun z => Blk z h0 158 (headL hd).toArray) hH2 (fun _ h => h) ?_
      have hO := OB.grown hO hg (.inl (fun e => hA _ e rfl))
      have hbb := hbb.grown hg hbb.size (fun q hq => by cases hq; omega)
      clear hK hH hg
      simp only [Act.put]
      iterate 2 (refine wpS_q ?_ (by rfl) ?_ ?_; rotate_left; (focus (intro z hz; (try dsimp only at hz); go_simp; rfl)); simp only [Act.put, List.setIfInBounds_toArray, List.set_cons_zero, List.set_cons_succ])
      refine wpS_nil ?_
      go_wp2_with fail
      refine bodyPost_ret (results_head1 rfl _ _ h0 hd _ _ rfl rfl rfl hH2) rfl ?_
      rw [HE2.out, HE3.out]
      simp only [hrl]
      exact ⟨A, c, rfl, hO, by rw [← HH.out]; exact hbb⟩
    · have hne : (E != 0) = true := by simpa using hE0
      have hR := HR.out
      rw [if_neg hE0] at hR
      simp only [] at hR
      subst hR
      clear hE0 HR HBB HE hB
      repeat (first | ((with_reducible refine wpl_head_get h0 _ hH4 ?_ ?_); (focus rfl); simp only [Act.put]) | ((with_reducible refine wpl_head_put h0 _ ⟨0, 0, 0, 0⟩ hH4 ?_ ?_ ?_); (focus rfl); (focus rfl); intro w5 hH2 hg2; simp only [Act.put]; refine Hid.out ?_) | go_values | go_skip | go_guarded | go_step | go_upon | go_back)
      refine Lib.hid ?_
      go_wp2_with fail
      refine bodyPost_ret (results_head1 rfl _ _ h0 ⟨0, 0, 0, 0⟩ _ _ rfl rfl rfl hH2) rfl ?_
      exact ⟨none, 0, rfl, OB.nil_ _ _ _, hb14.grown hg2 hb14.size (fun q hq => by cases hq; exact Nat.le_of_eq HH.out)⟩
end Go.Proofs.Ytmjdfajdompkeaa
namespace Go.Proofs.Ytmjdfajdompkeaa
open Go.RowKit Go.Rat
set_option maxRecDepth 20000 in
set_option maxHeartbeats 8000000 in
theorem bread_any (w : World) (base : Nat) (l : DL) (d : DS) (hD : DiskAt w base l d) (k : Nat) (s : BS) (hB : BookAt w base l k s) (hs : 0 ≤ s.next ∧ s.next ≤ 32768 ∧ s.n ≤ 32768 ∧ s.life < 2 ^ 64) (fr : Nat) (_hfr : fr < 2 ^ 64) :
    Calls Try.prog 92 #[.pointer (some ⟨k, 0, none⟩), .int .u64 (fr : Int)] w fun e w' => ((readF (seeD d) s.lim s.next s.n fr s.life = none ∧ ∃ h : PH, e = .returned (.tuple #[.slice none 0 0, headV h, .bool false])) ∨
      (∃ r h A N c, readF (seeD d) s.lim s.next s.n fr s.life = some (r, h) ∧ e = .returned (.tuple #[.slice A N c, headV h, .bool true]) ∧ OB 5 w' w.heap.size A N c r)) ∧ Below w.heap.size w w' := by
  obtain ⟨R, hR⟩ : ∃ R, pgF (seeD d) s.lim s.next = R := ⟨_, rfl⟩
  obtain ⟨RF, hRF⟩ : ∃ R, readF (seeD d) s.lim s.next s.n fr s.life = R := ⟨_, rfl⟩
  rw [hRF]
  have HR := Lib.hid hR
  have HRF := Lib.hid hRF
  have HS := Lib.hid hs
  have hVl : ∀ a x, seeD d a = some x → x.length = 128 := fun a x hx => by
    unfold seeD at hx
    split at hx
    · cases hx
      exact readB_length hD.ok _
    · cases hx
  have HVL := Lib.hid hVl
  clear hR hRF hVl
  go_enter Try.func92, Try.ntmps92
  go_upto_region 1 with (fail)
  have hH := Blk.new w 158 (headL ⟨0, 0, 0, 0⟩).toArray
  have hb1 := below_alloc w (.cells (headL ⟨0, 0, 0, 0⟩).toArray 158)
  have hal : (.cells #[.int .u64 0, .int .u64 0, .int .u16 0, .int .u16 0] 158 : Obj) = .cells (headL ⟨0, 0, 0, 0⟩).toArray 158 := rfl
  rw [hal]
  obtain ⟨w1, hw1⟩ : ∃ x, w.alloc (.cells (headL ⟨0, 0, 0, 0⟩).toArray 158) = x := ⟨_, rfl⟩
  rw [hw1] at hH hb1 ⊢
  have hB1 := hB.below hb1
  have hD1 := hD.below hb1
  have hkh : k < w.heap.size := hB.blk.lt
  have hs1 : w.heap.size < w1.heap.size := hH.lt
  clear hw1 hal
  obtain ⟨h0, hh0⟩ : ∃ x, w.heap.size = x := ⟨_, rfl⟩
  rw [hh0] at hH hs1 hkh ⊢
  have HH := Lib.hid hh0
  clear hh0
  have c1 := hB1.blk.cell 1
  simp only [List.getElem?_toArray, List.getElem?_cons_zero, List.getElem?_cons_succ] at c1
  go_wp2_with fail
  refine (bpage_any w1 base l d hD1 k s hB1 s.next).mono ?_
  rw [HR.out]
  rintro e w2 ⟨A, c, rfl, hO, hb2⟩
  have hH := hH.below hb2 hH.lt
  have hB2 := hB1.below hb2
  have hD2 := hD1.below hb2
  have hbb := hb1.trans (hb2.mono hb1.size)
  have hs2 := hb2.size
  simp only []
  clear hB1 hD1 hb1 hb2 c1
  match R, HR with
  | none, HR =>
    have hrf : RF = none := by rw [← HRF.out]; exact readF_none1 HR.out
    repeat (first | ((with_reducible refine wpl_head_put h0 _ ⟨0, 0, 0, 0⟩ hH ?_ ?_ ?_); (focus rfl); (focus rfl); intro w3 hH3 hg3; simp only [Act.put]; refine Hid.out ?_) | go_values | go_skip | go_guarded | go_step | go_upon | go_back)
    refine Lib.hid ?_
    have hbb := hbb.grown hg3 hbb.size (fun q hq => by cases hq; exact Nat.le_of_eq HH.out)
    clear hH hg3 hB2 hD2 hO hs2
    go_wp2_with fail
    refine wp_region_plan [(0, true), (1, true), (2, true), (3, true), (4, true), (5, true), (6, true), (7, true), (8, true), (9, true), (10, true), (11, true), (12, true), (13, true), (14, true), (15, true), (16, true), (17, true), (18, true), (19, true), (20, true), (21, true), (22, true), (23, true), (24, true), (25, true), (26, true), (27, true), (28, true), (29, true), (30, true), (31, true), (32, true)] (fun z => True) (by kernel_rfl) (by kernel_rfl) (by kernel_rfl) (by kernel_rfl) (fun _ _ d _ _ h => by cases d <;> exact h) trivial ?_
    simp only [planOps, List.getElem?_toArray, List.getElem?_cons_zero, List.getElem?_cons_succ]
    repeat (first
      | (refine wpS_skip (by rfl) ?_; simp only [Act.put, List.setIfInBounds_toArray, List.set_cons_zero, List.set_cons_succ])
      | (refine wpS_q ?_ (by rfl) ?_ ?_; rotate_left; (focus (intro z hz; (try dsimp only at hz); go_simp; rfl)); simp only [Act.put, List.setIfInBounds_toArray, List.set_cons_zero, List.set_cons_succ]))
    refine wpS_nil ?_
    go_wp2_with fail
    refine wp_region_plan [(0, true), (1, true), (2, false), (3, true)] (fun z => Blk z h0 158 (headL ⟨0, 0, 0, 0⟩).toArray) (by kernel_rfl) (by kernel_rfl) (by kernel_rfl) (by kernel_rfl) (fun _ _ d _ _ h => by cases d <;> exact h) hH3 ?_
    simp only [planOps, List.getElem?_toArray, List.getElem?_cons_zero, List.getElem?_cons_succ]
    refine wpS_q (headV ⟨0, 0, 0, 0⟩) (by rfl) (fun z hz => head_get_run rfl h0 ⟨0, 0, 0, 0⟩ hz rfl) ?_
    simp only [Act.put, List.setIfInBounds_toArray, List.set_cons_zero, List.set_cons_succ]
    iterate 1 (refine wpS_q ?_ (by rfl) ?_ ?_; rotate_left; (focus (intro z hz; (try dsimp only at hz); go_simp; rfl)); simp only [Act.put, List.setIfInBounds_toArray, List.set_cons_zero, List.set_cons_succ])
    refine wpS_l (by rfl) (fun K hK => ?_)
    refine wp_head_put rfl h0 ⟨0, 0, 0, 0⟩ ⟨0, 0, 0, 0⟩ hH3 rfl rfl ?_
    intro wz hHz hgz
    refine hK _ _ (fun z => Blk z h0 158 (headL ⟨0, 0, 0, 0⟩).toArray) hHz (fun _ h => h) ?_
    simp only [Act.put]
    iterate 1 (refine wpS_q ?_ (by rfl) ?_ ?_; rotate_left; (focus (intro z hz; (try dsimp only at hz); go_simp; rfl)); simp only [Act.put, List.setIfInBounds_toArray, List.set_cons_zero, List.set_cons_succ])
    refine wpS_nil ?_
    go_wp2_with fail
    refine bodyPost_ret (results_head2 rfl _ _ h0 ⟨0, 0, 0, 0⟩ _ _ rfl rfl rfl hHz) rfl ?_
    have hbz := (below_next' (below_next' hbb drew_below) drew_below).grown hgz (below_next' (below_next' hbb drew_below) drew_below).size (fun q hq => by cases hq; exact Nat.le_of_eq HH.out)
    exact ⟨.inl ⟨hrf, ⟨0, 0, 0, 0⟩, rfl⟩, hbz⟩
  | some (h, r0), HR =>
    simp only [Option.map_some, Option.getD_some] at hO
    have hpl := pgF_len HVL.out HR.out
    have hs := HS.out
    have hO : OB 5 w2 w1.heap.size A 108 c r0 := by
      have h := hO
      rwa [hpl.1] at h
    repeat (first | ((with_reducible refine wpl_head_put h0 _ h hH ?_ ?_ ?_); (focus rfl); (focus rfl); intro w3 hH3 hg3; simp only [Act.put]; refine Hid.out ?_) | go_values | go_skip | go_guarded | go_step | go_upon | go_back)
    refine Lib.hid ?_
    have hbb := hbb.grown hg3 hbb.size (fun q hq => by cases hq; exact Nat.le_of_eq HH.out)
    have hne1 : ∀ x, A.map (·.block) = some x → x ≠ h0 := fun x hx => by have := (hO.ge x hx).1; omega
    have hO := OB.grown hO hg3 (.inl (fun e => hne1 _ e rfl))
    have hB3 := hB.below hbb
    have e0 := hH3.cell 0
    have e1 := hH3.cell 1
    have e2 := hH3.cell 2
    have e3 := hH3.cell 3
    have c3 := hB3.blk.cell 3
    have c4 := hB3.blk.cell 4
    simp only [headL, List.getElem?_toArray, List.getElem?_cons_zero, List.getElem?_cons_succ] at e0 e1 e2 e3 c3 c4
    have hz3 : w1.heap.size ≤ w3.heap.size := by have := hg3.size; omega
    clear hH hg3 hB2 hD2 hs2 hB3 hne1
    have hwn0 : IntKind.i64.wrap ((s.n : Int) + 1) = (s.n : Int) + 1 := IntWalk.i64_in _ (by omega)
    have hwn : IntKind.u64.wrap ((s.n : Int) + 1) = (s.n : Int) + 1 := IntWalk.u64_in _ (by omega)
    go_wp2_with fail
    by_cases n1 : h.number = s.n + 1
    rotate_left
    · have hrf : RF = none := by rw [← HRF.out]; exact readF_none2 HR.out (fun q => n1 q.1)
      have m1 : ((h.number : Int) != (s.n : Int) + 1) = true := by simp; omega
      clear hs hpl hO
      refine wp_region_plan [(0, true), (1, true), (2, true), (3, true), (4, true), (5, true), (6, true), (7, true), (8, true), (9, true), (10, true), (11, true), (12, true), (13, true), (14, true), (15, true), (16, true), (17, true), (18, true), (19, true), (20, true), (21, true), (22, true), (23, true), (24, true), (25, true), (26, true), (27, true), (28, true), (29, true), (30, true), (31, true), (32, true)] (fun z => z.cell? ⟨h0, 0, none⟩ = some (.int .u64 (h.life : Int)) ∧ z.cell? ⟨h0, 1, none⟩ = some (.int .u64 (h.number : Int)) ∧ z.cell? ⟨h0, 2, none⟩ = some (.int .u16 (h.page : Int)) ∧ z.cell? ⟨k, 3, none⟩ = some (.int .u64 (s.life : Int)) ∧ z.cell? ⟨k, 4, none⟩ = some (.int .i64 (s.n : Int))) (by kernel_rfl) (by kernel_rfl) (by kernel_rfl) (by kernel_rfl) (fun _ _ d _ _ h => by cases d <;> exact h) ⟨e0, e1, e2, c3, c4⟩ ?_
      simp only [planOps, List.getElem?_toArray, List.getElem?_cons_zero, List.getElem?_cons_succ]
      repeat (first
        | (refine wpS_skip (by rfl) ?_; simp only [Act.put, List.setIfInBounds_toArray, List.set_cons_zero, List.set_cons_succ])
        | (refine wpS_q ?_ (by rfl) ?_ ?_; rotate_left; (focus (intro z hz; (try dsimp only at hz); go_simp; rfl)); simp only [Act.put, List.setIfInBounds_toArray, List.set_cons_zero, List.set_cons_succ]))
      refine wpS_nil ?_
      go_wp2_with fail
      refine wp_region_plan [(0, true), (1, true), (2, false), (3, true)] (fun z => Blk z h0 158 (headL h).toArray) (by kernel_rfl) (by kernel_rfl) (by kernel_rfl) (by kernel_rfl) (fun _ _ d _ _ h => by cases d <;> exact h) hH3 ?_
      simp only [planOps, List.getElem?_toArray, List.getElem?_cons_zero, List.getElem?_cons_succ]
      refine wpS_q (headV h) (by rfl) (fun z hz => head_get_run rfl h0 h hz rfl) ?_
      simp only [Act.put, List.setIfInBounds_toArray, List.set_cons_zero, List.set_cons_succ]
      iterate 1 (refine wpS_q ?_ (by rfl) ?_ ?_; rotate_left; (focus (intro z hz; (try dsimp only at hz); go_simp; rfl)); simp only [Act.put, List.setIfInBounds_toArray, List.set_cons_zero, List.set_cons_succ])
      refine wpS_l (by rfl) (fun K hK => ?_)
      refine wp_head_put rfl h0 h h hH3 rfl rfl ?_
      intro wz hHz hgz
      refine hK _ _ (fun z => Blk z h0 158 (headL h).toArray) hHz (fun _ h => h) ?_
      simp only [Act.put]
      iterate 1 (refine wpS_q ?_ (by rfl) ?_ ?_; rotate_left; (focus (intro z hz; (try dsimp only at hz); go_simp; rfl)); simp only [Act.put, List.setIfInBounds_toArray, List.set_cons_zero, List.set_cons_succ])
      refine wpS_nil ?_
      go_wp2_with fail
      refine bodyPost_ret (results_head2 rfl _ _ h0 h _ _ rfl rfl rfl hHz) rfl ?_
      have hbz := (below_next' (below_next' hbb drew_below) drew_below).grown hgz (below_next' (below_next' hbb drew_below) drew_below).size (fun q hq => by cases hq; exact Nat.le_of_eq HH.out)
      exact ⟨.inl ⟨hrf, h, rfl⟩, hbz⟩
    have m1 : ((h.number : Int) != (s.n : Int) + 1) = false := by simp; omega
    by_cases n2 : h.page = 0
    rotate_left
    · have hrf : RF = none := by rw [← HRF.out]; exact readF_none2 HR.out (fun q => n2 q.2.1)
      have m2 : ((h.page : Int) != 0) = true := by simp; omega
      clear hs hpl hO
      refine wp_region_plan [(0, true), (1, true), (2, true), (3, true), (4, true), (5, true), (6, true), (7, true), (8, true), (9, true), (10, true), (11, true), (12, true), (13, true), (14, true), (15, true), (16, true), (17, true), (18, true), (19, true), (20, true), (21, true), (22, true), (23, true), (24, true), (25, true), (26, true), (27, true), (28, true), (29, true), (30, true), (31, true), (32, true)] (fun z => z.cell? ⟨h0, 0, none⟩ = some (.int .u64 (h.life : Int)) ∧ z.cell? ⟨h0, 1, none⟩ = some (.int .u64 (h.number : Int)) ∧ z.cell? ⟨h0, 2, none⟩ = some (.int .u16 (h.page : Int)) ∧ z.cell? ⟨k, 3, none⟩ = some (.int .u64 (s.life : Int)) ∧ z.cell? ⟨k, 4, none⟩ = some (.int .i64 (s.n : Int))) (by kernel_rfl) (by kernel_rfl) (by kernel_rfl) (by kernel_rfl) (fun _ _ d _ _ h => by cases d <;> exact h) ⟨e0, e1, e2, c3, c4⟩ ?_
      simp only [planOps, List.getElem?_toArray, List.getElem?_cons_zero, List.getElem?_cons_succ]
      repeat (first
        | (refine wpS_skip (by rfl) ?_; simp only [Act.put, List.setIfInBounds_toArray, List.set_cons_zero, List.set_cons_succ])
        | (refine wpS_q ?_ (by rfl) ?_ ?_; rotate_left; (focus (intro z hz; (try dsimp only at hz); go_simp; rfl)); simp only [Act.put, List.setIfInBounds_toArray, List.set_cons_zero, List.set_cons_succ]))
      refine wpS_nil ?_
      go_wp2_with fail
      refine wp_region_plan [(0, true), (1, true), (2, false), (3, true)] (fun z => Blk z h0 158 (headL h).toArray) (by kernel_rfl) (by kernel_rfl) (by kernel_rfl) (by kernel_rfl) (fun _ _ d _ _ h => by cases d <;> exact h) hH3 ?_
      simp only [planOps, List.getElem?_toArray, List.getElem?_cons_zero, List.getElem?_cons_succ]
      refine wpS_q (headV h) (by rfl) (fun z hz => head_get_run rfl h0 h hz rfl) ?_
      simp only [Act.put, List.setIfInBounds_toArray, List.set_cons_zero, List.set_cons_succ]
      iterate 1 (refine wpS_q ?_ (by rfl) ?_ ?_; rotate_left; (focus (intro z hz; (try dsimp only at hz); go_simp; rfl)); simp only [Act.put, List.setIfInBounds_toArray, List.set_cons_zero, List.set_cons_succ])
      refine wpS_l (by rfl) (fun K hK => ?_)
      refine wp_head_put rfl h0 h h hH3 rfl rfl ?_
      intro wz hHz hgz
      refine hK _ _ (fun z => Blk z h0 158 (headL h).toArray) hHz (fun _ h => h) ?_
      simp only [Act.put]
      iterate 1 (refine wpS_q ?_ (by rfl) ?_ ?_; rotate_left; (focus (intro z hz; (try dsimp only at hz); go_simp; rfl)); simp only [Act.put, List.setIfInBounds_toArray, List.set_cons_zero, List.set_cons_succ])
      refine wpS_nil ?_
      go_wp2_with fail
      refine bodyPost_ret (results_head2 rfl _ _ h0 h _ _ rfl rfl rfl hHz) rfl ?_
      have hbz := (below_next' (below_next' hbb drew_below) drew_below).grown hgz (below_next' (below_next' hbb drew_below) drew_below).size (fun q hq => by cases hq; exact Nat.le_of_eq HH.out)
      exact ⟨.inl ⟨hrf, h, rfl⟩, hbz⟩
    have m2 : ((h.page : Int) != 0) = false := by simp; omega
    by_cases n3 : fr ≤ h.life
    rotate_left
    · have hrf : RF = none := by rw [← HRF.out]; exact readF_none2 HR.out (fun q => n3 q.2.2.1)
      have m3 : (h.life : Int) < (fr : Int) := by omega
      clear hs hpl hO
      refine wp_region_plan [(0, true), (1, true), (2, true), (3, true), (4, true), (5, true), (6, true), (7, true), (8, true), (9, true), (10, true), (11, true), (12, true), (13, true), (14, true), (15, true), (16, true), (17, true), (18, true), (19, true), (20, true), (21, true), (22, true), (23, true), (24, true), (25, true), (26, true), (27, true), (28, true), (29, true), (30, true), (31, true), (32, true)] (fun z => z.cell? ⟨h0, 0, none⟩ = some (.int .u64 (h.life : Int)) ∧ z.cell? ⟨h0, 1, none⟩ = some (.int .u64 (h.number : Int)) ∧ z.cell? ⟨h0, 2, none⟩ = some (.int .u16 (h.page : Int)) ∧ z.cell? ⟨k, 3, none⟩ = some (.int .u64 (s.life : Int)) ∧ z.cell? ⟨k, 4, none⟩ = some (.int .i64 (s.n : Int))) (by kernel_rfl) (by kernel_rfl) (by kernel_rfl) (by kernel_rfl) (fun _ _ d _ _ h => by cases d <;> exact h) ⟨e0, e1, e2, c3, c4⟩ ?_
      simp only [planOps, List.getElem?_toArray, List.getElem?_cons_zero, List.getElem?_cons_succ]
      repeat (first
        | (refine wpS_skip (by rfl) ?_; simp only [Act.put, List.setIfInBounds_toArray, List.set_cons_zero, List.set_cons_succ])
        | (refine wpS_q ?_ (by rfl) ?_ ?_; rotate_left; (focus (intro z hz; (try dsimp only at hz); go_simp; rfl)); simp only [Act.put, List.setIfInBounds_toArray, List.set_cons_zero, List.set_cons_succ]))
      refine wpS_nil ?_
      go_wp2_with fail
      refine wp_region_plan [(0, true), (1, true), (2, false), (3, true)] (fun z => Blk z h0 158 (headL h).toArray) (by kernel_rfl) (by kernel_rfl) (by kernel_rfl) (by kernel_rfl) (fun _ _ d _ _ h => by cases d <;> exact h) hH3 ?_
      simp only [planOps, List.getElem?_toArray, List.getElem?_cons_zero, List.getElem?_cons_succ]
      refine wpS_q (headV h) (by rfl) (fun z hz => head_get_run rfl h0 h hz rfl) ?_
      simp only [Act.put, List.setIfInBounds_toArray, List.set_cons_zero, List.set_cons_succ]
      iterate 1 (refine wpS_q ?_ (by rfl) ?_ ?_; rotate_left; (focus (intro z hz; (try dsimp only at hz); go_simp; rfl)); simp only [Act.put, List.setIfInBounds_toArray, List.set_cons_zero, List.set_cons_succ])
      refine wpS_l (by rfl) (fun K hK => ?_)
      refine wp_head_put rfl h0 h h hH3 rfl rfl ?_
      intro wz hHz hgz
      refine hK _ _ (fun z => Blk z h0 158 (headL h).toArray) hHz (fun _ h => h) ?_
      simp only [Act.put]
      iterate 1 (refine wpS_q ?_ (by rfl) ?_ ?_; rotate_left; (focus (intro z hz; (try dsimp only at hz); go_simp; rfl)); simp only [Act.put, List.setIfInBounds_toArray, List.set_cons_zero, List.set_cons_succ])
      refine wpS_nil ?_
      go_wp2_with fail
      refine bodyPost_ret (results_head2 rfl _ _ h0 h _ _ rfl rfl rfl hHz) rfl ?_
      have hbz := (below_next' (below_next' hbb drew_below) drew_below).grown hgz (below_next' (below_next' hbb drew_below) drew_below).size (fun q hq => by cases hq; exact Nat.le_of_eq HH.out)
      exact ⟨.inl ⟨hrf, h, rfl⟩, hbz⟩
    have m3 : ¬ (h.life : Int) < (fr : Int) := by omega
    by_cases n4 : h.life ≤ s.life
    rotate_left
    · have hrf : RF = none := by rw [← HRF.out]; exact readF_none2 HR.out (fun q => n4 q.2.2.2.1)
      have m4 : (s.life : Int) < (h.life : Int) := by omega
      clear hs hpl hO
      refine wp_region_plan [(0, true), (1, true), (2, true), (3, true), (4, true), (5, true), (6, true), (7, true), (8, true), (9, true), (10, true), (11, true), (12, true), (13, true), (14, true), (15, true), (16, true), (17, true), (18, true), (19, true), (20, true), (21, true), (22, true), (23, true), (24, true), (25, true), (26, true), (27, true), (28, true), (29, true), (30, true), (31, true), (32, true)] (fun z => z.cell? ⟨h0, 0, none⟩ = some (.int .u64 (h.life : Int)) ∧ z.cell? ⟨h0, 1, none⟩ = some (.int .u64 (h.number : Int)) ∧ z.cell? ⟨h0, 2, none⟩ = some (.int .u16 (h.page : Int)) ∧ z.cell? ⟨k, 3, none⟩ = some (.int .u64 (s.life : Int)) ∧ z.cell? ⟨k, 4, none⟩ = some (.int .i64 (s.n : Int))) (by kernel_rfl) (by kernel_rfl) (by kernel_rfl) (by kernel_rfl) (fun _ _ d _ _ h => by cases d <;> exact h) ⟨e0, e1, e2, c3, c4⟩ ?_
      simp only [planOps, List.getElem?_toArray, List.getElem?_cons_zero, List.getElem?_cons_succ]
      repeat (first
        | (refine wpS_skip (by rfl) ?_; simp only [Act.put, List.setIfInBounds_toArray, List.set_cons_zero, List.set_cons_succ])
        | (refine wpS_q ?_ (by rfl) ?_ ?_; rotate_left; (focus (intro z hz; (try dsimp only at hz); go_simp; rfl)); simp only [Act.put, List.setIfInBounds_toArray, List.set_cons_zero, List.set_cons_succ]))
      refine wpS_nil ?_
      go_wp2_with fail
      refine wp_region_plan [(0, true), (1, true), (2, false), (3, true)] (fun z => Blk z h0 158 (headL h).toArray) (by kernel_rfl) (by kernel_rfl) (by kernel_rfl) (by kernel_rfl) (fun _ _ d _ _ h => by cases d <;> exact h) hH3 ?_
      simp only [planOps, List.getElem?_toArray, List.getElem?_cons_zero, List.getElem?_cons_succ]
      refine wpS_q (headV h) (by rfl) (fun z hz => head_get_run rfl h0 h hz rfl) ?_
      simp only [Act.put, List.setIfInBounds_toArray, List.set_cons_zero, List.set_cons_succ]
      iterate 1 (refine wpS_q ?_ (by rfl) ?_ ?_; rotate_left; (focus (intro z hz; (try dsimp only at hz); go_simp; rfl)); simp only [Act.put, List.setIfInBounds_toArray, List.set_cons_zero, List.set_cons_succ])
      refine wpS_l (by rfl) (fun K hK => ?_)
      refine wp_head_put rfl h0 h h hH3 rfl rfl ?_
      intro wz hHz hgz
      refine hK _ _ (fun z => Blk z h0 158 (headL h).toArray) hHz (fun _ h => h) ?_
      simp only [Act.put]
      iterate 1 (refine wpS_q ?_ (by rfl) ?_ ?_; rotate_left; (focus (intro z hz; (try dsimp only at hz); go_simp; rfl)); simp only [Act.put, List.setIfInBounds_toArray, List.set_cons_zero, List.set_cons_succ])
      refine wpS_nil ?_
      go_wp2_with fail
      refine bodyPost_ret (results_head2 rfl _ _ h0 h _ _ rfl rfl rfl hHz) rfl ?_
      have hbz := (below_next' (below_next' hbb drew_below) drew_below).grown hgz (below_next' (below_next' hbb drew_below) drew_below).size (fun q hq => by cases hq; exact Nat.le_of_eq HH.out)
      exact ⟨.inl ⟨hrf, h, rfl⟩, hbz⟩
    have m4 : ¬ (s.life : Int) < (h.life : Int) := by omega
    refine wp_region_plan [(0, true), (1, true), (2, true), (3, true), (4, true), (5, true), (6, true), (7, true), (8, true), (9, true), (10, true), (11, true), (12, true), (13, true), (14, true), (15, true), (16, true), (17, true), (18, true), (19, true), (20, true), (21, true), (22, true), (23, true), (24, true), (25, true), (26, true), (27, true), (28, true), (29, true), (30, true), (31, true), (32, true)] (fun z => z.cell? ⟨h0, 0, none⟩ = some (.int .u64 (h.life : Int)) ∧ z.cell? ⟨h0, 1, none⟩ = some (.int .u64 (h.number : Int)) ∧ z.cell? ⟨h0, 2, none⟩ = some (.int .u16 (h.page : Int)) ∧ z.cell? ⟨k, 3, none⟩ = some (.int .u64 (s.life : Int)) ∧ z.cell? ⟨k, 4, none⟩ = some (.int .i64 (s.n : Int))) (by kernel_rfl) (by kernel_rfl) (by kernel_rfl) (by kernel_rfl) (fun _ _ d _ _ h => by cases d <;> exact h) ⟨e0, e1, e2, c3, c4⟩ ?_
    simp only [planOps, List.getElem?_toArray, List.getElem?_cons_zero, List.getElem?_cons_succ]
    repeat (first
      | (refine wpS_skip (by rfl) ?_; simp only [Act.put, List.setIfInBounds_toArray, List.set_cons_zero, List.set_cons_succ])
      | (refine wpS_q ?_ (by rfl) ?_ ?_; rotate_left; (focus (intro z hz; (try dsimp only at hz); go_simp; rfl)); simp only [Act.put, List.setIfInBounds_toArray, List.set_cons_zero, List.set_cons_succ]))
    refine wpS_nil ?_
    go_wp2_with fail
    obtain ⟨M, hM⟩ : ∃ M, num (r0.take 2) = M := ⟨_, rfl⟩
    have hM16 := num_lt16 (ys := r0.take 2) (by rw [List.length_take]; omega)
    rw [hM] at hM16
    have ht2 : takeF r0 false 2 = (r0.take 2, r0.drop 2, false) := takeF_ok (k := 2) (by omega)
    have HM := Lib.hid hM
    have HT2 := Lib.hid ht2
    have hrd := hO.reads
    clear hM ht2 m1 m2 m3 m4 hwn hwn0 e0 e1 e2 c3 c4
    go_wp2_with fail
    refine (cnew_any w3.drew A 108 c r0 hrd (by omega)).mono ?_
    rintro e w4 ⟨gc, gb, rfl, hU, hg1, _, _, hb4⟩
    simp only []
    have hbd := below_next' hbb (drew_below (w := w3))
    have hH4 : Blk w4 h0 158 (headL h).toArray := Blk.below (w := w3.drew) hH3 hb4 hH3.lt
    have hO4 : OB 5 w4 w1.heap.size A 108 c r0 := OB.below (w := w3.drew) (OB.below hO (drew_below (w := w3))) hb4
    have hbb4 := below_next' hbd hb4
    have hgch : h0 < gc := Nat.lt_of_lt_of_le hH3.lt hg1
    have hz4 : w1.heap.size ≤ w4.heap.size := by have h1 : w3.heap.size ≤ w4.heap.size := hb4.size; omega
    have hAg : ∀ x, A.map (·.block) = some x → x ≠ gc := fun x hx => by
      have h1 := (hO.ge x hx).2
      have h2 : w3.heap.size ≤ gc := hg1
      omega
    clear hrd hb4 hbb hbd hO hH3 hg1
    go_wp2_with fail
    refine (chalf_any w4 gc gb _ false hU).mono ?_
    rw [HT2.out]
    simp only [HM.out]
    rintro e w5 ⟨rfl, _, hg5⟩
    have hH5 := hH4.grown hg5 (by intro e; injection e with e; omega)
    have hO5 := OB.grown hO4 hg5 (.inl (fun e => hAg _ e rfl))
    have hbb5 := hbb4.grown hg5 hbb4.size (fun q hq => by cases hq; have := HH.out; omega)
    have hz5 : w1.heap.size ≤ w5.heap.size := by have := hg5.size; omega
    simp only []
    clear hU hH4 hO4 hbb4 hg5 hAg hgch hz3 hz4
    by_cases n5 : M ≤ 4096
    rotate_left
    · have hrf : RF = none := by rw [← HRF.out]; exact readF_none2 HR.out (fun q => n5 (by have := q.2.2.2.2.1; rwa [HM.out] at this))
      have m5 : (4096 : Int) < (M : Int) := by omega
      clear hs hpl hO5
      go_wp2_with fail
      refine wp_region_plan [(0, true), (1, true), (2, true), (3, true), (4, true), (5, true), (6, true), (7, false), (8, true), (9, true)] (fun z => True) (by kernel_rfl) (by kernel_rfl) (by kernel_rfl) (by kernel_rfl) (fun _ _ d _ _ h => by cases d <;> exact h) trivial ?_
      simp only [planOps, List.getElem?_toArray, List.getElem?_cons_zero, List.getElem?_cons_succ]
      repeat (first
        | (refine wpS_skip (by rfl) ?_; simp only [Act.put, List.setIfInBounds_toArray, List.set_cons_zero, List.set_cons_succ])
        | (refine wpS_q ?_ (by rfl) ?_ ?_; rotate_left; (focus (intro z hz; (try dsimp only at hz); go_simp; rfl)); simp only [Act.put, List.setIfInBounds_toArray, List.set_cons_zero, List.set_cons_succ]))
      refine wpS_nil ?_
      go_wp2_with fail
      refine wp_region_plan [(0, true), (1, true), (2, false), (3, true)] (fun z => Blk z h0 158 (headL h).toArray) (by kernel_rfl) (by kernel_rfl) (by kernel_rfl) (by kernel_rfl) (fun _ _ d _ _ h => by cases d <;> exact h) hH5 ?_
      simp only [planOps, List.getElem?_toArray, List.getElem?_cons_zero, List.getElem?_cons_succ]
      refine wpS_q (headV h) (by rfl) (fun z hz => head_get_run rfl h0 h hz rfl) ?_
      simp only [Act.put, List.setIfInBounds_toArray, List.set_cons_zero, List.set_cons_succ]
      iterate 1 (refine wpS_q ?_ (by rfl) ?_ ?_; rotate_left; (focus (intro z hz; (try dsimp only at hz); go_simp; rfl)); simp only [Act.put, List.setIfInBounds_toArray, List.set_cons_zero, List.set_cons_succ])
      refine wpS_l (by rfl) (fun K hK => ?_)
      refine wp_head_put rfl h0 h h hH5 rfl rfl ?_
      intro wz hHz hgz
      refine hK _ _ (fun z => Blk z h0 158 (headL h).toArray) hHz (fun _ h => h) ?_
      simp only [Act.put]
      iterate 1 (refine wpS_q ?_ (by rfl) ?_ ?_; rotate_left; (focus (intro z hz; (try dsimp only at hz); go_simp; rfl)); simp only [Act.put, List.setIfInBounds_toArray, List.set_cons_zero, List.set_cons_succ])
      refine wpS_nil ?_
      go_wp2_with fail
      refine bodyPost_ret (results_head2 rfl _ _ h0 h _ _ rfl rfl rfl hHz) rfl ?_
      have hbz := (below_next' (below_next' hbb5 drew_below) drew_below).grown hgz (below_next' (below_next' hbb5 drew_below) drew_below).size (fun q hq => by cases hq; exact Nat.le_of_eq HH.out)
      exact ⟨.inl ⟨hrf, h, rfl⟩, hbz⟩
    have e3 := hH5.cell 3
    simp only [headL, List.getElem?_toArray, List.getElem?_cons_zero, List.getElem?_cons_succ] at e3
    go_wp2_with fail
    have m5 : ¬ (4096 : Int) < (M : Int) := by omega
    have hwp : IntKind.i64.wrap (h.pages : Int) = (h.pages : Int) := IntWalk.i64_in _ (by omega)
    refine wp_region_plan [(0, true), (1, true), (2, true), (3, true), (4, true), (5, true), (6, true), (7, false), (8, true), (9, true)] (fun z => z.cell? ⟨h0, 3, none⟩ = some (.int .u16 (h.pages : Int))) (by kernel_rfl) (by kernel_rfl) (by kernel_rfl) (by kernel_rfl) (fun _ _ d _ _ h => by cases d <;> exact h) e3 ?_
    simp only [planOps, List.getElem?_toArray, List.getElem?_cons_zero, List.getElem?_cons_succ]
    iterate 7 (refine wpS_q ?_ (by rfl) ?_ ?_; rotate_left; (focus (intro z hz; (try dsimp only at hz); go_simp; rfl)); simp only [Act.put, List.setIfInBounds_toArray, List.set_cons_zero, List.set_cons_succ])
    refine wpS_l (by rfl) (fun K hK => ?_)
    go_wp2_with fail
    refine (bpages_any w5.drew M (by omega)).mono ?_
    rintro e w6 ⟨rfl, rfl⟩
    refine hK _ _ (fun z => z.cell? ⟨h0, 3, none⟩ = some (.int .u16 (h.pages : Int))) e3 (fun _ h => h) ?_
    clear hK
    by_cases n6 : h.pages = pagesN M
    rotate_left
    · have hrf : RF = none := by rw [← HRF.out]; exact readF_none2 HR.out (fun q => n6 (by have := q.2.2.2.2.2; rwa [HM.out] at this))
      have m6 : ((h.pages : Int) != (pagesN M : Int)) = true := by simp; omega
      clear hs hpl hO5
      repeat (first
        | (refine wpS_skip (by rfl) ?_; simp only [Act.put, List.setIfInBounds_toArray, List.set_cons_zero, List.set_cons_succ])
        | (refine wpS_q ?_ (by rfl) ?_ ?_; rotate_left; (focus (intro z hz; (try dsimp only at hz); go_simp; rfl)); simp only [Act.put, List.setIfInBounds_toArray, List.set_cons_zero, List.set_cons_succ]))
      refine wpS_nil ?_
      go_wp2_with fail
      refine wp_region_plan [(0, true), (1, true), (2, false), (3, true)] (fun z => Blk z h0 158 (headL h).toArray) (by kernel_rfl) (by kernel_rfl) (by kernel_rfl) (by kernel_rfl) (fun _ _ d _ _ h => by cases d <;> exact h) hH5 ?_
      simp only [planOps, List.getElem?_toArray, List.getElem?_cons_zero, List.getElem?_cons_succ]
      refine wpS_q (headV h) (by rfl) (fun z hz => head_get_run rfl h0 h hz rfl) ?_
      simp only [Act.put, List.setIfInBounds_toArray, List.set_cons_zero, List.set_cons_succ]
      iterate 1 (refine wpS_q ?_ (by rfl) ?_ ?_; rotate_left; (focus (intro z hz; (try dsimp only at hz); go_simp; rfl)); simp only [Act.put, List.setIfInBounds_toArray, List.set_cons_zero, List.set_cons_succ])
      refine wpS_l (by rfl) (fun K hK => ?_)
      refine wp_head_put rfl h0 h h hH5 rfl rfl ?_
      intro wz hHz hgz
      refine hK _ _ (fun z => Blk z h0 158 (headL h).toArray) hHz (fun _ h => h) ?_
      simp only [Act.put]
      iterate 1 (refine wpS_q ?_ (by rfl) ?_ ?_; rotate_left; (focus (intro z hz; (try dsimp only at hz); go_simp; rfl)); simp only [Act.put, List.setIfInBounds_toArray, List.set_cons_zero, List.set_cons_succ])
      refine wpS_nil ?_
      go_wp2_with fail
      refine bodyPost_ret (results_head2 rfl _ _ h0 h _ _ rfl rfl rfl hHz) rfl ?_
      have hbz := (below_next' (below_next' hbb5 drew_below) drew_below).grown hgz (below_next' (below_next' hbb5 drew_below) drew_below).size (fun q hq => by cases hq; exact Nat.le_of_eq HH.out)
      exact ⟨.inl ⟨hrf, h, rfl⟩, hbz⟩
    have m6 : ((h.pages : Int) != (pagesN M : Int)) = false := by simp; omega
    repeat (first
      | (refine wpS_skip (by rfl) ?_; simp only [Act.put, List.setIfInBounds_toArray, List.set_cons_zero, List.set_cons_succ])
      | (refine wpS_q ?_ (by rfl) ?_ ?_; rotate_left; (focus (intro z hz; (try dsimp only at hz); go_simp; rfl)); simp only [Act.put, List.setIfInBounds_toArray, List.set_cons_zero, List.set_cons_succ]))
    refine wpS_nil ?_
    have hok : headOk h r0 s.n fr s.life := ⟨n1, n2, n3, n4, by rw [HM.out]; exact n5, by rw [HM.out]; exact n6⟩
    have HOK := Lib.hid hok
    have hpm := pagesN_room M
    have hp38 : h.pages ≤ 38 := by rw [n6]; unfold pagesN; omega
    have hbb6 := below_next' hbb5 (drew_below (w := w5))
    have hH6 := hH5.below (drew_below (w := w5)) hH5.lt
    have hO6 := OB.below hO5 (drew_below (w := w5))
    obtain ⟨w6, hw6⟩ : ∃ x, w5.drew = x := ⟨_, rfl⟩
    rw [hw6] at hbb6 hH6 hO6 ⊢
    have hs16 : w1.heap.size ≤ w6.heap.size := by rw [← hw6]; exact hz5
    have hpg1 : 1 ≤ h.pages := by omega
    have N6 := Lib.hid n6
    clear hok hbb5 hH5 hO5 e3 hw6 n1 n2 n3 n4 n5 n6 hz5
    go_upto_block 0 with (fail)
    clear m5 m6 hwp
    go_cut [7] (fun al wx => ∃ (all : List UInt8) (A' : Option Addr) (c' : Nat), al = .slice A' all.length c' ∧ moreF (seeD d) s.lim s.next h r0 (h.pages - 1) = some all ∧ OB 5 wx w1.heap.size A' all.length c' all ∧ Below w1.heap.size w6 wx)
    case first =>
      go_wp2_with fail
      go_loopw [7, 9] (fun al kk wr => ∃ (j : Nat) (all : List UInt8) (A' : Option Addr) (c' : Nat), j < h.pages ∧ kk = .int .u16 ((j : Int) + 1) ∧ al = .slice A' all.length c' ∧ moreF (seeD d) s.lim s.next h r0 j = some all ∧ OB 5 wr w1.heap.size A' all.length c' all ∧ Below w1.heap.size w6 wr) (fun _ kk _ => h.pages - (intOf kk).toNat)
      case atStart => exact ⟨0, r0, A, c, by omega, rfl, by rw [hpl.1], rfl, by rw [hpl.1]; exact hO6, Below.refl _ _⟩
      case round =>
        obtain ⟨j, all, A', c', hj, rfl, rfl, hmo, hO, hbk⟩ := hrel
        have hHr := hH6.below hbk hs1
        have e3 := hHr.cell 3
        simp only [headL, List.getElem?_toArray, List.getElem?_cons_zero, List.getElem?_cons_succ] at e3
        by_cases hj1 : j + 1 < h.pages
        · have hbw := hbb6.trans (hbk.mono (by have := HH.out; omega))
          have hBr := hB.below hbw
          have hDr := hD.below hbw
          have c1 := hBr.blk.cell 1
          have e0 := hHr.cell 0
          have e1 := hHr.cell 1
          simp only [headL, List.getElem?_toArray, List.getElem?_cons_zero, List.getElem?_cons_succ] at c1 e0 e1
          have g1 : (j : Int) + 1 < (h.pages : Int) := by omega
          have g2 : (0 : Int) ≤ (j : Int) := by omega
          have g3 : (j : Int) ≤ 40 := by omega
          have hs := HS.out
          have hal : all.length ≤ 5000 := by have := moreF_len HVL.out hpl.1 j all hmo; omega
          have hcj : ((j + 1 : Nat) : Int) = (j : Int) + 1 := by omega
          obtain ⟨R2, hR2⟩ : ∃ R, pgF (seeD d) s.lim (s.next + ((j : Int) + 1)) = R := ⟨_, rfl⟩
          have HR2 := Lib.hid hR2
          have HMO := Lib.hid hmo
          have HCJ := Lib.hid hcj
          clear hR2 hcj hmo
          go_wp2_with fail
          refine (bpage_any wr base l d hDr k s hBr (s.next + ((j : Int) + 1))).mono ?_
          rw [HR2.out]
          rintro e wa ⟨A2, c2, rfl, hO2, hba⟩
          have hO := OB.below hO hba
          have hHa := hHr.below hba hHr.lt
          have hbk := hbk.trans (hba.mono (Nat.le_trans hs16 hbk.size))
          have hbw := below_next' hbw hba
          have hsa : wr.heap.size ≤ wa.heap.size := hba.size
          simp only []
          clear hBr hDr c1 e0 e1 e3 hba hHr
          match R2, HR2 with
          | none, HR2 =>
            have hmn : moreF (seeD d) s.lim s.next h r0 (j + 1) = none := by rw [moreF, HMO.out, HCJ.out, HR2.out]
            have hrf : RF = none := by rw [← HRF.out]; exact readF_none3 HR.out hmn (by omega)
            clear hmn hO hO2
            repeat (first | ((with_reducible refine wpl_store_fresh (headL ⟨0, 0, 0, 0⟩).toArray i4 ?_ rfl (headL_ones _) ?_ ?_ ?_); (focus rfl); (focus rfl); (focus rfl); intro wb hG hlb2 hbb2; simp only [Act.put]; refine Hid.out ?_) | go_values | go_skip | go_guarded | go_step | go_upon | go_back)
            refine Lib.hid ?_
            have hHb := hHa.below hbb2 hHa.lt
            have hbw := below_next' hbw hbb2
            have e0 := hHb.cell 0
            have e1 := hHb.cell 1
            have e3 := hHb.cell 3
            simp only [headL, List.getElem?_toArray, List.getElem?_cons_zero, List.getElem?_cons_succ] at e0 e1 e3
            clear hHa hbb2
            repeat (first | ((with_reducible refine wpl_store_fresh (headL ⟨h.life, h.number, j + 1, h.pages⟩).toArray i4 ?_ rfl (headL_ones _) ?_ ?_ ?_); (focus rfl); (focus rfl); (focus rfl); intro wc hW hlb3 hbb3; simp only [Act.put]; refine Hid.out ?_) | go_values | go_skip | go_guarded | go_step | go_upon | go_back)
            refine Lib.hid ?_
            have hHc := hHb.below hbb3 hHb.lt
            have hbw := below_next' hbw hbb3
            clear hHb hbb3 e0 e1 e3 hs hal hlb2 hlb3 hG hW
            go_wp2_with fail
            refine wp_region_plan [(0, true), (1, true), (2, false), (3, true)] (fun z => Blk z h0 158 (headL h).toArray) (by kernel_rfl) (by kernel_rfl) (by kernel_rfl) (by kernel_rfl) (fun _ _ d _ _ h => by cases d <;> exact h) hHc ?_
            simp only [planOps, List.getElem?_toArray, List.getElem?_cons_zero, List.getElem?_cons_succ]
            refine wpS_q (headV h) (by rfl) (fun z hz => head_get_run rfl h0 h hz rfl) ?_
            simp only [Act.put, List.setIfInBounds_toArray, List.set_cons_zero, List.set_cons_succ]
            iterate 1 (refine wpS_q ?_ (by rfl) ?_ ?_; rotate_left; (focus (intro z hz; (try dsimp only at hz); go_simp; rfl)); simp only [Act.put, List.setIfInBounds_toArray, List.set_cons_zero, List.set_cons_succ])
            refine wpS_l (by rfl) (fun K hK => ?_)
            refine wp_head_put rfl h0 h h hHc rfl rfl ?_
            intro wz hHz hgz
            refine hK _ _ (fun z => Blk z h0 158 (headL h).toArray) hHz (fun _ h => h) ?_
            simp only [Act.put]
            iterate 1 (refine wpS_q ?_ (by rfl) ?_ ?_; rotate_left; (focus (intro z hz; (try dsimp only at hz); go_simp; rfl)); simp only [Act.put, List.setIfInBounds_toArray, List.set_cons_zero, List.set_cons_succ])
            refine wpS_nil ?_
            go_wp2_with fail
            refine bodyPost_ret (results_head2 rfl _ _ h0 h _ _ rfl rfl rfl hHz) rfl ?_
            have hbz := (below_next' hbw drew_below).grown hgz (below_next' hbw drew_below).size (fun q hq => by cases hq; exact Nat.le_of_eq HH.out)
            exact ⟨.inl ⟨hrf, h, rfl⟩, hbz⟩
          | some (g, rest), HR2 =>
            simp only [Option.map_some, Option.getD_some] at hO2
            have hgl := pgF_len HVL.out HR2.out
            have hO2 : OB 5 wa wr.heap.size A2 108 c2 rest := by
              have h := hO2
              rwa [hgl.1] at h
            repeat (first | ((with_reducible refine wpl_store_fresh (headL g).toArray i4 ?_ rfl (headL_ones _) ?_ ?_ ?_); (focus rfl); (focus rfl); (focus rfl); intro wb hG hlb2 hbb2; simp only [Act.put]; refine Hid.out ?_) | go_values | go_skip | go_guarded | go_step | go_upon | go_back)
            refine Lib.hid ?_
            have hHb := hHa.below hbb2 hHa.lt
            have hbw := below_next' hbw hbb2
            have hO := OB.below hO hbb2
            have hO2 := OB.below hO2 hbb2
            have hbk := hbk.trans (hbb2.mono (Nat.le_trans hs16 hbk.size))
            have e0 := hHb.cell 0
            have e1 := hHb.cell 1
            have e3 := hHb.cell 3
            simp only [headL, List.getElem?_toArray, List.getElem?_cons_zero, List.getElem?_cons_succ] at e0 e1 e3
            clear hHa
            repeat (first | ((with_reducible refine wpl_store_fresh (headL ⟨h.life, h.number, j + 1, h.pages⟩).toArray i4 ?_ rfl (headL_ones _) ?_ ?_ ?_); (focus rfl); (focus rfl); (focus rfl); intro wc hW hlb3 hbb3; simp only [Act.put]; refine Hid.out ?_) | go_values | go_skip | go_guarded | go_step | go_upon | go_back)
            refine Lib.hid ?_
            have hHc := hHb.below hbb3 hHb.lt
            have hG := hG.below hbb3 hG.lt
            have hbw := below_next' hbw hbb3
            have hO := OB.below hO hbb3
            have hO2 := OB.below hO2 hbb3
            have hbk := hbk.trans (hbb3.mono (Nat.le_trans hs16 hbk.size))
            clear hHb hbb3 e0 e1 e3 hbb2
            have hgd := fun op x y z => head_guard op x y g ⟨h.life, h.number, j + 1, h.pages⟩ z
            by_cases heq : g.life = h.life ∧ g.number = h.number ∧ g.page = j + 1 ∧ g.pages = h.pages
            · have hnq := fun z => head_neq g ⟨h.life, h.number, j + 1, h.pages⟩ false ⟨fun e => Bool.noConfusion e, fun e => absurd heq e⟩ z
              have hms : moreF (seeD d) s.lim s.next h r0 (j + 1) = some (all ++ rest) := by rw [moreF, HMO.out, HCJ.out, HR2.out]; exact if_pos heq
              have HMS := Lib.hid hms
              have hrl := hgl.1
              clear hms heq hgl hs
              repeat (first | ((with_reducible refine wpl_head_getM wa.heap.size g hG ?_ ?_ ?_); (focus rfl); (focus rfl); simp only [Act.put]) | ((with_reducible refine wpl_head_getM wb.heap.size _ hW ?_ ?_ ?_); (focus rfl); (focus rfl); simp only [Act.put]) | (at_builtin; refine app_bytes rfl _ _ rfl w1.heap.size A' all.length c' all rfl hO A2 108 c2 rest rfl hO2.reads (by omega) (Nat.le_trans hs16 hbk.size) ?_; intro A3 N3 c3 wd hc3 hc3' hO3 hG3) | go_values | go_skip | go_guarded | go_step | go_upon | go_back)
              have hbk3 := hG3.own hbk hs16 hO
              have hN3 := hO3.len
              subst hN3
              clear hG3 hG hW hHc hO hO2 hgd hnq
              go_wp2_with fail
              go_roundw
              case rel => exact ⟨j + 1, all ++ rest, A3, c3, by omega, congrArg (Value.int .u16) (by omega), rfl, HMS.out, hO3, hbk3⟩
              case measure => simp only [intOf]; omega
            · have hnq := fun z => head_neq g ⟨h.life, h.number, j + 1, h.pages⟩ true ⟨fun _ e => heq e, fun _ => rfl⟩ z
              have hmn : moreF (seeD d) s.lim s.next h r0 (j + 1) = none := by rw [moreF, HMO.out, HCJ.out, HR2.out]; exact if_neg heq
              have hrf : RF = none := by rw [← HRF.out]; exact readF_none3 HR.out hmn (by omega)
              clear hmn heq hgl hs hO hO2
              repeat (first | ((with_reducible refine wpl_head_getM wa.heap.size g hG ?_ ?_ ?_); (focus rfl); (focus rfl); simp only [Act.put]) | ((with_reducible refine wpl_head_getM wb.heap.size _ hW ?_ ?_ ?_); (focus rfl); (focus rfl); simp only [Act.put]) | go_values | go_skip | go_guarded | go_step | go_upon | go_back)
              refine wp_region_plan [(0, true), (1, true), (2, false), (3, true)] (fun z => Blk z h0 158 (headL h).toArray) (by kernel_rfl) (by kernel_rfl) (by kernel_rfl) (by kernel_rfl) (fun _ _ d _ _ h => by cases d <;> exact h) hHc ?_
              simp only [planOps, List.getElem?_toArray, List.getElem?_cons_zero, List.getElem?_cons_succ]
              refine wpS_q (headV h) (by rfl) (fun z hz => head_get_run rfl h0 h hz rfl) ?_
              simp only [Act.put, List.setIfInBounds_toArray, List.set_cons_zero, List.set_cons_succ]
              iterate 1 (refine wpS_q ?_ (by rfl) ?_ ?_; rotate_left; (focus (intro z hz; (try dsimp only at hz); go_simp; rfl)); simp only [Act.put, List.setIfInBounds_toArray, List.set_cons_zero, List.set_cons_succ])
              refine wpS_l (by rfl) (fun K hK => ?_)
              refine wp_head_put rfl h0 h h hHc rfl rfl ?_
              intro wz hHz hgz
              refine hK _ _ (fun z => Blk z h0 158 (headL h).toArray) hHz (fun _ h => h) ?_
              simp only [Act.put]
              iterate 1 (refine wpS_q ?_ (by rfl) ?_ ?_; rotate_left; (focus (intro z hz; (try dsimp only at hz); go_simp; rfl)); simp only [Act.put, List.setIfInBounds_toArray, List.set_cons_zero, List.set_cons_succ])
              refine wpS_nil ?_
              go_wp2_with fail
              refine bodyPost_ret (results_head2 rfl _ _ h0 h _ _ rfl rfl rfl hHz) rfl ?_
              have hbz := (below_next' hbw drew_below).grown hgz (below_next' hbw drew_below).size (fun q hq => by cases hq; exact Nat.le_of_eq HH.out)
              exact ⟨.inl ⟨hrf, h, rfl⟩, hbz⟩
        · obtain rfl : j = h.pages - 1 := by omega
          have g1 : ¬ ((h.pages - 1 : Nat) : Int) + 1 < (h.pages : Int) := by omega
          go_wp2_with fail
          go_meet
          exact ⟨all, A', c', rfl, hmo, hO, hbk⟩
    case rest =>
      obtain ⟨all, A', c', rfl, hmo, hO, hbk⟩ := hcut
      have hbw := hbb6.trans (hbk.mono (by have := HH.out; omega))
      have hHr := hH6.below hbk hs1
      have hal : all.length = h.pages * 108 := by have h1 := moreF_len HVL.out hpl.1 _ all hmo; rw [h1]; congr 1; omega
      have hM' : num (all.take 2) = M := by rw [moreF_take hpl.1 _ all hmo]; exact HM.out
      have hrf0 : RF = endR h all := by rw [← HRF.out]; exact readF_some HR.out HOK.out hmo
      have hge : 2 + M ≤ all.length ∧ all.length ≤ 5000 := by
        have h1 := N6.out
        rw [hal]
        rw [← h1] at hpm
        omega
      rw [endR, hM'] at hrf0
      have tA : takeF all false 2 = (all.take 2, all.drop 2, false) := takeF_ok (k := 2) (by omega)
      have hXl : (all.drop 2).length = all.length - 2 := List.length_drop
      obtain ⟨X, hX⟩ : ∃ X, all.drop 2 = X := ⟨_, rfl⟩
      rw [hX] at hrf0 tA hXl
      have tB : takeF X false (M : Int) = (X.take M, X.drop M, false) := takeF_ok (by omega)
      have hYl : (X.drop M).length = X.length - M := List.length_drop
      have hTl : (X.take M).length = M := by rw [List.length_take]; omega
      obtain ⟨Y, hY⟩ : ∃ Y, X.drop M = Y := ⟨_, rfl⟩
      obtain ⟨T, hT⟩ : ∃ T, X.take M = T := ⟨_, rfl⟩
      rw [hY] at hrf0 tB hYl
      rw [hT] at hrf0 tB hTl
      have tC : takeF Y false (Y.length : Int) = (Y, [], false) := by
        have h1 := takeF_ok (xs := Y) (k := Y.length) (Nat.le_refl _)
        rwa [List.take_of_length_le (Nat.le_refl _), List.drop_of_length_le (Nat.le_refl _)] at h1
      have TA := Lib.hid tA
      have TB := Lib.hid tB
      have TC := Lib.hid tC
      have HRF0 := Lib.hid hrf0
      have hM5 : (M : Int) ≤ 5000 := by omega
      have hY5 : (Y.length : Int) ≤ 5000 := by omega
      have hX5 : X.length ≤ 5000 := by omega
      have hw1w : w1.heap.size ≤ wc.heap.size := Nat.le_trans hs16 hbk.size
      clear tA tB tC hX hY hT hrf0 hal hM' hmo hXl hYl
      go_wp2_with fail
      refine (cnew_any wc A' all.length c' all hO.reads (by omega)).mono ?_
      rintro e wd ⟨gC, gb2, rfl, hU, hg1, hgl, _, hbd⟩
      have hgC : h0 < gC := Nat.lt_of_lt_of_le (Nat.lt_of_lt_of_le hs1 hw1w) hg1
      have hHr := hHr.below hbd hHr.lt
      have hbw := below_next' hbw hbd
      simp only []
      clear hbd hO hbk hg1
      go_wp2_with fail
      refine (chalf_any wd gC gb2 all false hU).mono ?_
      rw [TA.out]
      rintro e we ⟨rfl, hU, hg⟩
      have hgl : gC < we.heap.size := Nat.lt_of_lt_of_le hgl hg.size
      have hHr := hHr.grown hg (by intro e; injection e with e; omega)
      have hbw := hbw.grown hg hbw.size (fun q hq => by cases hq; have := HH.out; omega)
      simp only []
      clear hg
      go_wp2_with fail
      refine (craw_any we gC gb2 X false (M : Int) hU (by omega)).mono ?_
      rw [TB.out]
      rintro e wf ⟨A1, N1, c1, rfl, hO1, hU, hg⟩
      have hHr := hHr.grown hg (by intro e; injection e with e; omega)
      have hA1 : ∀ x, A1.map (·.block) = some x → x ≠ h0 ∧ x ≠ gC := fun x hx => by
        have h1 := (hO1.ge x hx).1
        omega
      have hO1 : OB 5 wf w.heap.size A1 N1 c1 T := hO1.mono hbw.size
      have hbw := hbw.grown hg hbw.size (fun q hq => by cases hq; have := HH.out; omega)
      simp only []
      clear hg
      go_wp2_with fail
      refine (cleft_any wf gC gb2 Y false hU).mono ?_
      rintro e wf' ⟨rfl, rfl⟩
      simp only []
      go_wp2_with fail
      refine (craw_any wf gC gb2 Y false (Y.length : Int) hU (by omega)).mono ?_
      rw [TC.out]
      rintro e wg ⟨A2, N2, c2, rfl, hO2, _, hg⟩
      have hHr := hHr.grown hg (by intro e; injection e with e; omega)
      have hO1 := OB.grown hO1 hg (.inl (fun e => (hA1 _ e).2 rfl))
      have hbw := hbw.grown hg hbw.size (fun q hq => by cases hq; have := HH.out; omega)
      have hN2 : Y.length = N2 := hO2.len
      subst hN2
      have hRY := hO2.reads
      simp only []
      clear hg hU hO2 hgC hgl hw1w hge
      go_wp2_with fail
      go_loopw [4, 126] (fun r i wr => r = .slice A1 N1 c1 ∧ wr = wg ∧ ∃ j : Nat, j ≤ Y.length ∧ i = .int .i64 (j : Int) ∧ ∀ q, q < j → Y.getD q 0 = 0) (fun _ i _ => Y.length - (intOf i).toNat)
      case atStart => exact ⟨rfl, rfl, 0, by omega, rfl, fun q hq => by omega⟩
      case round =>
        obtain ⟨rfl, rfl, j, hj, rfl, hz⟩ := hrel
        have HZ := Lib.hid hz
        clear hz
        by_cases hjl : j < Y.length
        · obtain ⟨ad, rfl, _, hc⟩ := hRY.at_ hjl
          have g1 : (j : Int) < (Y.length : Int) := by omega
          have g2 : (0 : Int) ≤ (j : Int) := by omega
          by_cases hq : Y.getD j 0 = 0
          · rw [hq] at hc
            have HQ := Lib.hid hq
            clear hq
            go_wp2_with fail
            go_roundw
            case rel => exact ⟨rfl, trivial, j + 1, by omega, congrArg (Value.int .i64) (by omega), fun q h => by
              by_cases e : q = j
              · subst e; exact HQ.out
              · exact HZ.out q (by omega)⟩
            case measure => simp only [intOf]; omega
          · have hany : anyB Y = true := List.any_eq_true.2 ⟨Y[j], List.getElem_mem hjl, by
              rw [List.getD_eq_getElem?_getD, List.getElem?_eq_getElem hjl] at hq
              simpa using hq⟩
            have hrf : RF = none := by rw [HRF0.out, if_pos hany]
            have m1 : (((Y.getD j 0).toNat : Int) != 0) = true := by
              rw [bne_iff_ne]
              intro e
              exact hq (UInt8.toNat_inj.1 (by simpa using e))
            obtain ⟨y, hy⟩ : ∃ y, ((Y.getD j 0).toNat : Int) = y := ⟨_, rfl⟩
            rw [hy] at hc m1
            clear hq hany hy
            go_wp2_with fail
            refine wp_region_plan [(0, true), (1, true), (2, false), (3, true)] (fun z => Blk z h0 158 (headL h).toArray) (by kernel_rfl) (by kernel_rfl) (by kernel_rfl) (by kernel_rfl) (fun _ _ d _ _ h => by cases d <;> exact h) hHr ?_
            simp only [planOps, List.getElem?_toArray, List.getElem?_cons_zero, List.getElem?_cons_succ]
            refine wpS_q (headV h) (by rfl) (fun z hz => head_get_run rfl h0 h hz rfl) ?_
            simp only [Act.put, List.setIfInBounds_toArray, List.set_cons_zero, List.set_cons_succ]
            iterate 1 (refine wpS_q ?_ (by rfl) ?_ ?_; rotate_left; (focus (intro z hz; (try dsimp only at hz); go_simp; rfl)); simp only [Act.put, List.setIfInBounds_toArray, List.set_cons_zero, List.set_cons_succ])
            refine wpS_l (by rfl) (fun K hK => ?_)
            refine wp_head_put rfl h0 h h hHr rfl rfl ?_
            intro wz hHz hgz
            refine hK _ _ (fun z => Blk z h0 158 (headL h).toArray) hHz (fun _ h => h) ?_
            simp only [Act.put]
            iterate 1 (refine wpS_q ?_ (by rfl) ?_ ?_; rotate_left; (focus (intro z hz; (try dsimp only at hz); go_simp; rfl)); simp only [Act.put, List.setIfInBounds_toArray, List.set_cons_zero, List.set_cons_succ])
            refine wpS_nil ?_
            go_wp2_with fail
            refine bodyPost_ret (results_head2 rfl _ _ h0 h _ _ rfl rfl rfl hHz) rfl ?_
            have hbz := (below_next' hbw drew_below).grown hgz (below_next' hbw drew_below).size (fun q hq => by cases hq; exact Nat.le_of_eq HH.out)
            exact ⟨.inl ⟨hrf, h, rfl⟩, hbz⟩
        · obtain rfl : j = Y.length := by omega
          have g1 : ¬ (Y.length : Int) < (Y.length : Int) := by omega
          have hany : anyB Y = false := by
            rw [anyB, List.any_eq_false]
            intro x hx
            obtain ⟨i, hi, rfl⟩ := List.getElem_of_mem hx
            have h1 := HZ.out i hi
            rw [List.getD_eq_getElem?_getD, List.getElem?_eq_getElem hi] at h1
            simpa using h1
          have hrf : RF = some (T, h) := by rw [HRF0.out, if_neg (by rw [hany]; decide)]
          clear hany
          go_wp2_with fail
          refine wp_region_plan [(0, true), (1, true), (2, true), (3, false), (4, true)] (fun z => Blk z h0 158 (headL h).toArray) (by kernel_rfl) (by kernel_rfl) (by kernel_rfl) (by kernel_rfl) (fun _ _ d _ _ h => by cases d <;> exact h) hHr ?_
          simp only [planOps, List.getElem?_toArray, List.getElem?_cons_zero, List.getElem?_cons_succ]
          iterate 1 (refine wpS_q ?_ (by rfl) ?_ ?_; rotate_left; (focus (intro z hz; (try dsimp only at hz); go_simp; rfl)); simp only [Act.put, List.setIfInBounds_toArray, List.set_cons_zero, List.set_cons_succ])
          refine wpS_q (headV h) (by rfl) (fun z hz => head_get_run rfl h0 h hz rfl) ?_
          simp only [Act.put, List.setIfInBounds_toArray, List.set_cons_zero, List.set_cons_succ]
          iterate 1 (refine wpS_q ?_ (by rfl) ?_ ?_; rotate_left; (focus (intro z hz; (try dsimp only at hz); go_simp; rfl)); simp only [Act.put, List.setIfInBounds_toArray, List.set_cons_zero, List.set_cons_succ])
          refine wpS_l (by rfl) (fun K hK => ?_)
          refine wp_head_put rfl h0 h h hHr rfl rfl ?_
          intro wz hHz hgz
          refine hK _ _ (fun z => Blk z h0 158 (headL h).toArray) hHz (fun _ h => h) ?_
          simp only [Act.put]
          iterate 1 (refine wpS_q ?_ (by rfl) ?_ ?_; rotate_left; (focus (intro z hz; (try dsimp only at hz); go_simp; rfl)); simp only [Act.put, List.setIfInBounds_toArray, List.set_cons_zero, List.set_cons_succ])
          refine wpS_nil ?_
          go_wp2_with fail
          refine bodyPost_ret (results_head2 rfl _ _ h0 h _ _ rfl rfl rfl hHz) rfl ?_
          have hOz := OB.grown (OB.below hO1 drew_below) hgz (.inl (fun e => (hA1 _ e).1 rfl))
          have hbz := (below_next' hbw drew_below).grown hgz (below_next' hbw drew_below).size (fun q hq => by cases hq; exact Nat.le_of_eq HH.out)
          exact ⟨.inr ⟨T, h, A1, N1, c1, hrf, rfl, hOz⟩, hbz⟩
end Go.Proofs.Ytmjdfajdompkeaa
