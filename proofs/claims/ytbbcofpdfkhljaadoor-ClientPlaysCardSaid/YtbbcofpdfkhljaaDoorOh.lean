/- The document's client: Ask. -/
import Derived.Test.YtbbcofpdfkhljaaDoorOf
namespace Go.Proofs.YtbbcofpdfkhljaaDoor
open Go.RowKit Go.Rat
theorem clC_s44 (n id : Int) (tm : Nat) (p : Bool) {q : RqV} (hq : q.tag.length = 32) (a b v : Value) : (clC n id tm p q [a, b]).toArray.setIfInBounds 44 v = (clC n id tm p q [v, b]).toArray := by
  have h := rqc_length q hq
  rw [List.setIfInBounds_toArray]
  show (_ :: _ :: _ :: _ :: (q.c ++ [a, b]).set 40 v : List Value).toArray = _
  rw [List.set_append_right _ _ (by omega), h]
  rfl
theorem clC_s45 (n id : Int) (tm : Nat) (p : Bool) {q : RqV} (hq : q.tag.length = 32) (a b v : Value) : (clC n id tm p q [a, b]).toArray.setIfInBounds 45 v = (clC n id tm p q [a, v]).toArray := by
  have h := rqc_length q hq
  rw [List.setIfInBounds_toArray]
  show (_ :: _ :: _ :: _ :: (q.c ++ [a, b]).set 41 v : List Value).toArray = _
  rw [List.set_append_right _ _ (by omega), h]
  rfl
theorem clC_at44 {w : World} {g : Nat} {T : TypeId} {n id : Int} {tm : Nat} {p : Bool} {q : RqV} (hq : q.tag.length = 32) {a b : Value} (h : Blk w g T (clC n id tm p q [a, b]).toArray) : w.cell? ⟨g, 44, none⟩ = some a ∧ w.cell? ⟨g, 45, none⟩ = some b := by
  have hl := rqc_length q hq
  constructor
  · rw [h.cell 44, List.getElem?_toArray]
    show (q.c ++ [a, b])[40]? = _
    rw [List.getElem?_append_right (by omega), hl]; rfl
  · rw [h.cell 45, List.getElem?_toArray]
    show (q.c ++ [a, b])[41]? = _
    rw [List.getElem?_append_right (by omega), hl]; rfl
/-- The document's client in memory: zs = who told what, in order. -/
def RcAt (w : World) (base g : Nat) (c : ClV) (zs : List (Int × ToldV)) : Prop :=
  ∃ A1 A2 c1 c2, Blk w g 48 (clC c.n c.id c.tm c.pend c.q [.slice A1 zs.length c1, .slice A2 zs.length c2]).toArray ∧ w.ownsRow base 3 1 (.slice A1 zs.length c1) zs.length (whoR zs) ∧ w.ownsRow base 52 5 (.slice A2 zs.length c2) zs.length (saidR zs)
theorem RcAt.below {w w' : World} {base g : Nat} {c : ClV} {zs : List (Int × ToldV)} (h : RcAt w base g c zs) (hb : Below w.heap.size w w') : RcAt w' base g c zs := by
  obtain ⟨A1, A2, c1, c2, h1, h2, h3⟩ := h
  exact ⟨A1, A2, c1, c2, h1.below hb h1.lt, own_below h2 hb, own_below h3 hb⟩
set_option maxRecDepth 20000 in
set_option maxHeartbeats 8000000 in
theorem rcask_no (n : Nat) (w : World) (base g : Nat) (c : ClV) (zs : List (Int × ToldV)) (hC : RcAt w base g c zs) (htag : c.q.tag.length = 32) (htm : c.tm < 1000000) (o : OpV) (tb : List Int) (hno : (askC n tb c o).2.2 ≠ 0) :
    Calls Tryd.prog 15 #[.pointer (some ⟨g, 0, none⟩), .agg o.c.toArray] w fun e w' => e = .returned (.tuple #[.agg (askC n tb c o).2.1.c.toArray, .int .i64 (askC n tb c o).2.2]) ∧ RcAt w' base g (askC n tb c o).1 zs ∧ w.grownBy w' (some g) := by
  obtain ⟨A1, A2, c1, c2, hX, hO1, hO2⟩ := hC
  have hn1 := own_ne hO1 hX (by decide)
  have hn2 := own_ne hO2 hX (by decide)
  have hOs : o.c.toArray.size = 6 := rfl
  have hmay := fun w => rmay_any w o
  obtain ⟨cn, id, tm, pend, q, told⟩ := c
  simp only at htag htm
  simp only at hX
  by_cases hm : o.may
  · cases pend
    · exfalso
      apply hno
      unfold askC
      rw [if_pos hm, if_neg (by simp)]
    · clear hno
      have hF : askC n tb ⟨cn, id, tm, true, q, told⟩ o = (⟨cn, id, tm, true, q, told⟩, rq0, 3) := by
        unfold askC
        rw [if_pos hm, if_pos rfl]
      rw [hF]
      have HMAY := Lib.hid (fun w => (by have := hmay w; rwa [decide_eq_true hm] at this : Calls Tryd.prog 23 #[.agg o.c.toArray] w fun e w' => e = .returned (.bool true) ∧ Below w.heap.size w w'))
      clear hmay hm hF
      obtain ⟨O, hOe⟩ : ∃ O, o.c.toArray = O := ⟨_, rfl⟩
      rw [hOe] at hOs HMAY ⊢
      have HOE := Lib.hid hOe
      clear hOe
      have hX1 := (hX.alloc (.cells O 34)).alloc (.cells rq0.c.toArray 44)
      have hO := (Blk.new w 34 O).alloc (.cells rq0.c.toArray 44)
      have hR := Blk.new (w.alloc (.cells O 34)) 44 rq0.c.toArray
      have hb := below_next' (below_alloc w (.cells O 34)) (below_alloc (w.alloc (.cells O 34)) (.cells rq0.c.toArray 44))
      have hsz : (w.alloc (.cells O 34)).heap.size = w.heap.size + 1 := by simp
      rw [hsz] at hR
      have hg0 := hX.lt
      obtain ⟨z, hz⟩ : ∃ z : Array Value, rq0.c.toArray = z := ⟨_, rfl⟩
      have hzc := zc44
      rw [hz] at hzc hX1 hO hR hb
      have hzs : z.size = 40 := by rw [← hz]; rfl
      have hz1 : z.all (·.oneCell') = true := by rw [← hz]; have := rqc_one rq0; simpa using this
      have HZ := Lib.hid hz
      clear hz
      go_enter Tryd.func15, Tryd.ntmps15
      go_upto_region 1 with (fail)
      obtain ⟨w1, hw1⟩ : ∃ x, (w.alloc (.cells O 34)).alloc (.cells z 44) = x := ⟨_, rfl⟩
      rw [hw1] at hX1 hO hR hb ⊢
      obtain ⟨gx, hgx⟩ : ∃ x, w.heap.size = x := ⟨_, rfl⟩
      rw [hgx] at hO hR hg0 ⊢
      have HGX := Lib.hid hgx
      clear hgx hw1 hsz
      repeat (first
        | ((with_reducible refine wpl_loadS gx _ O Tryd.underlying34 rfl i34 hO hOs ?_ ?_ ?_); (focus rfl); (focus rfl); simp only [Act.put, List.setIfInBounds_toArray, List.set_cons_zero, List.set_cons_succ])
        | (go_at_call 23; refine (HMAY.out w1).mono ?_; rintro e w2 ⟨rfl, hb2⟩; simp only []; refine Hid.out ?_)
        | go_values | go_skip | go_guarded | go_step | go_upon | go_back)
      refine Lib.hid ?_
      have hX2 := hX1.below hb2 hX1.lt
      have hR2 := hR.below hb2 hR.lt
      have hb12 := below_next' hb hb2
      clear hX1 hO hR hb hb2
      obtain ⟨c0, c1', c2', c3⟩ := cl_cells hX2
      repeat (first
        | ((with_reducible refine wpl_buildS (ps := []) (fun x => by rw [← HZ.out]; exact build_rq0 x) ?_ ?_); (focus rfl); simp only [Act.put, List.setIfInBounds_toArray, List.set_cons_zero, List.set_cons_succ])
        | ((with_reducible refine wpl_store (gx + 1) _ z z i44 hR2 hzs hzs hz1 ?_ ?_ ?_); (focus rfl); (focus rfl))
        | go_values | go_skip | go_guarded | go_step | go_upon | go_back)
      refine bodyPost_ret (results_cell_val rfl _ _ (gx + 1) _ _ (0, 0) _ _ rfl rfl (hR2.setRow _) Tryd.underlying44 rfl (by rw [hzs]; exact i44)) rfl ?_
      have hg8 := grownBy_setRow w2 (gx + 1) z
      have hb8 := hb12.grown hg8 hb12.size (fun q hq => by cases hq; have := HGX.out; omega)
      refine ⟨?_, ⟨A1, A2, c1, c2, hX2.grown hg8 (by intro e; injection e with e; omega), own_below hO1 hb8, own_below hO2 hb8⟩, grownBy_of_below hb8 _⟩
      rw [HZ.out]
      rfl
  · clear hno
    have hF : askC n tb ⟨cn, id, tm, pend, q, told⟩ o = (⟨cn, id, tm, pend, q, told⟩, rq0, 1) := by
      unfold askC
      rw [if_neg hm]
    rw [hF]
    have HMAY := Lib.hid (fun w => (by have := hmay w; rwa [decide_eq_false hm] at this : Calls Tryd.prog 23 #[.agg o.c.toArray] w fun e w' => e = .returned (.bool false) ∧ Below w.heap.size w w'))
    clear hmay hm hF
    obtain ⟨O, hOe⟩ : ∃ O, o.c.toArray = O := ⟨_, rfl⟩
    rw [hOe] at hOs HMAY ⊢
    have HOE := Lib.hid hOe
    clear hOe
    have hX1 := (hX.alloc (.cells O 34)).alloc (.cells rq0.c.toArray 44)
    have hO := (Blk.new w 34 O).alloc (.cells rq0.c.toArray 44)
    have hR := Blk.new (w.alloc (.cells O 34)) 44 rq0.c.toArray
    have hb := below_next' (below_alloc w (.cells O 34)) (below_alloc (w.alloc (.cells O 34)) (.cells rq0.c.toArray 44))
    have hsz : (w.alloc (.cells O 34)).heap.size = w.heap.size + 1 := by simp
    rw [hsz] at hR
    have hg0 := hX.lt
    obtain ⟨z, hz⟩ : ∃ z : Array Value, rq0.c.toArray = z := ⟨_, rfl⟩
    have hzc := zc44
    rw [hz] at hzc hX1 hO hR hb
    have hzs : z.size = 40 := by rw [← hz]; rfl
    have hz1 : z.all (·.oneCell') = true := by rw [← hz]; have := rqc_one rq0; simpa using this
    have HZ := Lib.hid hz
    clear hz
    go_enter Tryd.func15, Tryd.ntmps15
    go_upto_region 1 with (fail)
    obtain ⟨w1, hw1⟩ : ∃ x, (w.alloc (.cells O 34)).alloc (.cells z 44) = x := ⟨_, rfl⟩
    rw [hw1] at hX1 hO hR hb ⊢
    obtain ⟨gx, hgx⟩ : ∃ x, w.heap.size = x := ⟨_, rfl⟩
    rw [hgx] at hO hR hg0 ⊢
    have HGX := Lib.hid hgx
    clear hgx hw1 hsz
    repeat (first
      | ((with_reducible refine wpl_loadS gx _ O Tryd.underlying34 rfl i34 hO hOs ?_ ?_ ?_); (focus rfl); (focus rfl); simp only [Act.put, List.setIfInBounds_toArray, List.set_cons_zero, List.set_cons_succ])
      | (go_at_call 23; refine (HMAY.out w1).mono ?_; rintro e w2 ⟨rfl, hb2⟩; simp only []; refine Hid.out ?_)
      | go_values | go_skip | go_guarded | go_step | go_upon | go_back)
    refine Lib.hid ?_
    have hX2 := hX1.below hb2 hX1.lt
    have hR2 := hR.below hb2 hR.lt
    have hb12 := below_next' hb hb2
    clear hX1 hO hR hb hb2
    obtain ⟨c0, c1', c2', c3⟩ := cl_cells hX2
    repeat (first
      | ((with_reducible refine wpl_buildS (ps := []) (fun x => by rw [← HZ.out]; exact build_rq0 x) ?_ ?_); (focus rfl); simp only [Act.put, List.setIfInBounds_toArray, List.set_cons_zero, List.set_cons_succ])
      | ((with_reducible refine wpl_store (gx + 1) _ z z i44 hR2 hzs hzs hz1 ?_ ?_ ?_); (focus rfl); (focus rfl))
      | go_values | go_skip | go_guarded | go_step | go_upon | go_back)
    refine bodyPost_ret (results_cell_val rfl _ _ (gx + 1) _ _ (0, 0) _ _ rfl rfl (hR2.setRow _) Tryd.underlying44 rfl (by rw [hzs]; exact i44)) rfl ?_
    have hg8 := grownBy_setRow w2 (gx + 1) z
    have hb8 := hb12.grown hg8 hb12.size (fun q hq => by cases hq; have := HGX.out; omega)
    refine ⟨?_, ⟨A1, A2, c1, c2, hX2.grown hg8 (by intro e; injection e with e; omega), own_below hO1 hb8, own_below hO2 hb8⟩, grownBy_of_below hb8 _⟩
    rw [HZ.out]
    rfl
set_option maxRecDepth 20000 in
set_option maxHeartbeats 8000000 in
theorem rcask_yes (n : Nat) (hn64 : n = 64) (w : World) (base g : Nat) (c : ClV) (zs : List (Int × ToldV)) (hC : RcAt w base g c zs) (htag : c.q.tag.length = 32) (htm : c.tm < 1000000) (o : OpV) (tb : List Int) (htb : H.tblL = tb) (hm : o.may) (hpe : c.pend = false) :
    Calls Tryd.prog 15 #[.pointer (some ⟨g, 0, none⟩), .agg o.c.toArray] w fun e w' => e = .returned (.tuple #[.agg (askC n tb c o).2.1.c.toArray, .int .i64 (askC n tb c o).2.2]) ∧ RcAt w' base g (askC n tb c o).1 [] ∧ w.grownBy w' (some g) := by
  obtain ⟨A1, A2, c1, c2, hX, hO1, hO2⟩ := hC
  have hn1 := own_ne hO1 hX (by decide)
  have hn2 := own_ne hO2 hX (by decide)
  have hOs : o.c.toArray.size = 6 := rfl
  have hmay := fun w => rmay_any w o
  obtain ⟨cn, id, tm, pend, q, told⟩ := c
  simp only at htag htm
  simp only at hX
  simp only at hpe
  subst hpe
  have hF : askC n tb ⟨cn, id, tm, false, q, told⟩ o = (⟨cn, id, tm + 1, true, askQ n tb id (tm + 1) o, tol0⟩, askQ n tb id (tm + 1) o, 0) := by
    unfold askC
    rw [if_pos hm, if_neg (by simp)]
  rw [hF]
  have hsg := fun w => rsigned_any n hn64 w ⟨id, tm + 1, o, z32⟩ z32_length tb htb
  have hbd : (RqV.mk id (tm + 1) o z32).c = .int .i64 id :: .int .u64 ((tm + 1 : Nat) : Int) :: (o.c ++ bvs z32) := rfl
  have hqt := askQ_tag n tb id (tm + 1) o
  change ∀ w, Calls _ _ _ w (fun e w' => e = .returned (.agg (askQ n tb id (tm + 1) o).c.toArray) ∧ _) at hsg
  obtain ⟨Q, hQ⟩ : ∃ Q, askQ n tb id (tm + 1) o = Q := ⟨_, rfl⟩
  rw [hQ] at hsg hqt
  simp only [hQ]
  clear hF hQ
  have HMAY := Lib.hid (fun w => (by have := hmay w; rwa [decide_eq_true hm] at this : Calls Tryd.prog 23 #[.agg o.c.toArray] w fun e w' => e = .returned (.bool true) ∧ Below w.heap.size w w'))
  clear hmay hm hn64
  have HSG := Lib.hid hsg
  have HBD := Lib.hid hbd
  clear hsg hbd
  obtain ⟨O, hOe⟩ : ∃ O, o.c.toArray = O := ⟨_, rfl⟩
  rw [hOe] at hOs HMAY ⊢
  have HOE := Lib.hid hOe
  clear hOe
  have hX1 := (hX.alloc (.cells O 34)).alloc (.cells rq0.c.toArray 44)
  have hO := (Blk.new w 34 O).alloc (.cells rq0.c.toArray 44)
  have hR := Blk.new (w.alloc (.cells O 34)) 44 rq0.c.toArray
  have hb := below_next' (below_alloc w (.cells O 34)) (below_alloc (w.alloc (.cells O 34)) (.cells rq0.c.toArray 44))
  have hsz : (w.alloc (.cells O 34)).heap.size = w.heap.size + 1 := by simp
  rw [hsz] at hR
  have hg0 := hX.lt
  obtain ⟨z, hz⟩ : ∃ z : Array Value, rq0.c.toArray = z := ⟨_, rfl⟩
  have hzc := zc44
  rw [hz] at hzc hX1 hO hR hb
  have hzs : z.size = 40 := by rw [← hz]; rfl
  have hz1 : z.all (·.oneCell') = true := by rw [← hz]; have := rqc_one rq0; simpa using this
  have HZ := Lib.hid hz
  clear hz
  go_enter Tryd.func15, Tryd.ntmps15
  go_upto_region 1 with (fail)
  obtain ⟨w1, hw1⟩ : ∃ x, (w.alloc (.cells O 34)).alloc (.cells z 44) = x := ⟨_, rfl⟩
  rw [hw1] at hX1 hO hR hb ⊢
  obtain ⟨gx, hgx⟩ : ∃ x, w.heap.size = x := ⟨_, rfl⟩
  rw [hgx] at hO hR hg0 ⊢
  have HGX := Lib.hid hgx
  clear hgx hw1 hsz
  repeat (first
    | ((with_reducible refine wpl_loadS gx _ O Tryd.underlying34 rfl i34 hO hOs ?_ ?_ ?_); (focus rfl); (focus rfl); simp only [Act.put, List.setIfInBounds_toArray, List.set_cons_zero, List.set_cons_succ])
    | (go_at_call 23; refine (HMAY.out w1).mono ?_; rintro e w2 ⟨rfl, hb2⟩; simp only []; refine Hid.out ?_)
    | go_values | go_skip | go_guarded | go_step | go_upon | go_back)
  refine Lib.hid ?_
  have hX2 := hX1.below hb2 hX1.lt
  have hO2' := hO.below hb2 hO.lt
  have hR2 := hR.below hb2 hR.lt
  have hb12 := below_next' hb hb2
  clear hX1 hO hR hb hb2
  obtain ⟨d0, d1, d2, d3⟩ := cl_cells hX2
  have f2 := hX2.frozen 2
  have htm1 : (tm : Int) + 1 < 2000000 := by omega
  have htm0 : 0 ≤ (tm : Int) := by omega
  have hX3 : Blk (w2.setCell ⟨g, 2, none⟩ (.int .u64 ((tm : Int) + 1))) g 48 (clC cn id (tm + 1) false q [.slice A1 zs.length c1, .slice A2 zs.length c2]).toArray := by
    have := hX2.set_ 2 (.int .u64 ((tm + 1 : Nat) : Int))
    rw [clC_tm] at this
    exact this
  have hG3 := grown_trans' (grownBy_of_below hb12 (some g)) (grownBy_set w2 g 2 (.int .u64 ((tm : Int) + 1)))
  have hO3 := hO2'.grown (grownBy_set w2 g 2 (.int .u64 ((tm : Int) + 1))) (by intro e; injection e with e; omega)
  have hR3 := hR2.grown (grownBy_set w2 g 2 (.int .u64 ((tm : Int) + 1))) (by intro e; injection e with e; omega)
  go_upto_region 6 with (fail)
  obtain ⟨w3, hw3⟩ : ∃ x, w2.setCell ⟨g, 2, none⟩ (.int .u64 ((tm : Int) + 1)) = x := ⟨_, rfl⟩
  rw [hw3] at hX3 hG3 hO3 hR3 ⊢
  clear hw3 hX2 hO2' hR2 hb12 d0 d1 d2 d3 f2
  have d3 := (cl_cells hX3).2.2.2
  have f3 := hX3.frozen 3
  have hX4 := hX3.set_ 3 (.bool true)
  rw [clC_p] at hX4
  have hg4 := grownBy_set w3 g 3 (.bool true)
  have hO4 := hO3.grown hg4 (by intro e; injection e with e; omega)
  have hR4 := hR3.grown hg4 (by intro e; injection e with e; omega)
  have hG4 := grown_trans' hG3 hg4
  go_upto_region 7 with (fail)
  obtain ⟨w4, hw4⟩ : ∃ x, w3.setCell ⟨g, 3, none⟩ (.bool true) = x := ⟨_, rfl⟩
  rw [hw4] at hX4 hG4 hO4 hR4 ⊢
  clear hw4 hX3 hO3 hR3 hG3 hg4 d3 f3
  have hX4 : Blk w4.drew g 48 (clC cn id (tm + 1) true q [.slice A1 zs.length c1, .slice A2 zs.length c2]).toArray := hX4
  have hO4 : Blk w4.drew gx 34 O := hO4
  have hR4 : Blk w4.drew (gx + 1) 44 z := hR4
  have hG4 : w.grownBy w4.drew (some g) := grown_below' hG4 drew_below
  have q1 : ∀ x, (Blk x gx 34 O ∧ x.cell? ⟨g, 1, none⟩ = some (.int .i64 id) ∧ x.cell? ⟨g, 2, none⟩ = some (.int .u64 ((tm : Int) + 1))) → x.cell? ⟨g, 1, none⟩ = some (.int .i64 id) := fun x h => h.2.1
  have q2 : ∀ x, (Blk x gx 34 O ∧ x.cell? ⟨g, 1, none⟩ = some (.int .i64 id) ∧ x.cell? ⟨g, 2, none⟩ = some (.int .u64 ((tm : Int) + 1))) → x.cell? ⟨g, 2, none⟩ = some (.int .u64 ((tm : Int) + 1)) := fun x h => h.2.2
  refine wp_region_plan [(0, true), (1, true), (2, true), (3, true), (4, true), (5, true), (6, true), (7, true), (8, true), (9, true), (10, true), (11, false), (12, true), (13, true), (14, false)] (fun x => Blk x gx 34 O ∧ x.cell? ⟨g, 1, none⟩ = some (.int .i64 id) ∧ x.cell? ⟨g, 2, none⟩ = some (.int .u64 ((tm : Int) + 1))) (by kernel_rfl) (by kernel_rfl) (by kernel_rfl) (by kernel_rfl) (fun _ _ d _ _ h => by cases d <;> exact h) ⟨hO4, (cl_cells hX4).2.1, (cl_cells hX4).2.2.1⟩ ?_
  simp only [planOps, List.getElem?_toArray, List.getElem?_cons_zero, List.getElem?_cons_succ]
  iterate 9 (refine wpS_q ?_ (by rfl) ?_ ?_; rotate_left; (focus (intro z hz; (try dsimp only at hz); go_simp; rfl)); simp only [Act.put, List.setIfInBounds_toArray, List.set_cons_zero, List.set_cons_succ])
  refine wpS_q (.agg O) (by rfl) (fun x hx => load_row_run rfl gx O Tryd.underlying34 rfl i34 hx.1 hOs rfl) ?_
  simp only [Act.put, List.setIfInBounds_toArray, List.set_cons_zero, List.set_cons_succ]
  refine wpS_q (.agg (.int .i64 id :: .int .u64 ((tm : Int) + 1) :: (o.c ++ bvs z32)).toArray) (by rfl) (fun x hx => run_buildS rfl (by rw [← HOE.out]; exact build_rq x id ((tm : Int) + 1) o)) ?_
  simp only [Act.put, List.setIfInBounds_toArray, List.set_cons_zero, List.set_cons_succ]
  refine wpS_l (by rfl) (fun K hK => ?_)
  have hsg3 := HSG.out w4.drew
  rw [HBD.out] at hsg3
  go_wp2_with fail
  refine hsg3.mono ?_
  rintro e w5 ⟨rfl, hb5⟩
  have hX5 := hX4.below hb5 hX4.lt
  have hO5 := hO4.below hb5 hO4.lt
  have hR5 := hR4.below hb5 hR4.lt
  have hG5 := grown_below' hG4 hb5
  refine hK _ _ _ ⟨hO5, (cl_cells hX5).2.1, (cl_cells hX5).2.2.1⟩ (fun _ h => h) ?_
  clear hK hsg3 hX4 hO4 hR4 hG4 hb5
  iterate 2 (refine wpS_q ?_ (by rfl) ?_ ?_; rotate_left; (focus (intro z hz; (try dsimp only at hz); go_simp; rfl)); simp only [Act.put, List.setIfInBounds_toArray, List.set_cons_zero, List.set_cons_succ])
  refine wpS_l (by rfl) (fun K hK => ?_)
  refine wp_store_midR rfl g 4 _ Q.c (by rw [rqc_length Q hqt]; exact i44) hX5 (by rw [rqc_length Q hqt, clC_len _ _ _ _ htag]; simp) (by simpa using rqc_one Q) rfl rfl ?_
  rw [clC_setq _ _ _ _ htag hqt]
  have hX6 := hX5.setRow (clC cn id (tm + 1) true Q [.slice A1 zs.length c1, .slice A2 zs.length c2]).toArray
  have hg6 := grownBy_setRow w5 g (clC cn id (tm + 1) true Q [.slice A1 zs.length c1, .slice A2 zs.length c2]).toArray
  have hO6 := hO5.grown hg6 (by intro e; injection e with e; omega)
  have hR6 := hR5.grown hg6 (by intro e; injection e with e; omega)
  have hG6 := grown_trans' hG5 hg6
  obtain ⟨w6, hw6⟩ : ∃ x, w5.setRow g (clC cn id (tm + 1) true Q [.slice A1 zs.length c1, .slice A2 zs.length c2]).toArray = x := ⟨_, rfl⟩
  rw [hw6] at hX6 hO6 hR6 hG6 ⊢
  refine hK _ _ _ ⟨hO6, (cl_cells hX6).2.1, (cl_cells hX6).2.2.1⟩ (fun _ h => h) ?_
  clear hK hw6 hg6 hX5 hO5 hR5 hG5 q1 q2 hO6
  refine wpS_nil ?_
  have d4 := (clC_at44 hqt hX6).1
  have f4 := hX6.frozen 44
  have hX7 := hX6.set_ 44 (.slice none 0 0)
  rw [clC_s44 _ _ _ _ hqt] at hX7
  have hg7 := grownBy_set w6 g 44 (.slice none 0 0)
  have hR7 := hR6.grown hg7 (by intro e; injection e with e; omega)
  have hG7 := grown_trans' hG6 hg7
  go_upto_region 9 with (fail)
  obtain ⟨w7, hw7⟩ : ∃ x, w6.setCell ⟨g, 44, none⟩ (.slice none 0 0) = x := ⟨_, rfl⟩
  rw [hw7] at hX7 hR7 hG7 ⊢
  clear hw7 hg7 hX6 hR6 hG6 d4 f4
  have d5 := (clC_at44 hqt hX7).2
  have f5 := hX7.frozen 45
  have hX8 := hX7.set_ 45 (.slice none 0 0)
  rw [clC_s45 _ _ _ _ hqt] at hX8
  have hg8 := grownBy_set w7 g 45 (.slice none 0 0)
  have hR8 := hR7.grown hg8 (by intro e; injection e with e; omega)
  have hG8 := grown_trans' hG7 hg8
  go_upto_region 10 with (fail)
  obtain ⟨w8, hw8⟩ : ∃ x, w7.setCell ⟨g, 45, none⟩ (.slice none 0 0) = x := ⟨_, rfl⟩
  rw [hw8] at hX8 hR8 hG8 ⊢
  clear hw8 hg8 hX7 hR7 hG7 d5 f5
  have hQs : Q.c.toArray.size = 40 := by rw [List.size_toArray, rqc_length Q hqt]
  have hq8 := clC_q cn id (tm + 1) true hqt [.slice none 0 0, .slice none 0 0]
  repeat (first
    | ((with_reducible refine wpl_load_mid g 4 _ Q.c Tryd.underlying44 rfl i44 hX8 hq8 (by rw [rqc_length Q hqt]) ?_ ?_); (focus rfl); simp only [Act.put, List.setIfInBounds_toArray, List.set_cons_zero, List.set_cons_succ])
    | ((with_reducible refine wpl_store (gx + 1) _ z Q.c.toArray i44 hR8 hzs hQs (by simpa using rqc_one Q) ?_ ?_ ?_); (focus rfl); (focus rfl))
    | go_values | go_skip | go_guarded | go_step | go_upon | go_back)
  refine bodyPost_ret (results_cell_val rfl _ _ (gx + 1) _ _ (0, 0) _ _ rfl rfl (hR8.setRow _) Tryd.underlying44 rfl (by rw [hQs]; exact i44)) rfl ?_
  have hg9 := grownBy_setRow w8 (gx + 1) Q.c.toArray
  have hb9 : Below w.heap.size w8 (w8.setRow (gx + 1) Q.c.toArray) := below_of_grownBy hg9 (fun q hq => by cases hq; have := HGX.out; omega) hG8.size
  refine ⟨rfl, ⟨none, none, 0, 0, hX8.grown hg9 (by intro e; injection e with e; omega), World.ownsRow_nil _ _ _ _, World.ownsRow_nil _ _ _ _⟩, hG8.out hb9⟩
end Go.Proofs.YtbbcofpdfkhljaaDoor
