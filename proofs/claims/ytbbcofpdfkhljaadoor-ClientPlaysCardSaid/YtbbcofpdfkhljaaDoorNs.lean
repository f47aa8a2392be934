/- client: Ask. -/
import Derived.Test.YtbbcofpdfkhljaaDoorNr
namespace Go.Rat
open Go.RowKit Go
theorem results_cell_val {P : Program} {fn : Func} {p q : Tmp} {ty : TypeId} (h : fn.results = #[.cell p ty, .tmp q]) (tmps : Array Value) (w : World) (g : Nat) (t : TypeId) (cs : Array Value) (fr : Nat × Nat) (d : TypeDesc) (v : Value)
    (hp : tmps.getD p undef = .pointer (some ⟨g, 0, none⟩)) (hq : tmps.getD q undef = v) (hg : w.heap[g]? = some (.cells cs t fr))
    (hu : P.underlying ty = some d) (hd : (match d with | .struct _ | .array _ _ => true | _ => false) = true) (hi : (P.info? ty).map (·.size) = some cs.size) :
    (results fn tmps).run P w = .ok (.tuple #[.agg cs, v]) w := by
  have hp' : tmps[p]?.getD undef = .pointer (some ⟨g, 0, none⟩) := by simpa using hp
  have hq' : tmps[q]?.getD undef = v := by simpa using hq
  simp [results, h, hp', hq', asAddr, run_loadVar_row w g t ty cs fr d hg hu hd hi]
theorem run_buildS {P : Program} {w : World} {ρ : Operand → Value} {o : Oper} {t : TypeId} {parts : List (Nat × Operand)} {v : Value} (ho : o.op = .build t parts.toArray)
    (h : (Instr.build t (parts.map fun (i, x) => (i, ρ x)).toArray).run P w = .ok v w) : (execOp ρ o).run P w = .ok (.value v) w := by
  unfold execOp
  rw [ho]
  simp only [List.map_toArray, Sem.run_bind, h]
  rfl
end Go.Rat
namespace Go.Proofs.YtbbcofpdfkhljaaDoor
open Go.RowKit Go.Rat
/-- A client of the program's. -/
structure ClV where
  n : Int
  id : Int
  tm : Nat
  pend : Bool
  q : RqV
  told : List (Option ToldV)
def ClV.c (c : ClV) : List Value := clC c.n c.id c.tm c.pend c.q (toldC c.told)
structure ClV.ok (c : ClV) : Prop where
  tag : c.q.tag.length = 32
  len : c.told.length = 11
/-- The request that a client makes. -/
def askQ (n : Nat) (tb : List Int) (id : Int) (tm : Nat) (o : OpV) : RqV := RqV.signed n tb ⟨id, tm, o, z32⟩
theorem askQ_tag (n : Nat) (tb : List Int) (id : Int) (tm : Nat) (o : OpV) : (askQ n tb id tm o).tag.length = 32 := signed_tag n tb _ z32_length
def askC (n : Nat) (tb : List Int) (c : ClV) (o : OpV) : ClV × RqV × Int :=
  if o.may then if c.pend = true then (c, rq0, 3) else ({ c with tm := c.tm + 1, pend := true, q := askQ n tb c.id (c.tm + 1) o, told := tol0 }, askQ n tb c.id (c.tm + 1) o, 0) else (c, rq0, 1)
theorem tol0_len : tol0.length = 11 := rfl
theorem askC_ok (n : Nat) (tb : List Int) (c : ClV) (o : OpV) (h : c.ok) : (askC n tb c o).1.ok := by
  unfold askC
  split
  · split
    · exact h
    · exact ⟨askQ_tag _ _ _ _ _, tol0_len⟩
  · exact h
theorem grown_trans' {a b c : World} {g : Nat} (h : a.grownBy b (some g)) (k : b.grownBy c (some g)) : a.grownBy c (some g) :=
  ⟨k.os.trans h.os, k.tape.trans h.tape, k.output.trans h.output, Nat.le_trans h.size k.size, fun x hx hne => (k.block x (Nat.lt_of_lt_of_le hx h.size) hne).trans (h.block x hx hne)⟩
theorem grown_below' {a b c : World} {g : Nat} (h : a.grownBy b (some g)) (k : Below b.heap.size b c) : a.grownBy c (some g) := grown_trans' h (grownBy_of_below k _)
theorem build_rq (w : World) (id t : Int) (o : OpV) : (Instr.build 44 #[(0, .int .i64 id), (1, .int .u64 t), (2, .agg o.c.toArray)]).run Tryd.prog w = .ok (.agg (.int .i64 id :: .int .u64 t :: (o.c ++ bvs z32)).toArray) w := by
  obtain ⟨kind, key, val, old, tow, amt⟩ := o
  simp only [OpV.c]
  go_simp
  rfl
theorem build_rq0 (w : World) : (Instr.build 44 #[]).run Tryd.prog w = .ok (.agg rq0.c.toArray) w := by
  go_simp
  rfl
theorem build_said (w : World) (t : ToldV) : (Instr.build 70 #[(0, .bool true), (1, .agg t.c.toArray)]).run Tryd.prog w = .ok (.agg (saidC (some t)).toArray) w := by
  simp only [ToldV.c]
  go_simp
  rfl
theorem zeroSaid11 : (Builtin.zeroCells (Value.agg (saidC none).toArray).cells 11).toList = toldC tol0 := by kernel_rfl
theorem _root_.Go.World.grownBy.out {a b c : World} {g : Nat} (h : a.grownBy b (some g)) (k : Below a.heap.size b c) : a.grownBy c (some g) :=
  ⟨k.os.trans h.os, k.tape.trans h.tape, k.output.trans h.output, Nat.le_trans h.size k.size, fun x hx hne => (k.block x hx).trans (h.block x hx hne)⟩
theorem iCl : (Tryd.prog.info? 73).map (·.size) = some 110 := by kernel_rfl
theorem iSaid : (Tryd.prog.info? 70).map (·.size) = some 6 := by kernel_rfl
theorem iSaids : (Tryd.prog.info? 71).map (·.size) = some 66 := by kernel_rfl
theorem iRp : (Tryd.prog.info? 36).map (·.size) = some 2 := by kernel_rfl
theorem iTold : (Tryd.prog.info? 38).map (·.size) = some 5 := by kernel_rfl
theorem iRTold : (Tryd.prog.info? 52).map (·.size) = some 5 := by kernel_rfl
set_option maxRecDepth 20000 in
set_option maxHeartbeats 8000000 in
theorem cask_any (n : Nat) (hn64 : n = 64) (w : World) (g : Nat) (c : ClV) (hX : Blk w g 73 c.c.toArray) (hok : c.ok) (htm : c.tm < 1000000) (o : OpV) (tb : List Int) (hT : ∀ z, w.grownBy z (some g) → H.Tab z tb) :
    Calls Tryd.prog 14 #[.pointer (some ⟨g, 0, none⟩), .agg o.c.toArray] w fun e w' => e = .returned (.tuple #[.agg (askC n tb c o).2.1.c.toArray, .int .i64 (askC n tb c o).2.2]) ∧ Blk w' g 73 (askC n tb c o).1.c.toArray ∧ w.grownBy w' (some g) := by
  have hOs : o.c.toArray.size = 6 := rfl
  have hmay := fun w => may_any w o
  obtain ⟨cn, id, tm, pend, q, told⟩ := c
  obtain ⟨htag, hlen⟩ := hok
  simp only at htag hlen htm
  simp only [ClV.c] at hX
  by_cases hm : o.may
  · cases pend
    · have hF : askC n tb ⟨cn, id, tm, false, q, told⟩ o = (⟨cn, id, tm + 1, true, askQ n tb id (tm + 1) o, tol0⟩, askQ n tb id (tm + 1) o, 0) := by
        unfold askC
        rw [if_pos hm, if_neg (by simp)]
      rw [hF]
      have hsg := fun w hT => signed_any n hn64 w ⟨id, tm + 1, o, z32⟩ z32_length tb hT
      have hbd : (RqV.mk id (tm + 1) o z32).c = .int .i64 id :: .int .u64 ((tm + 1 : Nat) : Int) :: (o.c ++ bvs z32) := rfl
      have hqt := askQ_tag n tb id (tm + 1) o
      change ∀ w, H.Tab w tb → Calls _ _ _ w (fun e w' => e = .returned (.agg (askQ n tb id (tm + 1) o).c.toArray) ∧ _) at hsg
      obtain ⟨Q, hQ⟩ : ∃ Q, askQ n tb id (tm + 1) o = Q := ⟨_, rfl⟩
      rw [hQ] at hsg hqt
      simp only [hQ, ClV.c]
      clear hF hQ
      have HMAY := Lib.hid (fun w => (by have := hmay w; rwa [decide_eq_true hm] at this : Calls Tryd.prog 21 #[.agg o.c.toArray] w fun e w' => e = .returned (.bool true) ∧ Below w.heap.size w w'))
      clear hmay hm hn64
      have HSG := Lib.hid hsg
      have HBD := Lib.hid hbd
      have HT := Lib.hid hT
      clear hsg hbd hT
      obtain ⟨O, hOe⟩ : ∃ O, o.c.toArray = O := ⟨_, rfl⟩
      rw [hOe] at hOs HMAY ⊢
      have HOE := Lib.hid hOe
      clear hOe
      have hX1 := (hX.alloc (.cells O 34)).alloc (.cells rq0.c.toArray 44)
      have hO := (Blk.new w 34 O).alloc (.cells rq0.c.toArray 44)
      have hR := Blk.new (w.alloc (.cells O 34)) 44 rq0.c.toArray
      have hb := below_next' (below_alloc w (.cells O 34)) (below_alloc (w.alloc (.cells O 34)) (.cells rq0.c.toArray 44))
      have hsz : (w.alloc (.cells O 34)).heap.size = w.heap.size + 1 := by simp
      rw [hsz] at hR
      have hg0 := hX.lt
      obtain ⟨z, hz⟩ : ∃ z : Array Value, rq0.c.toArray = z := ⟨_, rfl⟩
      have hzc := zc44
      rw [hz] at hzc hX1 hO hR hb
      have hzs : z.size = 40 := by rw [← hz]; rfl
      have hz1 : z.all (·.oneCell') = true := by rw [← hz]; have := rqc_one rq0; simpa using this
      have HZ := Lib.hid hz
      clear hz
      go_enter Tryd.func14, Tryd.ntmps14
      go_upto_block 0 with (fail)
      obtain ⟨w1, hw1⟩ : ∃ x, (w.alloc (.cells O 34)).alloc (.cells z 44) = x := ⟨_, rfl⟩
      rw [hw1] at hX1 hO hR hb ⊢
      obtain ⟨gx, hgx⟩ : ∃ x, w.heap.size = x := ⟨_, rfl⟩
      rw [hgx] at hO hR hg0 ⊢
      have HGX := Lib.hid hgx
      clear hgx hw1 hsz
      repeat (first
        | ((with_reducible refine wpl_loadS gx _ O Tryd.underlying34 rfl i34 hO hOs ?_ ?_ ?_); (focus rfl); (focus rfl); simp only [Act.put, List.setIfInBounds_toArray, List.set_cons_zero, List.set_cons_succ])
        | (go_at_call 21; refine (HMAY.out w1).mono ?_; rintro e w2 ⟨rfl, hb2⟩; simp only []; refine Hid.out ?_)
        | go_values | go_skip | go_guarded | go_step | go_upon | go_back)
      refine Lib.hid ?_
      have hX2 := hX1.below hb2 hX1.lt
      have hO2 := hO.below hb2 hO.lt
      have hR2 := hR.below hb2 hR.lt
      have hb12 := below_next' hb hb2
      clear hX1 hO hR hb hb2
      obtain ⟨c0, c1, c2, c3⟩ := cl_cells hX2
      have f2 := hX2.frozen 2
      have htm1 : (tm : Int) + 1 < 2000000 := by omega
      have htm0 : 0 ≤ (tm : Int) := by omega
      go_upto_region 8 with (fail)
      have hX3 : Blk (w2.setCell ⟨g, 2, none⟩ (.int .u64 ((tm : Int) + 1))) g 73 (clC cn id (tm + 1) false q (toldC told)).toArray := by
        have := hX2.set_ 2 (.int .u64 ((tm + 1 : Nat) : Int))
        rw [clC_tm] at this
        exact this
      have hG3 := grown_trans' (grownBy_of_below hb12 (some g)) (grownBy_set w2 g 2 (.int .u64 ((tm : Int) + 1)))
      have hO3 := hO2.grown (grownBy_set w2 g 2 (.int .u64 ((tm : Int) + 1))) (by intro e; injection e with e; omega)
      have hR3 := hR2.grown (grownBy_set w2 g 2 (.int .u64 ((tm : Int) + 1))) (by intro e; injection e with e; omega)
      obtain ⟨w3, hw3⟩ : ∃ x, w2.setCell ⟨g, 2, none⟩ (.int .u64 ((tm : Int) + 1)) = x := ⟨_, rfl⟩
      rw [hw3] at hX3 hG3 hO3 hR3 ⊢
      clear hw3 hX2 hO2 hR2 hb12 c0 c1 c2 c3 f2
      have hX3 : Blk w3.drew g 73 (clC cn id (tm + 1) false q (toldC told)).toArray := hX3
      have hO3 : Blk w3.drew gx 34 O := hO3
      have hR3 : Blk w3.drew (gx + 1) 44 z := hR3
      have hG3 : w.grownBy w3.drew (some g) := grown_below' hG3 drew_below
      have q1 : ∀ x, (Blk x gx 34 O ∧ x.cell? ⟨g, 1, none⟩ = some (.int .i64 id) ∧ x.cell? ⟨g, 2, none⟩ = some (.int .u64 ((tm : Int) + 1))) → x.cell? ⟨g, 1, none⟩ = some (.int .i64 id) := fun x h => h.2.1
      have q2 : ∀ x, (Blk x gx 34 O ∧ x.cell? ⟨g, 1, none⟩ = some (.int .i64 id) ∧ x.cell? ⟨g, 2, none⟩ = some (.int .u64 ((tm : Int) + 1))) → x.cell? ⟨g, 2, none⟩ = some (.int .u64 ((tm : Int) + 1)) := fun x h => h.2.2
      refine wp_region_plan [(0, true), (1, true), (2, true), (3, true), (4, true), (5, true), (6, true), (7, true), (8, true), (9, true), (10, true), (11, false), (12, true), (13, true), (14, false)] (fun x => Blk x gx 34 O ∧ x.cell? ⟨g, 1, none⟩ = some (.int .i64 id) ∧ x.cell? ⟨g, 2, none⟩ = some (.int .u64 ((tm : Int) + 1))) (by kernel_rfl) (by kernel_rfl) (by kernel_rfl) (by kernel_rfl) (fun _ _ d _ _ h => by cases d <;> exact h) ⟨hO3, (cl_cells hX3).2.1, (cl_cells hX3).2.2.1⟩ ?_
      simp only [planOps, List.getElem?_toArray, List.getElem?_cons_zero, List.getElem?_cons_succ]
      iterate 9 (refine wpS_q ?_ (by rfl) ?_ ?_; rotate_left; (focus (intro z hz; (try dsimp only at hz); go_simp; rfl)); simp only [Act.put, List.setIfInBounds_toArray, List.set_cons_zero, List.set_cons_succ])
      refine wpS_q (.agg O) (by rfl) (fun x hx => load_row_run rfl gx O Tryd.underlying34 rfl i34 hx.1 hOs rfl) ?_
      simp only [Act.put, List.setIfInBounds_toArray, List.set_cons_zero, List.set_cons_succ]
      refine wpS_q (.agg (.int .i64 id :: .int .u64 ((tm : Int) + 1) :: (o.c ++ bvs z32)).toArray) (by rfl) (fun x hx => run_buildS rfl (by rw [← HOE.out]; exact build_rq x id ((tm : Int) + 1) o)) ?_
      simp only [Act.put, List.setIfInBounds_toArray, List.set_cons_zero, List.set_cons_succ]
      refine wpS_l (by rfl) (fun K hK => ?_)
      have hsg3 := HSG.out w3.drew (HT.out _ hG3)
      rw [HBD.out] at hsg3
      go_wp2_with fail
      refine hsg3.mono ?_
      rintro e w4 ⟨rfl, hb4⟩
      have hX4 := hX3.below hb4 hX3.lt
      have hO4 := hO3.below hb4 hO3.lt
      have hR4 := hR3.below hb4 hR3.lt
      have hG4 := grown_below' hG3 hb4
      refine hK _ _ _ ⟨hO4, (cl_cells hX4).2.1, (cl_cells hX4).2.2.1⟩ (fun _ h => h) ?_
      clear hK hsg3 hX3 hO3 hR3 hG3 hb4
      iterate 2 (refine wpS_q ?_ (by rfl) ?_ ?_; rotate_left; (focus (intro z hz; (try dsimp only at hz); go_simp; rfl)); simp only [Act.put, List.setIfInBounds_toArray, List.set_cons_zero, List.set_cons_succ])
      refine wpS_l (by rfl) (fun K hK => ?_)
      refine wp_store_midR rfl g 4 _ Q.c (by rw [rqc_length Q hqt]; exact i44) hX4 (by rw [rqc_length Q hqt, clC_len _ _ _ _ htag, told_len, hlen]; omega) (by simpa using rqc_one Q) rfl rfl ?_
      rw [clC_setq _ _ _ _ htag hqt]
      have hX5 := hX4.setRow (clC cn id (tm + 1) false Q (toldC told)).toArray
      have hg5 := grownBy_setRow w4 g (clC cn id (tm + 1) false Q (toldC told)).toArray
      have hO5 := hO4.grown hg5 (by intro e; injection e with e; omega)
      have hR5 := hR4.grown hg5 (by intro e; injection e with e; omega)
      have hG5 := grown_trans' hG4 hg5
      obtain ⟨w5, hw5⟩ : ∃ x, w4.setRow g (clC cn id (tm + 1) false Q (toldC told)).toArray = x := ⟨_, rfl⟩
      rw [hw5] at hX5 hO5 hR5 hG5 ⊢
      refine hK _ _ _ ⟨hO5, (cl_cells hX5).2.1, (cl_cells hX5).2.2.1⟩ (fun _ h => h) ?_
      clear hK hw5 hg5 hX4 hO4 hR4 hG4 q1 q2
      refine wpS_nil ?_
      have c3 := (cl_cells hX5).2.2.2
      have f3 := hX5.frozen 3
      have hX6 := hX5.set_ 3 (.bool true)
      rw [clC_p] at hX6
      have hg6 := grownBy_set w5 g 3 (.bool true)
      have hR6 := hR5.grown hg6 (by intro e; injection e with e; omega)
      have hG6 := grown_trans' hG5 hg6
      go_upto_region 10 with (fail)
      obtain ⟨w6, hw6⟩ : ∃ x, w5.setCell ⟨g, 3, none⟩ (.bool true) = x := ⟨_, rfl⟩
      rw [hw6] at hX6 hR6 hG6 ⊢
      clear hw6 hg6 hX5 hO5 hR5 hG5 c3 f3
      have hcl : ∀ ty, (Builtin.clear_ #[76] ty #[.slice (some ⟨g, 44, none⟩) 11 11]).run Tryd.prog w6 = .ok (.tuple #[]) (w6.setRow g (Go.splice (clC cn id (tm + 1) true Q (toldC told)) (44 + 0) (toldC tol0)).toArray) := fun ty =>
        run_clear_mid w6 _ _ ty _ Tryd.underlying76 zeroSaid g 44 11 11 _ (toldC tol0) zeroSaid11 (by omega) hX6 (by rw [clC_len _ _ _ _ hqt]; simp only [told_len, hlen, tol0_len]; omega) (by simpa using told_one tol0)
      rw [clC_setr _ _ _ _ hqt] at hcl
      have hspl : Go.splice (toldC told) 0 (toldC tol0) = toldC tol0 := by
        rw [Go.splice, told_len, tol0_len, Nat.zero_add, List.drop_of_length_le (by rw [told_len, hlen]; omega)]
        simp
      rw [hspl] at hcl
      have hX7 := hX6.setRow (clC cn id (tm + 1) true Q (toldC tol0)).toArray
      have hg7 := grownBy_setRow w6 g (clC cn id (tm + 1) true Q (toldC tol0)).toArray
      have hR7 := hR6.grown hg7 (by intro e; injection e with e; omega)
      have hG7 := grown_trans' hG6 hg7
      obtain ⟨L7, hL7⟩ : ∃ x, clC cn id (tm + 1) true Q (toldC tol0) = x := ⟨_, rfl⟩
      have hq7 : (L7.drop 4).take 40 = Q.c := by rw [← hL7]; exact clC_q _ _ _ _ hqt _
      rw [hL7] at hcl hX7 hR7 hG7
      obtain ⟨w7, hw7⟩ : ∃ x, w6.setRow g L7.toArray = x := ⟨_, rfl⟩
      simp only [hw7] at hcl hX7 hR7 hG7
      clear hspl hg7 hX6 hR6 hG6 hw7
      go_upto_region 11 with (fail)
      have hQs : Q.c.toArray.size = 40 := by rw [List.size_toArray, rqc_length Q hqt]
      repeat (first
        | ((with_reducible refine wpl_load_mid g 4 L7 Q.c Tryd.underlying44 rfl i44 hX7 hq7 (by rw [rqc_length Q hqt]) ?_ ?_); (focus rfl); simp only [Act.put, List.setIfInBounds_toArray, List.set_cons_zero, List.set_cons_succ])
        | ((with_reducible refine wpl_store (gx + 1) _ z Q.c.toArray i44 hR7 hzs hQs (by simpa using rqc_one Q) ?_ ?_ ?_); (focus rfl); (focus rfl))
        | go_values | go_skip | go_guarded | go_step | go_upon | go_back)
      refine bodyPost_ret (results_cell_val rfl _ _ (gx + 1) _ _ (0, 0) _ _ rfl rfl (hR7.setRow _) Tryd.underlying44 rfl (by rw [hQs]; exact i44)) rfl ?_
      have hg8 := grownBy_setRow w7 (gx + 1) Q.c.toArray
      have hb8 : Below w.heap.size w7 (w7.setRow (gx + 1) Q.c.toArray) := below_of_grownBy hg8 (fun q hq => by cases hq; have := HGX.out; omega) hG7.size
      have hGF := hG7.out hb8
      refine ⟨rfl, ?_, hGF⟩
      rw [hL7]
      exact hX7.grown hg8 (by intro e; injection e with e; omega)
    · have hF : askC n tb ⟨cn, id, tm, true, q, told⟩ o = (⟨cn, id, tm, true, q, told⟩, rq0, 3) := by
        unfold askC
        rw [if_pos hm, if_pos rfl]
      rw [hF]
      simp only [ClV.c]
      have HMAY := Lib.hid (fun w => (by have := hmay w; rwa [decide_eq_true hm] at this : Calls Tryd.prog 21 #[.agg o.c.toArray] w fun e w' => e = .returned (.bool true) ∧ Below w.heap.size w w'))
      clear hmay hm hn64 hF hT
      obtain ⟨O, hOe⟩ : ∃ O, o.c.toArray = O := ⟨_, rfl⟩
      rw [hOe] at hOs HMAY ⊢
      clear hOe
      have hX1 := (hX.alloc (.cells O 34)).alloc (.cells rq0.c.toArray 44)
      have hO := (Blk.new w 34 O).alloc (.cells rq0.c.toArray 44)
      have hR := Blk.new (w.alloc (.cells O 34)) 44 rq0.c.toArray
      have hb := below_next' (below_alloc w (.cells O 34)) (below_alloc (w.alloc (.cells O 34)) (.cells rq0.c.toArray 44))
      have hsz : (w.alloc (.cells O 34)).heap.size = w.heap.size + 1 := by simp
      rw [hsz] at hR
      have hg0 := hX.lt
      obtain ⟨z, hz⟩ : ∃ z : Array Value, rq0.c.toArray = z := ⟨_, rfl⟩
      have hzc := zc44
      rw [hz] at hzc hX1 hO hR hb
      have hzs : z.size = 40 := by rw [← hz]; rfl
      have hz1 : z.all (·.oneCell') = true := by rw [← hz]; have := rqc_one rq0; simpa using this
      have HZ := Lib.hid hz
      clear hz
      go_enter Tryd.func14, Tryd.ntmps14
      go_upto_block 0 with (fail)
      obtain ⟨w1, hw1⟩ : ∃ x, (w.alloc (.cells O 34)).alloc (.cells z 44) = x := ⟨_, rfl⟩
      rw [hw1] at hX1 hO hR hb ⊢
      obtain ⟨gx, hgx⟩ : ∃ x, w.heap.size = x := ⟨_, rfl⟩
      rw [hgx] at hO hR hg0 ⊢
      have HGX := Lib.hid hgx
      clear hgx hw1 hsz
      repeat (first
        | ((with_reducible refine wpl_loadS gx _ O Tryd.underlying34 rfl i34 hO hOs ?_ ?_ ?_); (focus rfl); (focus rfl); simp only [Act.put, List.setIfInBounds_toArray, List.set_cons_zero, List.set_cons_succ])
        | (go_at_call 21; refine (HMAY.out w1).mono ?_; rintro e w2 ⟨rfl, hb2⟩; simp only []; refine Hid.out ?_)
        | ((with_reducible refine wpl_value rfl (.agg z) (run_buildS (parts := []) rfl (by rw [← HZ.out]; exact build_rq0 _)) ?_); simp only [Act.put, List.setIfInBounds_toArray, List.set_cons_zero, List.set_cons_succ])
        | go_values | go_skip | go_guarded | go_step | go_upon | go_back)
      refine Lib.hid ?_
      have hX2 := hX1.below hb2 hX1.lt
      have hR2 := hR.below hb2 hR.lt
      have hb12 := below_next' hb hb2
      clear hX1 hO hR hb hb2
      obtain ⟨c0, c1, c2, c3⟩ := cl_cells hX2
      repeat (first
        | ((with_reducible refine wpl_value rfl (.agg z) (run_buildS (parts := []) rfl (by rw [← HZ.out]; exact build_rq0 _)) ?_); simp only [Act.put, List.setIfInBounds_toArray, List.set_cons_zero, List.set_cons_succ])
        | ((with_reducible refine wpl_store (gx + 1) _ z z i44 hR2 hzs hzs hz1 ?_ ?_ ?_); (focus rfl); (focus rfl))
        | go_values | go_skip | go_guarded | go_step | go_upon | go_back)
      refine bodyPost_ret (results_cell_val rfl _ _ (gx + 1) _ _ (0, 0) _ _ rfl rfl (hR2.setRow _) Tryd.underlying44 rfl (by rw [hzs]; exact i44)) rfl ?_
      have hg8 := grownBy_setRow w2 (gx + 1) z
      have hb8 := hb12.grown hg8 hb12.size (fun q hq => by cases hq; have := HGX.out; omega)
      refine ⟨?_, hX2.grown hg8 (by intro e; injection e with e; omega), grownBy_of_below hb8 _⟩
      rw [HZ.out]
      rfl
  · have hF : askC n tb ⟨cn, id, tm, pend, q, told⟩ o = (⟨cn, id, tm, pend, q, told⟩, rq0, 1) := by
      unfold askC
      rw [if_neg hm]
    rw [hF]
    simp only [ClV.c]
    have HMAY := Lib.hid (fun w => (by have := hmay w; rwa [decide_eq_false hm] at this : Calls Tryd.prog 21 #[.agg o.c.toArray] w fun e w' => e = .returned (.bool false) ∧ Below w.heap.size w w'))
    clear hmay hm hn64 hF hT
    obtain ⟨O, hOe⟩ : ∃ O, o.c.toArray = O := ⟨_, rfl⟩
    rw [hOe] at hOs HMAY ⊢
    clear hOe
    have hX1 := (hX.alloc (.cells O 34)).alloc (.cells rq0.c.toArray 44)
    have hO := (Blk.new w 34 O).alloc (.cells rq0.c.toArray 44)
    have hR := Blk.new (w.alloc (.cells O 34)) 44 rq0.c.toArray
    have hb := below_next' (below_alloc w (.cells O 34)) (below_alloc (w.alloc (.cells O 34)) (.cells rq0.c.toArray 44))
    have hsz : (w.alloc (.cells O 34)).heap.size = w.heap.size + 1 := by simp
    rw [hsz] at hR
    have hg0 := hX.lt
    obtain ⟨z, hz⟩ : ∃ z : Array Value, rq0.c.toArray = z := ⟨_, rfl⟩
    have hzc := zc44
    rw [hz] at hzc hX1 hO hR hb
    have hzs : z.size = 40 := by rw [← hz]; rfl
    have hz1 : z.all (·.oneCell') = true := by rw [← hz]; have := rqc_one rq0; simpa using this
    have HZ := Lib.hid hz
    clear hz
    go_enter Tryd.func14, Tryd.ntmps14
    go_upto_block 0 with (fail)
    obtain ⟨w1, hw1⟩ : ∃ x, (w.alloc (.cells O 34)).alloc (.cells z 44) = x := ⟨_, rfl⟩
    rw [hw1] at hX1 hO hR hb ⊢
    obtain ⟨gx, hgx⟩ : ∃ x, w.heap.size = x := ⟨_, rfl⟩
    rw [hgx] at hO hR hg0 ⊢
    have HGX := Lib.hid hgx
    clear hgx hw1 hsz
    repeat (first
      | ((with_reducible refine wpl_loadS gx _ O Tryd.underlying34 rfl i34 hO hOs ?_ ?_ ?_); (focus rfl); (focus rfl); simp only [Act.put, List.setIfInBounds_toArray, List.set_cons_zero, List.set_cons_succ])
      | (go_at_call 21; refine (HMAY.out w1).mono ?_; rintro e w2 ⟨rfl, hb2⟩; simp only []; refine Hid.out ?_)
      | ((with_reducible refine wpl_value rfl (.agg z) (run_buildS (parts := []) rfl (by rw [← HZ.out]; exact build_rq0 _)) ?_); simp only [Act.put, List.setIfInBounds_toArray, List.set_cons_zero, List.set_cons_succ])
      | go_values | go_skip | go_guarded | go_step | go_upon | go_back)
    refine Lib.hid ?_
    have hX2 := hX1.below hb2 hX1.lt
    have hR2 := hR.below hb2 hR.lt
    have hb12 := below_next' hb hb2
    clear hX1 hO hR hb hb2
    obtain ⟨c0, c1, c2, c3⟩ := cl_cells hX2
    repeat (first
      | ((with_reducible refine wpl_value rfl (.agg z) (run_buildS (parts := []) rfl (by rw [← HZ.out]; exact build_rq0 _)) ?_); simp only [Act.put, List.setIfInBounds_toArray, List.set_cons_zero, List.set_cons_succ])
      | ((with_reducible refine wpl_store (gx + 1) _ z z i44 hR2 hzs hzs hz1 ?_ ?_ ?_); (focus rfl); (focus rfl))
      | go_values | go_skip | go_guarded | go_step | go_upon | go_back)
    refine bodyPost_ret (results_cell_val rfl _ _ (gx + 1) _ _ (0, 0) _ _ rfl rfl (hR2.setRow _) Tryd.underlying44 rfl (by rw [hzs]; exact i44)) rfl ?_
    have hg8 := grownBy_setRow w2 (gx + 1) z
    have hb8 := hb12.grown hg8 hb12.size (fun q hq => by cases hq; have := HGX.out; omega)
    refine ⟨?_, hX2.grown hg8 (by intro e; injection e with e; omega), grownBy_of_below hb8 _⟩
    rw [HZ.out]
    rfl
end Go.Proofs.YtbbcofpdfkhljaaDoor
