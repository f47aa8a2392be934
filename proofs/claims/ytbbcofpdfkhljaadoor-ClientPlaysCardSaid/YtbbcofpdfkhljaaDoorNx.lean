/- ratchetlaw25: steps; Few. -/
import Derived.Test.YtbbcofpdfkhljaaDoorNq
import Derived.Test.YtbbcofpdfkhljaaDoorNw
import Derived.Test.YtbbcofpdfkhljaaDoorNo
namespace Go.Proofs.YtbbcofpdfkhljaaDoor
open Go.RowKit Go.Rat
/-- A struct that stands anywhere. -/
theorem wpl_load_any {P : Program} {w : World} {ops : Array Oper} {rest : List Oper} {a : Act} {Q : Exit → Act → World → Prop} {d : Option Tmp} {ty : TypeId} {x : Operand} {t : TypeId} {p : String} {af : Array Edge} (ad : Addr) (cs : List Value) {D : TypeDesc}
    (hu : P.underlying ty = some D) (hd : D.isRow = true) {n : Nat} (hi : (P.info? ty).map (·.size) = some n) (hl : cs.length = n) (hc : ∀ j u, cs[j]? = some u → w.cell? (ad.add j) = some u)
    (hx : a.eval x = .pointer (some ad)) (h : wpList P ops Q rest (a.put d (.agg cs.toArray)) w) :
    wpList P ops Q ({ dst := d, op := .load ty x, type := t, pos := p, after := af, guard := none } :: rest) a w := by
  subst hl
  have hrun : (loadVar ty ad).run P w = .ok (.agg cs.toArray) w := by
    have hl : (loadCells ad cs.length).run P w = .ok cs.toArray w := run_loadCells_list (P := P) w ad cs hc
    cases hq : P.info? ty with
    | none => simp [hq] at hi
    | some i =>
      have hs : i.size = cs.length := by simpa [hq] using hi
      have hagg : (isAgg ty).run P w = .ok true w := by
        unfold isAgg
        rw [Sem.run_bind, run_underlying hu w]
        cases D <;> simp_all
      simp [loadVar, Sem.run_bind, hagg, sizeOf, typeInfo, hq, hs, hl]
  refine wpList_plain rfl fun _ hK => ?_
  unfold Oper.wp execOp
  simp only [hx, Instr.loadAt, Instr.sureAddr, Sem.run_bind, Sem.run_pure, Result.andThen_ok, hrun]
  exact hK _ _ h
/-- An element of its own put behind a row of one's own. -/
theorem wpl_app1 {P : Program} {w : World} {ops : Array Oper} {rest : List Oper} {o : Oper} {a : Act} {Q : Exit → Act → World → Prop} (hgd : o.guard = none) (s x : Operand) (t : TypeId)
    (ho : o.op = .call { callee := .builtin .append, args := #[s, x], argTypes := #[t, t] })
    (base : Nat) (e : TypeId) (i : TypeInfo) (z : Value) (size bytes : Nat) (ht : P.underlying t = some (.slice e)) (hi : P.info? e = some i) (hz : i.zero = some z)
    (hsize : i.size = size) (hby : i.bytes = bytes) (hzs : z.cells.size = size) (hsz : 0 < size)
    (A : Option Addr) (n c : Nat) (xs : List Value) (hs : a.eval s = .slice A n c) (hown : w.ownsRow base e size (.slice A n c) n xs)
    (g : Nat) (cs : List Value) (hx : a.eval x = .slice (some ⟨g, 0, none⟩) 1 1) (hB : Blk w g e cs.toArray) (hcs : cs.length = size) (h1 : ∀ u ∈ cs, u.oneCell' = true)
    (h63 : n + 1 ≤ maxLen) (hbytes : (n + 1) * bytes ≤ 140737488355328) (hbase : base ≤ w.heap.size)
    (h : ∀ A2 c2 w2, w2.ownsRow base e size (.slice A2 (n + 1) c2) (n + 1) (xs ++ cs) → Grew w w2 A A2 → wpList P ops Q rest (a.put o.dst (.slice A2 (n + 1) c2)) w2) :
    wpList P ops Q (o :: rest) a w := by
  have hr : Reads w w.heap.size size (some ⟨g, 0, none⟩) 1 cs := by
    refine ⟨by rw [hcs, Nat.one_mul], fun _ => ⟨_, rfl, hB.lt, fun j u hu => ?_⟩⟩
    have := hB.cell j
    rw [show (⟨g, 0, none⟩ : Addr).add j = ⟨g, j, none⟩ by unfold Addr.add; split <;> simp_all, this, List.getElem?_toArray]
    exact hu
  refine wpList_plain hgd fun K hK => ?_
  obtain ⟨A2, c2, w2, hrun, h2, h3, h4⟩ := run_append_reads (P := P) w base t o.type e i z size bytes ht hi hz hsize hby hzs hsz A n c xs hown w.heap.size _ 1 1 cs hr h1 h63 hbytes hbase
  unfold Oper.wp execOp
  simp only [ho, resolve, invoke, builtin, Sem.run_bind, Sem.run_pure, Result.andThen_ok, List.map_toArray, List.map_cons, List.map_nil, hs, hx, hrun]
  exact hK _ _ (h _ _ _ h2 ⟨h3, h4.imp id fun h => ⟨_, h, Nat.le_refl _, (h2.lt _ (by cases A2 <;> simp_all [Value.ownBlock])).2⟩⟩)
/-- A step. -/
structure StV where
  hear : Bool
  own : Bool
  o : OpV
  j : Int
  pick : UInt8
  t : ToldV
def StV.c (x : StV) : List Value := .bool x.hear :: .bool x.own :: (x.o.c ++ (.int .i64 x.j :: .int .u8 (x.pick.toNat : Int) :: x.t.c))
theorem stp_len (x : StV) : x.c.length = 15 := rfl
theorem row_at {α : Type} (f : α → List Value) (s : Nat) (hf : ∀ a, (f a).length = s) {w : World} {B : Nat} {A : Option Addr} {n : Nat} {l : List α} (h : Reads w B s A n (l.flatMap f)) (hs : 0 < s) {k : Nat} (hk : k < n) :
    ∃ ad x, A = some ad ∧ x ∈ l ∧ l[k]? = some x ∧ (ad.add (k * s)).block < B ∧ (∀ j u, (f x)[j]? = some u → w.cell? ((ad.add (k * s)).add j) = some u) ∧ (∀ j u, 0 < j → (f x)[j]? = some u → w.cell? ⟨(ad.add (k * s)).block, (ad.add (k * s)).off + j, none⟩ = some u) := by
  obtain ⟨ad, rfl, hb, hc⟩ := h.2 (by omega)
  have hlen := flat_len f s hf l
  have hkl : k < l.length := by have := h.1; rw [hlen] at this; exact Nat.lt_of_lt_of_le hk (Nat.le_of_eq (Nat.eq_of_mul_eq_mul_right hs this).symm)
  have hg : l[k]? = some l[k] := List.getElem?_eq_getElem hkl
  have hall : ∀ j u, (f l[k])[j]? = some u → w.cell? (ad.add (k * s + j)) = some u := fun j u hu => by
    have hj : j < s := by
      have := (List.getElem?_eq_some_iff.1 hu).1
      rwa [hf] at this
    have F := flat_get f s hf l k j _ hg hj
    exact hc _ _ (F.trans hu)
  refine ⟨ad, l[k], rfl, List.getElem_mem hkl, hg, by rw [block_of_add]; exact hb, fun j u hu => ?_, fun j u hj hu => ?_⟩
  · rw [add_of_add]
    exact hall j u hu
  · rw [add_field _ _ _ hj]
    exact hall j u hu
theorem own_grown {w w' : World} {base n c N size : Nat} {e : TypeId} {A : Option Addr} {ys : List Value} {row : Option Nat} (h : w.ownsRow base e size (.slice A n c) N ys) (hg : w.grownBy w' row) (hne : A.map (·.block) ≠ row ∨ row = none) : w'.ownsRow base e size (.slice A n c) N ys :=
  World.ownsRow.kept h hg (by rcases hne with hne | rfl <;> cases A <;> simp_all [Value.ownBlock])
theorem own_ge {w : World} {base n c N size : Nat} {e : TypeId} {A : Option Addr} {ys : List Value} (h : w.ownsRow base e size (.slice A n c) N ys) : ∀ g, A.map (·.block) = some g → base ≤ g ∧ g < w.heap.size := by
  intro g hg
  refine World.ownsRow.lt h g ?_
  cases A <;> simp_all [Value.ownBlock]
theorem opinfo : (Tryd.prog.info? 34).map (fun i => (i.zero, i.size, i.bytes)) = some (some (.agg (OpV.mk 0 e0 e0 e0 e0 0).c.toArray), 6, 80) := by kernel_rfl
theorem op_one (o : OpV) : ∀ u ∈ o.c, u.oneCell' = true := by
  intro u hu
  simp [OpV.c] at hu
  rcases hu with rfl | rfl | rfl | rfl | rfl | rfl <;> rfl
set_option maxRecDepth 20000 in
set_option maxHeartbeats 4000000 in
theorem few9_any (w : World) (A : Option Addr) (m c : Nat) (l : List OpV) (hr : Reads w w.heap.size 6 A m (l.flatMap OpV.c)) (hm : m ≤ 140737488355328) :
    Calls Tryd.prog 20 #[.slice A m c] w fun e w' => (e = .returned (.bool false) ∨ (e = .returned (.bool true) ∧ m ≤ 150)) ∧ Below w.heap.size w w' := by
  by_cases hbig : 150 < m
  · have hbi : (150 : Int) < (m : Int) := by omega
    go_enter Tryd.func20, Tryd.ntmps20
    go_wp2_with fail
    go_ret
    first | exact ⟨.inl rfl, Below.refl _ _⟩ | exact Below.refl _ _
  · have hbi : ¬ (150 : Int) < (m : Int) := by omega
    have hml : m ≤ 150 := by omega
    go_enter Tryd.func20, Tryd.ntmps20
    go_wp2_with fail
    go_loopw [3] (fun i wr => ∃ k : Nat, k ≤ m ∧ i = .int .i64 (k : Int) ∧ Below w.heap.size w wr) (fun i _ => m - (intOf i).toNat)
    case atStart => exact ⟨0, Nat.zero_le _, rfl, Below.refl _ _⟩
    case round =>
      obtain ⟨k, hk, rfl, hbk⟩ := hrel
      by_cases hkm : k < m
      · obtain ⟨ad, x, rfl, _, _, hadl, _, hcs⟩ := row_at OpV.c 6 (fun _ => rfl) hr (by omega) hkm
        obtain ⟨kind, key, val, old, tow, amt⟩ := x
        have q1 : ∀ z, Below w.heap.size w z → z.cell? ⟨(ad.add (k * 6)).block, (ad.add (k * 6)).off + 1, none⟩ = some (.string key) := fun z h => (h.cell (p := ⟨(ad.add (k * 6)).block, _, none⟩) hadl).trans (hcs 1 _ (by omega) rfl)
        have q2 : ∀ z, Below w.heap.size w z → z.cell? ⟨(ad.add (k * 6)).block, (ad.add (k * 6)).off + 2, none⟩ = some (.string val) := fun z h => (h.cell (p := ⟨(ad.add (k * 6)).block, _, none⟩) hadl).trans (hcs 2 _ (by omega) rfl)
        have q3 : ∀ z, Below w.heap.size w z → z.cell? ⟨(ad.add (k * 6)).block, (ad.add (k * 6)).off + 3, none⟩ = some (.string old) := fun z h => (h.cell (p := ⟨(ad.add (k * 6)).block, _, none⟩) hadl).trans (hcs 3 _ (by omega) rfl)
        have q4 : ∀ z, Below w.heap.size w z → z.cell? ⟨(ad.add (k * 6)).block, (ad.add (k * 6)).off + 4, none⟩ = some (.string tow) := fun z h => (h.cell (p := ⟨(ad.add (k * 6)).block, _, none⟩) hadl).trans (hcs 4 _ (by omega) rfl)
        obtain ⟨P, hP⟩ : ∃ P, ad.add (k * 6) = P := ⟨_, rfl⟩
        rw [hP] at q1 q2 q3 q4
        have g1 : (k : Int) < (m : Int) := by omega
        have g0 : (0 : Int) ≤ (k : Int) := by omega
        clear hcs hadl
        go_upto_region 6 with (fail)
        refine wp_region_plan [(0, true), (1, true), (2, true), (3, true), (4, true), (5, true), (6, true), (7, true), (8, true), (9, true), (10, true), (11, true), (12, true), (13, true), (14, true), (15, true), (16, true), (17, true), (18, true), (19, true), (20, true), (21, true), (22, true), (23, true), (24, true), (25, true), (26, true), (27, true)] (fun z => Below w.heap.size w z) (by kernel_rfl) (by kernel_rfl) (by kernel_rfl) (by kernel_rfl) (fun _ _ d _ _ h => by cases d <;> exact h) hbk.drew ?_
        simp only [planOps, List.getElem?_toArray, List.getElem?_cons_zero, List.getElem?_cons_succ]
        repeat (first
          | (refine wpS_skip (by rfl) ?_; simp only [Act.put, List.setIfInBounds_toArray, List.set_cons_zero, List.set_cons_succ])
          | (refine wpS_q ?_ (by rfl) ?_ ?_; rotate_left; (focus (intro z hz; (try dsimp only at hz); go_simp; rfl)); simp only [Act.put, List.setIfInBounds_toArray, List.set_cons_zero, List.set_cons_succ]))
        refine wpS_nil ?_
        generalize decide ((2000 : Int) < IntKind.i64.wrap (IntKind.i64.wrap (IntKind.i64.wrap ((key.size : Int) + (val.size : Int)) + (old.size : Int)) + (tow.size : Int))) = b
        have hbk := hbk.drew
        generalize wr.drew = wd at *
        clear q1 q2 q3 q4
        cases b
        · go_wp2_with fail
          exact ⟨⟨k + 1, by omega, congrArg (Value.int .i64) (by omega), hbk⟩, by simp only [intOf]; omega⟩
        · go_wp2_with fail
          go_ret
          first | exact ⟨.inl rfl, hbk⟩ | exact hbk
      · obtain rfl : k = m := by omega
        have g1 : ¬ (k : Int) < (k : Int) := by omega
        go_wp2_with fail
        go_ret
        first | exact ⟨.inr ⟨rfl, hml⟩, hbk⟩ | exact ⟨.inr rfl, hbk⟩ | exact ⟨.inr hml, hbk⟩ | exact ⟨hml, hbk⟩ | exact hbk
theorem ops_snoc (l : List StV) (k : Nat) (x : StV) (h : l[k]? = some x) : ((l.take (k + 1)).map (·.o)).flatMap OpV.c = ((l.take k).map (·.o)).flatMap OpV.c ++ x.o.c := by
  rw [List.take_add_one, h]
  simp
theorem add_off (b o n i : Nat) : (⟨b, o + n, none⟩ : Addr).add i = ⟨b, o + (n + i), none⟩ := by
  unfold Addr.add
  split
  · rename_i h; subst h; rfl
  · rw [Nat.add_assoc]
theorem stp_o (x : StV) (i : Nat) (u : Value) (h : x.o.c[i]? = some u) : x.c[2 + i]? = some u := by
  have h2 : i < x.o.c.length := (List.getElem?_eq_some_iff.1 h).1
  rw [Nat.add_comm]
  show (x.o.c ++ _)[i]? = some u
  rw [List.getElem?_append_left h2]
  exact h
theorem stp_t (x : StV) (i : Nat) (u : Value) (h : x.t.c[i]? = some u) : x.c[10 + i]? = some u := by
  rw [Nat.add_comm]
  exact h
theorem buildSl_op (w : World) (o : OpV) : (Instr.buildSlice 67 1 [(0, .agg o.c.toArray)].toArray).run Tryd.prog w = .ok (.slice (some ⟨w.heap.size, 0, none⟩) 1 1) (w.alloc (.cells o.c.toArray 34)) := by
  obtain ⟨kind, key, val, old, tow, amt⟩ := o
  simp only [OpV.c]
  go_simp
theorem wpl_buildSl {P : Program} {w w2 : World} {ops : Array Oper} {rest : List Oper} {a : Act} {Q : Exit → Act → World → Prop} {d : Option Tmp} {tt t : TypeId} {n : Nat} {p : String} {af : Array Edge} {parts : List (Nat × Operand)} {ps : List (Nat × Value)} {v : Value}
    (h : (Instr.buildSlice t n ps.toArray).run P w = .ok v w2) (hρ : (parts.map fun (i, x) => (i, a.eval x)) = ps) (hk : wpList P ops Q rest (a.put d v) w2) :
    wpList P ops Q ({ dst := d, op := .buildSlice t n parts.toArray, type := tt, pos := p, after := af, guard := none } :: rest) a w := by
  subst hρ
  exact wpList_plain rfl fun _ hK => by
    unfold Oper.wp execOp
    simp only [List.map_toArray, Sem.run_bind, h, Sem.run_pure, Result.andThen_ok]
    exact hK _ _ hk
theorem wpl_appO {w : World} {ops : Array Oper} {rest : List Oper} {o : Oper} {a : Act} {Q : Exit → Act → World → Prop} (hgd : o.guard = none) (s x : Operand)
    (ho : o.op = .call { callee := .builtin .append, args := #[s, x], argTypes := #[67, 67] })
    (base : Nat) (A : Option Addr) (n c : Nat) (xs : List Value) (hs : a.eval s = .slice A n c) (hown : w.ownsRow base 34 6 (.slice A n c) n xs)
    (g : Nat) (y : OpV) (hx : a.eval x = .slice (some ⟨g, 0, none⟩) 1 1) (hB : Blk w g 34 y.c.toArray) (hn : (n + 1) * 80 ≤ 140737488355328) (hbase : base ≤ w.heap.size)
    (h : ∀ A2 c2 w2, w2.ownsRow base 34 6 (.slice A2 (n + 1) c2) (n + 1) (xs ++ y.c) → Grew w w2 A A2 → wpList Tryd.prog ops Q rest (a.put o.dst (.slice A2 (n + 1) c2)) w2) :
    wpList Tryd.prog ops Q (o :: rest) a w := by
  obtain ⟨i0, hi, hz0, hz1, hz2⟩ := info_parts opinfo
  exact wpl_app1 hgd s x 67 ho base 34 i0 _ 6 80 Tryd.underlying67 hi hz0 hz1 hz2 rfl (by omega) A n c xs hs hown g y.c hx hB rfl (op_one y) (by simp only [maxLen]; omega) hn hbase h
set_option maxRecDepth 20000 in
set_option maxHeartbeats 4000000 in
theorem few25_any (w : World) (A : Option Addr) (m c : Nat) (l : List StV) (hr : Reads w w.heap.size 15 A m (l.flatMap StV.c)) (hm : m * 80 ≤ 140737488355328) :
    Calls Tryd.prog 7 #[.slice A m c] w fun e w' => (e = .returned (.bool false) ∨ (e = .returned (.bool true) ∧ m ≤ 150)) ∧ Below w.heap.size w w' := by
  obtain ⟨base, hbase⟩ : ∃ b, w.heap.size = b := ⟨_, rfl⟩
  rw [hbase] at hr
  go_enter Tryd.func7, Tryd.ntmps7
  go_wp2_with fail
  go_loopw [3, 4] (fun s i wr => ∃ (k : Nat) (A2 : Option Addr) (c2 : Nat), k ≤ m ∧ i = .int .i64 (k : Int) ∧ s = .slice A2 k c2 ∧ wr.ownsRow base 34 6 (.slice A2 k c2) k (((l.take k).map (·.o)).flatMap OpV.c) ∧ Below base w wr) (fun _ i _ => m - (intOf i).toNat)
  case atStart => exact ⟨0, none, 0, Nat.zero_le _, rfl, rfl, World.ownsRow_nil _ _ _ _, Below.refl _ _⟩
  case round =>
    obtain ⟨k, A2, c2, hk, rfl, rfl, hO, hbk⟩ := hrel
    by_cases hkm : k < m
    · obtain ⟨ad, x, rfl, _, hlk, hadl, _, hcs⟩ := row_at StV.c 15 stp_len hr (by omega) hkm
      have hsn := ops_snoc l k x hlk
      obtain ⟨xs, hxs⟩ : ∃ xs, ((l.take k).map (·.o)).flatMap OpV.c = xs := ⟨_, rfl⟩
      rw [hxs] at hO hsn
      have HSN := Lib.hid hsn
      obtain ⟨hear, own, o, j, pick, t⟩ := x
      have q0 : wr.cell? ⟨(ad.add (k * 15)).block, (ad.add (k * 15)).off + 13, none⟩ = some (.string t.rp.val) := (hbk.cell (p := ⟨(ad.add (k * 15)).block, _, none⟩) hadl).trans (hcs 13 _ (by omega) rfl)
      have q1 : ∀ i u, o.c[i]? = some u → wr.cell? ((⟨(ad.add (k * 15)).block, (ad.add (k * 15)).off + 2, none⟩ : Addr).add i) = some u := fun i u hu => by
        rw [add_off, hbk.cell (p := ⟨(ad.add (k * 15)).block, _, none⟩) hadl]
        exact hcs (2 + i) _ (by omega) (stp_o ⟨hear, own, o, j, pick, t⟩ i u hu)
      obtain ⟨P, hP⟩ : ∃ P, ad.add (k * 15) = P := ⟨_, rfl⟩
      rw [hP] at q0 q1
      have HQ1 := Lib.hid q1
      have g1 : (k : Int) < (m : Int) := by omega
      have g0 : (0 : Int) ≤ (k : Int) := by omega
      clear hcs hadl hsn hxs q1
      by_cases hbig : 1000 < t.rp.val.size
      · have hbi : (1000 : Int) < (t.rp.val.size : Int) := by omega
        go_wp2_with fail
        go_ret
        first | exact ⟨.inl rfl, hbk⟩ | exact hbk
      · have hbi : ¬ (1000 : Int) < (t.rp.val.size : Int) := by omega
        have hB1 := Blk.new wr 34 o.c.toArray
        have hO1 := own_grown hO (World.grownBy_alloc wr (.cells o.c.toArray 34) none) (.inr rfl)
        have hbk2 : Below base w (wr.alloc (.cells o.c.toArray 34)) := by rw [← hbase]; exact below_next' (by rw [hbase]; exact hbk) (below_alloc wr _)
        have hbs : w.heap.size ≤ wr.heap.size := hbk.size
        have hb1 : base ≤ (wr.alloc (.cells o.c.toArray 34)).heap.size := by rw [← hbase]; exact hbk2.size
        have HBO := Lib.hid (fun z => buildSl_op z o)
        go_upto_region 7 with (fail)
        repeat (first
          | ((with_reducible refine wpl_load_any ⟨P.block, P.off + 2, none⟩ o.c Tryd.underlying34 rfl i34 rfl HQ1.out ?_ ?_); (focus rfl); simp only [Act.put, List.setIfInBounds_toArray, List.set_cons_zero, List.set_cons_succ])
          | ((with_reducible refine wpl_buildSl (HBO.out wr) ?_ ?_); (focus rfl); simp only [Act.put, List.setIfInBounds_toArray, List.set_cons_zero, List.set_cons_succ])
          | (at_builtin; refine wpl_appO rfl _ _ rfl base A2 k c2 xs rfl hO1 wr.heap.size o rfl hB1 (by omega) hb1 ?_; intro A3 c3 w3 hO3 hG3; refine Hid.out ?_)
          | go_values | go_skip | go_guarded | go_step | go_upon | go_back)
        refine Lib.hid ?_
        have hb3 : Below base w w3 := by
          exact hbk2.grown hG3.1 hb1 (fun q hq => (own_ge hO1 q hq).1)
        go_wp2_with fail
        rw [← HSN.out] at hO3
        exact ⟨⟨k + 1, A3, c3, by omega, congrArg (Value.int .i64) (by omega), rfl, hO3, hb3⟩, by simp only [intOf]; omega⟩
    · obtain rfl : k = m := by omega
      have g1 : ¬ (k : Int) < (k : Int) := by omega
      go_wp2_with fail
      rw [← hbase] at hO hbk
      refine (few9_any wr A2 k c2 ((l.take k).map (·.o)) ?_ (by omega)).mono ?_
      · exact Reads.of_own hO
      rintro e w3 ⟨he, hb3⟩
      rcases he with rfl | ⟨rfl, hk150⟩
      · simp only []
        go_wp2_with fail
        go_ret
        first | exact ⟨.inl rfl, below_next' hbk hb3⟩ | exact below_next' hbk hb3
      · simp only []
        have HK150 := Lib.hid hk150
        clear hk150
        go_wp2_with fail
        go_ret
        first | exact ⟨.inr ⟨rfl, HK150.out⟩, below_next' hbk hb3⟩ | exact ⟨.inr HK150.out, below_next' hbk hb3⟩ | exact ⟨HK150.out, below_next' hbk hb3⟩
end Go.Proofs.YtbbcofpdfkhljaaDoor
