/- A statement whose order Go leaves open, two of whose steps may come in either order: a plan that parts there. -/
import Derived.Test.YtmjdfajdompkeaaKq9
import Derived.Lib.SlBytesConst
namespace Go.Rat
open Go Go.RowKit
section
variable {P : Program} {ops : Array Oper} {Q : Exit → Act → World → Prop}
inductive PlanT where
  | done
  | q (i : Nat) (rest : PlanT)
  | l (i : Nat) (rest : PlanT)
  | two (i j : Nat) (r1 r2 : PlanT)
def PlanT.depth : PlanT → Nat
  | .done => 0
  | .q _ r => r.depth + 1
  | .l _ r => r.depth + 1
  | .two _ _ r1 _ => r1.depth + 1
def PlanT.even : PlanT → Bool
  | .done => true
  | .q _ r => r.even
  | .l _ r => r.even
  | .two _ _ r1 r2 => r1.even && r2.even && decide (r1.depth = r2.depth)
def wpT (P : Program) (ops : Array Oper) (Q : Exit → Act → World → Prop) : PlanT → (World → Prop) → Act → World → Prop
  | .done, _, a, w => Q .normal a w
  | .q i rest, S, a, w => ∀ o, ops[i]? = some o → 
    (Region.wanted o (yielded ops a.tmps) = true ∧ ∃ v, (∀ x, S x → (execOp a.eval o).run P x = .ok (.value v) x) ∧ wpT P ops Q rest S (a.put o.dst v) w) ∨
    (Region.wanted o (yielded ops a.tmps) = false ∧ wpT P ops Q rest S (a.put o.dst undef) w)
  | .l i rest, S, a, w => ∀ o, ops[i]? = some o → 
    (Region.wanted o (yielded ops a.tmps) = true ∧ o.wp P a w (fun a' w' => ∃ S' : World → Prop, S' w' ∧ (∀ x, S' x → S x) ∧ wpT P ops Q rest S' a' w') Q) ∨
    (Region.wanted o (yielded ops a.tmps) = false ∧ wpT P ops Q rest S (a.put o.dst undef) w)
  | .two i j r1 r2, S, a, w =>
    (∀ o, ops[i]? = some o → (Region.wanted o (yielded ops a.tmps) = true ∧ o.wp P a w (fun a' w' => ∃ S' : World → Prop, S' w' ∧ (∀ x, S' x → S x) ∧ wpT P ops Q r1 S' a' w') Q)) ∧
    (∀ o, ops[j]? = some o → (Region.wanted o (yielded ops a.tmps) = true ∧ o.wp P a w (fun a' w' => ∃ S' : World → Prop, S' w' ∧ (∀ x, S' x → S x) ∧ wpT P ops Q r2 S' a' w') Q))
def planOKT (ops : Array Oper) : PlanT → Array Bool → Bool
  | .done, listed => (Region.ready .any ops listed).isEmpty
  | .q i rest, listed => (Region.ready .any ops listed).contains i && Region.free .any ops listed i && (ops[i]?).isSome && planOKT ops rest (listed.setIfInBounds i true)
  | .l i rest, listed => decide (Region.ready .any ops listed = [i]) && (ops[i]?).isSome && planOKT ops rest (listed.setIfInBounds i true)
  | .two i j r1 r2, listed => decide (Region.ready .any ops listed = [i, j]) && (ops[i]?).isSome && (ops[j]?).isSome && planOKT ops r1 (listed.setIfInBounds i true) && planOKT ops r2 (listed.setIfInBounds j true)
theorem wpT_sound (hs : Region.noSelect ops = true) (hQ : ∀ c a d v w, Q (.panic c) (Act.put a d v) w → Q (.panic c) a w) :
    ∀ (plan : PlanT) (listed : Array Bool) (S : World → Prop) (a : Act) (w : World), plan.even = true → planOKT ops plan listed = true → S w → wpT P ops Q plan S a w → wpAnyH P .any ops Q S plan.depth listed a w := by
  intro plan
  induction plan with
  | done =>
    intro listed S a w _ hp _ h
    exact wpAnyH_done (by simpa [planOKT] using hp) h 0
  | q i r ih =>
    intro listed S a w he hp hS h
    simp only [planOKT, Bool.and_eq_true] at hp
    obtain ⟨⟨⟨h1, h2⟩, h3⟩, h4⟩ := hp
    obtain ⟨o, ho⟩ := Option.isSome_iff_exists.1 h3
    rcases h o ho with ⟨hw, v, hv, hk⟩ | ⟨hw, hk⟩
    · exact wpAnyH_take ho hs h2 h1 (fun c a w => hQ c a _ _ w) (.inl ⟨hw, hv⟩) hS (ih _ _ _ _ he h4 hS hk)
    · exact wpAnyH_take ho hs h2 h1 (fun c a w => hQ c a _ _ w) (.inr ⟨hw, rfl⟩) hS (ih _ _ _ _ he h4 hS hk)
  | l i r ih =>
    intro listed S a w he hp hS h
    simp only [planOKT, Bool.and_eq_true, decide_eq_true_eq] at hp
    obtain ⟨⟨h1, h3⟩, h4⟩ := hp
    obtain ⟨o, ho⟩ := Option.isSome_iff_exists.1 h3
    refine wpAnyH_all h1 (by simp) fun j hj => ?_
    obtain rfl : j = i := by simpa using hj
    unfold wpOp
    simp only [ho]
    rcases h o ho with ⟨hw, hk⟩ | ⟨hw, hk⟩
    · rw [if_pos hw]
      refine .inl (Oper.wp_mono ?_ hk)
      rintro a' w' ⟨S', h5, h6, h7⟩
      exact ⟨h6 _ h5, wpAnyH_weaken h6 _ _ _ _ (ih _ _ _ _ he h4 h5 h7)⟩
    · rw [hw]
      exact ⟨hS, ih _ _ _ _ he h4 hS hk⟩
  | two i j r1 r2 ih1 ih2 =>
    intro listed S a w he hp hS h
    simp only [planOKT, Bool.and_eq_true, decide_eq_true_eq] at hp
    obtain ⟨⟨⟨⟨h1, h3⟩, h3'⟩, h4⟩, h4'⟩ := hp
    simp only [PlanT.even, Bool.and_eq_true, decide_eq_true_eq] at he
    obtain ⟨⟨he1, he2⟩, hd⟩ := he
    obtain ⟨o, ho⟩ := Option.isSome_iff_exists.1 h3
    obtain ⟨o', ho'⟩ := Option.isSome_iff_exists.1 h3'
    refine wpAnyH_all h1 (by simp) fun x hx => ?_
    have hx : x = i ∨ x = j := by simpa using hx
    rcases hx with rfl | rfl
    · obtain ⟨hw, hk⟩ := h.1 o ho
      unfold wpOp
      simp only [ho]
      rw [if_pos hw]
      refine .inl (Oper.wp_mono ?_ hk)
      rintro a' w' ⟨S', h5, h6, h7⟩
      exact ⟨h6 _ h5, wpAnyH_weaken h6 _ _ _ _ (ih1 _ _ _ _ he1 h4 h5 h7)⟩
    · obtain ⟨hw, hk⟩ := h.2 o' ho'
      unfold wpOp
      simp only [ho']
      rw [if_pos hw]
      refine .inl (Oper.wp_mono ?_ hk)
      rintro a' w' ⟨S', h5, h6, h7⟩
      have := ih2 _ _ _ _ he2 h4' h5 h7
      rw [← hd] at this
      exact ⟨h6 _ h5, wpAnyH_weaken h6 _ _ _ _ this⟩
theorem wp_region_planT {id : Nat} {a : Act} {w : World} (plan : PlanT) (S : World → Prop) (hm : P.follows .mixedOrders = true) (hs : Region.noSelect ops = true) (hp : planOKT ops plan (Array.replicate ops.size false) = true) (he : plan.even = true) (hl : plan.depth = ops.size)
    (hQ : ∀ c a d v w, Q (.panic c) (Act.put a d v) w → Q (.panic c) a w) (hS : S w.drew) (h : wpT P ops Q plan S a w.drew) : (Code.region id ops true).wp P Q a w :=
  wp_region_held (S := S) hm (by have := wpT_sound hs hQ plan _ S a w.drew he hp hS h; rwa [hl] at this)
theorem wpT_q {i : Nat} {o : Oper} {rest : PlanT} {S : World → Prop} {a : Act} {w : World} (ho : ops[i]? = some o) (v : Value) (hw : Region.wanted o (yielded ops a.tmps) = true) (h : ∀ x, S x → (execOp a.eval o).run P x = .ok (.value v) x)
    (k : wpT P ops Q rest S (a.put o.dst v) w) : wpT P ops Q (.q i rest) S a w := fun o' ho' => by
  rw [ho] at ho'
  cases ho'
  exact .inl ⟨hw, v, h, k⟩
theorem wpT_skip {i : Nat} {o : Oper} {rest : PlanT} {S : World → Prop} {a : Act} {w : World} (ho : ops[i]? = some o) (hw : Region.wanted o (yielded ops a.tmps) = false)
    (k : wpT P ops Q rest S (a.put o.dst undef) w) : wpT P ops Q (.q i rest) S a w := fun o' ho' => by
  rw [ho] at ho'
  cases ho'
  exact .inr ⟨hw, k⟩
theorem wpT_l {i : Nat} {o : Oper} {rest : PlanT} {S : World → Prop} {a : Act} {w : World} (ho : ops[i]? = some o) (hw : Region.wanted o (yielded ops a.tmps) = true)
    (h : ∀ K : Act → World → Prop, (∀ a' w' (S' : World → Prop), S' w' → (∀ x, S' x → S x) → wpT P ops Q rest S' a' w' → K a' w') → o.wp P a w K Q) : wpT P ops Q (.l i rest) S a w := fun o' ho' => by
  rw [ho] at ho'
  cases ho'
  exact .inl ⟨hw, h _ fun _ _ S' h1 h2 h3 => ⟨S', h1, h2, h3⟩⟩
theorem wpT_two {i j : Nat} {o1 o2 : Oper} {r1 r2 : PlanT} {S : World → Prop} {a : Act} {w : World} (ho1 : ops[i]? = some o1) (ho2 : ops[j]? = some o2) (hw1 : Region.wanted o1 (yielded ops a.tmps) = true) (hw2 : Region.wanted o2 (yielded ops a.tmps) = true)
    (h1 : ∀ K : Act → World → Prop, (∀ a' w' (S' : World → Prop), S' w' → (∀ x, S' x → S x) → wpT P ops Q r1 S' a' w' → K a' w') → o1.wp P a w K Q)
    (h2 : ∀ K : Act → World → Prop, (∀ a' w' (S' : World → Prop), S' w' → (∀ x, S' x → S x) → wpT P ops Q r2 S' a' w' → K a' w') → o2.wp P a w K Q) : wpT P ops Q (.two i j r1 r2) S a w := by
  refine ⟨fun o ho => ?_, fun o ho => ?_⟩
  · rw [ho1] at ho
    cases ho
    exact ⟨hw1, h1 _ fun _ _ S' h1 h2 h3 => ⟨S', h1, h2, h3⟩⟩
  · rw [ho2] at ho
    cases ho
    exact ⟨hw2, h2 _ fun _ _ S' h1 h2 h3 => ⟨S', h1, h2, h3⟩⟩
theorem wpT_done {S : World → Prop} {a : Act} {w : World} (h : Q .normal a w) : wpT P ops Q .done S a w := h
end
/-- A store of a whole array over a block, as a step. -/
theorem wp_storeRow {P : Program} {w : World} {o : Oper} {a : Act} {K : Act → World → Prop} {Q : Exit → Act → World → Prop} {ty : TypeId} {x y : Operand} (ho : o.op = .store ty x y) (g : Nat) (T : TypeId) (cs cs' : Array Value) {n : Nat}
    (hi : (P.info? ty).map (·.size) = some n) (hB : Blk w g T cs) (hs : cs.size = n) (hs' : cs'.size = n) (h1 : ∀ v ∈ cs'.toList, v.oneCell' = true)
    (hx : a.eval x = .pointer (some ⟨g, 0, none⟩)) (hy : a.eval y = .agg cs') (h : K (a.put o.dst undef) (w.setRow g cs')) : o.wp P a w K Q := by
  have hst := run_storeCells_at P g 0 T cs'.toList 0 cs w hB (by simp [hs, hs']) h1
  have he : (cs.toList.take (0 + 0) ++ cs'.toList ++ cs.toList.drop (0 + 0 + cs'.toList.length)).toArray = cs' := by
    rw [List.take_zero, List.nil_append, List.drop_of_length_le (by simp [hs, hs']), List.append_nil, Array.toArray_toList]
  rw [he] at hst
  have hr : (storeVar ty ⟨g, 0, none⟩ (.agg cs')).run P w = .ok () (w.setRow g cs') := by
    cases hq : P.info? ty with
    | none => simp [hq] at hi
    | some i =>
      have : i.size = n := by simp [hq] at hi; omega
      simp [storeVar, sizeOf, typeInfo, hq, Value.cells, hs', this, hst]
  unfold Oper.wp execOp
  simp only [ho, hx, hy, Instr.storeAt, Instr.sureAddr, Sem.run_bind, Sem.run_pure, Result.andThen_ok, hr]
  exact h
end Go.Rat
namespace Go.Proofs.Ytmjdfajdompkeaa
open Go.RowKit Go.Rat
theorem wrap64u (n : Nat) : IntKind.u64.wrap ((n : Int) + 1) = (((n + 1) % 2 ^ 64 : Nat) : Int) := by
  simp [IntKind.wrap, IntKind.signed, IntKind.bits]
set_option maxRecDepth 20000 in
set_option maxHeartbeats 8000000 in
theorem cnext_any (w : World) (base : Nat) (l : DL) (d : DS) (hD : DiskAt w base l d) (g : Nat) (hg : l.g = g) (k : Nat) (s : CS) (hC : CellAt w base l k s) (hp : 0 ≤ s.p ∧ s.p + 20 ≤ 32768) :
    Calls Try.prog 65 #[.pointer (some ⟨k, 0, none⟩)] w fun e w' => e = .returned (.int .u64 (nextF d s.p : Int)) ∧ Below w.heap.size w w' := by
  obtain ⟨A, N, c, hB, _, _⟩ := hC.blk
  rw [hg] at hB
  obtain ⟨p, hpe⟩ : ∃ p, s.p = p := ⟨_, rfl⟩
  rw [hpe] at hB hp ⊢
  obtain ⟨F, hF⟩ : ∃ F, viewD d p = F := ⟨_, rfl⟩
  have hFv : ∀ i : Nat, F i = if readE d (p + (i : Int)) = 0 then some (readB d (p + (i : Int))) else none := fun i => by rw [← hF]; rfl
  have hnx : nextF d p = (topF F 20 + 1) % 2 ^ 64 := by rw [nextF, hF]
  have HFV := Lib.hid hFv
  have HNX := Lib.hid hnx
  clear hF hFv hnx hC hpe
  go_enter Try.func65, Try.ntmps65
  go_upto_block 0 with (fail)
  go_cut [2] (fun n wx => n = .int .u64 (topF F 20 : Int) ∧ Below w.heap.size w wx)
  case first =>
    go_wp2_with fail
    go_loopw [2, 6] (fun n i wr => ∃ kk : Nat, kk ≤ 20 ∧ i = .int .i64 (kk : Int) ∧ n = .int .u64 (topF F kk : Int) ∧ Below w.heap.size w wr) (fun _ i _ => 20 - (intOf i).toNat)
    case atStart => exact ⟨0, by omega, rfl, rfl, Below.refl _ _⟩
    case round =>
      obtain ⟨kk, hk, rfl, rfl, hbk⟩ := hrel
      by_cases hk20 : kk < 20
      · have hBk := hB.below hbk hB.lt
        have hDk := hD.below hbk
        have c0 := hBk.cell 0
        have c1 := hBk.cell 1
        simp only [List.getElem?_toArray, List.getElem?_cons_zero, List.getElem?_cons_succ] at c0 c1
        have hFk := HFV.out kk
        have hsl : (readB d (p + (kk : Int))).length = 128 := readB_length hDk.ok _
        obtain ⟨b, hb⟩ : ∃ s, readB d (p + (kk : Int)) = s := ⟨_, rfl⟩
        obtain ⟨E, hE⟩ : ∃ E, readE d (p + (kk : Int)) = E := ⟨_, rfl⟩
        rw [hb] at hFk hsl
        rw [hE] at hFk
        have HB := Lib.hid hb
        have HE := Lib.hid hE
        have HFK := Lib.hid hFk
        have hsz : (bvs b).toArray.size = 128 := by rw [bvs_size, hsl]
        have htn := topF_lt F kk
        have hcb := cntB_lt b
        have htop : topF F (kk + 1) = match F kk with | some s => max (topF F kk) (cntB s) | none => topF F kk := rfl
        have HTOP := Lib.hid htop
        obtain ⟨T, hT⟩ : ∃ T, topF F kk = T := ⟨_, rfl⟩
        rw [hT] at HTOP htn ⊢
        have g1 : (kk : Int) < 20 := by omega
        have g2 : (0 : Int) ≤ (kk : Int) := by omega
        have hw1 : IntKind.i64.wrap (p + (kk : Int)) = p + (kk : Int) := IntWalk.i64_in _ (by omega)
        clear hb hE hFk htop hT
        go_wp2_with fail
        have hB0 := hB
        refine wp_region_planT ((.q 0 (.q 1 (.q 2 (.q 3 (.q 4 (.q 5 (.q 6 (.q 7 (.q 8 (.q 9 (.q 10 (.q 11 (.two 12 16 (.q 13 (.q 14 (.q 15 (.l 16 (.l 17 (.q 18 .done)))))) (.l 12 (.q 13 (.q 14 (.q 15 (.l 17 (.q 18 .done))))))))))))))))))))
          (fun z => z.cell? ⟨k, 0, none⟩ = some (.pointer (some ⟨g, 0, none⟩)) ∧ z.cell? ⟨k, 1, none⟩ = some (.int .i64 p)) (by kernel_rfl) (by kernel_rfl) (by kernel_rfl) (by kernel_rfl) (by kernel_rfl) (fun _ _ d _ _ h => by cases d <;> exact h) ⟨c0, c1⟩ ?_
        iterate 12 (refine wpT_q (by rfl) ?_ (by rfl) ?_ ?_; rotate_left; (focus (intro z hz; (try dsimp only at hz); go_simp; rfl)); simp only [Act.put])
        refine wpT_two (by rfl) (by rfl) (by rfl) (by rfl) (fun K hK => ?_) (fun K hK => ?_)
        · go_wp2_with fail
          refine (gread _ base g _ _ (hDk.below drew_below) hg (p + (kk : Int))).mono ?_
          rw [HB.out, HE.out]
          rintro e w3 ⟨rfl, hb⟩
          have hb3 : Below wr.heap.size wr w3 := drew_below.trans hb
          have hbk := hbk.trans (hb3.mono hbk.size)
          have hB := hB0.below hbk hB0.lt
          clear c0 c1
          have c0 := hB.cell 0
          have c1 := hB.cell 1
          simp only [List.getElem?_toArray, List.getElem?_cons_zero, List.getElem?_cons_succ] at c0 c1
          refine hK _ _ _ ⟨c0, c1⟩ (fun _ h => h) ?_
          clear hK hb hb3
          iterate 3 (refine wpT_q (by rfl) ?_ (by rfl) ?_ ?_; rotate_left; (focus (intro z hz; (try dsimp only at hz); go_simp; rfl)); simp only [Act.put])
          refine wpT_l (by rfl) (by rfl) (fun K hK => ?_)
          go_simp
          have hZ := Blk.new w3 28 Try.zeroCells28
          rw [zc128] at hZ
          have hal := below_alloc w3 (.cells (bvs zs).toArray 28)
          have hgz : w.heap.size ≤ w3.heap.size := hbk.size
          have hbk := hbk.trans (hal.mono hbk.size)
          rw [zc128]
          obtain ⟨gz, hgze⟩ : ∃ x, w3.heap.size = x := ⟨_, rfl⟩
          obtain ⟨w4, hw4⟩ : ∃ x, w3.alloc (.cells (bvs zs).toArray 28) = x := ⟨_, rfl⟩
          rw [hw4] at hZ hbk ⊢
          rw [hgze] at hZ hgz ⊢
          clear hal hgze hw4 c0 c1 hB
          have hB := hB0.below hbk hB0.lt
          have c0 := hB.cell 0
          have c1 := hB.cell 1
          simp only [List.getElem?_toArray, List.getElem?_cons_zero, List.getElem?_cons_succ] at c0 c1
          refine hK _ _ _ ⟨c0, c1⟩ (fun _ h => h) ?_
          clear hK c0 c1 hB
          try simp only [Act.put, List.setIfInBounds_toArray, List.set_cons_zero, List.set_cons_succ]
          refine wpT_l (by rfl) (by rfl) (fun K hK => ?_)
          refine wp_storeRow rfl gz 28 (bvs zs).toArray (bvs b).toArray i128 hZ zsA_size hsz (by simpa using bvs_one b) rfl rfl ?_
          have hZ := hZ.setRow (bvs b).toArray
          have hbk := hbk.grown (grownBy_setRow _ gz (bvs b).toArray) hbk.size (fun q hq => by cases hq; exact hgz)
          have hB := hB0.below hbk hB0.lt
          have c0 := hB.cell 0
          have c1 := hB.cell 1
          simp only [List.getElem?_toArray, List.getElem?_cons_zero, List.getElem?_cons_succ] at c0 c1
          refine hK _ _ _ ⟨c0, c1⟩ (fun _ h => h) ?_
          clear hK c0 c1 hB
          iterate 1 (refine wpT_q (by rfl) ?_ (by rfl) ?_ ?_; rotate_left; (focus (intro z hz; (try dsimp only at hz); go_simp; rfl)); simp only [Act.put])
          refine wpT_done ?_
          by_cases hE0 : E = 0
          · subst hE0
            have hsome : F kk = some b := HFK.out.trans (if_pos rfl)
            have htop : topF F (kk + 1) = max T (cntB b) := by have := HTOP.out; rw [hsome] at this; exact this
            have HT := Lib.hid htop
            have hmx : max (T : Int) (cntB b : Int) = ((max T (cntB b) : Nat) : Int) := by omega
            clear hsome htop
            repeat (first | ((with_reducible refine wpl_load gz _ _ Try.underlying28 i128 hZ hsz ?_ ?_); (focus rfl); simp only [Act.put, List.setIfInBounds_toArray, List.set_cons_zero, List.set_cons_succ]) | go_values | go_skip | go_guarded | go_step | go_upon | go_back)
            refine (ccount_any _ b hsl).mono ?_
            rintro e w9 ⟨rfl, hb⟩
            simp only []
            have hbk := hbk.trans (hb.mono hbk.size)
            clear hb hZ
            go_wp2_with fail
            exact ⟨⟨kk + 1, by omega, congrArg (Value.int .i64) (by omega), congrArg (Value.int .u64) (by rw [HT.out]; omega), hbk⟩, by simp [intOf]; omega⟩
          · have hne : (E == 0) = false := by simpa using hE0
            have htop : topF F (kk + 1) = T := by have := HTOP.out; rw [HFK.out, if_neg hE0] at this; exact this
            have HT := Lib.hid htop
            clear htop hE0
            go_wp2_with fail
            exact ⟨⟨kk + 1, by omega, congrArg (Value.int .i64) (by omega), congrArg (Value.int .u64) (by rw [HT.out]), hbk⟩, by simp [intOf]; omega⟩
        · go_simp
          have hZ : Blk (wr.alloc (.cells (bvs zs).toArray 28)).drew wr.heap.size 28 (bvs zs).toArray := Blk.new wr 28 (bvs zs).toArray
          have hgz : w.heap.size ≤ wr.heap.size := hbk.size
          have hbw : Below wr.heap.size wr (wr.alloc (.cells (bvs zs).toArray 28)).drew := (below_alloc wr (.cells (bvs zs).toArray 28)).drew
          have hbk := hbk.trans (hbw.mono hbk.size)
          have hDk := hDk.below hbw
          rw [zc128]
          obtain ⟨w4, hw4⟩ : ∃ x, (wr.alloc (.cells (bvs zs).toArray 28)).drew = x := ⟨_, rfl⟩
          rw [hw4] at hZ hbk hDk ⊢
          obtain ⟨gz, hgze⟩ : ∃ x, wr.heap.size = x := ⟨_, rfl⟩
          rw [hgze] at hZ hgz ⊢
          clear hgze hw4 c0 c1 hbw
          have hB := hB0.below hbk hB0.lt
          have c0 := hB.cell 0
          have c1 := hB.cell 1
          simp only [List.getElem?_toArray, List.getElem?_cons_zero, List.getElem?_cons_succ] at c0 c1
          refine hK _ _ _ ⟨c0, c1⟩ (fun _ h => h) ?_
          clear hK c0 c1 hB
          try simp only [Act.put, List.setIfInBounds_toArray, List.set_cons_zero, List.set_cons_succ]
          refine wpT_l (by rfl) (by rfl) (fun K hK => ?_)
          go_wp2_with fail
          refine (gread _ base g _ _ hDk hg (p + (kk : Int))).mono ?_
          rw [HB.out, HE.out]
          rintro e w3 ⟨rfl, hb⟩
          have hbk := hbk.trans (hb.mono hbk.size)
          have hZ := hZ.below hb hZ.lt
          have hB := hB0.below hbk hB0.lt
          have c0 := hB.cell 0
          have c1 := hB.cell 1
          simp only [List.getElem?_toArray, List.getElem?_cons_zero, List.getElem?_cons_succ] at c0 c1
          refine hK _ _ _ ⟨c0, c1⟩ (fun _ h => h) ?_
          clear hK hb c0 c1 hB
          iterate 3 (refine wpT_q (by rfl) ?_ (by rfl) ?_ ?_; rotate_left; (focus (intro z hz; (try dsimp only at hz); go_simp; rfl)); simp only [Act.put])
          refine wpT_l (by rfl) (by rfl) (fun K hK => ?_)
          refine wp_storeRow rfl gz 28 (bvs zs).toArray (bvs b).toArray i128 hZ zsA_size hsz (by simpa using bvs_one b) rfl rfl ?_
          have hZ := hZ.setRow (bvs b).toArray
          have hbk := hbk.grown (grownBy_setRow _ gz (bvs b).toArray) hbk.size (fun q hq => by cases hq; exact hgz)
          have hB := hB0.below hbk hB0.lt
          have c0 := hB.cell 0
          have c1 := hB.cell 1
          simp only [List.getElem?_toArray, List.getElem?_cons_zero, List.getElem?_cons_succ] at c0 c1
          refine hK _ _ _ ⟨c0, c1⟩ (fun _ h => h) ?_
          clear hK c0 c1 hB
          iterate 1 (refine wpT_q (by rfl) ?_ (by rfl) ?_ ?_; rotate_left; (focus (intro z hz; (try dsimp only at hz); go_simp; rfl)); simp only [Act.put])
          refine wpT_done ?_
          by_cases hE0 : E = 0
          · subst hE0
            have hsome : F kk = some b := HFK.out.trans (if_pos rfl)
            have htop : topF F (kk + 1) = max T (cntB b) := by have := HTOP.out; rw [hsome] at this; exact this
            have HT := Lib.hid htop
            have hmx : max (T : Int) (cntB b : Int) = ((max T (cntB b) : Nat) : Int) := by omega
            clear hsome htop
            repeat (first | ((with_reducible refine wpl_load gz _ _ Try.underlying28 i128 hZ hsz ?_ ?_); (focus rfl); simp only [Act.put, List.setIfInBounds_toArray, List.set_cons_zero, List.set_cons_succ]) | go_values | go_skip | go_guarded | go_step | go_upon | go_back)
            refine (ccount_any _ b hsl).mono ?_
            rintro e w9 ⟨rfl, hb⟩
            simp only []
            have hbk := hbk.trans (hb.mono hbk.size)
            clear hb hZ
            go_wp2_with fail
            exact ⟨⟨kk + 1, by omega, congrArg (Value.int .i64) (by omega), congrArg (Value.int .u64) (by rw [HT.out]; omega), hbk⟩, by simp [intOf]; omega⟩
          · have hne : (E == 0) = false := by simpa using hE0
            have htop : topF F (kk + 1) = T := by have := HTOP.out; rw [HFK.out, if_neg hE0] at this; exact this
            have HT := Lib.hid htop
            clear htop hE0
            go_wp2_with fail
            exact ⟨⟨kk + 1, by omega, congrArg (Value.int .i64) (by omega), congrArg (Value.int .u64) (by rw [HT.out]), hbk⟩, by simp [intOf]; omega⟩
      · obtain rfl : kk = 20 := by omega
        have g1 : ¬ ((20 : Nat) : Int) < 20 := by omega
        go_wp2_with fail
        go_meet
        exact ⟨rfl, hbk⟩
  case rest =>
    obtain ⟨rfl, hbk⟩ := hcut
    have htn := topF_lt F 20
    have hwr := wrap64u (topF F 20)
    have HWR := Lib.hid hwr
    obtain ⟨T, hT⟩ : ∃ T, topF F 20 = T := ⟨_, rfl⟩
    rw [hT] at HNX htn HWR ⊢
    clear hwr hT
    go_wp2_with fail
    go_ret
    exact ⟨congrArg (fun i => Ending.returned (.int .u64 i)) (by rw [HWR.out, HNX.out]), hbk⟩
end Go.Proofs.Ytmjdfajdompkeaa
namespace Go.Proofs.Ytmjdfajdompkeaa
open Go.RowKit Go.Rat
theorem cget_any (w : World) (base : Nat) (l : DL) (k : Nat) (s : CS) (hC : CellAt w base l k s) :
    Calls Try.prog 40 #[.pointer (some ⟨k, 0, none⟩)] w fun e w' => ∃ A c, e = .returned (.slice A s.b.length c) ∧ OB 5 w' w.heap.size A s.b.length c s.b ∧ Below w.heap.size w w' := by
  obtain ⟨A, N, c, hB, hO, _⟩ := hC.blk
  have hl := hC.len
  have hr := hO.reads
  have hN := hO.len
  have c2 := hB.cell 2
  simp only [List.getElem?_toArray, List.getElem?_cons_zero, List.getElem?_cons_succ] at c2
  subst hN
  clear hB hO hC
  go_enter Try.func40, Try.ntmps40
  go_wp2_with fail
  refine (clone_any w A _ c s.b hr (by omega)).mono ?_
  rintro e w2 ⟨A2, c2', rfl, hO2, hb2⟩
  simp only []
  go_wp2_with fail
  go_ret
  exact ⟨A2, c2', rfl, hO2, hb2⟩
theorem cget_nil (w : World) : Calls Try.prog 40 #[.pointer none] w fun e w' => e = .returned (.slice none 0 0) ∧ w = w' := by
  go_enter Try.func40, Try.ntmps40
  go_wp2_with fail
  go_ret
  exact ⟨rfl, rfl⟩
theorem cput_nil (w : World) (A : Option Addr) (n c : Nat) : Calls Try.prog 39 #[.pointer none, .slice A n c] w fun e w' => e = .returned (.int .i64 2) ∧ w = w' := by
  go_enter Try.func39, Try.ntmps39
  go_wp2_with fail
  go_ret
  exact ⟨rfl, rfl⟩
theorem cput_dead (w : World) (base : Nat) (l : DL) (k : Nat) (s : CS) (hC : CellAt w base l k s) (hd : s.dead = true) (A : Option Addr) (n c : Nat) (hn : n ≤ 1100) :
    Calls Try.prog 39 #[.pointer (some ⟨k, 0, none⟩), .slice A n c] w fun e w' => e = .returned (.int .i64 8) ∧ w = w' := by
  obtain ⟨A', N, c', hB, _, _⟩ := hC.blk
  have c4 := hB.cell 4
  simp only [List.getElem?_toArray, List.getElem?_cons_zero, List.getElem?_cons_succ, hd] at c4
  have hn' : ¬ (1100 : Int) < (n : Int) := by omega
  clear hB hC hd
  go_enter Try.func39, Try.ntmps39
  go_wp2_with fail
  go_ret
  exact ⟨rfl, rfl⟩
theorem cput_many (w : World) (k : Nat) (A : Option Addr) (n c : Nat) (hn : 1100 < n) :
    Calls Try.prog 39 #[.pointer (some ⟨k, 0, none⟩), .slice A n c] w fun e w' => e = .returned (.int .i64 6) ∧ w = w' := by
  have hn' : (1100 : Int) < (n : Int) := by omega
  go_enter Try.func39, Try.ntmps39
  go_wp2_with fail
  go_ret
  exact ⟨rfl, rfl⟩
def putCell (s : CS) (b : List UInt8) (E : Int) : CS := if E = 0 then ⟨s.p, b, 1 - s.which, false⟩ else { s with dead := true }
/-- A disk and a cell have moved on. -/
structure CMoved (w w' : World) (l l' : DL) (k : Nat) : Prop where
  g : (l'.g, l'.gs, l'.gn) = (l.g, l.gs, l.gn)
  chg : Chg (fun x => l.fp x ∨ x = k) w w'
  fp : ∀ x, l'.fp x → l.fp x ∨ w.heap.size ≤ x
theorem CMoved.of_moved {w w' : World} {l l' : DL} (h : Moved w w' l l') (k : Nat) : CMoved w w' l l' k := ⟨h.g, h.chg.mono (fun _ hx => .inl hx), h.fp⟩
theorem CMoved.trans {a b c : World} {l m n : DL} {k : Nat} (h : CMoved a b l m k) (q : CMoved b c m n k) : CMoved a c l n k :=
  ⟨q.g.trans h.g, h.chg.trans q.chg (fun x hx => by
    rcases hx with hx | hx
    · rcases h.fp x hx with h1 | h1
      · exact .inl (.inl h1)
      · exact .inr h1
    · exact .inl (.inr hx)), fun x hx => by
    rcases q.fp x hx with h1 | h1
    · exact h.fp x h1
    · exact .inr (Nat.le_trans h.chg.size h1)⟩
theorem CMoved.set {w w' : World} {l l' : DL} {k : Nat} (h : CMoved w w' l l' k) (i : Nat) (v : Value) : CMoved w (w'.setCell ⟨k, i, none⟩ v) l l' k :=
  ⟨h.g, h.chg.trans (Chg.of_grown (F := fun x => x = k) (grownBy_set w' k i v) rfl) (fun _ hx => .inl (.inr hx)), h.fp⟩
set_option maxRecDepth 20000 in
set_option maxHeartbeats 8000000 in
theorem cput_any (w : World) (base : Nat) (l : DL) (d : DS) (hD : DiskAt w base l d) (g : Nat) (hg : l.g = g) (hbase : base ≤ w.heap.size) (hlo : d.loose.length < 900000000) (k : Nat) (s : CS) (hC : CellAt w base l k s) (hp : 0 ≤ s.p ∧ s.p + 20 ≤ 32768) (hdead : s.dead = false)
    (A : Option Addr) (n cap : Nat) (b : List UInt8) (hr : RB w A n b) (hn : n ≤ 1100) (hap : n ≠ 0 → ∀ x, A.map (·.block) = some x → ¬ l.fp x ∧ x ≠ k) :
    Calls Try.prog 39 #[.pointer (some ⟨k, 0, none⟩), .slice A n cap] w fun e w' => ∃ l', e = .returned (.int .i64 (ptF d s.p s.which b).2) ∧ l'.g = g ∧ DiskAt w' base l' (ptF d s.p s.which b).1 ∧ CellAt w' base l' k (putCell s b (ptF d s.p s.which b).2) ∧ CMoved w w' l l' k := by
  obtain ⟨A', N, c', hB, hO, hA'⟩ := hC.blk
  rw [hg, hdead] at hB
  have hout := hC.out
  have hbk := hC.bk
  have hwh := hC.wh
  have hln := hC.len
  obtain ⟨p, which, dead, b0, hpe, hwe, hbe⟩ : ∃ p which dead b0, s.p = p ∧ s.which = which ∧ s.b = b0 := ⟨_, _, s.dead, _, rfl, rfl, rfl⟩
  rw [hpe] at hB hp ⊢
  rw [hwe] at hB hwh ⊢
  rw [hbe] at hO hln
  have HPE := Lib.hid hpe
  have HWE := Lib.hid hwe
  have HBE := Lib.hid hbe
  have hnx := (cnext_any w.drew base l d (hD.below drew_below) g hg k s (hC.below drew_below) (by rw [hpe]; exact hp))
  rw [hpe] at hnx
  have c0 := hB.cell 0
  have c1 := hB.cell 1
  have c3 := hB.cell 3
  have c4 := hB.cell 4
  simp only [List.getElem?_toArray, List.getElem?_cons_zero, List.getElem?_cons_succ] at c0 c1 c3 c4
  have hn' : ¬ (1100 : Int) < (n : Int) := by omega
  have hto : (1 : Int) - (which : Int) = ((1 - which : Nat) : Int) := by omega
  have hnlt : nextF d p < 2 ^ 64 := Nat.mod_lt _ (by omega)
  obtain ⟨tw, hte⟩ : ∃ tw, 1 - which = tw := ⟨_, rfl⟩
  rw [hte] at hto
  have hto1 : tw ≤ 1 := by omega
  have HTE := Lib.hid hte
  have HTO := Lib.hid hto
  clear hC hdead hpe hwe hbe hte
  go_enter Try.func39, Try.ntmps39
  go_wp2_with fail
  refine wp_region_plan [(0, true), (1, true), (2, true), (3, true), (4, true), (5, true), (7, true), (6, false), (8, false), (9, true)]
    (fun z => z.cell? ⟨k, 0, none⟩ = some (.pointer (some ⟨g, 0, none⟩)) ∧ z.cell? ⟨k, 1, none⟩ = some (.int .i64 p)) (by kernel_rfl) (by kernel_rfl) (by kernel_rfl) (by kernel_rfl) (fun _ _ d _ _ h => by cases d <;> exact h) ⟨c0, c1⟩ ?_
  simp only [planOps, List.getElem?_toArray, List.getElem?_cons_zero, List.getElem?_cons_succ]
  repeat (first
    | (refine wpS_skip (by rfl) ?_; simp only [Act.put, List.setIfInBounds_toArray, List.set_cons_zero, List.set_cons_succ])
    | (refine wpS_q ?_ (by rfl) ?_ ?_; rotate_left; (focus (intro z hz; (try dsimp only at hz); go_simp; rfl)); simp only [Act.put, List.setIfInBounds_toArray, List.set_cons_zero, List.set_cons_succ]))
  refine wpS_l (by rfl) (fun K hK => ?_)
  go_wp2_with fail
  refine hnx.mono ?_
  rintro e w3 ⟨rfl, hb⟩
  have hb3 : Below w.heap.size w w3 := drew_below.trans hb
  have hB3 := hB.below hb3 hB.lt
  have hD3 := hD.below hb3
  have hr3 := hr.below hb3
  have hO3 : OB 5 w3 base A' N c' b0 := OB.grown hO (grownBy_of_below hb3 none) (.inr rfl)
  have hm3 : CMoved w w3 l l k := CMoved.of_moved (Moved.of_below hb3) k
  have c0 := hB3.cell 0
  have c1 := hB3.cell 1
  simp only [List.getElem?_toArray, List.getElem?_cons_zero, List.getElem?_cons_succ] at c0 c1
  refine hK _ _ _ ⟨c0, c1⟩ (fun _ h => h) ?_
  clear hK hb hB hD hr hO c3 c4 hnx
  obtain ⟨r, hre⟩ : ∃ r, wrS d (p + (tw : Int) * 10) (nextF d p) b 10 = r := ⟨_, rfl⟩
  have hpt : ptF d p which b = if r.2 = 0 then (syncAll r.1, syncE r.1) else r := by
    have h1 := HTE.out
    rw [ptF, h1, hre]
  have hw3 := hb3.size
  have hbs3 : base ≤ w3.heap.size := Nat.le_trans hbase hb3.size
  have HRE := Lib.hid hre
  have HPT := Lib.hid hpt
  clear hre hpt hb3
  refine wpS_l (by rfl) (fun K hK => ?_)
  go_wp2_with fail
  refine (cwrite_any w3 base l d hD3 g hg hbs3 hlo p tw hto1 hp (nextF d p) hnlt A n cap b hr3 hn).mono ?_
  rw [HRE.out]
  rintro e w4 ⟨l4, rfl, hlg4, hD4, hm4⟩
  have hB4 := hm4.chg.blk hB3 hout
  have hr4 := hm4.chg.rbN hr3 (fun hn0 x hx => (hap hn0 x hx).1)
  have hO4 : OB 5 w4 base A' N c' b0 := hm4.chg.own hO3 hA'
  have hm4' := hm3.trans (CMoved.of_moved hm4 k)
  have c0 := hB4.cell 0
  have c1 := hB4.cell 1
  simp only [List.getElem?_toArray, List.getElem?_cons_zero, List.getElem?_cons_succ] at c0 c1
  have hout4 : ¬ l4.fp k := fun hf => by
    rcases hm4.fp k hf with h | h
    · exact hout h
    · have := hB3.lt
      omega
  have hA4 : ∀ x, A'.map (·.block) = some x → ¬ l4.fp x := fun x hx hf => by
    rcases hm4.fp x hf with h | h
    · exact hA' x hx h
    · have := (hO3.ge x hx).2
      omega
  have hap4 : n ≠ 0 → ∀ x, A.map (·.block) = some x → ¬ l4.fp x ∧ x ≠ k := fun hn0 x hx => ⟨fun hf => by
    rcases hm4.fp x hf with h | h
    · exact (hap hn0 x hx).1 h
    · obtain ⟨ad, hA, hlt, _⟩ := hr3.2 (by omega)
      rw [hA] at hx
      have : ad.block = x := Option.some.inj hx
      omega, (hap hn0 x hx).2⟩
  refine hK _ _ _ ⟨c0, c1⟩ (fun _ h => h) ?_
  clear hK hm4 hB3 hD3 hr3 hO3 hm3
  iterate 1 (refine wpS_q ?_ (by rfl) ?_ ?_; rotate_left; (focus (intro z hz; (try dsimp only at hz); go_simp; rfl)); simp only [Act.put, List.setIfInBounds_toArray, List.set_cons_zero, List.set_cons_succ])
  refine wpS_nil ?_
  clear c0 c1
  by_cases he : r.2 = 0
  · have he' : (r.2 == 0) = true := by simpa using he
    have c0 := hB4.cell 0
    simp only [List.getElem?_toArray, List.getElem?_cons_zero] at c0
    have hpt := HPT.out
    rw [if_pos he] at hpt
    have HPT2 := Lib.hid hpt
    rw [he]
    clear hpt he he'
    go_wp2_with fail
    refine (gsync _ base g _ _ hD4 hlg4).mono ?_
    rintro e w5 ⟨l5, rfl, hlg5, hD5, hm5⟩
    simp only []
    obtain ⟨E, hE⟩ : ∃ E, syncE r.1 = E := ⟨_, rfl⟩
    rw [hE]
    have hpt := HPT2.out
    rw [hE] at hpt
    have HPT3 := Lib.hid hpt
    have hB5 := hm5.chg.blk hB4 hout4
    have hr5 := hm5.chg.rbN hr4 (fun hn0 x hx => (hap4 hn0 x hx).1)
    have hO5 : OB 5 w5 base A' N c' b0 := hm5.chg.own hO4 hA4
    have hm5' := hm4'.trans (CMoved.of_moved hm5 k)
    have hout5 : ¬ l5.fp k := fun hf => by
      rcases hm5.fp k hf with h | h
      · exact hout4 h
      · have := hB4.lt
        omega
    have hA5 : ∀ x, A'.map (·.block) = some x → ¬ l5.fp x := fun x hx hf => by
      rcases hm5.fp x hf with h | h
      · exact hA4 x hx h
      · have := (hO4.ge x hx).2
        omega
    clear hE hpt HPT2 c0 hm5 hB4 hO4 hD4 hm4'
    by_cases hE0 : E = 0
    · subst hE0
      have f4 := hB5.frozen 4
      have c4 := hB5.cell 4
      simp only [List.getElem?_toArray, List.getElem?_cons_zero, List.getElem?_cons_succ] at c4
      have hB6 := hB5.set_ 4 (.bool false)
      simp only [List.setIfInBounds_toArray, List.set_cons_zero, List.set_cons_succ] at hB6
      have hg6 := grownBy_set w5 k 4 (.bool false)
      have hD6 := hD5.beside hg6 hout5
      have hr6 := (Chg.of_grown (F := fun x => x = k) hg6 rfl).rbN hr5 (fun hn0 x hx e => (hap4 hn0 x hx).2 e)
      have hm6 := hm5'.set 4 (.bool false)
      clear hB5 hO5 hD5 hm5' hr4 hr5 hg6
      go_upto_region 13 with (fail)
      obtain ⟨w6, hw6⟩ : ∃ x, w5.setCell ⟨k, 4, none⟩ (.bool false) = x := ⟨_, rfl⟩
      rw [hw6] at hB6 hD6 hr6 hm6 ⊢
      clear hw6 f4 c4
      go_wp2_with fail
      refine (clone_any w6 A n cap b hr6 (by omega)).mono ?_
      rintro e w7 ⟨A7, c7, rfl, hO7, hb7⟩
      simp only []
      have hB7 := hB6.below hb7 hB6.lt
      have hD7 := hD6.below hb7
      have hm7 := hm6.trans (CMoved.of_moved (Moved.of_below (l := l5) hb7) k)
      have hb6s : base ≤ w6.heap.size := Nat.le_trans hbase hm6.chg.size
      have hA7 : ∀ x, A7.map (·.block) = some x → ¬ l5.fp x := fun x hx hf => by
        have h1 := (hO7.ge x hx).1
        have h2 := (hD6.fp_lt hf).2
        omega
      have f3 := hB7.frozen 3
      have c3 := hB7.cell 3
      have f2 := hB7.frozen 2
      have c2 := hB7.cell 2
      simp only [List.getElem?_toArray, List.getElem?_cons_zero, List.getElem?_cons_succ] at c2 c3
      have hB8 := hB7.set_ 3 (.int .i64 (tw : Int))
      have hB9 := hB8.set_ 2 (.slice A7 n c7)
      simp only [List.setIfInBounds_toArray, List.set_cons_zero, List.set_cons_succ] at hB9
      have hg8 := grownBy_set w7 k 3 (.int .i64 (tw : Int))
      have hg9 := grownBy_set (w7.setCell ⟨k, 3, none⟩ (.int .i64 (tw : Int))) k 2 (.slice A7 n c7)
      have hD9 := (hD7.beside hg8 hout5).beside hg9 hout5
      have hO9 := (OB.grown (OB.grown hO7 hg8 (.inl (OB_ne hO7 hB7 cell_ne8))) hg9 (.inl (OB_ne hO7 hB7 cell_ne8))).mono (B := base) hb6s
      have hm9 := (hm7.set 3 (.int .i64 (tw : Int))).set 2 (.slice A7 n c7)
      have hbl := hr6.len
      clear hB6 hD6 hr6 hm6 hb7 hB7 hD7 hm7 hO7 hB8 hg8 hg9
      go_wp2_with fail
      go_ret
      exact ⟨l5, by rw [HPT3.out]; rfl, hlg5, by rw [HPT3.out]; exact hD9, ⟨⟨A7, n, c7, by rw [hlg5, HPT3.out]; simp only [putCell, if_pos, HPE.out, HWE.out, HTE.out]; exact hB9, by rw [HPT3.out]; simp only [putCell, if_pos]; exact hO9, hA7⟩, hout5, hbk, by rw [HPT3.out]; simp only [putCell, if_pos, HWE.out, HTE.out]; exact hto1, by rw [HPT3.out]; simp only [putCell, if_pos]; omega⟩, hm9⟩
    · skip
      have hne : (E != 0) = true := by simpa using hE0
      have hfin : ptF d p which b = (syncAll r.1, E) := HPT3.out
      have HFIN := Lib.hid hfin
      have HE0 := Lib.hid hE0
      have f4 := hB5.frozen 4
      have c4 := hB5.cell 4
      simp only [List.getElem?_toArray, List.getElem?_cons_zero, List.getElem?_cons_succ] at c4
      have hB6 := hB5.set_ 4 (.bool true)
      simp only [List.setIfInBounds_toArray, List.set_cons_zero, List.set_cons_succ] at hB6
      have hg6 := grownBy_set w5 k 4 (.bool true)
      have hD6 := hD5.beside hg6 hout5
      have hO6 : OB 5 _ base A' N c' b0 := OB.grown hO5 hg6 (.inl (OB_ne hO5 hB5 cell_ne8))
      have hm6 := hm5'.set 4 (.bool true)
      clear hfin hE0 hB5 hO5 hD5 hm5' hr4 hap4 hg6
      go_wp2_with fail
      go_ret
      exact ⟨l5, by rw [HFIN.out]; rfl, hlg5, by rw [HFIN.out]; exact hD6, ⟨⟨A', N, c', by rw [hlg5, HFIN.out]; simp only [putCell, if_neg HE0.out, HPE.out, HWE.out]; exact hB6, by rw [HFIN.out]; simp only [putCell, if_neg HE0.out, HBE.out]; exact hO6, hA5⟩, hout5, hbk, by rw [HFIN.out]; simp only [putCell, if_neg HE0.out, HWE.out]; exact hwh, by rw [HFIN.out]; simp only [putCell, if_neg HE0.out, HBE.out]; exact hln⟩, hm6⟩
  · have he' : (r.2 == 0) = false := by simpa using he
    have hne : (r.2 != 0) = true := by simpa using he
    have hfin : ptF d p which b = (r.1, r.2) := by rw [HPT.out, if_neg he]
    have HFIN := Lib.hid hfin
    have HE0 := Lib.hid he
    have f4 := hB4.frozen 4
    have c4 := hB4.cell 4
    simp only [List.getElem?_toArray, List.getElem?_cons_zero, List.getElem?_cons_succ] at c4
    have hB6 := hB4.set_ 4 (.bool true)
    simp only [List.setIfInBounds_toArray, List.set_cons_zero, List.set_cons_succ] at hB6
    have hg6 := grownBy_set w4 k 4 (.bool true)
    have hD6 := hD4.beside hg6 hout4
    have hO6 : OB 5 _ base A' N c' b0 := OB.grown hO4 hg6 (.inl (OB_ne hO4 hB4 cell_ne8))
    have hm6 := hm4'.set 4 (.bool true)
    clear hfin he hB4 hO4 hD4 hm4' hr4 hap4 hg6
    go_wp2_with fail
    go_ret
    exact ⟨l4, by rw [HFIN.out]; rfl, hlg4, by rw [HFIN.out]; exact hD6, ⟨⟨A', N, c', by rw [hlg4, HFIN.out]; simp only [putCell, if_neg HE0.out, HPE.out, HWE.out]; exact hB6, by rw [HFIN.out]; simp only [putCell, if_neg HE0.out, HBE.out]; exact hO6, hA4⟩, hout4, hbk, by rw [HFIN.out]; simp only [putCell, if_neg HE0.out, HWE.out]; exact hwh, by rw [HFIN.out]; simp only [putCell, if_neg HE0.out, HBE.out]; exact hln⟩, hm6⟩
end Go.Proofs.Ytmjdfajdompkeaa
namespace Go.Proofs.Ytmjdfajdompkeaa
open Go.RowKit Go.Rat
def fms (d : DS) (p : Int) (k : Nat) : DS × Int := if k = 0 then (d, 0) else if k = 1 then wrS d p 2 [] 10 else wrS (wrS d p 2 [] 10).1 (p + 10) 1 [] 10
theorem fms_zero (d : DS) (p : Int) : fms d p 0 = (d, 0) := if_pos rfl
theorem fms_one (d : DS) (p : Int) : fms d p 1 = wrS d p 2 [] 10 := (if_neg (by decide)).trans (if_pos rfl)
theorem fms_two (d : DS) (p : Int) : fms d p 2 = wrS (wrS d p 2 [] 10).1 (p + 10) 1 [] 10 := (if_neg (by decide)).trans (if_neg (by decide))
theorem fmF_a {d : DS} {p : Int} (h : (fms d p 1).2 ≠ 0) : fmF d p = fms d p 1 := by
  rw [fms_one] at h ⊢
  exact if_neg h
theorem fmF_b {d : DS} {p : Int} (h1 : (fms d p 1).2 = 0) (h : (fms d p 2).2 ≠ 0) : fmF d p = fms d p 2 := by
  rw [fms_one] at h1
  rw [fms_two] at h ⊢
  exact (if_pos h1).trans (if_neg h)
theorem fmF_c {d : DS} {p : Int} (h1 : (fms d p 1).2 = 0) (h : (fms d p 2).2 = 0) : fmF d p = (syncAll (fms d p 2).1, syncE (fms d p 2).1) := by
  rw [fms_one] at h1
  rw [fms_two] at h ⊢
  exact (if_pos h1).trans (if_pos h)
theorem wrS_loose (d : DS) (p : Int) (c : Nat) (b : List UInt8) : ∀ k, (wrS d p c b k).1.loose.length ≤ d.loose.length + k
  | 0 => Nat.le_refl _
  | k + 1 => by
    have ih := wrS_loose d p c b k
    rw [wrS]
    split
    · have := writeD_loose (wrS d p c b k).1 (p + (k : Int)) (secB c b k)
      simp only
      omega
    · omega
theorem fms_next (d : DS) (p : Int) {k : Nat} (hk : k < 2) : fms d p (k + 1) = wrS (fms d p k).1 (p + (k : Int) * 10) (2 - k) [] 10 := by
  have hc : k = 0 ∨ k = 1 := by omega
  rcases hc with rfl | rfl
  · rw [fms_zero, fms_one, show p + ((0 : Nat) : Int) * 10 = p by omega]
  · rw [fms_one, fms_two, show p + ((1 : Nat) : Int) * 10 = p + 10 by omega]
theorem fms_loose (d : DS) (p : Int) {k : Nat} (hk : k < 2) : (fms d p k).1.loose.length ≤ d.loose.length + 10 := by
  have hc : k = 0 ∨ k = 1 := by omega
  rcases hc with rfl | rfl
  · rw [fms_zero]
    exact Nat.le_add_right _ _
  · have h := wrS_loose d p 2 [] 10
    have e := congrArg (fun r => r.1.loose.length) (fms_one d p)
    omega
set_option maxRecDepth 20000 in
set_option maxHeartbeats 8000000 in
theorem cformat_any (w : World) (base : Nat) (l : DL) (d : DS) (hD : DiskAt w base l d) (g : Nat) (hg : l.g = g) (hbase : base ≤ w.heap.size) (hlo : d.loose.length < 800000000) (p : Int) (hp : 0 ≤ p ∧ p + 20 ≤ 32768) :
    Calls Try.prog 41 #[.pointer (some ⟨g, 0, none⟩), .int .i64 p] w fun e w' => ∃ l', e = .returned (.int .i64 (fmF d p).2) ∧ l'.g = g ∧ DiskAt w' base l' (fmF d p).1 ∧ Moved w w' l l' := by
  have hmay : mayE p = 0 := if_pos ⟨hp.1, by omega⟩
  have HMAY := Lib.hid hmay
  clear hmay
  go_enter Try.func41, Try.ntmps41
  go_upto_region 2 with (fail)
  have hP := Blk.new w 119 #[.pointer (some ⟨g, 0, none⟩), .int .i64 p]
  have hb1 := below_alloc w (.cells #[.pointer (some ⟨g, 0, none⟩), .int .i64 p] 119)
  obtain ⟨w1, hw1⟩ : ∃ x, w.alloc (.cells #[.pointer (some ⟨g, 0, none⟩), .int .i64 p] 119) = x := ⟨_, rfl⟩
  rw [hw1] at hP hb1 ⊢
  have hX := Out.new hD hP
  have hD1 := hD.below hb1
  obtain ⟨bp, hbp⟩ : ∃ x, w.heap.size = x := ⟨_, rfl⟩
  rw [hbp] at hX hP ⊢
  have HBP := Lib.hid hbp
  have c0 := hP.cell 0
  have c1 := hP.cell 1
  simp only [List.getElem?_toArray, List.getElem?_cons_zero, List.getElem?_cons_succ] at c0 c1
  clear hw1 hD hbp
  go_wp2_with fail
  refine (may_any w1 g p).mono ?_
  rw [HMAY.out]
  rintro e w2 ⟨rfl, hb2⟩
  simp only []
  have hX := hX.below hb2
  have hD2 := hD1.below hb2
  have hmv : Moved w w2 l l := (Moved.of_below hb1).trans (Moved.of_below hb2)
  clear c0 c1 hD1 hb2 hb1 hP
  go_upto_block 0 with (fail)
  go_cut [] (fun wx => ∃ l', (fms d p 1).2 = 0 ∧ (fms d p 2).2 = 0 ∧ DiskAt wx base l' (fms d p 2).1 ∧ Moved w wx l l')
  case first =>
    go_wp2_with fail
    go_loopw [17] (fun i wr => ∃ (kk : Nat) (l' : DL), kk ≤ 2 ∧ i = .int .i64 (kk : Int) ∧ (∀ j, j ≤ kk → (fms d p j).2 = 0) ∧ DiskAt wr base l' (fms d p kk).1 ∧ Moved w wr l l' ∧ Out wr l' bp 119 #[.pointer (some ⟨g, 0, none⟩), .int .i64 p]) (fun i _ => 2 - (intOf i).toNat)
    case atStart => exact ⟨0, l, by omega, rfl, (fun j hj => (by have h : j = 0 := (by omega); subst h; rw [fms_zero])), (by rw [fms_zero]; exact hD2), hmv, hX⟩
    case round =>
      obtain ⟨kk, l', hk, rfl, h0, hDk, hmk, hXk⟩ := hrel
      clear hX hD2 hmv
      by_cases hk2 : kk < 2
      · have hnx := fms_next d p hk2
        have hlo1 := fms_loose d p hk2
        have c0 := hXk.1.cell 0
        have c1 := hXk.1.cell 1
        simp only [List.getElem?_toArray, List.getElem?_cons_zero, List.getElem?_cons_succ] at c0 c1
        have hlg : l'.g = g := (congrArg Prod.fst hmk.g).trans hg
        have hbs : base ≤ wr.heap.size := Nat.le_trans hbase hmk.chg.size
        have hcc : (2 : Int) - (kk : Int) = ((2 - kk : Nat) : Int) := by omega
        have g1 : (kk : Int) < 2 := by omega
        have g2 : (0 : Int) ≤ (kk : Int) := by omega
        have H0 := Lib.hid h0
        have HNX := Lib.hid hnx
        have hfm : (fms d p (kk + 1)).2 ≠ 0 → fmF d p = fms d p (kk + 1) := fun hne => by
          have hc : kk = 0 ∨ kk = 1 := by omega
          rcases hc with rfl | rfl
          · exact fmF_a hne
          · exact fmF_b (h0 1 (by omega)) hne
        have HFM := Lib.hid hfm
        clear h0 hnx hfm
        obtain ⟨r, hr⟩ : ∃ r, fms d p (kk + 1) = r := ⟨_, rfl⟩
        have hr2 := HNX.out
        rw [hr] at hr2
        have HR := Lib.hid hr
        have HR2 := Lib.hid hr2
        clear hr hr2 HNX
        go_wp2_with fail
        refine (cwrite_any _ base l' _ hDk g hlg hbs (by omega) p kk (by omega) hp (2 - kk) (by omega) none 0 0 [] (RB.nil_ _ _) (by omega)).mono ?_
        rw [← HR2.out]
        rintro e w4 ⟨l2, rfl, hlg2, hD2, hm⟩
        simp only []
        have hXk := hXk.moved hm
        have hmk := hmk.trans hm
        clear hm hDk c0 c1
        by_cases he : r.2 = 0
        · have hall : ∀ j, j ≤ kk + 1 → (fms d p j).2 = 0 := fun j hj => by
            by_cases hjk : j ≤ kk
            · exact H0.out j hjk
            · have : j = kk + 1 := by omega
              rw [this, HR.out]
              exact he
          have HALL := Lib.hid hall
          rw [he]
          rw [← HR.out] at hD2
          clear hall he
          go_wp2_with fail
          exact ⟨⟨kk + 1, l2, by omega, congrArg (Value.int .i64) (by omega), HALL.out, hD2, hmk, hXk⟩, by simp [intOf]; omega⟩
        · have hne : (r.2 != 0) = true := by simpa using he
          have hf := HFM.out (by rw [HR.out]; exact he)
          rw [HR.out] at hf
          have HF := Lib.hid hf
          clear hf he
          go_wp2_with fail
          go_ret
          exact ⟨l2, by rw [HF.out]; rfl, hlg2, by rw [HF.out]; exact hD2, hmk⟩
      · obtain rfl : kk = 2 := by omega
        have g1 : ¬ ((2 : Nat) : Int) < 2 := by omega
        have H0 := Lib.hid h0
        clear h0
        go_wp2_with fail
        go_meet
        exact ⟨l', H0.out 1 (by omega), H0.out 2 (by omega), hDk, hmk⟩
  case rest =>
    clear hX hD2 hmv
    obtain ⟨l', h1, h2, hDk, hmk⟩ := hcut
    have hlg : l'.g = g := (congrArg Prod.fst hmk.g).trans hg
    have hfm : fmF d p = (syncAll (fms d p 2).1, syncE (fms d p 2).1) := fmF_c h1 h2
    have HFM := Lib.hid hfm
    clear h1 h2 hfm
    go_wp2_with fail
    refine (gsync _ base g _ _ hDk hlg).mono ?_
    rintro e w4 ⟨l2, rfl, hlg2, hD2, hm⟩
    simp only []
    go_wp2_with fail
    go_ret
    exact ⟨l2, by rw [HFM.out]; rfl, hlg2, by rw [HFM.out]; exact hD2, hmk.trans hm⟩
end Go.Proofs.Ytmjdfajdompkeaa
namespace Go.Proofs.Ytmjdfajdompkeaa
open Go.RowKit Go.Rat
theorem rb_lit (w : World) (e : TypeId) (fr : Nat × Nat) (l : List UInt8) : RB (w.alloc (.cells (bvs l).toArray e fr)) (some ⟨w.heap.size, 0, none⟩) l.length l := by
  refine ⟨by simp [bvs_length], fun _ => ⟨_, rfl, by simp, fun j u hu => ?_⟩⟩
  rw [show (⟨w.heap.size, 0, none⟩ : Addr).add j = ⟨w.heap.size, j, none⟩ by unfold Addr.add; split <;> simp_all, cell_of_row (w.alloc (.cells (bvs l).toArray e fr)) w.heap.size j (bvs l).toArray e fr (_root_.Go.heap_alloc_new w _), List.getElem?_toArray]
  exact hu
/-- What the anchor comes to. -/
def ab : List UInt8 := [97, 98]
theorem zs_cnt : cntB zs = 0 := by decide +kernel
theorem open_zero {p : Int} (hp : 0 ≤ p ∧ p + 20 ≤ 32768) : opE ds0 p = 9 := by
  have h : ∀ s, s ≤ 1 → (slotV ds0 p s).1 = 0 := by
    intro s hs
    by_cases h : (slotV ds0 p s).1 = 0
    · exact h
    · obtain ⟨b, h1, h2⟩ := rdF_of h 0 (by omega)
      rw [view_is (d := ds0) rfl (by omega) (b := zs) rfl] at h1
      cases h1
      rw [zs_cnt] at h2
      exact h2.symm
  rw [opE, if_neg (by decide), if_pos ⟨h 0 (by omega), h 1 (by omega)⟩]
structure Wk5 (d1 d2 : DS) : Prop where
  f1 : fmF ds0 0 = (d1, 0)
  o1 : opE d1 0 = 0
  c1 : openCell d1 0 = ⟨0, [], 0, false⟩
  l1 : d1.loose = []
  f2 : ptF d1 0 0 ab = (d2, 0)
  o2 : opE d2 0 = 0
  c2 : openCell d2 0 = ⟨0, ab, 1, false⟩
theorem wk5 : ∃ d1 d2, Wk5 d1 d2 := by
  obtain ⟨h1, h2, h3, h4, h5, _⟩ := format_calm (d := ds0) (p := 0) (by omega) rfl rfl
  obtain ⟨k1, _, _, _, k5, _⟩ := put_calm (b := ab) h3 h5 (by decide) (by decide)
  obtain ⟨o1, o2⟩ := h5.open_
  obtain ⟨q1, q2⟩ := k5.open_
  refine ⟨(fmF ds0 0).1, (ptF (fmF ds0 0).1 0 0 ab).1, ⟨?_, o1, ?_, h4, ?_, q1, ?_⟩⟩
  · exact Prod.ext rfl h1
  · rw [openCell, o2]
  · exact Prod.ext rfl k1
  · rw [openCell, q2]
set_option maxRecDepth 20000 in
set_option maxHeartbeats 8000000 in
theorem works5_any (w : World) : Calls Try.prog 37 #[] w fun e w' => e = .returned (.bool true) ∧ Below w.heap.size w w' := by
  obtain ⟨d1, d2, H⟩ := wk5
  have HF1 := Lib.hid H.f1
  have HO1 := Lib.hid H.o1
  have HC1 := Lib.hid H.c1
  have HL1 := Lib.hid H.l1
  have HF2 := Lib.hid H.f2
  have HO2 := Lib.hid H.o2
  have HC2 := Lib.hid H.c2
  have hz := open_zero (p := 0) (by omega)
  have HZ := Lib.hid hz
  clear H hz
  obtain ⟨base, hbase⟩ : ∃ b, w.heap.size = b := ⟨_, rfl⟩
  have HBASE := Lib.hid hbase
  go_enter Try.func37, Try.ntmps37
  go_wp2_with fail
  refine (dnew_any w).mono ?_
  rintro e w1 ⟨l0, rfl, hD, hb⟩
  have hbb : Below w.heap.size w w1 ∧ base ≤ w1.heap.size := ⟨hb, by rw [← hbase]; exact hb.size⟩
  rw [hbase] at hD
  clear hb hbase
  simp only []
  obtain ⟨g, hlg⟩ : ∃ g, l0.g = g := ⟨_, rfl⟩
  rw [hlg]
  go_wp2_with fail
  refine (cformat_any w1 base l0 ds0 hD g hlg hbb.2 (by decide) 0 (by omega)).mono ?_
  rw [HF1.out]
  rintro e w2 ⟨l1, rfl, hlg1, hD1, hm⟩
  have hbb := base_moved hbb (Nat.le_of_eq HBASE.out) hD hm
  simp only []
  clear hm hD hlg
  go_wp2_with fail
  refine (copen_any w2 base l1 d1 hD1 g hlg1 hbb.2 0 (by omega)).mono ?_
  rw [HO1.out, HC1.out]
  rintro e w3 ⟨(⟨h, _⟩ | ⟨_, k, rfl, hC, hk⟩), hb⟩
  · exact absurd rfl h
  have hbb := below_base hbb hb
  have hD1 := hD1.below hb
  simp only []
  clear hb hk
  go_wp2_with fail
  refine (cget_any w3 base l1 k _ hC).mono ?_
  rintro e w4 ⟨A, c, rfl, hO, hb⟩
  have hbb := below_base hbb hb
  have hD1 := hD1.below hb
  have hC := hC.below hb
  simp only []
  clear hb hO
  go_upto_region 6 with (fail)
  have kc := fun (w : World) (C : Array Value) (n c : Nat) => Lib.run_convert_bytes_const (P := Try.prog) w 22 5 C n c Try.underlying22 Try.underlying5
  go_wp2_with fail
  have hrab := rb_lit w4 5 (2, 3) ab
  have hb := below_alloc w4 (.cells (bvs ab).toArray 5 (2, 3))
  have hab : (.cells #[.int .u8 97, .int .u8 98] 5 (2, 3) : Obj) = .cells (bvs ab).toArray 5 (2, 3) := rfl
  rw [hab]
  have hD1' := hD1.below hb
  have hC' := hC.below hb
  have hbb' := below_base hbb hb
  have hap : 2 ≠ 0 → ∀ x, (some (⟨w4.heap.size, 0, none⟩ : Addr)).map (·.block) = some x → ¬ l1.fp x ∧ x ≠ k := fun _ x hx => by
    have hxe : w4.heap.size = x := Option.some.inj hx
    have hkl := hC.lt
    refine ⟨fun hf => ?_, by omega⟩
    have := (hD1.fp_lt hf).2
    omega
  obtain ⟨w5, hw5⟩ : ∃ x, w4.alloc (.cells (bvs ab).toArray 5 (2, 3)) = x := ⟨_, rfl⟩
  rw [hw5] at hrab hD1' hC' hbb' ⊢
  clear hb hab hw5 hbb hD1 hC kc
  refine (cput_any w5 base l1 d1 hD1' g hlg1 hbb'.2 (by rw [HL1.out]; decide) k _ hC' (show (0 : Int) ≤ 0 ∧ (0 : Int) + 20 ≤ 32768 by omega) rfl _ 2 2 ab hrab (by omega) hap).mono ?_
  simp only []
  rw [HF2.out]
  rintro e w6 ⟨l2, rfl, hlg2, hD2, hC2, hm⟩
  have hbb : Below w.heap.size w w6 ∧ base ≤ w6.heap.size := by
    have h1 := HBASE.out
    refine ⟨hbb'.1.trans (hm.chg.below (fun x hx => ?_) hbb'.1.size), Nat.le_trans hbb'.2 hm.chg.size⟩
    rcases hx with hx | hx
    · have := (hD1'.fp_lt hx).1
      omega
    · have := hC'.bk
      omega
  simp only []
  clear hm hD1' hC' hap hrab hbb' hC2
  go_wp2_with fail
  refine (copen_any w6 base l2 d2 hD2 g hlg2 hbb.2 0 (by omega)).mono ?_
  rw [HO2.out, HC2.out]
  rintro e w7 ⟨(⟨h, _⟩ | ⟨_, k2, rfl, hC, hk⟩), hb⟩
  · exact absurd rfl h
  have hbb := below_base hbb hb
  simp only []
  clear hb hk hD2
  go_wp2_with fail
  refine (dnew_any w7).mono ?_
  rintro e w8 ⟨l8, rfl, hD8, hb⟩
  have hbb := below_base hbb hb
  have hC := hC.below hb
  simp only []
  obtain ⟨g8, hlg8⟩ : ∃ g, l8.g = g := ⟨_, rfl⟩
  rw [hlg8]
  have hs8 := hb.size
  clear hb
  go_wp2_with fail
  refine (copen_any w8 w7.heap.size l8 ds0 hD8 g8 hlg8 hs8 0 (by omega)).mono ?_
  rw [HZ.out]
  rintro e w9 ⟨(⟨_, rfl⟩ | ⟨h, _⟩), hb⟩
  rotate_left
  · exact absurd h (by decide)
  have hbb := below_base hbb hb
  have hC := hC.below hb
  simp only []
  clear hb hD8
  go_wp2_with fail
  refine (cget_any w9 base l2 k2 _ hC).mono ?_
  rintro e w10 ⟨A2, c2, rfl, hO, hb⟩
  have hbb := below_base hbb hb
  have hcv := conv_str hO.reads c2
  have hbs : bstr ab = ⟨#[97, 98]⟩ := rfl
  simp only [hbs] at hcv
  clear hbs
  simp only []
  clear hb hO hC
  go_wp2_with fail
  go_ret
  exact ⟨rfl, hbb.1⟩
end Go.Proofs.Ytmjdfajdompkeaa
namespace Go.Proofs.Ytmjdfajdompkeaa
open Go.RowKit Go.Rat
theorem copen_nil (w : World) (p : Int) : Calls Try.prog 38 #[.pointer none, .int .i64 p] w fun e w' => e = .returned (.tuple #[.pointer none, .int .i64 2]) ∧ Below w.heap.size w w' := by
  go_enter Try.func38, Try.ntmps38
  go_upto_region 2 with (fail)
  have hC := Blk.new w 121 #[.pointer none, .int .i64 p, .slice none 0 0, .int .i64 0, .bool false]
  have hb1 := below_alloc w (.cells #[.pointer none, .int .i64 p, .slice none 0 0, .int .i64 0, .bool false] 121)
  obtain ⟨w1, hw1⟩ : ∃ x, w.alloc (.cells #[.pointer none, .int .i64 p, .slice none 0 0, .int .i64 0, .bool false] 121) = x := ⟨_, rfl⟩
  rw [hw1] at hC hb1 ⊢
  have c0 := hC.cell 0
  have c1 := hC.cell 1
  simp only [List.getElem?_toArray, List.getElem?_cons_zero, List.getElem?_cons_succ] at c0 c1
  clear hw1 hC
  go_wp2_with fail
  refine (may_nil w1 p).mono ?_
  rintro e w2 ⟨rfl, hb2⟩
  simp only []
  clear c0 c1
  go_wp2_with fail
  go_ret2
  exact ⟨rfl, hb1.trans (hb2.mono hb1.size)⟩
theorem cformat_nil (w : World) (p : Int) : Calls Try.prog 41 #[.pointer none, .int .i64 p] w fun e w' => e = .returned (.int .i64 2) ∧ Below w.heap.size w w' := by
  go_enter Try.func41, Try.ntmps41
  go_upto_region 2 with (fail)
  have hC := Blk.new w 119 #[.pointer none, .int .i64 p]
  have hb1 := below_alloc w (.cells #[.pointer none, .int .i64 p] 119)
  obtain ⟨w1, hw1⟩ : ∃ x, w.alloc (.cells #[.pointer none, .int .i64 p] 119) = x := ⟨_, rfl⟩
  rw [hw1] at hC hb1 ⊢
  have c0 := hC.cell 0
  have c1 := hC.cell 1
  simp only [List.getElem?_toArray, List.getElem?_cons_zero, List.getElem?_cons_succ] at c0 c1
  clear hw1 hC
  go_wp2_with fail
  refine (may_nil w1 p).mono ?_
  rintro e w2 ⟨rfl, hb2⟩
  simp only []
  clear c0 c1
  go_wp2_with fail
  go_ret
  exact ⟨rfl, hb1.trans (hb2.mono hb1.size)⟩
set_option maxHeartbeats 1000000 in
theorem cellNil_walk (w : World) (p : Int) (_ : -9223372036854775808 ≤ p ∧ p ≤ 9223372036854775807) (A : Option Addr) (n c : Nat) (xs : List UInt8) (_ : xs.length = n) (_ : RB w A n xs) (_ : n ≤ c) (_ : n ≤ 140737488351232) :
    Calls Try.prog 8 #[.int .i64 p, .slice A n c] w fun e w' => e = .returned (.bool true) ∧ Below w.heap.size w w' := by
  by_cases hbig : 4096 < n
  · have hbi : (4096 : Int) < (n : Int) := by omega
    go_enter Try.func8, Try.ntmps8
    go_wp2_with (go_at_call 37; refine (works5_any w).mono ?_; rintro e w2 ⟨rfl, hb2⟩)
    go_ret
    exact ⟨rfl, hb2⟩
  · have hbi : ¬ (4096 : Int) < (n : Int) := by omega
    go_enter Try.func8, Try.ntmps8
    go_wp2_with fail
    refine (copen_nil w p).mono ?_
    rintro e w2 ⟨rfl, hb2⟩
    simp only []
    go_wp2_with fail
    refine (cput_nil w2 A n c).mono ?_
    rintro e w2' ⟨rfl, rfl⟩
    simp only []
    go_wp2_with fail
    refine (cget_nil w2).mono ?_
    rintro e w2' ⟨rfl, rfl⟩
    simp only []
    go_wp2_with fail
    refine (cformat_nil w2 p).mono ?_
    rintro e w3 ⟨rfl, hb3⟩
    simp only []
    have hb3 := hb2.trans (hb3.mono hb2.size)
    go_wp2_with fail
    refine (works5_any w3).mono ?_
    rintro e w4 ⟨rfl, hb4⟩
    simp only []
    have hb4 := hb3.trans (hb4.mono hb3.size)
    go_wp2_with fail
    go_ret
    exact ⟨rfl, hb4⟩
end Go.Proofs.Ytmjdfajdompkeaa
namespace Go.Proofs.Ytmjdfajdompkeaa
open Go.RowKit Go.Rat
set_option maxHeartbeats 1000000 in
theorem rcount_any (w : World) (s : List UInt8) (hs : s.length = 128) :
    Calls Try.prog 97 #[.agg (bvs s).toArray] w fun e w' => e = .returned (.int .u64 (cntB s : Int)) ∧ Below w.heap.size w w' := by
  have hB := Blk.new w 28 (bvs s).toArray
  have hb1 := below_alloc w (.cells (bvs s).toArray 28)
  have hbs : (bvs s).toArray.size = 128 := by rw [bvs_size, hs]
  have hcell : ∀ j, j < 8 → (w.alloc (.cells (bvs s).toArray 28)).cell? ⟨w.heap.size, j, none⟩ = some (.int .u8 ((s.getD j 0).toNat : Int)) := fun j hj => by
    rw [hB.cell j, List.getElem?_toArray, bvs, List.getElem?_map, List.getD_eq_getElem?_getD, List.getElem?_eq_getElem (show j < s.length by omega)]
    rfl
  have HN : Hid (∀ j, j < 8 → Value.int .u64 (bits .or .u64 (IntKind.u64.wrap ((num (s.take j) : Int) * 256)) (IntKind.u64.wrap ((s.getD j 0).toNat : Int))) = .int .u64 (num (s.take (j + 1)) : Int)) := Lib.hid (fun j hj => num_next (by omega) hj)
  obtain ⟨Z, hZ⟩ : ∃ Z, (bvs s).toArray = Z := ⟨_, rfl⟩
  rw [hZ] at hB hb1 hbs hcell ⊢
  have HC : Hid (cntB s = num (s.take 8)) := Lib.hid rfl
  go_enter Try.func97, Try.ntmps97
  go_upto_region 1 with (fail)
  obtain ⟨w1, hw1⟩ : ∃ x, w.alloc (.cells Z 28) = x := ⟨_, rfl⟩
  rw [hw1] at hB hb1 hcell ⊢
  obtain ⟨G, hG⟩ : ∃ G, w.heap.size = G := ⟨_, rfl⟩
  rw [hG] at hcell ⊢
  have HCE := Lib.hid hcell
  clear hw1 hZ hB hs hbs hG hcell
  go_wp2_with fail
  go_loop [3, 4] (fun v i => ∃ j : Nat, j ≤ 8 ∧ i = .int .i64 j ∧ v = .int .u64 (num (s.take j))) (fun _ i => 8 - (intOf i).toNat)
  case atStart => exact ⟨0, Nat.zero_le _, rfl, rfl⟩
  case round =>
    obtain ⟨j, hj, rfl, rfl⟩ := hrel
    by_cases hlt : j < 8
    · have c0 := HCE.out j hlt
      have hn := HN.out j hlt
      obtain ⟨x, hx⟩ : ∃ x, s.getD j 0 = x := ⟨_, rfl⟩
      rw [hx] at c0 hn
      have HX := Lib.hid hn
      have hxl := x.toNat_lt
      have g1 : (j : Int) < 8 := by omega
      have g0 : (0 : Int) ≤ (j : Int) := by omega
      clear hn hx
      go_wp2_with fail
      have wx : IntKind.u64.wrap (x.toNat : Int) = (x.toNat : Int) := IntWalk.u64_in _ (by omega)
      have hX := HX.out
      rw [wx] at hX
      exact ⟨⟨j + 1, by omega, congrArg (Value.int .i64) (by omega), hX⟩, by simp only [intOf]; omega⟩
    · obtain rfl : j = 8 := by omega
      have g1 : ¬ ((8 : Nat) : Int) < 8 := by decide
      go_wp2_with fail
      go_ret
      refine ⟨?_, hb1⟩
      rw [HC.out]
      rfl
theorem rhalf_any (w : World) (A : Option Addr) (n c : Nat) (xs : List UInt8) (x : Nat) (hr : RB w A n xs) (hn : n ≤ 140737487000000) (hx : x < 65536) :
    Calls Try.prog 95 #[.slice A n c, .int .u16 x] w fun e w' => ∃ A' N' c', e = .returned (.slice A' N' c') ∧ OB 5 w' w.heap.size A' N' c' (xs ++ be 2 x) ∧ Below w.heap.size w w' := by
  go_enter Try.func95, Try.ntmps95
  go_wp2_with (go_at_call 98; refine (rput_any _ A n c xs x 2 hr hn (by omega) (by omega)).mono ?_; rintro e w1 ⟨A1, N1, c1, rfl, hO1, hb1⟩)
  go_ret
  exact ⟨A1, N1, c1, rfl, hO1, hb1⟩
end Go.Proofs.Ytmjdfajdompkeaa
