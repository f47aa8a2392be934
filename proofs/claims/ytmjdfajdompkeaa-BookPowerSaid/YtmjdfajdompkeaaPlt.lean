/- A statement whose order Go leaves open, two of whose steps may come in either order: a plan that parts there. -/
import Derived.Test.YtmjdfajdompkeaaRegion
import Derived.Test.YtmjdfajdompkeaaMid
namespace Go.Rat
open Go Go.RowKit
section
variable {P : Program} {ops : Array Oper} {Q : Exit → Act → World → Prop}
inductive PlanT where
  | done
  | q (i : Nat) (rest : PlanT)
  | l (i : Nat) (rest : PlanT)
  | two (i j : Nat) (r1 r2 : PlanT)
def PlanT.depth : PlanT → Nat
  | .done => 0
  | .q _ r => r.depth + 1
  | .l _ r => r.depth + 1
  | .two _ _ r1 _ => r1.depth + 1
def PlanT.even : PlanT → Bool
  | .done => true
  | .q _ r => r.even
  | .l _ r => r.even
  | .two _ _ r1 r2 => r1.even && r2.even && decide (r1.depth = r2.depth)
def wpT (P : Program) (ops : Array Oper) (Q : Exit → Act → World → Prop) : PlanT → (World → Prop) → Act → World → Prop
  | .done, _, a, w => Q .normal a w
  | .q i rest, S, a, w => ∀ o, ops[i]? = some o → 
    (Region.wanted o (yielded ops a.tmps) = true ∧ ∃ v, (∀ x, S x → (execOp a.eval o).run P x = .ok (.value v) x) ∧ wpT P ops Q rest S (a.put o.dst v) w) ∨
    (Region.wanted o (yielded ops a.tmps) = false ∧ wpT P ops Q rest S (a.put o.dst undef) w)
  | .l i rest, S, a, w => ∀ o, ops[i]? = some o → 
    (Region.wanted o (yielded ops a.tmps) = true ∧ o.wp P a w (fun a' w' => ∃ S' : World → Prop, S' w' ∧ (∀ x, S' x → S x) ∧ wpT P ops Q rest S' a' w') Q) ∨
    (Region.wanted o (yielded ops a.tmps) = false ∧ wpT P ops Q rest S (a.put o.dst undef) w)
  | .two i j r1 r2, S, a, w =>
    (∀ o, ops[i]? = some o → (Region.wanted o (yielded ops a.tmps) = true ∧ o.wp P a w (fun a' w' => ∃ S' : World → Prop, S' w' ∧ (∀ x, S' x → S x) ∧ wpT P ops Q r1 S' a' w') Q)) ∧
    (∀ o, ops[j]? = some o → (Region.wanted o (yielded ops a.tmps) = true ∧ o.wp P a w (fun a' w' => ∃ S' : World → Prop, S' w' ∧ (∀ x, S' x → S x) ∧ wpT P ops Q r2 S' a' w') Q))
def planOKT (ops : Array Oper) : PlanT → Array Bool → Bool
  | .done, listed => (Region.ready .any ops listed).isEmpty
  | .q i rest, listed => (Region.ready .any ops listed).contains i && Region.free .any ops listed i && (ops[i]?).isSome && planOKT ops rest (listed.setIfInBounds i true)
  | .l i rest, listed => decide (Region.ready .any ops listed = [i]) && (ops[i]?).isSome && planOKT ops rest (listed.setIfInBounds i true)
  | .two i j r1 r2, listed => decide (Region.ready .any ops listed = [i, j]) && (ops[i]?).isSome && (ops[j]?).isSome && planOKT ops r1 (listed.setIfInBounds i true) && planOKT ops r2 (listed.setIfInBounds j true)
theorem wpT_sound (hs : Region.noSelect ops = true) (hQ : ∀ c a d v w, Q (.panic c) (Act.put a d v) w → Q (.panic c) a w) :
    ∀ (plan : PlanT) (listed : Array Bool) (S : World → Prop) (a : Act) (w : World), plan.even = true → planOKT ops plan listed = true → S w → wpT P ops Q plan S a w → wpAnyH P .any ops Q S plan.depth listed a w := by
  intro plan
  induction plan with
  | done =>
    intro listed S a w _ hp _ h
    exact wpAnyH_done (by simpa [planOKT] using hp) h 0
  | q i r ih =>
    intro listed S a w he hp hS h
    simp only [planOKT, Bool.and_eq_true] at hp
    obtain ⟨⟨⟨h1, h2⟩, h3⟩, h4⟩ := hp
    obtain ⟨o, ho⟩ := Option.isSome_iff_exists.1 h3
    rcases h o ho with ⟨hw, v, hv, hk⟩ | ⟨hw, hk⟩
    · exact wpAnyH_take ho hs h2 h1 (fun c a w => hQ c a _ _ w) (.inl ⟨hw, hv⟩) hS (ih _ _ _ _ he h4 hS hk)
    · exact wpAnyH_take ho hs h2 h1 (fun c a w => hQ c a _ _ w) (.inr ⟨hw, rfl⟩) hS (ih _ _ _ _ he h4 hS hk)
  | l i r ih =>
    intro listed S a w he hp hS h
    simp only [planOKT, Bool.and_eq_true, decide_eq_true_eq] at hp
    obtain ⟨⟨h1, h3⟩, h4⟩ := hp
    obtain ⟨o, ho⟩ := Option.isSome_iff_exists.1 h3
    refine wpAnyH_all h1 (by simp) fun j hj => ?_
    obtain rfl : j = i := by simpa using hj
    unfold wpOp
    simp only [ho]
    rcases h o ho with ⟨hw, hk⟩ | ⟨hw, hk⟩
    · rw [if_pos hw]
      refine .inl (Oper.wp_mono ?_ hk)
      rintro a' w' ⟨S', h5, h6, h7⟩
      exact ⟨h6 _ h5, wpAnyH_weaken h6 _ _ _ _ (ih _ _ _ _ he h4 h5 h7)⟩
    · rw [hw]
      exact ⟨hS, ih _ _ _ _ he h4 hS hk⟩
  | two i j r1 r2 ih1 ih2 =>
    intro listed S a w he hp hS h
    simp only [planOKT, Bool.and_eq_true, decide_eq_true_eq] at hp
    obtain ⟨⟨⟨⟨h1, h3⟩, h3'⟩, h4⟩, h4'⟩ := hp
    simp only [PlanT.even, Bool.and_eq_true, decide_eq_true_eq] at he
    obtain ⟨⟨he1, he2⟩, hd⟩ := he
    obtain ⟨o, ho⟩ := Option.isSome_iff_exists.1 h3
    obtain ⟨o', ho'⟩ := Option.isSome_iff_exists.1 h3'
    refine wpAnyH_all h1 (by simp) fun x hx => ?_
    have hx : x = i ∨ x = j := by simpa using hx
    rcases hx with rfl | rfl
    · obtain ⟨hw, hk⟩ := h.1 o ho
      unfold wpOp
      simp only [ho]
      rw [if_pos hw]
      refine .inl (Oper.wp_mono ?_ hk)
      rintro a' w' ⟨S', h5, h6, h7⟩
      exact ⟨h6 _ h5, wpAnyH_weaken h6 _ _ _ _ (ih1 _ _ _ _ he1 h4 h5 h7)⟩
    · obtain ⟨hw, hk⟩ := h.2 o' ho'
      unfold wpOp
      simp only [ho']
      rw [if_pos hw]
      refine .inl (Oper.wp_mono ?_ hk)
      rintro a' w' ⟨S', h5, h6, h7⟩
      have := ih2 _ _ _ _ he2 h4' h5 h7
      rw [← hd] at this
      exact ⟨h6 _ h5, wpAnyH_weaken h6 _ _ _ _ this⟩
theorem wp_region_planT {id : Nat} {a : Act} {w : World} (plan : PlanT) (S : World → Prop) (hm : P.follows .mixedOrders = true) (hs : Region.noSelect ops = true) (hp : planOKT ops plan (Array.replicate ops.size false) = true) (he : plan.even = true) (hl : plan.depth = ops.size)
    (hQ : ∀ c a d v w, Q (.panic c) (Act.put a d v) w → Q (.panic c) a w) (hS : S w.drew) (h : wpT P ops Q plan S a w.drew) : (Code.region id ops true).wp P Q a w :=
  wp_region_held (S := S) hm (by have := wpT_sound hs hQ plan _ S a w.drew he hp hS h; rwa [hl] at this)
theorem wpT_q {i : Nat} {o : Oper} {rest : PlanT} {S : World → Prop} {a : Act} {w : World} (ho : ops[i]? = some o) (v : Value) (hw : Region.wanted o (yielded ops a.tmps) = true) (h : ∀ x, S x → (execOp a.eval o).run P x = .ok (.value v) x)
    (k : wpT P ops Q rest S (a.put o.dst v) w) : wpT P ops Q (.q i rest) S a w := fun o' ho' => by
  rw [ho] at ho'
  cases ho'
  exact .inl ⟨hw, v, h, k⟩
theorem wpT_skip {i : Nat} {o : Oper} {rest : PlanT} {S : World → Prop} {a : Act} {w : World} (ho : ops[i]? = some o) (hw : Region.wanted o (yielded ops a.tmps) = false)
    (k : wpT P ops Q rest S (a.put o.dst undef) w) : wpT P ops Q (.q i rest) S a w := fun o' ho' => by
  rw [ho] at ho'
  cases ho'
  exact .inr ⟨hw, k⟩
theorem wpT_l {i : Nat} {o : Oper} {rest : PlanT} {S : World → Prop} {a : Act} {w : World} (ho : ops[i]? = some o) (hw : Region.wanted o (yielded ops a.tmps) = true)
    (h : ∀ K : Act → World → Prop, (∀ a' w' (S' : World → Prop), S' w' → (∀ x, S' x → S x) → wpT P ops Q rest S' a' w' → K a' w') → o.wp P a w K Q) : wpT P ops Q (.l i rest) S a w := fun o' ho' => by
  rw [ho] at ho'
  cases ho'
  exact .inl ⟨hw, h _ fun _ _ S' h1 h2 h3 => ⟨S', h1, h2, h3⟩⟩
theorem wpT_two {i j : Nat} {o1 o2 : Oper} {r1 r2 : PlanT} {S : World → Prop} {a : Act} {w : World} (ho1 : ops[i]? = some o1) (ho2 : ops[j]? = some o2) (hw1 : Region.wanted o1 (yielded ops a.tmps) = true) (hw2 : Region.wanted o2 (yielded ops a.tmps) = true)
    (h1 : ∀ K : Act → World → Prop, (∀ a' w' (S' : World → Prop), S' w' → (∀ x, S' x → S x) → wpT P ops Q r1 S' a' w' → K a' w') → o1.wp P a w K Q)
    (h2 : ∀ K : Act → World → Prop, (∀ a' w' (S' : World → Prop), S' w' → (∀ x, S' x → S x) → wpT P ops Q r2 S' a' w' → K a' w') → o2.wp P a w K Q) : wpT P ops Q (.two i j r1 r2) S a w := by
  refine ⟨fun o ho => ?_, fun o ho => ?_⟩
  · rw [ho1] at ho
    cases ho
    exact ⟨hw1, h1 _ fun _ _ S' h1 h2 h3 => ⟨S', h1, h2, h3⟩⟩
  · rw [ho2] at ho
    cases ho
    exact ⟨hw2, h2 _ fun _ _ S' h1 h2 h3 => ⟨S', h1, h2, h3⟩⟩
theorem wpT_done {S : World → Prop} {a : Act} {w : World} (h : Q .normal a w) : wpT P ops Q .done S a w := h
end
/-- A store of a whole array over a block, as a step. -/
theorem wp_storeRow {P : Program} {w : World} {o : Oper} {a : Act} {K : Act → World → Prop} {Q : Exit → Act → World → Prop} {ty : TypeId} {x y : Operand} (ho : o.op = .store ty x y) (g : Nat) (T : TypeId) (cs cs' : Array Value) {n : Nat}
    (hi : (P.info? ty).map (·.size) = some n) (hB : Blk w g T cs) (hs : cs.size = n) (hs' : cs'.size = n) (h1 : ∀ v ∈ cs'.toList, v.oneCell' = true)
    (hx : a.eval x = .pointer (some ⟨g, 0, none⟩)) (hy : a.eval y = .agg cs') (h : K (a.put o.dst undef) (w.setRow g cs')) : o.wp P a w K Q := by
  have hst := run_storeCells_at P g 0 T cs'.toList 0 cs w hB (by simp [hs, hs']) h1
  have he : (cs.toList.take (0 + 0) ++ cs'.toList ++ cs.toList.drop (0 + 0 + cs'.toList.length)).toArray = cs' := by
    rw [List.take_zero, List.nil_append, List.drop_of_length_le (by simp [hs, hs']), List.append_nil, Array.toArray_toList]
  rw [he] at hst
  have hr : (storeVar ty ⟨g, 0, none⟩ (.agg cs')).run P w = .ok () (w.setRow g cs') := by
    cases hq : P.info? ty with
    | none => simp [hq] at hi
    | some i =>
      have : i.size = n := by simp [hq] at hi; omega
      simp [storeVar, sizeOf, typeInfo, hq, Value.cells, hs', this, hst]
  unfold Oper.wp execOp
  simp only [ho, hx, hy, Instr.storeAt, Instr.sureAddr, Sem.run_bind, Sem.run_pure, Result.andThen_ok, hr]
  exact h
end Go.Rat
