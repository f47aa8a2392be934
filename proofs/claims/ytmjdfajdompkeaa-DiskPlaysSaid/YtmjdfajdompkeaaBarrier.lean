/- A statement whose order Go leaves open, with a call for which its loads must wait to be done: what reads is known up to that call; behind it the region goes on with another knowledge. -/
import Derived.Test.YtmjdfajdompkeaaRegion
namespace Go.Rat
open Go Go.RowKit
section
variable {P : Program} {ops : Array Oper} {Q : Exit → Act → World → Prop} {S S2 : World → Prop} {b : Nat} {md : Region.Mode}
/-- Whatever order is picked; S is held as long as operation b has not come up. -/
def wpAnyB (P : Program) (md : Region.Mode) (ops : Array Oper) (Q : Exit → Act → World → Prop) (S : World → Prop) (b : Nat) : Nat → Array Bool → Act → World → Prop
  | 0, listed, a, w => Region.ready md ops listed = [] ∧ Q .normal a w
  | fuel + 1, listed, a, w =>
    (Region.ready md ops listed = [] → Q .normal a w) ∧
    ∀ i ∈ Region.ready md ops listed, wpOp P ops Q i (fun a' w' => ((listed.setIfInBounds i true).getD b true = false → S w') ∧ wpAnyB P md ops Q S b fuel (listed.setIfInBounds i true) a' w') a w
theorem wpAny_of_B : ∀ (fuel : Nat) (listed : Array Bool) (a : Act) (w : World), wpAnyB P md ops Q S b fuel listed a w → wpAny P md ops Q fuel listed a w
  | 0, _, _, _, h => h
  | fuel + 1, _, _, _, h => ⟨h.1, fun i hi => wpOp_mono (fun a' w' h' => wpAny_of_B fuel _ a' w' h'.2) (h.2 i hi)⟩
theorem getD_keep {listed : Array Bool} (i : Nat) (h : listed.getD b true = true) : (listed.setIfInBounds i true).getD b true = true := by
  by_cases hib : i = b
  · subst hib
    rcases Nat.lt_or_ge i listed.size with hl | hl
    · simp [hl]
    · simp [hl]
  · rw [getD_set_ne true hib]; exact h
/-- Behind b another knowledge serves. -/
theorem wpAnyB_of_H : ∀ (fuel : Nat) (listed : Array Bool) (a : Act) (w : World), listed.getD b true = true → wpAnyH P md ops Q S2 fuel listed a w → wpAnyB P md ops Q S b fuel listed a w
  | 0, _, _, _, _, h => h
  | fuel + 1, listed, _, _, hb, h => ⟨h.1, fun i hi => wpOp_mono (fun a' w' h' => ⟨fun hf => (by rw [getD_keep i hb] at hf; cases hf), wpAnyB_of_H fuel _ a' w' (getD_keep i hb) h'.2⟩) (h.2 i hi)⟩
theorem trueH : ∀ (fuel : Nat) (listed : Array Bool) (a : Act) (w : World), wpAnyB P md ops Q S b fuel listed a w → wpAnyH P md ops Q (fun _ => True) fuel listed a w
  | 0, _, _, _, h => h
  | fuel + 1, _, _, _, h => ⟨h.1, fun i hi => wpOp_mono (fun a' w' h' => ⟨trivial, trueH fuel _ a' w' h'.2⟩) (h.2 i hi)⟩
theorem wpAnyB_first {S1 : World → Prop} {i : Nat} {oi : Oper} {v : Value} (hi : ops[i]? = some oi) (hsel : ∀ (j : Nat) (o : Oper) cs b, ops[j]? = some o → o.op ≠ .select cs b)
    (hQ : ∀ c a w, Q (.panic c) (a.put oi.dst v) w → Q (.panic c) a w) (hib : i ≠ b)
    (hS1 : (∀ w, S1 w) ∨ ((∀ w, S w → S1 w) ∧ ∃ ob, ops[b]? = some ob ∧ ∃ e ∈ ob.after, Region.binds md e = true ∧ e.on = i)) :
    ∀ (fuel : Nat) (listed : Array Bool) (a : Act) (w : World),
      (∀ j oj, ops[j]? = some oj → j ≠ i → listed.getD j true = false → (∀ e ∈ oj.after, Region.binds md e = true → e.on ≠ i) → oi.apart ops oj = true) →
      i ∈ Region.ready md ops listed → YieldsIf P ops S1 oi v a → S w → listed.getD b true = false →
      wpAnyB P md ops Q S b fuel (listed.setIfInBounds i true) (a.put oi.dst v) w → wpAnyB P md ops Q S b (fuel + 1) listed a w := by
  have hsw : ∀ w, S w → S1 w := fun w hw => hS1.elim (fun h => h w) (fun h => h.1 w hw)
  intro fuel
  induction fuel with
  | zero =>
    intro listed a w _ hr hy hS _ H
    refine ⟨fun h => (by rw [h] at hr; cases hr), fun j hj => ?_⟩
    by_cases hji : j = i
    · subst hji; exact hy.wpOp hi (hsw _ hS) ⟨fun _ => hS, H⟩
    · have := ready_mono hj hji
      rw [H.1] at this
      cases this
  | succ fuel ih =>
    intro listed a w hfree hr hy hS hb H
    refine ⟨fun h => (by rw [h] at hr; cases hr), fun j hj => ?_⟩
    by_cases hji : j = i
    · subst hji; exact hy.wpOp hi (hsw _ hS) ⟨fun _ => hS, H⟩
    · have h1 := H.2 j (ready_mono hj hji)
      obtain ⟨hjun, oj, hoj, hall⟩ := mem_ready.1 hj
      have hnot : ∀ e ∈ oj.after, Region.binds md e = true → e.on ≠ i := fun e he hb heq => by
        have h1 := hall e he hb
        have h0 := (mem_ready.1 hr).1
        rw [heq] at h1
        rcases Nat.lt_or_ge i listed.size with h' | h'
        · simp [h'] at h0 h1; rw [h0] at h1; cases h1
        · simp [Array.getElem?_eq_none h'] at h1
      have hfree' : ∀ k ok, ops[k]? = some ok → k ≠ i → (listed.setIfInBounds j true).getD k true = false →
          (∀ e ∈ ok.after, Region.binds md e = true → e.on ≠ i) → oi.apart ops ok = true := fun k ok hk hki hun hno => by
        refine hfree k ok hk hki ?_ hno
        by_cases hjk : j = k
        · subst hjk; exact hjun
        · rw [getD_set_ne true hjk] at hun; exact hun
      have h2 := wpOp_putIf hoj (hfree j oj hoj hji hjun hnot) (fun cs b => hsel i oi cs b hi) (fun cs b => hsel j oj cs b hoj) hQ hy h1
      refine wpOp_mono (fun a' w' h3 => ?_) h2
      obtain ⟨hy', hSx, H3⟩ := h3
      rw [Array.setIfInBounds_comm _ _ (Ne.symm hji)] at H3
      by_cases hjb : j = b
      · subst hjb
        have hjl : (listed.setIfInBounds j true).getD j true = true := by
          rcases Nat.lt_or_ge j listed.size with hl | hl
          · simp [hl]
          · simp [hl]
        rcases hS1 with h | ⟨_, ob, hob, e, he, hbe, heq⟩
        · refine ⟨fun hf => (by rw [hjl] at hf; cases hf), ?_⟩
          have := wpAnyH_first (S := fun _ => True) (md := md) hi hsel hQ fuel (listed.setIfInBounds j true) a' w' hfree' (ready_mono hr (Ne.symm hji)) (by
            rcases hy' with ⟨g1, g2⟩ | g
            · exact .inl ⟨g1, fun w _ => g2 w (h w)⟩
            · exact .inr g) trivial ?_
          · exact wpAnyB_of_H _ _ _ _ hjl this
          · exact trueH fuel _ _ _ H3
        · rw [hob] at hoj
          cases hoj
          exact absurd heq (hnot e he hbe)
      · have hbl : (listed.setIfInBounds j true).getD b true = false := by rw [getD_set_ne true hjb]; exact hb
        have hSw : S w' := hSx (by rw [getD_set_ne true hjb, getD_set_ne true hib]; exact hb)
        exact ⟨fun _ => hSw, ih (listed.setIfInBounds j true) a' w' hfree' (ready_mono hr (Ne.symm hji)) hy' hSw hbl H3⟩
/-- The walk up to b: (operation, does it need S). -/
def wpQ (P : Program) (ops : Array Oper) (S : World → Prop) (k : Act → World → Prop) : List (Oper × Bool) → Act → World → Prop
  | [], a, w => k a w
  | (o, dep) :: rest, a, w =>
    (Region.wanted o (yielded ops a.tmps) = true ∧ ∃ v, (∀ x, (dep = true → S x) → (execOp a.eval o).run P x = .ok (.value v) x) ∧ wpQ P ops S k rest (a.put o.dst v) w) ∨
    (Region.wanted o (yielded ops a.tmps) = false ∧ wpQ P ops S k rest (a.put o.dst undef) w)
def depsOn (ops : Array Oper) (b i : Nat) : Bool := match ops[b]? with
  | some o => o.after.toList.any fun e => Region.binds .any e && e.on == i
  | none => false
def planB (ops : Array Oper) (b : Nat) (post : List (Nat × Bool)) : List (Nat × Bool) → Array Bool → Bool
  | [], listed => decide (Region.ready .any ops listed = [b]) && (ops[b]?).isSome && planOK ops post (listed.setIfInBounds b true)
  | (i, dep) :: rest, listed => (Region.ready .any ops listed).contains i && Region.free .any ops listed i && (ops[i]?).isSome && (i != b) && !(listed.getD b true) && (!dep || depsOn ops b i) && planB ops b post rest (listed.setIfInBounds i true)
theorem wpQ_sound (hs : Region.noSelect ops = true) (hQ : ∀ c a d v w, Q (.panic c) (Act.put a d v) w → Q (.panic c) a w) {post : List (Nat × Bool)} {ob : Oper} (hob : ops[b]? = some ob) (hbs : b < ops.size) :
    ∀ (pre : List (Nat × Bool)) (listed : Array Bool) (a : Act) (w : World), listed.size = ops.size → planB ops b post pre listed = true → S w →
      wpQ P ops S (fun a w => Region.wanted ob (yielded ops a.tmps) = true ∧ ob.wp P a w (fun a' w' => ∃ S2 : World → Prop, S2 w' ∧ wpS P ops Q (planOps ops post) S2 a' w') Q) (planOps ops pre) a w →
      wpAnyB P .any ops Q S b (pre.length + 1 + post.length) listed a w := by
  intro pre
  induction pre with
  | nil =>
    intro listed a w hsz hp hS h
    simp only [planB, Bool.and_eq_true, decide_eq_true_eq] at hp
    obtain ⟨⟨h1, h2⟩, h3⟩ := hp
    obtain ⟨hw, hk⟩ := h
    rw [List.length_nil, Nat.zero_add, Nat.add_comm]
    have hbl : (listed.setIfInBounds b true).getD b true = true := by simp [hsz, hbs]
    refine ⟨fun h0 => (by rw [h1] at h0; cases h0), fun j hj => ?_⟩
    obtain rfl : j = b := by rw [h1] at hj; simpa using hj
    unfold wpOp
    simp only [hob, hw, if_true]
    refine .inl (Oper.wp_mono ?_ hk)
    rintro a' w' ⟨S2, h5, h7⟩
    exact ⟨fun hf => (by rw [hbl] at hf; cases hf), wpAnyB_of_H _ _ _ _ hbl (wpS_sound hs hQ post _ S2 a' w' h3 h5 h7)⟩
  | cons x pre ih =>
    obtain ⟨i, dep⟩ := x
    intro listed a w hsz hp hS h
    simp only [planB, Bool.and_eq_true, Bool.not_eq_true', bne_iff_ne, Bool.or_eq_true] at hp
    obtain ⟨⟨⟨⟨⟨⟨h1, h2⟩, h3⟩, h4⟩, h5⟩, h6⟩, h7⟩ := hp
    obtain ⟨o, ho⟩ := Option.isSome_iff_exists.1 h3
    simp only [planOps, ho, wpQ] at h
    have hl : ((i, dep) :: pre).length + 1 + post.length = (pre.length + 1 + post.length) + 1 := by simp only [List.length_cons]; omega
    rw [hl]
    have hdep : (∀ w, (fun x => dep = true → S x) w) ∨ ((∀ w, S w → (fun x => dep = true → S x) w) ∧ ∃ ob, ops[b]? = some ob ∧ ∃ e ∈ ob.after, Region.binds .any e = true ∧ e.on = i) := by
      rcases h6 with h6 | h6
      · exact .inl fun w hd => by rw [h6] at hd; cases hd
      · refine .inr ⟨fun w hw _ => hw, ob, hob, ?_⟩
        simp only [depsOn, hob, List.any_eq_true, Bool.and_eq_true, beq_iff_eq] at h6
        obtain ⟨e, he, h8, h9⟩ := h6
        exact ⟨e, by simpa using he, h8, h9⟩
    rcases h with ⟨hw, v, hv, hk⟩ | ⟨hw, hk⟩
    · exact wpAnyB_first (S1 := fun x => dep = true → S x) ho (Region.noSelect_spec hs) (fun c a w => hQ c a _ _ w) h4 hdep _ _ _ _ (Region.free_spec ho h2) (by simpa using h1) (.inl ⟨hw, hv⟩) hS h5 (ih _ _ _ (by simpa using hsz) h7 hS hk)
    · exact wpAnyB_first (S1 := fun x => dep = true → S x) ho (Region.noSelect_spec hs) (fun c a w => hQ c a _ _ w) h4 hdep _ _ _ _ (Region.free_spec ho h2) (by simpa using h1) (.inr ⟨hw, rfl⟩) hS h5 (ih _ _ _ (by simpa using hsz) h7 hS hk)
theorem wp_region_barrier {id : Nat} {a : Act} {w : World} (pre : List (Nat × Bool)) (b : Nat) (post : List (Nat × Bool)) (S : World → Prop) (ob : Oper) (hob : ops[b]? = some ob) (hm : P.follows .mixedOrders = true) (hs : Region.noSelect ops = true)
    (hp : planB ops b post pre (Array.replicate ops.size false) = true) (hl : pre.length + 1 + post.length = ops.size)
    (hQ : ∀ c a d v w, Q (.panic c) (Act.put a d v) w → Q (.panic c) a w) (hS : S w.drew)
    (h : wpQ P ops S (fun a w => Region.wanted ob (yielded ops a.tmps) = true ∧ ob.wp P a w (fun a' w' => ∃ S2 : World → Prop, S2 w' ∧ wpS P ops Q (planOps ops post) S2 a' w') Q) (planOps ops pre) a w.drew) : (Code.region id ops true).wp P Q a w := by
  have hbs : b < ops.size := by
    rcases Nat.lt_or_ge b ops.size with h | h
    · exact h
    · rw [Array.getElem?_eq_none h] at hob; cases hob
  refine wp_region_any hm ?_
  have := wpAny_of_B _ _ _ _ (wpQ_sound (b := b) (post := post) hs hQ hob hbs pre _ a w.drew (by simp) hp hS h)
  rwa [hl] at this
theorem wpQ_q {k : Act → World → Prop} {o : Oper} {dep : Bool} {rest : List (Oper × Bool)} {a : Act} {w : World} (v : Value) (hw : Region.wanted o (yielded ops a.tmps) = true) (h : ∀ x, (dep = true → S x) → (execOp a.eval o).run P x = .ok (.value v) x)
    (hk : wpQ P ops S k rest (a.put o.dst v) w) : wpQ P ops S k ((o, dep) :: rest) a w := .inl ⟨hw, v, h, hk⟩
theorem wpQ_nil {k : Act → World → Prop} {a : Act} {w : World} (h : k a w) : wpQ P ops S k [] a w := h
end
end Go.Rat
