/- A statement whose order Go leaves open, as in Barrier: what some loads read is known up to operation b alone, what the others read is known throughout; single operations that write may stand ahead of b, too. -/
import Derived.Test.YtmjdfajdompkeaaBarrier
namespace Go.Rat
open Go Go.RowKit
section
variable {P : Program} {ops : Array Oper} {Q : Exit → Act → World → Prop} {Sp S S2 : World → Prop} {b : Nat} {md : Region.Mode}
def wpAnyC (P : Program) (md : Region.Mode) (ops : Array Oper) (Q : Exit → Act → World → Prop) (Sp S : World → Prop) (b : Nat) : Nat → Array Bool → Act → World → Prop
  | 0, listed, a, w => Region.ready md ops listed = [] ∧ Q .normal a w
  | fuel + 1, listed, a, w =>
    (Region.ready md ops listed = [] → Q .normal a w) ∧
    ∀ i ∈ Region.ready md ops listed, wpOp P ops Q i (fun a' w' => (Sp w' ∧ ((listed.setIfInBounds i true).getD b true = false → S w')) ∧ wpAnyC P md ops Q Sp S b fuel (listed.setIfInBounds i true) a' w') a w
theorem wpAny_of_C : ∀ (fuel : Nat) (listed : Array Bool) (a : Act) (w : World), wpAnyC P md ops Q Sp S b fuel listed a w → wpAny P md ops Q fuel listed a w
  | 0, _, _, _, h => h
  | fuel + 1, _, _, _, h => ⟨h.1, fun i hi => wpOp_mono (fun a' w' h' => wpAny_of_C fuel _ a' w' h'.2) (h.2 i hi)⟩
theorem wpAnyC_of_H (h2 : ∀ x, S2 x → Sp x) : ∀ (fuel : Nat) (listed : Array Bool) (a : Act) (w : World), listed.getD b true = true → wpAnyH P md ops Q S2 fuel listed a w → wpAnyC P md ops Q Sp S b fuel listed a w
  | 0, _, _, _, _, h => h
  | fuel + 1, listed, _, _, hb, h => ⟨h.1, fun i hi => wpOp_mono (fun a' w' h' => ⟨⟨h2 _ h'.1, fun hf => (by rw [getD_keep i hb] at hf; cases hf)⟩, wpAnyC_of_H h2 fuel _ a' w' (getD_keep i hb) h'.2⟩) (h.2 i hi)⟩
theorem persH : ∀ (fuel : Nat) (listed : Array Bool) (a : Act) (w : World), wpAnyC P md ops Q Sp S b fuel listed a w → wpAnyH P md ops Q Sp fuel listed a w
  | 0, _, _, _, h => h
  | fuel + 1, _, _, _, h => ⟨h.1, fun i hi => wpOp_mono (fun a' w' h' => ⟨h'.1.1, persH fuel _ a' w' h'.2⟩) (h.2 i hi)⟩
theorem wpAnyC_first {S1 : World → Prop} {i : Nat} {oi : Oper} {v : Value} (hi : ops[i]? = some oi) (hsel : ∀ (j : Nat) (o : Oper) cs b, ops[j]? = some o → o.op ≠ .select cs b)
    (hQ : ∀ c a w, Q (.panic c) (a.put oi.dst v) w → Q (.panic c) a w) (hib : i ≠ b)
    (hS1 : (∀ w, Sp w → S1 w) ∨ ((∀ w, S w → S1 w) ∧ ∃ ob, ops[b]? = some ob ∧ ∃ e ∈ ob.after, Region.binds md e = true ∧ e.on = i)) :
    ∀ (fuel : Nat) (listed : Array Bool) (a : Act) (w : World),
      (∀ j oj, ops[j]? = some oj → j ≠ i → listed.getD j true = false → (∀ e ∈ oj.after, Region.binds md e = true → e.on ≠ i) → oi.apart ops oj = true) →
      i ∈ Region.ready md ops listed → YieldsIf P ops S1 oi v a → Sp w → S w → listed.getD b true = false →
      wpAnyC P md ops Q Sp S b fuel (listed.setIfInBounds i true) (a.put oi.dst v) w → wpAnyC P md ops Q Sp S b (fuel + 1) listed a w := by
  have hsw : ∀ w, Sp w → S w → S1 w := fun w hp hw => hS1.elim (fun h => h w hp) (fun h => h.1 w hw)
  intro fuel
  induction fuel with
  | zero =>
    intro listed a w _ hr hy hp hS _ H
    refine ⟨fun h => (by rw [h] at hr; cases hr), fun j hj => ?_⟩
    by_cases hji : j = i
    · subst hji; exact hy.wpOp hi (hsw _ hp hS) ⟨⟨hp, fun _ => hS⟩, H⟩
    · have := ready_mono hj hji
      rw [H.1] at this
      cases this
  | succ fuel ih =>
    intro listed a w hfree hr hy hp hS hb H
    refine ⟨fun h => (by rw [h] at hr; cases hr), fun j hj => ?_⟩
    by_cases hji : j = i
    · subst hji; exact hy.wpOp hi (hsw _ hp hS) ⟨⟨hp, fun _ => hS⟩, H⟩
    · have h1 := H.2 j (ready_mono hj hji)
      obtain ⟨hjun, oj, hoj, hall⟩ := mem_ready.1 hj
      have hnot : ∀ e ∈ oj.after, Region.binds md e = true → e.on ≠ i := fun e he hb heq => by
        have h1 := hall e he hb
        have h0 := (mem_ready.1 hr).1
        rw [heq] at h1
        rcases Nat.lt_or_ge i listed.size with h' | h'
        · simp [h'] at h0 h1; rw [h0] at h1; cases h1
        · simp [Array.getElem?_eq_none h'] at h1
      have hfree' : ∀ k ok, ops[k]? = some ok → k ≠ i → (listed.setIfInBounds j true).getD k true = false →
          (∀ e ∈ ok.after, Region.binds md e = true → e.on ≠ i) → oi.apart ops ok = true := fun k ok hk hki hun hno => by
        refine hfree k ok hk hki ?_ hno
        by_cases hjk : j = k
        · subst hjk; exact hjun
        · rw [getD_set_ne true hjk] at hun; exact hun
      have h2 := wpOp_putIf hoj (hfree j oj hoj hji hjun hnot) (fun cs b => hsel i oi cs b hi) (fun cs b => hsel j oj cs b hoj) hQ hy h1
      refine wpOp_mono (fun a' w' h3 => ?_) h2
      obtain ⟨hy', ⟨hpx, hSx⟩, H3⟩ := h3
      rw [Array.setIfInBounds_comm _ _ (Ne.symm hji)] at H3
      by_cases hjb : j = b
      · subst hjb
        have hjl : (listed.setIfInBounds j true).getD j true = true := by
          rcases Nat.lt_or_ge j listed.size with hl | hl
          · simp [hl]
          · simp [hl]
        rcases hS1 with h | ⟨_, ob, hob, e, he, hbe, heq⟩
        · refine ⟨⟨hpx, fun hf => (by rw [hjl] at hf; cases hf)⟩, ?_⟩
          have := wpAnyH_first (S := Sp) (md := md) hi hsel hQ fuel (listed.setIfInBounds j true) a' w' hfree' (ready_mono hr (Ne.symm hji)) (by
            rcases hy' with ⟨g1, g2⟩ | g
            · exact .inl ⟨g1, fun w hw => g2 w (h w hw)⟩
            · exact .inr g) hpx ?_
          · exact wpAnyC_of_H (fun _ h => h) _ _ _ _ hjl this
          · exact persH fuel _ _ _ H3
        · rw [hob] at hoj
          cases hoj
          exact absurd heq (hnot e he hbe)
      · have hbl : (listed.setIfInBounds j true).getD b true = false := by rw [getD_set_ne true hjb]; exact hb
        have hSw : S w' := hSx (by rw [getD_set_ne true hjb, getD_set_ne true hib]; exact hb)
        exact ⟨⟨hpx, fun _ => hSw⟩, ih (listed.setIfInBounds j true) a' w' hfree' (ready_mono hr (Ne.symm hji)) hy' hpx hSw hbl H3⟩
/-- The walk up to b: 0 reads what holds throughout, 1 reads what holds up to b, 2 is a step of its own. -/
def wpC (P : Program) (ops : Array Oper) (Q : Exit → Act → World → Prop) (Sp S : World → Prop) (k : Act → World → Prop) : List (Oper × Nat) → Act → World → Prop
  | [], a, w => k a w
  | (o, 0) :: rest, a, w =>
    (Region.wanted o (yielded ops a.tmps) = true ∧ ∃ v, (∀ x, Sp x → (execOp a.eval o).run P x = .ok (.value v) x) ∧ wpC P ops Q Sp S k rest (a.put o.dst v) w) ∨
    (Region.wanted o (yielded ops a.tmps) = false ∧ wpC P ops Q Sp S k rest (a.put o.dst undef) w)
  | (o, 1) :: rest, a, w =>
    (Region.wanted o (yielded ops a.tmps) = true ∧ ∃ v, (∀ x, S x → (execOp a.eval o).run P x = .ok (.value v) x) ∧ wpC P ops Q Sp S k rest (a.put o.dst v) w) ∨
    (Region.wanted o (yielded ops a.tmps) = false ∧ wpC P ops Q Sp S k rest (a.put o.dst undef) w)
  | (o, _ + 2) :: rest, a, w =>
    Region.wanted o (yielded ops a.tmps) = true ∧ o.wp P a w (fun a' w' => Sp w' ∧ S w' ∧ wpC P ops Q Sp S k rest a' w') Q
def planOpsN (ops : Array Oper) : List (Nat × Nat) → List (Oper × Nat)
  | [] => []
  | (i, q) :: rest => match ops[i]? with
    | some o => (o, q) :: planOpsN ops rest
    | none => planOpsN ops rest
def planC (ops : Array Oper) (b : Nat) (post : List (Nat × Bool)) : List (Nat × Nat) → Array Bool → Bool
  | [], listed => decide (Region.ready .any ops listed = [b]) && (ops[b]?).isSome && planOK ops post (listed.setIfInBounds b true)
  | (i, 0) :: rest, listed => (Region.ready .any ops listed).contains i && Region.free .any ops listed i && (ops[i]?).isSome && (i != b) && !(listed.getD b true) && planC ops b post rest (listed.setIfInBounds i true)
  | (i, 1) :: rest, listed => (Region.ready .any ops listed).contains i && Region.free .any ops listed i && (ops[i]?).isSome && (i != b) && !(listed.getD b true) && depsOn ops b i && planC ops b post rest (listed.setIfInBounds i true)
  | (i, _ + 2) :: rest, listed => decide (Region.ready .any ops listed = [i]) && (ops[i]?).isSome && (i != b) && !(listed.getD b true) && planC ops b post rest (listed.setIfInBounds i true)
theorem wpC_sound (hs : Region.noSelect ops = true) (hQ : ∀ c a d v w, Q (.panic c) (Act.put a d v) w → Q (.panic c) a w) {post : List (Nat × Bool)} {ob : Oper} (hob : ops[b]? = some ob) (hbs : b < ops.size) :
    ∀ (pre : List (Nat × Nat)) (listed : Array Bool) (a : Act) (w : World), listed.size = ops.size → planC ops b post pre listed = true → Sp w → S w →
      wpC P ops Q Sp S (fun a w => Region.wanted ob (yielded ops a.tmps) = true ∧ ob.wp P a w (fun a' w' => ∃ S2 : World → Prop, S2 w' ∧ (∀ x, S2 x → Sp x) ∧ wpS P ops Q (planOps ops post) S2 a' w') Q) (planOpsN ops pre) a w →
      wpAnyC P .any ops Q Sp S b (pre.length + 1 + post.length) listed a w := by
  intro pre
  induction pre with
  | nil =>
    intro listed a w hsz hp _ hS h
    simp only [planC, Bool.and_eq_true, decide_eq_true_eq] at hp
    obtain ⟨⟨h1, h2⟩, h3⟩ := hp
    obtain ⟨hw, hk⟩ := h
    rw [List.length_nil, Nat.zero_add, Nat.add_comm]
    have hbl : (listed.setIfInBounds b true).getD b true = true := by simp [hsz, hbs]
    refine ⟨fun h0 => (by rw [h1] at h0; cases h0), fun j hj => ?_⟩
    obtain rfl : j = b := by rw [h1] at hj; simpa using hj
    unfold wpOp
    simp only [hob, hw, if_true]
    refine .inl (Oper.wp_mono ?_ hk)
    rintro a' w' ⟨S2, h5, h6, h7⟩
    exact ⟨⟨h6 _ h5, fun hf => (by rw [hbl] at hf; cases hf)⟩, wpAnyC_of_H h6 _ _ _ _ hbl (wpS_sound hs hQ post _ S2 a' w' h3 h5 h7)⟩
  | cons x pre ih =>
    obtain ⟨i, kind⟩ := x
    intro listed a w hsz hp hP hS h
    have hl : ((i, kind) :: pre).length + 1 + post.length = (pre.length + 1 + post.length) + 1 := by simp only [List.length_cons]; omega
    rw [hl]
    match kind with
    | 0 =>
      simp only [planC, Bool.and_eq_true, Bool.not_eq_true', bne_iff_ne] at hp
      obtain ⟨⟨⟨⟨⟨h1, h2⟩, h3⟩, h4⟩, h5⟩, h7⟩ := hp
      obtain ⟨o, ho⟩ := Option.isSome_iff_exists.1 h3
      simp only [planOpsN, ho, wpC] at h
      rcases h with ⟨hw, v, hv, hk⟩ | ⟨hw, hk⟩
      · exact wpAnyC_first (S1 := Sp) ho (Region.noSelect_spec hs) (fun c a w => hQ c a _ _ w) h4 (.inl fun _ h => h) _ _ _ _ (Region.free_spec ho h2) (by simpa using h1) (.inl ⟨hw, hv⟩) hP hS h5 (ih _ _ _ (by simpa using hsz) h7 hP hS hk)
      · exact wpAnyC_first (S1 := Sp) ho (Region.noSelect_spec hs) (fun c a w => hQ c a _ _ w) h4 (.inl fun _ h => h) _ _ _ _ (Region.free_spec ho h2) (by simpa using h1) (.inr ⟨hw, rfl⟩) hP hS h5 (ih _ _ _ (by simpa using hsz) h7 hP hS hk)
    | 1 =>
      simp only [planC, Bool.and_eq_true, Bool.not_eq_true', bne_iff_ne] at hp
      obtain ⟨⟨⟨⟨⟨⟨h1, h2⟩, h3⟩, h4⟩, h5⟩, h6⟩, h7⟩ := hp
      obtain ⟨o, ho⟩ := Option.isSome_iff_exists.1 h3
      simp only [planOpsN, ho, wpC] at h
      have hdep : (∀ w, Sp w → S w) ∨ ((∀ w, S w → S w) ∧ ∃ ob, ops[b]? = some ob ∧ ∃ e ∈ ob.after, Region.binds .any e = true ∧ e.on = i) := by
        refine .inr ⟨fun w hw => hw, ob, hob, ?_⟩
        simp only [depsOn, hob, List.any_eq_true, Bool.and_eq_true, beq_iff_eq] at h6
        obtain ⟨e, he, h8, h9⟩ := h6
        exact ⟨e, by simpa using he, h8, h9⟩
      rcases h with ⟨hw, v, hv, hk⟩ | ⟨hw, hk⟩
      · exact wpAnyC_first (S1 := S) ho (Region.noSelect_spec hs) (fun c a w => hQ c a _ _ w) h4 hdep _ _ _ _ (Region.free_spec ho h2) (by simpa using h1) (.inl ⟨hw, hv⟩) hP hS h5 (ih _ _ _ (by simpa using hsz) h7 hP hS hk)
      · exact wpAnyC_first (S1 := S) ho (Region.noSelect_spec hs) (fun c a w => hQ c a _ _ w) h4 hdep _ _ _ _ (Region.free_spec ho h2) (by simpa using h1) (.inr ⟨hw, rfl⟩) hP hS h5 (ih _ _ _ (by simpa using hsz) h7 hP hS hk)
    | q + 2 =>
      simp only [planC, Bool.and_eq_true, Bool.not_eq_true', bne_iff_ne, decide_eq_true_eq] at hp
      obtain ⟨⟨⟨⟨h1, h3⟩, h4⟩, h5⟩, h7⟩ := hp
      obtain ⟨o, ho⟩ := Option.isSome_iff_exists.1 h3
      simp only [planOpsN, ho, wpC] at h
      obtain ⟨hw, hk⟩ := h
      refine ⟨fun h0 => (by rw [h1] at h0; cases h0), fun j hj => ?_⟩
      obtain rfl : j = i := by rw [h1] at hj; simpa using hj
      unfold wpOp
      simp only [ho, hw, if_true]
      refine .inl (Oper.wp_mono ?_ hk)
      rintro a' w' ⟨g1, g2, g3⟩
      exact ⟨⟨g1, fun _ => g2⟩, ih _ _ _ (by simpa using hsz) h7 g1 g2 g3⟩
theorem wp_region_barb {id : Nat} {a : Act} {w : World} (pre : List (Nat × Nat)) (b : Nat) (post : List (Nat × Bool)) (Sp S : World → Prop) (ob : Oper) (hob : ops[b]? = some ob) (hm : P.follows .mixedOrders = true) (hs : Region.noSelect ops = true)
    (hp : planC ops b post pre (Array.replicate ops.size false) = true) (hl : pre.length + 1 + post.length = ops.size)
    (hQ : ∀ c a d v w, Q (.panic c) (Act.put a d v) w → Q (.panic c) a w) (hP : Sp w.drew) (hS : S w.drew)
    (h : wpC P ops Q Sp S (fun a w => Region.wanted ob (yielded ops a.tmps) = true ∧ ob.wp P a w (fun a' w' => ∃ S2 : World → Prop, S2 w' ∧ (∀ x, S2 x → Sp x) ∧ wpS P ops Q (planOps ops post) S2 a' w') Q) (planOpsN ops pre) a w.drew) : (Code.region id ops true).wp P Q a w := by
  have hbs : b < ops.size := by
    rcases Nat.lt_or_ge b ops.size with h | h
    · exact h
    · rw [Array.getElem?_eq_none h] at hob; cases hob
  refine wp_region_any hm ?_
  have := wpAny_of_C _ _ _ _ (wpC_sound (b := b) (post := post) hs hQ hob hbs pre _ a w.drew (by simp) hp hP hS h)
  rwa [hl] at this
theorem wpC_0 {k : Act → World → Prop} {o : Oper} {rest : List (Oper × Nat)} {a : Act} {w : World} (v : Value) (hw : Region.wanted o (yielded ops a.tmps) = true) (h : ∀ x, Sp x → (execOp a.eval o).run P x = .ok (.value v) x)
    (hk : wpC P ops Q Sp S k rest (a.put o.dst v) w) : wpC P ops Q Sp S k ((o, 0) :: rest) a w := .inl ⟨hw, v, h, hk⟩
theorem wpC_1 {k : Act → World → Prop} {o : Oper} {rest : List (Oper × Nat)} {a : Act} {w : World} (v : Value) (hw : Region.wanted o (yielded ops a.tmps) = true) (h : ∀ x, S x → (execOp a.eval o).run P x = .ok (.value v) x)
    (hk : wpC P ops Q Sp S k rest (a.put o.dst v) w) : wpC P ops Q Sp S k ((o, 1) :: rest) a w := .inl ⟨hw, v, h, hk⟩
theorem wpC_2 {k : Act → World → Prop} {o : Oper} {rest : List (Oper × Nat)} {a : Act} {w : World} (hw : Region.wanted o (yielded ops a.tmps) = true)
    (h : ∀ K : Act → World → Prop, (∀ a' w', Sp w' → S w' → wpC P ops Q Sp S k rest a' w' → K a' w') → o.wp P a w K Q) : wpC P ops Q Sp S k ((o, 2) :: rest) a w :=
  ⟨hw, h _ fun _ _ h1 h2 h3 => ⟨h1, h2, h3⟩⟩
theorem wpC_nil {k : Act → World → Prop} {a : Act} {w : World} (h : k a w) : wpC P ops Q Sp S k [] a w := h
end
end Go.Rat
