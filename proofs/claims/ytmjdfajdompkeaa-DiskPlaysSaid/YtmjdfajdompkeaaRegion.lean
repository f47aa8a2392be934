/- A statement whose order Go leaves open: where its calls, stores and new blocks wait for one another, one walk serves for every order: what only reads is taken as soon as it may come up, and must read the same in every world that can follow. -/
import Derived.OrdersHeld
import Derived.WalkKit
import Derived.WalkLawsBesides
import Derived.Deep.Draws
namespace Go.Rat
open Go Go.RowKit
section
variable {P : Program} {ops : Array Oper} {Q : Exit → Act → World → Prop}

/-- The walk along a plan: (operation, does it only read). S: what is known of every world from here on. -/
def wpS (P : Program) (ops : Array Oper) (Q : Exit → Act → World → Prop) : List (Oper × Bool) → (World → Prop) → Act → World → Prop
  | [], _, a, w => Q .normal a w
  | (o, true) :: rest, S, a, w =>
    (Region.wanted o (yielded ops a.tmps) = true ∧ ∃ v, (∀ x, S x → (execOp a.eval o).run P x = .ok (.value v) x) ∧ wpS P ops Q rest S (a.put o.dst v) w) ∨
    (Region.wanted o (yielded ops a.tmps) = false ∧ wpS P ops Q rest S (a.put o.dst undef) w)
  | (o, false) :: rest, S, a, w =>
    (Region.wanted o (yielded ops a.tmps) = true ∧ o.wp P a w (fun a' w' => ∃ S' : World → Prop, S' w' ∧ (∀ x, S' x → S x) ∧ wpS P ops Q rest S' a' w') Q) ∨
    (Region.wanted o (yielded ops a.tmps) = false ∧ wpS P ops Q rest S (a.put o.dst undef) w)

def planOK (ops : Array Oper) : List (Nat × Bool) → Array Bool → Bool
  | [], listed => (Region.ready .any ops listed).isEmpty
  | (i, true) :: rest, listed => (Region.ready .any ops listed).contains i && Region.free .any ops listed i && (ops[i]?).isSome && planOK ops rest (listed.setIfInBounds i true)
  | (i, false) :: rest, listed => decide (Region.ready .any ops listed = [i]) && (ops[i]?).isSome && planOK ops rest (listed.setIfInBounds i true)
def planOps (ops : Array Oper) : List (Nat × Bool) → List (Oper × Bool)
  | [] => []
  | (i, q) :: rest => match ops[i]? with
    | some o => (o, q) :: planOps ops rest
    | none => planOps ops rest

theorem wpAnyH_weaken {S S' : World → Prop} {md : Region.Mode} (h : ∀ x, S' x → S x) : ∀ (fuel : Nat) (listed : Array Bool) (a : Act) (w : World), wpAnyH P md ops Q S' fuel listed a w → wpAnyH P md ops Q S fuel listed a w
  | 0, _, _, _, H => H
  | fuel + 1, _, _, _, H => ⟨H.1, fun i hi => wpOp_mono (fun _ _ h' => ⟨h _ h'.1, wpAnyH_weaken h fuel _ _ _ h'.2⟩) (H.2 i hi)⟩

theorem wpS_sound (hs : Region.noSelect ops = true) (hQ : ∀ c a d v w, Q (.panic c) (Act.put a d v) w → Q (.panic c) a w) :
    ∀ (plan : List (Nat × Bool)) (listed : Array Bool) (S : World → Prop) (a : Act) (w : World), planOK ops plan listed = true → S w → wpS P ops Q (planOps ops plan) S a w → wpAnyH P .any ops Q S plan.length listed a w := by
  intro plan
  induction plan with
  | nil =>
    intro listed S a w hp _ h
    exact wpAnyH_done (by simpa [planOK] using hp) h 0
  | cons x plan ih =>
    obtain ⟨i, q⟩ := x
    intro listed S a w hp hS h
    cases q with
    | true =>
      simp only [planOK, Bool.and_eq_true] at hp
      obtain ⟨⟨⟨h1, h2⟩, h3⟩, h4⟩ := hp
      obtain ⟨o, ho⟩ := Option.isSome_iff_exists.1 h3
      simp only [planOps, ho, wpS] at h
      rcases h with ⟨hw, v, hv, hk⟩ | ⟨hw, hk⟩
      · exact wpAnyH_take ho hs h2 h1 (fun c a w => hQ c a _ _ w) (.inl ⟨hw, hv⟩) hS (ih _ _ _ _ h4 hS hk)
      · exact wpAnyH_take ho hs h2 h1 (fun c a w => hQ c a _ _ w) (.inr ⟨hw, rfl⟩) hS (ih _ _ _ _ h4 hS hk)
    | false =>
      simp only [planOK, Bool.and_eq_true, decide_eq_true_eq] at hp
      obtain ⟨⟨h1, h3⟩, h4⟩ := hp
      obtain ⟨o, ho⟩ := Option.isSome_iff_exists.1 h3
      simp only [planOps, ho, wpS] at h
      refine wpAnyH_all h1 (by simp) fun j hj => ?_
      obtain rfl : j = i := by simpa using hj
      unfold wpOp
      simp only [ho]
      rcases h with ⟨hw, hk⟩ | ⟨hw, hk⟩
      · rw [if_pos hw]
        refine .inl (Oper.wp_mono ?_ hk)
        rintro a' w' ⟨S', h5, h6, h7⟩
        exact ⟨h6 _ h5, wpAnyH_weaken h6 _ _ _ _ (ih _ _ _ _ h4 h5 h7)⟩
      · rw [hw]
        exact ⟨hS, ih _ _ _ _ h4 hS hk⟩

/-- THE BEGINNING. -/
theorem wp_region_plan {id : Nat} {a : Act} {w : World} (plan : List (Nat × Bool)) (S : World → Prop) (hm : P.follows .mixedOrders = true) (hs : Region.noSelect ops = true) (hp : planOK ops plan (Array.replicate ops.size false) = true) (hl : plan.length = ops.size)
    (hQ : ∀ c a d v w, Q (.panic c) (Act.put a d v) w → Q (.panic c) a w) (hS : S w.drew) (h : wpS P ops Q (planOps ops plan) S a w.drew) : (Code.region id ops true).wp P Q a w :=
  wp_region_held (S := S) hm (by have := wpS_sound hs hQ plan _ S a w.drew hp hS h; rwa [hl] at this)

theorem wpS_q {o : Oper} {rest : List (Oper × Bool)} {S : World → Prop} {a : Act} {w : World} (v : Value) (hw : Region.wanted o (yielded ops a.tmps) = true) (h : ∀ x, S x → (execOp a.eval o).run P x = .ok (.value v) x)
    (k : wpS P ops Q rest S (a.put o.dst v) w) : wpS P ops Q ((o, true) :: rest) S a w := .inl ⟨hw, v, h, k⟩
theorem wpS_skip {o : Oper} {q : Bool} {rest : List (Oper × Bool)} {S : World → Prop} {a : Act} {w : World} (hw : Region.wanted o (yielded ops a.tmps) = false)
    (k : wpS P ops Q rest S (a.put o.dst undef) w) : wpS P ops Q ((o, q) :: rest) S a w := by
  cases q
  · exact .inr ⟨hw, k⟩
  · exact .inr ⟨hw, k⟩
theorem wpS_l {o : Oper} {rest : List (Oper × Bool)} {S : World → Prop} {a : Act} {w : World} (hw : Region.wanted o (yielded ops a.tmps) = true)
    (h : ∀ K : Act → World → Prop, (∀ a' w' (S' : World → Prop), S' w' → (∀ x, S' x → S x) → wpS P ops Q rest S' a' w' → K a' w') → o.wp P a w K Q) : wpS P ops Q ((o, false) :: rest) S a w :=
  .inl ⟨hw, h _ fun _ _ S' h1 h2 h3 => ⟨S', h1, h2, h3⟩⟩
theorem wpS_nil {S : World → Prop} {a : Act} {w : World} (h : Q .normal a w) : wpS P ops Q [] S a w := h
end
/-- What may be taken as soon as it comes up. -/
def quietOp : Op → Bool
  | .alloc _ | .box .. | .buildSlice .. | .insert .. | .store .. | .ready _ | .makeMap .. | .makeChan .. | .makeSlice .. | .mapUpdate .. | .mapEntry .. | .entryStore .. | .range .. | .next .. | .go _ | .defer _ | .panic _ | .send .. | .recv .. | .select .. => false
  | .call c => (match c.callee with | .builtin .len | .builtin .cap | .builtin .min | .builtin .max => true | _ => false)
  | .convert _ _ _ => true
  | _ => true
def greedy (ops : Array Oper) : Nat → Array Bool → List (Nat × Bool)
  | 0, _ => []
  | fuel + 1, listed =>
    let r := Region.ready .any ops listed
    match r.find? (fun i => ((ops[i]?).map (fun o => quietOp o.op)).getD false) with
    | some i => (i, true) :: greedy ops fuel (listed.setIfInBounds i true)
    | none => match r with
      | i :: _ => (i, false) :: greedy ops fuel (listed.setIfInBounds i true)
      | [] => []
def plan (ops : Array Oper) : List (Nat × Bool) := greedy ops ops.size (Array.replicate ops.size false)
theorem drew_below {w : World} : Below w.heap.size w w.drew := (Below.refl _ _).drew
theorem below_step {w w' : World} (h : Below w.heap.size w w') : ∀ x, Below w'.heap.size w' x → Below w.heap.size w x := fun _ hx => h.trans (hx.mono h.size)
end Go.Rat
