/- An argument that is an array of numbers: what it reads is just these numbers. -/
import Derived.Test.YtohfgplaocgadaaDoorArr
import Derived.Test.YtohfgplaocgadaaDoorOpen
namespace Go.Rat
open Go Go.RowKit Go.ChangeShapes Go.WideShapes
section
variable {H : Type} {enc : TypeId × Value → H} {P : Program} {W : World} {base : Nat} {sp : Nat → Bool} {held : Bool}
theorem mapM_ints {e : TypeId} {q : IntKind} (he : P.underlying e = some (.int q)) {m : Nat} {cs : List Value} : ∀ (L : List Nat) (xs : List (DataW H × List MemPlace)),
    L.mapM (fun i => DataW.trod enc P W base sp held m e ((cs.drop (i * 1)).take 1)) = some xs →
    ∃ ls : List Int, xs = ls.map (fun a => (.lit (.int q a), [])) ∧ L.map (fun i => (cs.drop i).take 1) = ls.map (fun a => [Value.int q a]) ∧ ∀ a ∈ ls, (Lit.int q a).wf = true
  | [], xs, h => by
    simp at h
    subst h
    exact ⟨[], rfl, rfl, by simp⟩
  | i :: L, xs, h => by
    rw [List.mapM_cons] at h
    simp only [bind, Option.bind_eq_some_iff, pure, Option.some.injEq] at h
    obtain ⟨y, hy, ys, hys, rfl⟩ := h
    obtain ⟨ls, rfl, hl, hw⟩ := mapM_ints he L ys hys
    obtain ⟨a, ea, rfl, wa⟩ := DataW.trod_int he hy
    refine ⟨a :: ls, rfl, ?_, by simpa [wa] using hw⟩
    rw [Nat.mul_one] at ea
    simp only [List.map_cons, hl, ea]
theorem cells_of_drops : ∀ (cs : List Value) (ls : List Int) (q : IntKind), cs.length = ls.length → (List.range cs.length).map (fun i => (cs.drop i).take 1) = ls.map (fun a => [Value.int q a]) → cs = ls.map (Value.int q) := by
  intro cs ls q hl h
  refine List.ext_getElem (by simpa using hl) fun i h1 h2 => ?_
  have := congrArg (fun L => L[i]?) h
  simp only [List.getElem?_map, List.getElem?_range h1, Option.map_some, List.getElem?_eq_getElem (show i < ls.length by omega), Option.some.injEq] at this
  rw [List.drop_eq_getElem_cons h1, List.take_succ_cons, List.take_zero] at this
  simpa using this
theorem open_ints {t e : TypeId} {n : Nat} {q : IntKind} (ht : P.underlying t = some (.array n e)) (he : P.underlying e = some (.int q)) (hc : P.cellsOf e = 1) (hs : P.cellsOf t = n) {r : Reach} {b0 : Nat} {v : Value} {d : DataW H} {ps : List MemPlace}
    (hval : Value.okWide P W r b0 t v) (hd : DataW.Trod enc P W base sp held t v d ps) :
    ∃ l : List Int, l.length = n ∧ v = .agg (l.map (Value.int q)).toArray ∧ d = .agg (l.map fun a => .lit (.int q a)) ∧ ps = [] ∧ ∀ a ∈ l, (Lit.int q a).wf = true := by
  obtain ⟨fuel, hf⟩ := hd
  simp only [Value.okWide, ht] at hval
  obtain ⟨cs, rfl, hcs, _⟩ := hval
  cases fuel with
  | zero => simp [DataW.trod] at hf
  | succ m =>
    rw [DataW.trod_step] at hf
    unfold DataW.trodStep at hf
    simp only [ht, Value.cells] at hf
    rw [if_pos (by simpa using hcs), hc] at hf
    simp only [Option.map_eq_some_iff] at hf
    obtain ⟨ys, hy, e1⟩ := hf
    obtain ⟨ls, rfl, hl, hw⟩ := mapM_ints he _ ys hy
    have hll : ls.length = n := by have := congrArg List.length hl; simpa using this.symm
    have hcl : cs.toList.length = n := by rw [← hs]; simpa using hcs
    simp only [Prod.mk.injEq] at e1
    refine ⟨ls, hll, ?_, by rw [← e1.1]; simp [Function.comp_def], by rw [← e1.2]; simp [List.flatMap_eq_nil_iff], hw⟩
    have := cells_of_drops cs.toList ls q (by omega) (by rw [hcl]; exact hl)
    rw [← this]
theorem shut_ints {t e : TypeId} {n : Nat} {q : IntKind} (ht : P.underlying t = some (.array n e)) (he : P.underlying e = some (.int q)) (hc : P.cellsOf e = 1) (hs : P.cellsOf t = n) {l : List Int} (hl : l.length = n) (hw : ∀ a ∈ l, (Lit.int q a).wf = true) :
    DataW.Trod enc P W base sp held t (.agg (l.map (Value.int q)).toArray) (.agg (l.map fun a => .lit (.int q a))) [] := by
  refine ⟨2, ?_⟩
  rw [DataW.trod_step]
  unfold DataW.trodStep
  simp only [ht, Value.cells]
  rw [if_pos (by simp [hs, hl]), hc]
  have key : (List.range n).mapM (fun i => DataW.trod enc P W base sp held 1 e (((l.map (Value.int q)).drop (i * 1)).take 1)) = some (l.map fun a => (.lit (.int q a), [])) := by
    subst hl
    have gen : ∀ L : List Nat, (∀ i ∈ L, i < l.length) → L.mapM (fun i => DataW.trod enc P W base sp held 1 e (((l.map (Value.int q)).drop (i * 1)).take 1)) = some (L.map fun i => (.lit (.int q (l.getD i 0)), [])) := by
      intro L
      induction L with
      | nil => intro _; rfl
      | cons i L ih =>
        intro h
        have hi := h i (by simp)
        have h1 : ((l.map (Value.int q)).drop (i * 1)).take 1 = [Value.int q l[i]] := by
          rw [Nat.mul_one, List.drop_eq_getElem_cons (by simpa using hi), List.take_succ_cons, List.take_zero, List.getElem_map]
        rw [List.mapM_cons, h1, trod_int_mk 0 he (hw _ (List.getElem_mem hi)), ih (fun j hj => h j (by simp [hj]))]
        simp [List.getD_eq_getElem?_getD, List.getElem?_eq_getElem hi]
    rw [gen _ (by simp)]
    congr 1
    refine List.ext_getElem (by simp) fun i h1 h2 => ?_
    simp [List.getD_eq_getElem?_getD, List.getElem?_eq_getElem (show i < l.length by simpa using h2)]
  have key' : (List.range n).mapM (fun i => DataW.trod enc P W base sp held 1 e ((((l.map (Value.int q)).toArray.toList).drop (i * 1)).take 1)) = some (l.map fun a => (.lit (.int q a), [])) := key
  rw [key']
  simp [Function.comp_def, List.flatMap_eq_nil_iff]
/-- Numbers below 256 are bytes. -/
theorem ints_bytes {l : List Int} (h : ∀ a ∈ l, (Lit.int .u8 a).wf = true) : ∃ xs : List UInt8, xs.length = l.length ∧ l.map (Value.int .u8) = bvs xs := by
  refine ⟨l.map ub, by simp, ?_⟩
  rw [bvs, List.map_map]
  refine List.map_congr_left fun a ha => ?_
  have hb := wf_bounds (h a ha)
  simp [IntKind.min, IntKind.max, IntKind.signed, IntKind.bits] at hb
  exact (bv_ub hb.1 (by omega)).symm
end
end Go.Rat
