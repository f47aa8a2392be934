/- In a round of a range over a function: what is walked plainly holds there, too. -/
import Derived.Test.YtmjdfajdompkeaaBase
import Derived.RangeFuncNested
import Derived.RangeFuncBound
import Derived.RangeFuncCalls
import Derived.RangeFuncLeaves
import Derived.OwnWalkIn
import Derived.TacticsInMore
import Derived.LoopNIn
import Derived.LoopIn
import Derived.Shelf.Abstract
import Derived.Shelf.RegionOpen
namespace Go.Rat
open Go Go.RowKit
def tame (o : Oper) : Bool := match o.op with
  | .defer _ => false
  | _ => true
theorem tame_of {o : Oper} (h : tame o = true) : ∀ c, o.op ≠ .defer c := by
  intro c e
  unfold tame at h
  rw [e] at h
  cases h
theorem oper_in {P : Program} {o : Oper} {a : Act} {w : World} {K K' : Act → World → Prop} {Q : Exit → Act → World → Prop} {l n : Nat} (ht : tame o = true) (hK : ∀ a w, K a w → K' a w)
    (h : o.wp P a w K Q) : o.wpIn (Fence.wide.inRound l) n P a w K' Q := by
  refine ⟨fun _ _ => trivial, ?_⟩
  rw [Oper.semAt_eq _ _ _ (tame_of ht)]
  unfold Oper.wp at h
  generalize (execOp a.eval o).run P w = r at h
  match r, h with
  | .ok (.value v) w', h => exact hK _ _ h
  | .ok .skip w', h => exact hK _ _ h
  | .ok (.defer d) w', h => exact hK _ _ h
  | .ok (.enter f args) w', h =>
    exact ⟨fun hd => (by cases hd), CallsIn.inRound l (callsIn_wide.2 (Calls.mono h (fun e w'' he => by
      cases e with
      | returned v => exact hK _ _ he
      | panicked c => exact he
      | outgrown => exact he)))⟩
  | .ok (.row row args) w', h =>
    exact ⟨fun hd => (by cases hd), fun c cs _ => let ⟨v, w2, r, s⟩ := h c cs; ⟨v, w2, hK _ _ r, stepsIn_wide.2 s⟩⟩
  | .halt (.panic v) w', h => exact h
/-- A region in a round, walked as everywhere. -/
theorem wpListIn_of {P : Program} {ops : Array Oper} {Q : Exit → Act → World → Prop} {l n : Nat} (hQ : ¬ LetsOut Q) : ∀ (rest : List Oper) (a : Act) (w : World), rest.all tame = true →
    wpList P ops Q rest a w → wpListIn (Fence.wide.inRound l) n P ops Q rest a w
  | [], _, _, _, h => h
  | o :: rest, a, w, ht, h => by
    rw [List.all_cons, Bool.and_eq_true] at ht
    unfold wpListIn
    unfold wpList at h
    by_cases hw : Region.wanted o (yielded ops a.tmps) = true
    · rw [if_pos hw] at h ⊢
      rcases h with h | h
      · exact oper_in ht.1 (fun a w => wpListIn_of hQ rest a w ht.2) h
      · exact absurd h.2 hQ
    · rw [if_neg hw] at h ⊢
      exact ⟨fun _ _ => trivial, wpListIn_of hQ rest _ _ ht.2 h⟩
theorem wpIn_region_of {P : Program} {Q : Exit → Act → World → Prop} {a : Act} {w : World} {l n id : Nat} {ops : List Oper} (hQ : ¬ LetsOut Q) (ht : ops.all tame = true) (h : wpList P ops.toArray Q ops a w) :
    (Code.region id ops.toArray false).wpIn (Fence.wide.inRound l) n P Q a w :=
  wpIn_region_lit (wpListIn_of hQ ops a w ht h)
theorem wplIn_value {F : Fence} {n : Nat} {P : Program} {ops : Array Oper} {rest : List Oper} {Q : Exit → Act → World → Prop} {o : Oper} {a : Act} {w : World} (hg : o.guard = none) (hd : tame o = true) (ha : o.about P w a.eval = none) (v : Value)
    (hv : (execOp a.eval o).run P w = .ok (.value v) w) (h : wpListIn F n P ops Q rest (a.put o.dst v) w) : wpListIn F n P ops Q (o :: rest) a w :=
  wpListIn_plain hg fun K hK => ⟨fun f hf => (by rw [ha] at hf; cases hf), by rw [Oper.semAt_eq _ _ _ (tame_of hd), hv]; exact hK _ _ h⟩
end Go.Rat
