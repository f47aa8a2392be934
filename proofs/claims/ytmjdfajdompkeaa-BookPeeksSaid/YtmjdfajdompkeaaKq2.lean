/- A statement whose order Go leaves open: where its calls, stores and new blocks wait for one another, one walk serves for every order: what only reads is taken as soon as it may come up, and must read the same in every world that can follow. -/
import Derived.Test.YtmjdfajdompkeaaKq1
import Derived.OrdersHeld
import Derived.WalkKit
import Derived.WalkLawsBesides
import Derived.Deep.Draws
import Derived.Deep.DeepCutAuto
import Derived.Deep.CutBlock
namespace Go.Rat
open Go Go.RowKit
section
variable {P : Program} {ops : Array Oper} {Q : Exit → Act → World → Prop}

/-- The walk along a plan: (operation, does it only read). S: what is known of every world from here on. -/
def wpS (P : Program) (ops : Array Oper) (Q : Exit → Act → World → Prop) : List (Oper × Bool) → (World → Prop) → Act → World → Prop
  | [], _, a, w => Q .normal a w
  | (o, true) :: rest, S, a, w =>
    (Region.wanted o (yielded ops a.tmps) = true ∧ ∃ v, (∀ x, S x → (execOp a.eval o).run P x = .ok (.value v) x) ∧ wpS P ops Q rest S (a.put o.dst v) w) ∨
    (Region.wanted o (yielded ops a.tmps) = false ∧ wpS P ops Q rest S (a.put o.dst undef) w)
  | (o, false) :: rest, S, a, w =>
    (Region.wanted o (yielded ops a.tmps) = true ∧ o.wp P a w (fun a' w' => ∃ S' : World → Prop, S' w' ∧ (∀ x, S' x → S x) ∧ wpS P ops Q rest S' a' w') Q) ∨
    (Region.wanted o (yielded ops a.tmps) = false ∧ wpS P ops Q rest S (a.put o.dst undef) w)

def planOK (ops : Array Oper) : List (Nat × Bool) → Array Bool → Bool
  | [], listed => (Region.ready .any ops listed).isEmpty
  | (i, true) :: rest, listed => (Region.ready .any ops listed).contains i && Region.free .any ops listed i && (ops[i]?).isSome && planOK ops rest (listed.setIfInBounds i true)
  | (i, false) :: rest, listed => decide (Region.ready .any ops listed = [i]) && (ops[i]?).isSome && planOK ops rest (listed.setIfInBounds i true)
def planOps (ops : Array Oper) : List (Nat × Bool) → List (Oper × Bool)
  | [] => []
  | (i, q) :: rest => match ops[i]? with
    | some o => (o, q) :: planOps ops rest
    | none => planOps ops rest

theorem wpAnyH_weaken {S S' : World → Prop} {md : Region.Mode} (h : ∀ x, S' x → S x) : ∀ (fuel : Nat) (listed : Array Bool) (a : Act) (w : World), wpAnyH P md ops Q S' fuel listed a w → wpAnyH P md ops Q S fuel listed a w
  | 0, _, _, _, H => H
  | fuel + 1, _, _, _, H => ⟨H.1, fun i hi => wpOp_mono (fun _ _ h' => ⟨h _ h'.1, wpAnyH_weaken h fuel _ _ _ h'.2⟩) (H.2 i hi)⟩

theorem wpS_sound (hs : Region.noSelect ops = true) (hQ : ∀ c a d v w, Q (.panic c) (Act.put a d v) w → Q (.panic c) a w) :
    ∀ (plan : List (Nat × Bool)) (listed : Array Bool) (S : World → Prop) (a : Act) (w : World), planOK ops plan listed = true → S w → wpS P ops Q (planOps ops plan) S a w → wpAnyH P .any ops Q S plan.length listed a w := by
  intro plan
  induction plan with
  | nil =>
    intro listed S a w hp _ h
    exact wpAnyH_done (by simpa [planOK] using hp) h 0
  | cons x plan ih =>
    obtain ⟨i, q⟩ := x
    intro listed S a w hp hS h
    cases q with
    | true =>
      simp only [planOK, Bool.and_eq_true] at hp
      obtain ⟨⟨⟨h1, h2⟩, h3⟩, h4⟩ := hp
      obtain ⟨o, ho⟩ := Option.isSome_iff_exists.1 h3
      simp only [planOps, ho, wpS] at h
      rcases h with ⟨hw, v, hv, hk⟩ | ⟨hw, hk⟩
      · exact wpAnyH_take ho hs h2 h1 (fun c a w => hQ c a _ _ w) (.inl ⟨hw, hv⟩) hS (ih _ _ _ _ h4 hS hk)
      · exact wpAnyH_take ho hs h2 h1 (fun c a w => hQ c a _ _ w) (.inr ⟨hw, rfl⟩) hS (ih _ _ _ _ h4 hS hk)
    | false =>
      simp only [planOK, Bool.and_eq_true, decide_eq_true_eq] at hp
      obtain ⟨⟨h1, h3⟩, h4⟩ := hp
      obtain ⟨o, ho⟩ := Option.isSome_iff_exists.1 h3
      simp only [planOps, ho, wpS] at h
      refine wpAnyH_all h1 (by simp) fun j hj => ?_
      obtain rfl : j = i := by simpa using hj
      unfold wpOp
      simp only [ho]
      rcases h with ⟨hw, hk⟩ | ⟨hw, hk⟩
      · rw [if_pos hw]
        refine .inl (Oper.wp_mono ?_ hk)
        rintro a' w' ⟨S', h5, h6, h7⟩
        exact ⟨h6 _ h5, wpAnyH_weaken h6 _ _ _ _ (ih _ _ _ _ h4 h5 h7)⟩
      · rw [hw]
        exact ⟨hS, ih _ _ _ _ h4 hS hk⟩

/-- THE BEGINNING. -/
theorem wp_region_plan {id : Nat} {a : Act} {w : World} (plan : List (Nat × Bool)) (S : World → Prop) (hm : P.follows .mixedOrders = true) (hs : Region.noSelect ops = true) (hp : planOK ops plan (Array.replicate ops.size false) = true) (hl : plan.length = ops.size)
    (hQ : ∀ c a d v w, Q (.panic c) (Act.put a d v) w → Q (.panic c) a w) (hS : S w.drew) (h : wpS P ops Q (planOps ops plan) S a w.drew) : (Code.region id ops true).wp P Q a w :=
  wp_region_held (S := S) hm (by have := wpS_sound hs hQ plan _ S a w.drew hp hS h; rwa [hl] at this)

theorem wpS_q {o : Oper} {rest : List (Oper × Bool)} {S : World → Prop} {a : Act} {w : World} (v : Value) (hw : Region.wanted o (yielded ops a.tmps) = true) (h : ∀ x, S x → (execOp a.eval o).run P x = .ok (.value v) x)
    (k : wpS P ops Q rest S (a.put o.dst v) w) : wpS P ops Q ((o, true) :: rest) S a w := .inl ⟨hw, v, h, k⟩
theorem wpS_skip {o : Oper} {q : Bool} {rest : List (Oper × Bool)} {S : World → Prop} {a : Act} {w : World} (hw : Region.wanted o (yielded ops a.tmps) = false)
    (k : wpS P ops Q rest S (a.put o.dst undef) w) : wpS P ops Q ((o, q) :: rest) S a w := by
  cases q
  · exact .inr ⟨hw, k⟩
  · exact .inr ⟨hw, k⟩
theorem wpS_l {o : Oper} {rest : List (Oper × Bool)} {S : World → Prop} {a : Act} {w : World} (hw : Region.wanted o (yielded ops a.tmps) = true)
    (h : ∀ K : Act → World → Prop, (∀ a' w' (S' : World → Prop), S' w' → (∀ x, S' x → S x) → wpS P ops Q rest S' a' w' → K a' w') → o.wp P a w K Q) : wpS P ops Q ((o, false) :: rest) S a w :=
  .inl ⟨hw, h _ fun _ _ S' h1 h2 h3 => ⟨S', h1, h2, h3⟩⟩
theorem wpS_nil {S : World → Prop} {a : Act} {w : World} (h : Q .normal a w) : wpS P ops Q [] S a w := h
end
/-- What may be taken as soon as it comes up. -/
def quietOp : Op → Bool
  | .alloc _ | .box .. | .buildSlice .. | .insert .. | .store .. | .ready _ | .makeMap .. | .makeChan .. | .makeSlice .. | .mapUpdate .. | .mapEntry .. | .entryStore .. | .range .. | .next .. | .go _ | .defer _ | .panic _ | .send .. | .recv .. | .select .. => false
  | .call c => (match c.callee with | .builtin .len | .builtin .cap | .builtin .min | .builtin .max => true | _ => false)
  | .convert _ _ _ => true
  | _ => true
def greedy (ops : Array Oper) : Nat → Array Bool → List (Nat × Bool)
  | 0, _ => []
  | fuel + 1, listed =>
    let r := Region.ready .any ops listed
    match r.find? (fun i => ((ops[i]?).map (fun o => quietOp o.op)).getD false) with
    | some i => (i, true) :: greedy ops fuel (listed.setIfInBounds i true)
    | none => match r with
      | i :: _ => (i, false) :: greedy ops fuel (listed.setIfInBounds i true)
      | [] => []
def plan (ops : Array Oper) : List (Nat × Bool) := greedy ops ops.size (Array.replicate ops.size false)
theorem drew_below {w : World} : Below w.heap.size w w.drew := (Below.refl _ _).drew
theorem below_step {w w' : World} (h : Below w.heap.size w w') : ∀ x, Below w'.heap.size w' x → Below w.heap.size w x := fun _ hx => h.trans (hx.mono h.size)
end Go.Rat
namespace Go.Proofs.Ytmjdfajdompkeaa
open Go.RowKit Go.Rat
/-- From w to w': new blocks; of the old ones only those of F may have turned. -/
structure Chg (F : Nat → Prop) (w w' : World) : Prop where
  os : w'.os = w.os
  tape : w'.tape = w.tape
  output : w'.output = w.output
  size : w.heap.size ≤ w'.heap.size
  block : ∀ k, k < w.heap.size → ¬ F k → w'.heap[k]? = w.heap[k]?
section
variable {F G : Nat → Prop} {w w' w'' : World}
theorem Chg.refl (F : Nat → Prop) (w : World) : Chg F w w := ⟨rfl, rfl, rfl, Nat.le_refl _, fun _ _ _ => rfl⟩
theorem Chg.trans (h : Chg F w w') (k : Chg G w' w'') (hG : ∀ x, G x → F x ∨ w.heap.size ≤ x) : Chg F w w'' :=
  ⟨k.os.trans h.os, k.tape.trans h.tape, k.output.trans h.output, Nat.le_trans h.size k.size, fun x hx hF => (k.block x (Nat.lt_of_lt_of_le hx h.size) (fun hg => by
    rcases hG x hg with h1 | h1
    · exact hF h1
    · omega)).trans (h.block x hx hF)⟩
theorem Chg.mono (h : Chg F w w') (hG : ∀ x, F x → G x) : Chg G w w' := ⟨h.os, h.tape, h.output, h.size, fun x hx hF => h.block x hx (fun hf => hF (hG x hf))⟩
theorem Chg.of_grown {g : Nat} (h : w.grownBy w' (some g)) (hg : F g) : Chg F w w' := ⟨h.os, h.tape, h.output, h.size, fun x hx hF => h.block x hx (fun e => hF (by cases e; exact hg))⟩
theorem Chg.of_grown' {row : Option Nat} (h : w.grownBy w' row) (hg : ∀ g, row = some g → F g) : Chg F w w' := ⟨h.os, h.tape, h.output, h.size, fun x hx hF => h.block x hx (fun e => hF (hg x e.symm))⟩
theorem Chg.of_below (F : Nat → Prop) (h : Below w.heap.size w w') : Chg F w w' := ⟨h.os, h.tape, h.output, h.size, fun x hx _ => h.block x hx⟩
theorem Chg.below {B : Nat} (h : Chg F w w') (hF : ∀ x, F x → B ≤ x) (hB : B ≤ w.heap.size) : Below B w w' := ⟨h.os, h.tape, h.output, h.size, fun x hx => h.block x (by omega) (fun hf => by have := hF x hf; omega)⟩
theorem Chg.blk {g : Nat} {T : TypeId} {cs : Array Value} (h : Chg F w w') (hB : Blk w g T cs) (hg : ¬ F g) : Blk w' g T cs := (h.block g hB.lt hg).trans hB
theorem Chg.mapV {z : Value} {g : Nat} {f : Int → Value} (h : Chg F w w') (hB : MapV z w g f) (hg : ¬ F g) : MapV z w' g f := hB.same (h.block g hB.lt hg)
theorem Chg.own {base size n c : Nat} {e : TypeId} {A : Option Addr} {xs : List Value} (h : Chg F w w') (hO : w.ownsRow base e size (.slice A n c) n xs) (hg : ∀ x, A.map (·.block) = some x → ¬ F x) : w'.ownsRow base e size (.slice A n c) n xs := by
  refine ⟨hO.1, ?_⟩
  rcases hO.2 with h1 | ⟨g, cap, cur, hv, hb, hgg, rest⟩
  · exact .inl h1
  · refine .inr ⟨g, cap, cur, hv, hb, ?_, rest⟩
    injection hv with h3 h4 h5
    subst h3
    rw [h.block g (Array.getElem?_eq_some_iff.1 hgg).1 (hg g rfl)]
    exact hgg
theorem Chg.rb {A : Option Addr} {n : Nat} {xs : List UInt8} (h : Chg F w w') (hr : RB w A n xs) (hg : ∀ x, A.map (·.block) = some x → ¬ F x) : RB w' A n xs := by
  refine ⟨hr.1, fun hn => ?_⟩
  obtain ⟨ad, rfl, hb, hc⟩ := hr.2 hn
  refine ⟨ad, rfl, Nat.lt_of_lt_of_le hb h.size, fun j u hu => ?_⟩
  rw [World.cell?_of_block (w := w) (h.block _ (by rw [block_of_add]; exact hb) (by rw [block_of_add]; exact hg _ rfl))]
  exact hc j u hu
end
/-- A sector, a disk. -/
structure Sec where
  b : List UInt8
  lost : Bool
def zs : List UInt8 := List.replicate 128 0
theorem zs_length : zs.length = 128 := by rw [zs, List.length_replicate]
def zsec : Sec := ⟨zs, false⟩
def secL (s : Sec) : List Value := bvs s.b ++ [.bool s.lost]
def secV (s : Sec) : Value := .agg (secL s).toArray
structure DS where
  sure : Int → Sec
  now : Int → Sec
  loose : List (Int × List UInt8)
  off : Bool
  fuse : Int
def looseC (l : List (Int × List UInt8)) : List Value := l.flatMap fun x => .int .i64 x.1 :: bvs x.2
structure DOk (d : DS) : Prop where
  sure : ∀ a, (d.sure a).b.length = 128
  now : ∀ a, (d.now a).b.length = 128
  loose : ∀ x ∈ d.loose, (0 ≤ x.1 ∧ x.1 < 32768) ∧ x.2.length = 128
  fuse : -1 ≤ d.fuse ∧ d.fuse ≤ 9223372036854775807
/-- Where a disk lies. -/
structure DL where
  g : Nat
  gs : Nat
  gn : Nat
  A : Option Addr
  c : Nat
def DL.fp (l : DL) (x : Nat) : Prop := x = l.g ∨ x = l.gs ∨ x = l.gn ∨ l.A.map (·.block) = some x
structure DiskAt (w : World) (base : Nat) (l : DL) (d : DS) : Prop where
  blk : Blk w l.g 107 #[.map (some l.gs), .map (some l.gn), .slice l.A d.loose.length l.c, .bool d.off, .int .i64 d.fuse]
  sure : MapV (secV zsec) w l.gs (fun a => secV (d.sure a))
  now : MapV (secV zsec) w l.gn (fun a => secV (d.now a))
  row : w.ownsRow base 112 129 (.slice l.A d.loose.length l.c) d.loose.length (looseC d.loose)
  ne1 : l.g ≠ l.gs
  ne2 : l.g ≠ l.gn
  ne3 : l.gs ≠ l.gn
  rg : l.A.map (·.block) ≠ some l.g
  rs : l.A.map (·.block) ≠ some l.gs
  rn : l.A.map (·.block) ≠ some l.gn
  bg : base ≤ l.g
  bs : base ≤ l.gs
  bn : base ≤ l.gn
  ok : DOk d
section
variable {w w' : World} {base : Nat} {l : DL} {d : DS} {F : Nat → Prop}
theorem DiskAt.fp_lt (h : DiskAt w base l d) {x : Nat} (hx : l.fp x) : base ≤ x ∧ x < w.heap.size := by
  rcases hx with rfl | rfl | rfl | hx
  · exact ⟨h.bg, h.blk.lt⟩
  · exact ⟨h.bs, h.sure.lt⟩
  · exact ⟨h.bn, h.now.lt⟩
  · exact World.ownsRow.lt h.row x (by cases hA : l.A <;> simp_all [Value.ownBlock])
theorem DiskAt.kept (h : DiskAt w base l d) (hc : Chg F w w') (hF : ∀ x, l.fp x → ¬ F x) : DiskAt w' base l d :=
  ⟨hc.blk h.blk (hF _ (.inl rfl)), hc.mapV h.sure (hF _ (.inr (.inl rfl))), hc.mapV h.now (hF _ (.inr (.inr (.inl rfl)))), hc.own h.row (fun x hx => hF x (.inr (.inr (.inr hx)))),
    h.ne1, h.ne2, h.ne3, h.rg, h.rs, h.rn, h.bg, h.bs, h.bn, h.ok⟩
theorem DiskAt.below (h : DiskAt w base l d) (hb : Below w.heap.size w w') : DiskAt w' base l d :=
  h.kept (Chg.of_below (fun _ => False) hb) (fun _ _ hf => hf)
end
theorem secL_length {s : Sec} (h : s.b.length = 128) : (secL s).length = 129 := by rw [secL, List.length_append, bvs_length, h]; rfl
theorem i128 : (Try.prog.info? 28).map (·.size) = some 128 := by kernel_rfl
theorem i129 : (Try.prog.info? 110).map (·.size) = some 129 := by kernel_rfl
theorem w129 : (Try.prog.info? 112).map (·.size) = some 129 := by kernel_rfl
theorem zerosec (w : World) : (zeroValue 110).run Try.prog w = .ok (secV zsec) w := by kernel_rfl
end Go.Proofs.Ytmjdfajdompkeaa
namespace Go.Proofs.Ytmjdfajdompkeaa
open Go.RowKit Go.Rat
def ds0 : DS := ⟨fun _ => zsec, fun _ => zsec, [], false, -1⟩
theorem ds0_ok : DOk ds0 := ⟨fun _ => zs_length, fun _ => zs_length, by simp [ds0], by simp [ds0]⟩
def Dp (l : DL) : Value := .pointer (some ⟨l.g, 0, none⟩)
set_option maxHeartbeats 400000 in
theorem dnew_any (w : World) : Calls Try.prog 20 #[] w fun e w' => ∃ l, e = .returned (.pointer (some ⟨l.g, 0, none⟩)) ∧ DiskAt w' w.heap.size l ds0 ∧ Below w.heap.size w w' := by
  have hmm := @run_makeMap Try.prog
  go_enter Try.func20, Try.ntmps20
  go_wp2_with fail
  go_ret
  refine ⟨⟨w.heap.size + 1 + 1, w.heap.size, w.heap.size + 1, none, 0⟩, rfl, ?_, ((below_alloc w _).alloc (by simp) _).alloc (by simp; omega) _⟩
  have h1 := MapV.new (secV zsec) w
  have h2 : MapV (secV zsec) ((w.alloc (.map #[] 0)).alloc (.map #[] 0)) (w.heap.size + 1) (fun _ => secV zsec) := by simpa using MapV.new (secV zsec) (w.alloc (.map #[] 0))
  have hs2 : ((w.alloc (.map #[] 0)).alloc (.map #[] 0)).heap.size = w.heap.size + 1 + 1 := by simp
  have h3 := Blk.new ((w.alloc (.map #[] 0)).alloc (.map #[] 0)) 107 #[.map (some w.heap.size), .map (some (w.heap.size + 1)), .slice none 0 0, .bool false, .int .i64 (-1)]
  rw [hs2] at h3
  refine ⟨h3, (h1.grown (World.grownBy_alloc _ _ none) (by simp)).grown (World.grownBy_alloc _ _ none) (by simp), h2.grown (World.grownBy_alloc _ _ none) (by simp), World.ownsRow_nil _ _ _ _, ?_, ?_, ?_, by simp, by simp, by simp, ?_, ?_, ?_, ds0_ok⟩
  all_goals simp only []
  all_goals omega
def readyE (off : Bool) (a : Int) : Int := if off = true then 8 else if 0 ≤ a ∧ a < 32768 then 0 else 1
theorem readyE_off (a : Int) : readyE true a = 8 := rfl
theorem readyE_ok {a : Int} (h : 0 ≤ a ∧ a < 32768) : readyE false a = 0 := by rw [readyE, if_neg (by decide), if_pos h]
theorem readyE_bad {a : Int} (h : ¬ (0 ≤ a ∧ a < 32768)) : readyE false a = 1 := by rw [readyE, if_neg (by decide), if_neg h]
set_option maxHeartbeats 400000 in
theorem dready_any (w : World) (base : Nat) (l : DL) (d : DS) (h : DiskAt w base l d) (at_ : Int) :
    Calls Try.prog 57 #[.pointer (some ⟨l.g, 0, none⟩), .int .i64 at_] w fun e w' => e = .returned (.int .i64 (readyE d.off at_)) ∧ w = w' := by
  have c3 := h.blk.cell 3
  simp only [List.getElem?_toArray, List.getElem?_cons_zero, List.getElem?_cons_succ] at c3
  cases hoff : d.off
  · rw [hoff] at c3
    by_cases h1 : at_ < 0
    · rw [readyE_bad (by omega)]
      go_enter Try.func57, Try.ntmps57
      go_wp2_with fail
      go_ret
      exact ⟨rfl, rfl⟩
    · by_cases h2 : at_ < 32768
      · rw [readyE_ok (by omega)]
        have h3 : ¬ 32768 ≤ at_ := by omega
        go_enter Try.func57, Try.ntmps57
        go_wp2_with fail
        go_ret
        exact ⟨rfl, rfl⟩
      · rw [readyE_bad (by omega)]
        have h3 : 32768 ≤ at_ := by omega
        go_enter Try.func57, Try.ntmps57
        go_wp2_with fail
        go_ret
        exact ⟨rfl, rfl⟩
  · rw [hoff] at c3
    rw [readyE_off]
    go_enter Try.func57, Try.ntmps57
    go_wp2_with fail
    go_ret
    exact ⟨rfl, rfl⟩
/-- What the power's going leaves. -/
def offD (d : DS) : DS := { d with off := true, fuse := -1 }
def burnD (d : DS) : DS := if d.fuse = 0 then offD d else if 0 < d.fuse then { d with fuse := d.fuse - 1 } else d
def burnB (d : DS) : Bool := decide (d.fuse = 0)
def fuseD (d : DS) (n : Int) : DS := { d with fuse := max n (-1) }
/-- A disk whose block alone has turned, in the power and the fuse. -/
theorem DiskAt.turn {w w' : World} {base : Nat} {l : DL} {d : DS} (h : DiskAt w base l d) (off : Bool) (fuse : Int) (hf : -1 ≤ fuse ∧ fuse ≤ 9223372036854775807) (hg : w.grownBy w' (some l.g))
    (hB : Blk w' l.g 107 #[.map (some l.gs), .map (some l.gn), .slice l.A d.loose.length l.c, .bool off, .int .i64 fuse]) : DiskAt w' base l { d with off := off, fuse := fuse } :=
  ⟨hB, h.sure.grown hg (by intro e; injection e with e; exact h.ne1 e.symm), h.now.grown hg (by intro e; injection e with e; exact h.ne2 e.symm),
    World.ownsRow.kept h.row hg (by
      by_cases hA : (Value.slice l.A d.loose.length l.c).ownBlock = none
      · exact .inl hA
      · refine .inr ?_
        have := h.rg
        cases hl : l.A <;> simp_all [Value.ownBlock]), h.ne1, h.ne2, h.ne3, h.rg, h.rs, h.rn, h.bg, h.bs, h.bn, ⟨h.ok.sure, h.ok.now, h.ok.loose, hf⟩⟩
theorem setCell_grown (w : World) (g k : Nat) (v : Value) : w.grownBy (w.setCell ⟨g, k, none⟩ v) (some g) := grownBy_set w g k v
set_option maxHeartbeats 400000 in
theorem doff_any (w : World) (base : Nat) (l : DL) (d : DS) (h : DiskAt w base l d) :
    Calls Try.prog 24 #[.pointer (some ⟨l.g, 0, none⟩)] w fun e w' => e = .returned (.tuple #[]) ∧ DiskAt w' base l (offD d) ∧ w.grownBy w' (some l.g) := by
  have f0 := h.blk.frozen 3
  have f1 := h.blk.frozen 4
  have c3 := h.blk.cell 3
  have c4 := h.blk.cell 4
  simp only [List.getElem?_toArray, List.getElem?_cons_zero, List.getElem?_cons_succ] at c3 c4
  have hB := (h.blk.set_ 3 (.bool true)).set_ 4 (.int .i64 (-1))
  simp only [List.setIfInBounds_toArray, List.set_cons_zero, List.set_cons_succ] at hB
  have hg := (grownBy_set w l.g 3 (.bool true)).trans (grownBy_set (w.setCell ⟨l.g, 3, none⟩ (.bool true)) l.g 4 (.int .i64 (-1)))
  have hD := h.turn true (-1) (by omega) hg hB
  clear h hB
  go_enter Try.func24, Try.ntmps24
  go_wp2_with fail
  go_end0
  exact ⟨rfl, hD, hg⟩
set_option maxHeartbeats 400000 in
theorem dburns_any (w : World) (base : Nat) (l : DL) (d : DS) (h : DiskAt w base l d) :
    Calls Try.prog 58 #[.pointer (some ⟨l.g, 0, none⟩)] w fun e w' => e = .returned (.bool (burnB d)) ∧ DiskAt w' base l (burnD d) ∧ w.grownBy w' (some l.g) := by
  have hf := h.ok.fuse
  have c4 := h.blk.cell 4
  have f1 := h.blk.frozen 4
  simp only [List.getElem?_toArray, List.getElem?_cons_zero, List.getElem?_cons_succ] at c4
  by_cases h0 : d.fuse = 0
  · rw [burnB, burnD, if_pos h0, decide_eq_true h0]
    rw [h0] at c4
    have H0 := Lib.hid h0
    clear h0
    go_enter Try.func58, Try.ntmps58
    go_wp2_with (go_at_call 24; refine (doff_any w base l d h).mono ?_; rintro e w2 ⟨rfl, hD, hg⟩)
    go_ret
    exact ⟨rfl, hD, hg⟩
  · rw [burnB, burnD, if_neg h0, decide_eq_false h0]
    have h0' : (d.fuse == 0) = false := by simpa using h0
    by_cases h1 : 0 < d.fuse
    · rw [if_pos h1]
      have hB := h.blk.set_ 4 (.int .i64 (d.fuse - 1))
      simp only [List.setIfInBounds_toArray, List.set_cons_zero, List.set_cons_succ] at hB
      have hg := grownBy_set w l.g 4 (.int .i64 (d.fuse - 1))
      have hD := h.turn d.off (d.fuse - 1) (by omega) hg hB
      clear hB h h0
      go_enter Try.func58, Try.ntmps58
      go_wp2_with fail
      go_ret
      exact ⟨rfl, hD, hg⟩
    · rw [if_neg h1]
      go_enter Try.func58, Try.ntmps58
      go_wp2_with fail
      go_ret
      exact ⟨rfl, h, World.grownBy.refl _ _⟩
set_option maxHeartbeats 400000 in
theorem dfuse_any (w : World) (base : Nat) (l : DL) (d : DS) (h : DiskAt w base l d) (n : Int) (hn : n ≤ 9223372036854775807) :
    Calls Try.prog 33 #[.pointer (some ⟨l.g, 0, none⟩), .int .i64 n] w fun e w' => e = .returned (.tuple #[]) ∧ DiskAt w' base l (fuseD d n) ∧ w.grownBy w' (some l.g) := by
  have c4 := h.blk.cell 4
  have f1 := h.blk.frozen 4
  simp only [List.getElem?_toArray, List.getElem?_cons_zero, List.getElem?_cons_succ] at c4
  have hB := h.blk.set_ 4 (.int .i64 (max n (-1)))
  simp only [List.setIfInBounds_toArray, List.set_cons_zero, List.set_cons_succ] at hB
  have hg := grownBy_set w l.g 4 (.int .i64 (max n (-1)))
  have hD := h.turn d.off (max n (-1)) (by omega) hg hB
  clear hB h
  go_enter Try.func33, Try.ntmps33
  go_wp2_with fail
  · have e : max n (-1) = -1 := by omega
    rw [e] at hD hg
    go_end0
    exact ⟨rfl, by rw [fuseD, e]; exact hD, hg⟩
  · have e : max n (-1) = n := by omega
    rw [e] at hD hg
    go_end0
    exact ⟨rfl, by rw [fuseD, e]; exact hD, hg⟩
set_option maxHeartbeats 400000 in
theorem dpower_any (w : World) (base : Nat) (l : DL) (d : DS) (h : DiskAt w base l d) :
    Calls Try.prog 36 #[.pointer (some ⟨l.g, 0, none⟩)] w fun e w' => e = .returned (.bool (!d.off)) ∧ w = w' := by
  have c3 := h.blk.cell 3
  simp only [List.getElem?_toArray, List.getElem?_cons_zero, List.getElem?_cons_succ] at c3
  go_enter Try.func36, Try.ntmps36
  go_wp2_with fail
  go_ret
  exact ⟨rfl, rfl⟩
set_option maxHeartbeats 400000 in
theorem dloose_any (w : World) (base : Nat) (l : DL) (d : DS) (h : DiskAt w base l d) :
    Calls Try.prog 27 #[.pointer (some ⟨l.g, 0, none⟩)] w fun e w' => e = .returned (.int .i64 (d.loose.length : Int)) ∧ w = w' := by
  have c2 := h.blk.cell 2
  simp only [List.getElem?_toArray, List.getElem?_cons_zero, List.getElem?_cons_succ] at c2
  go_enter Try.func27, Try.ntmps27
  go_wp2_with fail
  go_ret
  exact ⟨rfl, rfl⟩
end Go.Proofs.Ytmjdfajdompkeaa
namespace Go.Proofs.Ytmjdfajdompkeaa
open Go.RowKit Go.Rat
/-- What is read. -/
def readB (d : DS) (a : Int) : List UInt8 := if readyE d.off a = 0 ∧ (d.now a).lost = false then (d.now a).b else zs
def readE (d : DS) (a : Int) : Int := if readyE d.off a = 0 then (if (d.now a).lost = true then 9 else 0) else readyE d.off a
theorem readB_length {d : DS} (h : DOk d) (a : Int) : (readB d a).length = 128 := by
  unfold readB
  split
  · exact h.now a
  · exact zs_length
/-- Two results: a block's row, and a slot. -/
theorem results_cell_tmp {P : Program} {fn : Func} {p q : Tmp} {ty : TypeId} (h : fn.results = #[.cell p ty, .tmp q]) (tmps : Array Value) (w : World) (g : Nat) (t : TypeId) (cs : Array Value) (fr : Nat × Nat) (d : TypeDesc) (v : Value)
    (hp : tmps.getD p undef = .pointer (some ⟨g, 0, none⟩)) (hq : tmps.getD q undef = v) (hg : w.heap[g]? = some (.cells cs t fr))
    (hu : P.underlying ty = some d) (hd : (match d with | .struct _ | .array _ _ => true | _ => false) = true) (hi : (P.info? ty).map (·.size) = some cs.size) :
    (results fn tmps).run P w = .ok (.tuple #[.agg cs, v]) w := by
  have hp' : tmps[p]?.getD undef = .pointer (some ⟨g, 0, none⟩) := by simpa using hp
  have hq' : tmps[q]?.getD undef = v := by simpa using hq
  simp [results, h, hp', hq', asAddr, run_loadVar_row w g t ty cs fr d hg hu hd hi]
theorem zsA_size : (bvs zs).toArray.size = 128 := by rw [bvs_size, zs_length]
theorem wf64 {a : Int} (h : 0 ≤ a ∧ a < 32768) : (Lit.int .i64 a).wf = true := by
  simp [Lit.wf, IntKind.min, IntKind.max, IntKind.signed, IntKind.bits]; omega
theorem below_next' {a b c : World} (h : Below a.heap.size a b) (k : Below b.heap.size b c) : Below a.heap.size a c := h.trans (k.mono h.size)
theorem zc128 : Try.zeroCells28 = (bvs zs).toArray := by kernel_rfl
set_option maxRecDepth 20000 in
set_option maxHeartbeats 4000000 in
theorem dread_any (w : World) (base : Nat) (l : DL) (d : DS) (h : DiskAt w base l d) (a : Int) :
    Calls Try.prog 26 #[.pointer (some ⟨l.g, 0, none⟩), .int .i64 a] w fun e w' => e = .returned (.tuple #[.agg (bvs (readB d a)).toArray, .int .i64 (readE d a)]) ∧ Below w.heap.size w w' := by
  have hZ := Blk.new w 28 (bvs zs).toArray
  have hb1 := below_alloc w (.cells (bvs zs).toArray 28)
  obtain ⟨z, hz⟩ : ∃ z : Array Value, (bvs zs).toArray = z := ⟨_, rfl⟩
  have hzc : Try.zeroCells28 = z := by rw [← hz]; exact zc128
  have hzs : z.size = 128 := by rw [← hz]; exact zsA_size
  have hz1 : z.all (·.oneCell') = true := by rw [← hz]; exact bvs_all _
  rw [hz] at hZ hb1
  have HZ := Lib.hid hz
  clear hz
  have h1 := h.below hb1
  go_enter Try.func26, Try.ntmps26
  go_upto_region 1 with (fail)
  generalize w.alloc (.cells z 28) = w1 at *
  have hzi : (Try.prog.info? 28).map (·.size) = some z.size := by rw [hzs]; exact i128
  by_cases hr : readyE d.off a = 0
  · have hoff : d.off = false ∧ 0 ≤ a ∧ a < 32768 := by
      cases ho : d.off
      · refine ⟨rfl, ?_⟩
        by_cases h : 0 ≤ a ∧ a < 32768
        · exact h
        · rw [ho, readyE_bad h] at hr
          cases hr
      · rw [ho, readyE_off] at hr
        cases hr
    have hlook : (Instr.lookup 104 (.map (some l.gn)) (.int .i64 a) false).run Try.prog w1 = .ok (.agg (secL (d.now a)).toArray) w1 :=
      h1.now.look Try.underlying3 Try.underlying104 (zerosec w1) a (wf64 hoff.2)
    have c1 := h1.blk.cell 1
    simp only [List.getElem?_toArray, List.getElem?_cons_zero, List.getElem?_cons_succ] at c1
    have hsl := h.ok.now a
    have hre : readE d a = if (d.now a).lost = true then 9 else 0 := by rw [readE, if_pos hr]
    have hrb : readB d a = if (d.now a).lost = false then (d.now a).b else zs := by
      rw [readB]
      by_cases hl : (d.now a).lost = false
      · rw [if_pos ⟨hr, hl⟩, if_pos hl]
      · rw [if_neg (fun h => hl h.2), if_neg hl]
    obtain ⟨s, hs⟩ : ∃ s, d.now a = s := ⟨_, rfl⟩
    rw [hs] at hlook hsl hre hrb
    obtain ⟨b, lost⟩ := s
    simp only at hsl
    have hL : (secL ⟨b, lost⟩).length = 129 := secL_length hsl
    have hLs : (secL ⟨b, lost⟩).toArray.size = 129 := by simpa using hL
    have hL1 : (secL ⟨b, lost⟩).toArray.all (·.oneCell') = true := by
      simp [secL, bvs, bv, Value.oneCell']
    have hLb : ((secL ⟨b, lost⟩).drop 0).take 128 = bvs b := by rw [List.drop_zero, secL, List.take_append_of_le_length (by rw [bvs_length]; simp [hsl]), List.take_of_length_le (by rw [bvs_length]; simp [hsl])]
    have hLl : (secL ⟨b, lost⟩)[128]? = some (.bool lost) := by rw [secL, List.getElem?_append_right (by rw [bvs_length]; simp [hsl]), bvs_length]; simp [hsl]
    have hbl : (bvs b).length = 128 := by rw [bvs_length]; exact hsl
    have hba : (bvs b).toArray.size = 128 := by simpa using hbl
    have HR := Lib.hid hr
    have HRE := Lib.hid hre
    have HRB := Lib.hid hrb
    clear hre hrb hs hr
    obtain ⟨L, hLL⟩ : ∃ L, secL ⟨b, lost⟩ = L := ⟨_, rfl⟩
    rw [hLL] at hlook hL hLs hL1 hLb hLl
    clear hLL
    repeat (first
      | (go_at_call 57; refine (dready_any _ base l d h1 a).mono ?_; rw [HR.out]; rintro e w2 ⟨rfl, rfl⟩; simp only [])
      | ((with_reducible refine wpl_store_fresh L.toArray i129 ?_ hLs hL1 ?_ ?_ ?_); (focus kernel_rfl); (focus rfl); (focus rfl); intro w3 hS hl3 hb3; simp only [Act.put]; refine Hid.out ?_)
      | go_values | go_skip | go_guarded | go_step | go_upon | go_back)
    refine Lib.hid ?_
    have hbb3 := below_next' hb1 hb3
    have hZ3 := hZ.below hb3 hZ.lt
    have c128 := hS.cell 128
    rw [List.getElem?_toArray, hLl] at c128
    clear hlook c1 hLl
    cases lost
    · have hfin : Ending.returned (.tuple #[.agg (bvs b).toArray, .int .i64 0]) = Ending.returned (.tuple #[.agg (bvs (readB d a)).toArray, .int .i64 (readE d a)]) := by rw [HRB.out, HRE.out]; rfl
      have HFIN := Lib.hid hfin
      clear hfin
      repeat (first
        | ((with_reducible refine wpl_load_mid w1.heap.size 0 L (bvs b) Try.underlying28 rfl i128 hS hLb hbl ?_ ?_); (focus rfl); simp only [Act.put, List.setIfInBounds_toArray, List.set_cons_zero, List.set_cons_succ])
        | ((with_reducible refine wpl_store w.heap.size _ _ (bvs b).toArray i128 hZ3 hzs hba (bvs_all _) ?_ ?_ ?_); (focus rfl); (focus rfl))
        | go_values | go_skip | go_guarded | go_step | go_upon | go_back)
      refine bodyPost_ret (results_cell_tmp rfl _ _ w.heap.size _ _ (0, 0) _ _ rfl rfl (hZ3.setRow _) Try.underlying28 rfl (by rw [hba]; exact i128)) rfl ?_
      exact ⟨HFIN.out, hbb3.grown (grownBy_setRow _ _ _) hbb3.size (fun p hp => by cases hp; exact Nat.le_refl _)⟩
    · have hfin : Ending.returned (.tuple #[.agg z, .int .i64 9]) = Ending.returned (.tuple #[.agg (bvs (readB d a)).toArray, .int .i64 (readE d a)]) := by rw [HRB.out, HRE.out, ← HZ.out]; rfl
      have HFIN := Lib.hid hfin
      clear hfin
      repeat (first
        | ((with_reducible refine wpl_load w.heap.size _ _ Try.underlying28 i128 hZ3 hzs ?_ ?_); (focus rfl); simp only [Act.put, List.setIfInBounds_toArray, List.set_cons_zero, List.set_cons_succ])
        | ((with_reducible refine wpl_store w.heap.size _ _ z i128 hZ3 hzs hzs hz1 ?_ ?_ ?_); (focus rfl); (focus rfl))
        | go_values | go_skip | go_guarded | go_step | go_upon | go_back)
      refine bodyPost_ret (results_cell_tmp rfl _ _ w.heap.size _ _ (0, 0) _ _ rfl rfl (hZ3.setRow _) Try.underlying28 rfl hzi) rfl ?_
      exact ⟨HFIN.out, hbb3.grown (grownBy_setRow _ _ _) hbb3.size (fun p hp => by cases hp; exact Nat.le_refl _)⟩
  · have hre : readE d a = readyE d.off a := by rw [readE, if_neg hr]
    have hrb : readB d a = zs := by rw [readB, if_neg (fun h => hr h.1)]
    obtain ⟨E, hE⟩ : ∃ E, readyE d.off a = E := ⟨_, rfl⟩
    rw [hE] at hr hre
    have hfin : Ending.returned (.tuple #[.agg z, .int .i64 E]) = Ending.returned (.tuple #[.agg (bvs (readB d a)).toArray, .int .i64 (readE d a)]) := by rw [hre, hrb, HZ.out]
    have HFIN := Lib.hid hfin
    clear hfin
    have hr' : (E != 0) = true := by simpa using hr
    have HE := Lib.hid hE
    clear hE hre hrb
    repeat (first
      | (go_at_call 57; refine (dready_any _ base l d h1 a).mono ?_; rw [HE.out]; rintro e w2 ⟨rfl, rfl⟩; simp only [])
      | ((with_reducible refine wpl_load w.heap.size _ _ Try.underlying28 i128 hZ hzs ?_ ?_); (focus rfl); simp only [Act.put, List.setIfInBounds_toArray, List.set_cons_zero, List.set_cons_succ])
      | ((with_reducible refine wpl_store w.heap.size _ _ z i128 hZ hzs hzs hz1 ?_ ?_ ?_); (focus rfl); (focus rfl))
      | go_values | go_skip | go_guarded | go_step | go_upon | go_back)
    refine bodyPost_ret (results_cell_tmp rfl _ _ w.heap.size _ _ (0, 0) _ _ rfl rfl (hZ.setRow _) Try.underlying28 rfl hzi) rfl ?_
    exact ⟨HFIN.out, hb1.grown (grownBy_setRow _ _ _) hb1.size (fun p hp => by cases hp; exact Nat.le_refl _)⟩
end Go.Proofs.Ytmjdfajdompkeaa
namespace Go.Rat
open Go Go.RowKit
section
variable {P : Program} {ops : Array Oper} {Q : Exit → Act → World → Prop} {S S2 : World → Prop} {b : Nat} {md : Region.Mode}
/-- Whatever order is picked; S is held as long as operation b has not come up. -/
def wpAnyB (P : Program) (md : Region.Mode) (ops : Array Oper) (Q : Exit → Act → World → Prop) (S : World → Prop) (b : Nat) : Nat → Array Bool → Act → World → Prop
  | 0, listed, a, w => Region.ready md ops listed = [] ∧ Q .normal a w
  | fuel + 1, listed, a, w =>
    (Region.ready md ops listed = [] → Q .normal a w) ∧
    ∀ i ∈ Region.ready md ops listed, wpOp P ops Q i (fun a' w' => ((listed.setIfInBounds i true).getD b true = false → S w') ∧ wpAnyB P md ops Q S b fuel (listed.setIfInBounds i true) a' w') a w
theorem wpAny_of_B : ∀ (fuel : Nat) (listed : Array Bool) (a : Act) (w : World), wpAnyB P md ops Q S b fuel listed a w → wpAny P md ops Q fuel listed a w
  | 0, _, _, _, h => h
  | fuel + 1, _, _, _, h => ⟨h.1, fun i hi => wpOp_mono (fun a' w' h' => wpAny_of_B fuel _ a' w' h'.2) (h.2 i hi)⟩
theorem getD_keep {listed : Array Bool} (i : Nat) (h : listed.getD b true = true) : (listed.setIfInBounds i true).getD b true = true := by
  by_cases hib : i = b
  · subst hib
    rcases Nat.lt_or_ge i listed.size with hl | hl
    · simp [hl]
    · simp [hl]
  · rw [getD_set_ne true hib]; exact h
/-- Behind b another knowledge serves. -/
theorem wpAnyB_of_H : ∀ (fuel : Nat) (listed : Array Bool) (a : Act) (w : World), listed.getD b true = true → wpAnyH P md ops Q S2 fuel listed a w → wpAnyB P md ops Q S b fuel listed a w
  | 0, _, _, _, _, h => h
  | fuel + 1, listed, _, _, hb, h => ⟨h.1, fun i hi => wpOp_mono (fun a' w' h' => ⟨fun hf => (by rw [getD_keep i hb] at hf; cases hf), wpAnyB_of_H fuel _ a' w' (getD_keep i hb) h'.2⟩) (h.2 i hi)⟩
theorem trueH : ∀ (fuel : Nat) (listed : Array Bool) (a : Act) (w : World), wpAnyB P md ops Q S b fuel listed a w → wpAnyH P md ops Q (fun _ => True) fuel listed a w
  | 0, _, _, _, h => h
  | fuel + 1, _, _, _, h => ⟨h.1, fun i hi => wpOp_mono (fun a' w' h' => ⟨trivial, trueH fuel _ a' w' h'.2⟩) (h.2 i hi)⟩
theorem wpAnyB_first {S1 : World → Prop} {i : Nat} {oi : Oper} {v : Value} (hi : ops[i]? = some oi) (hsel : ∀ (j : Nat) (o : Oper) cs b, ops[j]? = some o → o.op ≠ .select cs b)
    (hQ : ∀ c a w, Q (.panic c) (a.put oi.dst v) w → Q (.panic c) a w) (hib : i ≠ b)
    (hS1 : (∀ w, S1 w) ∨ ((∀ w, S w → S1 w) ∧ ∃ ob, ops[b]? = some ob ∧ ∃ e ∈ ob.after, Region.binds md e = true ∧ e.on = i)) :
    ∀ (fuel : Nat) (listed : Array Bool) (a : Act) (w : World),
      (∀ j oj, ops[j]? = some oj → j ≠ i → listed.getD j true = false → (∀ e ∈ oj.after, Region.binds md e = true → e.on ≠ i) → oi.apart ops oj = true) →
      i ∈ Region.ready md ops listed → YieldsIf P ops S1 oi v a → S w → listed.getD b true = false →
      wpAnyB P md ops Q S b fuel (listed.setIfInBounds i true) (a.put oi.dst v) w → wpAnyB P md ops Q S b (fuel + 1) listed a w := by
  have hsw : ∀ w, S w → S1 w := fun w hw => hS1.elim (fun h => h w) (fun h => h.1 w hw)
  intro fuel
  induction fuel with
  | zero =>
    intro listed a w _ hr hy hS _ H
    refine ⟨fun h => (by rw [h] at hr; cases hr), fun j hj => ?_⟩
    by_cases hji : j = i
    · subst hji; exact hy.wpOp hi (hsw _ hS) ⟨fun _ => hS, H⟩
    · have := ready_mono hj hji
      rw [H.1] at this
      cases this
  | succ fuel ih =>
    intro listed a w hfree hr hy hS hb H
    refine ⟨fun h => (by rw [h] at hr; cases hr), fun j hj => ?_⟩
    by_cases hji : j = i
    · subst hji; exact hy.wpOp hi (hsw _ hS) ⟨fun _ => hS, H⟩
    · have h1 := H.2 j (ready_mono hj hji)
      obtain ⟨hjun, oj, hoj, hall⟩ := mem_ready.1 hj
      have hnot : ∀ e ∈ oj.after, Region.binds md e = true → e.on ≠ i := fun e he hb heq => by
        have h1 := hall e he hb
        have h0 := (mem_ready.1 hr).1
        rw [heq] at h1
        rcases Nat.lt_or_ge i listed.size with h' | h'
        · simp [h'] at h0 h1; rw [h0] at h1; cases h1
        · simp [Array.getElem?_eq_none h'] at h1
      have hfree' : ∀ k ok, ops[k]? = some ok → k ≠ i → (listed.setIfInBounds j true).getD k true = false →
          (∀ e ∈ ok.after, Region.binds md e = true → e.on ≠ i) → oi.apart ops ok = true := fun k ok hk hki hun hno => by
        refine hfree k ok hk hki ?_ hno
        by_cases hjk : j = k
        · subst hjk; exact hjun
        · rw [getD_set_ne true hjk] at hun; exact hun
      have h2 := wpOp_putIf hoj (hfree j oj hoj hji hjun hnot) (fun cs b => hsel i oi cs b hi) (fun cs b => hsel j oj cs b hoj) hQ hy h1
      refine wpOp_mono (fun a' w' h3 => ?_) h2
      obtain ⟨hy', hSx, H3⟩ := h3
      rw [Array.setIfInBounds_comm _ _ (Ne.symm hji)] at H3
      by_cases hjb : j = b
      · subst hjb
        have hjl : (listed.setIfInBounds j true).getD j true = true := by
          rcases Nat.lt_or_ge j listed.size with hl | hl
          · simp [hl]
          · simp [hl]
        rcases hS1 with h | ⟨_, ob, hob, e, he, hbe, heq⟩
        · refine ⟨fun hf => (by rw [hjl] at hf; cases hf), ?_⟩
          have := wpAnyH_first (S := fun _ => True) (md := md) hi hsel hQ fuel (listed.setIfInBounds j true) a' w' hfree' (ready_mono hr (Ne.symm hji)) (by
            rcases hy' with ⟨g1, g2⟩ | g
            · exact .inl ⟨g1, fun w _ => g2 w (h w)⟩
            · exact .inr g) trivial ?_
          · exact wpAnyB_of_H _ _ _ _ hjl this
          · exact trueH fuel _ _ _ H3
        · rw [hob] at hoj
          cases hoj
          exact absurd heq (hnot e he hbe)
      · have hbl : (listed.setIfInBounds j true).getD b true = false := by rw [getD_set_ne true hjb]; exact hb
        have hSw : S w' := hSx (by rw [getD_set_ne true hjb, getD_set_ne true hib]; exact hb)
        exact ⟨fun _ => hSw, ih (listed.setIfInBounds j true) a' w' hfree' (ready_mono hr (Ne.symm hji)) hy' hSw hbl H3⟩
/-- The walk up to b: (operation, does it need S). -/
def wpQ (P : Program) (ops : Array Oper) (S : World → Prop) (k : Act → World → Prop) : List (Oper × Bool) → Act → World → Prop
  | [], a, w => k a w
  | (o, dep) :: rest, a, w =>
    (Region.wanted o (yielded ops a.tmps) = true ∧ ∃ v, (∀ x, (dep = true → S x) → (execOp a.eval o).run P x = .ok (.value v) x) ∧ wpQ P ops S k rest (a.put o.dst v) w) ∨
    (Region.wanted o (yielded ops a.tmps) = false ∧ wpQ P ops S k rest (a.put o.dst undef) w)
def depsOn (ops : Array Oper) (b i : Nat) : Bool := match ops[b]? with
  | some o => o.after.toList.any fun e => Region.binds .any e && e.on == i
  | none => false
def planB (ops : Array Oper) (b : Nat) (post : List (Nat × Bool)) : List (Nat × Bool) → Array Bool → Bool
  | [], listed => decide (Region.ready .any ops listed = [b]) && (ops[b]?).isSome && planOK ops post (listed.setIfInBounds b true)
  | (i, dep) :: rest, listed => (Region.ready .any ops listed).contains i && Region.free .any ops listed i && (ops[i]?).isSome && (i != b) && !(listed.getD b true) && (!dep || depsOn ops b i) && planB ops b post rest (listed.setIfInBounds i true)
theorem wpQ_sound (hs : Region.noSelect ops = true) (hQ : ∀ c a d v w, Q (.panic c) (Act.put a d v) w → Q (.panic c) a w) {post : List (Nat × Bool)} {ob : Oper} (hob : ops[b]? = some ob) (hbs : b < ops.size) :
    ∀ (pre : List (Nat × Bool)) (listed : Array Bool) (a : Act) (w : World), listed.size = ops.size → planB ops b post pre listed = true → S w →
      wpQ P ops S (fun a w => Region.wanted ob (yielded ops a.tmps) = true ∧ ob.wp P a w (fun a' w' => ∃ S2 : World → Prop, S2 w' ∧ wpS P ops Q (planOps ops post) S2 a' w') Q) (planOps ops pre) a w →
      wpAnyB P .any ops Q S b (pre.length + 1 + post.length) listed a w := by
  intro pre
  induction pre with
  | nil =>
    intro listed a w hsz hp hS h
    simp only [planB, Bool.and_eq_true, decide_eq_true_eq] at hp
    obtain ⟨⟨h1, h2⟩, h3⟩ := hp
    obtain ⟨hw, hk⟩ := h
    rw [List.length_nil, Nat.zero_add, Nat.add_comm]
    have hbl : (listed.setIfInBounds b true).getD b true = true := by simp [hsz, hbs]
    refine ⟨fun h0 => (by rw [h1] at h0; cases h0), fun j hj => ?_⟩
    obtain rfl : j = b := by rw [h1] at hj; simpa using hj
    unfold wpOp
    simp only [hob, hw, if_true]
    refine .inl (Oper.wp_mono ?_ hk)
    rintro a' w' ⟨S2, h5, h7⟩
    exact ⟨fun hf => (by rw [hbl] at hf; cases hf), wpAnyB_of_H _ _ _ _ hbl (wpS_sound hs hQ post _ S2 a' w' h3 h5 h7)⟩
  | cons x pre ih =>
    obtain ⟨i, dep⟩ := x
    intro listed a w hsz hp hS h
    simp only [planB, Bool.and_eq_true, Bool.not_eq_true', bne_iff_ne, Bool.or_eq_true] at hp
    obtain ⟨⟨⟨⟨⟨⟨h1, h2⟩, h3⟩, h4⟩, h5⟩, h6⟩, h7⟩ := hp
    obtain ⟨o, ho⟩ := Option.isSome_iff_exists.1 h3
    simp only [planOps, ho, wpQ] at h
    have hl : ((i, dep) :: pre).length + 1 + post.length = (pre.length + 1 + post.length) + 1 := by simp only [List.length_cons]; omega
    rw [hl]
    have hdep : (∀ w, (fun x => dep = true → S x) w) ∨ ((∀ w, S w → (fun x => dep = true → S x) w) ∧ ∃ ob, ops[b]? = some ob ∧ ∃ e ∈ ob.after, Region.binds .any e = true ∧ e.on = i) := by
      rcases h6 with h6 | h6
      · exact .inl fun w hd => by rw [h6] at hd; cases hd
      · refine .inr ⟨fun w hw _ => hw, ob, hob, ?_⟩
        simp only [depsOn, hob, List.any_eq_true, Bool.and_eq_true, beq_iff_eq] at h6
        obtain ⟨e, he, h8, h9⟩ := h6
        exact ⟨e, by simpa using he, h8, h9⟩
    rcases h with ⟨hw, v, hv, hk⟩ | ⟨hw, hk⟩
    · exact wpAnyB_first (S1 := fun x => dep = true → S x) ho (Region.noSelect_spec hs) (fun c a w => hQ c a _ _ w) h4 hdep _ _ _ _ (Region.free_spec ho h2) (by simpa using h1) (.inl ⟨hw, hv⟩) hS h5 (ih _ _ _ (by simpa using hsz) h7 hS hk)
    · exact wpAnyB_first (S1 := fun x => dep = true → S x) ho (Region.noSelect_spec hs) (fun c a w => hQ c a _ _ w) h4 hdep _ _ _ _ (Region.free_spec ho h2) (by simpa using h1) (.inr ⟨hw, rfl⟩) hS h5 (ih _ _ _ (by simpa using hsz) h7 hS hk)
theorem wp_region_barrier {id : Nat} {a : Act} {w : World} (pre : List (Nat × Bool)) (b : Nat) (post : List (Nat × Bool)) (S : World → Prop) (ob : Oper) (hob : ops[b]? = some ob) (hm : P.follows .mixedOrders = true) (hs : Region.noSelect ops = true)
    (hp : planB ops b post pre (Array.replicate ops.size false) = true) (hl : pre.length + 1 + post.length = ops.size)
    (hQ : ∀ c a d v w, Q (.panic c) (Act.put a d v) w → Q (.panic c) a w) (hS : S w.drew)
    (h : wpQ P ops S (fun a w => Region.wanted ob (yielded ops a.tmps) = true ∧ ob.wp P a w (fun a' w' => ∃ S2 : World → Prop, S2 w' ∧ wpS P ops Q (planOps ops post) S2 a' w') Q) (planOps ops pre) a w.drew) : (Code.region id ops true).wp P Q a w := by
  have hbs : b < ops.size := by
    rcases Nat.lt_or_ge b ops.size with h | h
    · exact h
    · rw [Array.getElem?_eq_none h] at hob; cases hob
  refine wp_region_any hm ?_
  have := wpAny_of_B _ _ _ _ (wpQ_sound (b := b) (post := post) hs hQ hob hbs pre _ a w.drew (by simp) hp hS h)
  rwa [hl] at this
theorem wpQ_q {k : Act → World → Prop} {o : Oper} {dep : Bool} {rest : List (Oper × Bool)} {a : Act} {w : World} (v : Value) (hw : Region.wanted o (yielded ops a.tmps) = true) (h : ∀ x, (dep = true → S x) → (execOp a.eval o).run P x = .ok (.value v) x)
    (hk : wpQ P ops S k rest (a.put o.dst v) w) : wpQ P ops S k ((o, dep) :: rest) a w := .inl ⟨hw, v, h, hk⟩
theorem wpQ_nil {k : Act → World → Prop} {a : Act} {w : World} (h : k a w) : wpQ P ops S k [] a w := h
end
end Go.Rat
namespace Go.Rat
open Go Go.RowKit
section
variable {P : Program} {ops : Array Oper} {Q : Exit → Act → World → Prop} {Sp S S2 : World → Prop} {b : Nat} {md : Region.Mode}
def wpAnyC (P : Program) (md : Region.Mode) (ops : Array Oper) (Q : Exit → Act → World → Prop) (Sp S : World → Prop) (b : Nat) : Nat → Array Bool → Act → World → Prop
  | 0, listed, a, w => Region.ready md ops listed = [] ∧ Q .normal a w
  | fuel + 1, listed, a, w =>
    (Region.ready md ops listed = [] → Q .normal a w) ∧
    ∀ i ∈ Region.ready md ops listed, wpOp P ops Q i (fun a' w' => (Sp w' ∧ ((listed.setIfInBounds i true).getD b true = false → S w')) ∧ wpAnyC P md ops Q Sp S b fuel (listed.setIfInBounds i true) a' w') a w
theorem wpAny_of_C : ∀ (fuel : Nat) (listed : Array Bool) (a : Act) (w : World), wpAnyC P md ops Q Sp S b fuel listed a w → wpAny P md ops Q fuel listed a w
  | 0, _, _, _, h => h
  | fuel + 1, _, _, _, h => ⟨h.1, fun i hi => wpOp_mono (fun a' w' h' => wpAny_of_C fuel _ a' w' h'.2) (h.2 i hi)⟩
theorem wpAnyC_of_H (h2 : ∀ x, S2 x → Sp x) : ∀ (fuel : Nat) (listed : Array Bool) (a : Act) (w : World), listed.getD b true = true → wpAnyH P md ops Q S2 fuel listed a w → wpAnyC P md ops Q Sp S b fuel listed a w
  | 0, _, _, _, _, h => h
  | fuel + 1, listed, _, _, hb, h => ⟨h.1, fun i hi => wpOp_mono (fun a' w' h' => ⟨⟨h2 _ h'.1, fun hf => (by rw [getD_keep i hb] at hf; cases hf)⟩, wpAnyC_of_H h2 fuel _ a' w' (getD_keep i hb) h'.2⟩) (h.2 i hi)⟩
theorem persH : ∀ (fuel : Nat) (listed : Array Bool) (a : Act) (w : World), wpAnyC P md ops Q Sp S b fuel listed a w → wpAnyH P md ops Q Sp fuel listed a w
  | 0, _, _, _, h => h
  | fuel + 1, _, _, _, h => ⟨h.1, fun i hi => wpOp_mono (fun a' w' h' => ⟨h'.1.1, persH fuel _ a' w' h'.2⟩) (h.2 i hi)⟩
theorem wpAnyC_first {S1 : World → Prop} {i : Nat} {oi : Oper} {v : Value} (hi : ops[i]? = some oi) (hsel : ∀ (j : Nat) (o : Oper) cs b, ops[j]? = some o → o.op ≠ .select cs b)
    (hQ : ∀ c a w, Q (.panic c) (a.put oi.dst v) w → Q (.panic c) a w) (hib : i ≠ b)
    (hS1 : (∀ w, Sp w → S1 w) ∨ ((∀ w, S w → S1 w) ∧ ∃ ob, ops[b]? = some ob ∧ ∃ e ∈ ob.after, Region.binds md e = true ∧ e.on = i)) :
    ∀ (fuel : Nat) (listed : Array Bool) (a : Act) (w : World),
      (∀ j oj, ops[j]? = some oj → j ≠ i → listed.getD j true = false → (∀ e ∈ oj.after, Region.binds md e = true → e.on ≠ i) → oi.apart ops oj = true) →
      i ∈ Region.ready md ops listed → YieldsIf P ops S1 oi v a → Sp w → S w → listed.getD b true = false →
      wpAnyC P md ops Q Sp S b fuel (listed.setIfInBounds i true) (a.put oi.dst v) w → wpAnyC P md ops Q Sp S b (fuel + 1) listed a w := by
  have hsw : ∀ w, Sp w → S w → S1 w := fun w hp hw => hS1.elim (fun h => h w hp) (fun h => h.1 w hw)
  intro fuel
  induction fuel with
  | zero =>
    intro listed a w _ hr hy hp hS _ H
    refine ⟨fun h => (by rw [h] at hr; cases hr), fun j hj => ?_⟩
    by_cases hji : j = i
    · subst hji; exact hy.wpOp hi (hsw _ hp hS) ⟨⟨hp, fun _ => hS⟩, H⟩
    · have := ready_mono hj hji
      rw [H.1] at this
      cases this
  | succ fuel ih =>
    intro listed a w hfree hr hy hp hS hb H
    refine ⟨fun h => (by rw [h] at hr; cases hr), fun j hj => ?_⟩
    by_cases hji : j = i
    · subst hji; exact hy.wpOp hi (hsw _ hp hS) ⟨⟨hp, fun _ => hS⟩, H⟩
    · have h1 := H.2 j (ready_mono hj hji)
      obtain ⟨hjun, oj, hoj, hall⟩ := mem_ready.1 hj
      have hnot : ∀ e ∈ oj.after, Region.binds md e = true → e.on ≠ i := fun e he hb heq => by
        have h1 := hall e he hb
        have h0 := (mem_ready.1 hr).1
        rw [heq] at h1
        rcases Nat.lt_or_ge i listed.size with h' | h'
        · simp [h'] at h0 h1; rw [h0] at h1; cases h1
        · simp [Array.getElem?_eq_none h'] at h1
      have hfree' : ∀ k ok, ops[k]? = some ok → k ≠ i → (listed.setIfInBounds j true).getD k true = false →
          (∀ e ∈ ok.after, Region.binds md e = true → e.on ≠ i) → oi.apart ops ok = true := fun k ok hk hki hun hno => by
        refine hfree k ok hk hki ?_ hno
        by_cases hjk : j = k
        · subst hjk; exact hjun
        · rw [getD_set_ne true hjk] at hun; exact hun
      have h2 := wpOp_putIf hoj (hfree j oj hoj hji hjun hnot) (fun cs b => hsel i oi cs b hi) (fun cs b => hsel j oj cs b hoj) hQ hy h1
      refine wpOp_mono (fun a' w' h3 => ?_) h2
      obtain ⟨hy', ⟨hpx, hSx⟩, H3⟩ := h3
      rw [Array.setIfInBounds_comm _ _ (Ne.symm hji)] at H3
      by_cases hjb : j = b
      · subst hjb
        have hjl : (listed.setIfInBounds j true).getD j true = true := by
          rcases Nat.lt_or_ge j listed.size with hl | hl
          · simp [hl]
          · simp [hl]
        rcases hS1 with h | ⟨_, ob, hob, e, he, hbe, heq⟩
        · refine ⟨⟨hpx, fun hf => (by rw [hjl] at hf; cases hf)⟩, ?_⟩
          have := wpAnyH_first (S := Sp) (md := md) hi hsel hQ fuel (listed.setIfInBounds j true) a' w' hfree' (ready_mono hr (Ne.symm hji)) (by
            rcases hy' with ⟨g1, g2⟩ | g
            · exact .inl ⟨g1, fun w hw => g2 w (h w hw)⟩
            · exact .inr g) hpx ?_
          · exact wpAnyC_of_H (fun _ h => h) _ _ _ _ hjl this
          · exact persH fuel _ _ _ H3
        · rw [hob] at hoj
          cases hoj
          exact absurd heq (hnot e he hbe)
      · have hbl : (listed.setIfInBounds j true).getD b true = false := by rw [getD_set_ne true hjb]; exact hb
        have hSw : S w' := hSx (by rw [getD_set_ne true hjb, getD_set_ne true hib]; exact hb)
        exact ⟨⟨hpx, fun _ => hSw⟩, ih (listed.setIfInBounds j true) a' w' hfree' (ready_mono hr (Ne.symm hji)) hy' hpx hSw hbl H3⟩
/-- The walk up to b: 0 reads what holds throughout, 1 reads what holds up to b, 2 is a step of its own. -/
def wpC (P : Program) (ops : Array Oper) (Q : Exit → Act → World → Prop) (Sp S : World → Prop) (k : Act → World → Prop) : List (Oper × Nat) → Act → World → Prop
  | [], a, w => k a w
  | (o, 0) :: rest, a, w =>
    (Region.wanted o (yielded ops a.tmps) = true ∧ ∃ v, (∀ x, Sp x → (execOp a.eval o).run P x = .ok (.value v) x) ∧ wpC P ops Q Sp S k rest (a.put o.dst v) w) ∨
    (Region.wanted o (yielded ops a.tmps) = false ∧ wpC P ops Q Sp S k rest (a.put o.dst undef) w)
  | (o, 1) :: rest, a, w =>
    (Region.wanted o (yielded ops a.tmps) = true ∧ ∃ v, (∀ x, S x → (execOp a.eval o).run P x = .ok (.value v) x) ∧ wpC P ops Q Sp S k rest (a.put o.dst v) w) ∨
    (Region.wanted o (yielded ops a.tmps) = false ∧ wpC P ops Q Sp S k rest (a.put o.dst undef) w)
  | (o, _ + 2) :: rest, a, w =>
    Region.wanted o (yielded ops a.tmps) = true ∧ o.wp P a w (fun a' w' => Sp w' ∧ S w' ∧ wpC P ops Q Sp S k rest a' w') Q
def planOpsN (ops : Array Oper) : List (Nat × Nat) → List (Oper × Nat)
  | [] => []
  | (i, q) :: rest => match ops[i]? with
    | some o => (o, q) :: planOpsN ops rest
    | none => planOpsN ops rest
def planC (ops : Array Oper) (b : Nat) (post : List (Nat × Bool)) : List (Nat × Nat) → Array Bool → Bool
  | [], listed => decide (Region.ready .any ops listed = [b]) && (ops[b]?).isSome && planOK ops post (listed.setIfInBounds b true)
  | (i, 0) :: rest, listed => (Region.ready .any ops listed).contains i && Region.free .any ops listed i && (ops[i]?).isSome && (i != b) && !(listed.getD b true) && planC ops b post rest (listed.setIfInBounds i true)
  | (i, 1) :: rest, listed => (Region.ready .any ops listed).contains i && Region.free .any ops listed i && (ops[i]?).isSome && (i != b) && !(listed.getD b true) && depsOn ops b i && planC ops b post rest (listed.setIfInBounds i true)
  | (i, _ + 2) :: rest, listed => decide (Region.ready .any ops listed = [i]) && (ops[i]?).isSome && (i != b) && !(listed.getD b true) && planC ops b post rest (listed.setIfInBounds i true)
theorem wpC_sound (hs : Region.noSelect ops = true) (hQ : ∀ c a d v w, Q (.panic c) (Act.put a d v) w → Q (.panic c) a w) {post : List (Nat × Bool)} {ob : Oper} (hob : ops[b]? = some ob) (hbs : b < ops.size) :
    ∀ (pre : List (Nat × Nat)) (listed : Array Bool) (a : Act) (w : World), listed.size = ops.size → planC ops b post pre listed = true → Sp w → S w →
      wpC P ops Q Sp S (fun a w => Region.wanted ob (yielded ops a.tmps) = true ∧ ob.wp P a w (fun a' w' => ∃ S2 : World → Prop, S2 w' ∧ (∀ x, S2 x → Sp x) ∧ wpS P ops Q (planOps ops post) S2 a' w') Q) (planOpsN ops pre) a w →
      wpAnyC P .any ops Q Sp S b (pre.length + 1 + post.length) listed a w := by
  intro pre
  induction pre with
  | nil =>
    intro listed a w hsz hp _ hS h
    simp only [planC, Bool.and_eq_true, decide_eq_true_eq] at hp
    obtain ⟨⟨h1, h2⟩, h3⟩ := hp
    obtain ⟨hw, hk⟩ := h
    rw [List.length_nil, Nat.zero_add, Nat.add_comm]
    have hbl : (listed.setIfInBounds b true).getD b true = true := by simp [hsz, hbs]
    refine ⟨fun h0 => (by rw [h1] at h0; cases h0), fun j hj => ?_⟩
    obtain rfl : j = b := by rw [h1] at hj; simpa using hj
    unfold wpOp
    simp only [hob, hw, if_true]
    refine .inl (Oper.wp_mono ?_ hk)
    rintro a' w' ⟨S2, h5, h6, h7⟩
    exact ⟨⟨h6 _ h5, fun hf => (by rw [hbl] at hf; cases hf)⟩, wpAnyC_of_H h6 _ _ _ _ hbl (wpS_sound hs hQ post _ S2 a' w' h3 h5 h7)⟩
  | cons x pre ih =>
    obtain ⟨i, kind⟩ := x
    intro listed a w hsz hp hP hS h
    have hl : ((i, kind) :: pre).length + 1 + post.length = (pre.length + 1 + post.length) + 1 := by simp only [List.length_cons]; omega
    rw [hl]
    match kind with
    | 0 =>
      simp only [planC, Bool.and_eq_true, Bool.not_eq_true', bne_iff_ne] at hp
      obtain ⟨⟨⟨⟨⟨h1, h2⟩, h3⟩, h4⟩, h5⟩, h7⟩ := hp
      obtain ⟨o, ho⟩ := Option.isSome_iff_exists.1 h3
      simp only [planOpsN, ho, wpC] at h
      rcases h with ⟨hw, v, hv, hk⟩ | ⟨hw, hk⟩
      · exact wpAnyC_first (S1 := Sp) ho (Region.noSelect_spec hs) (fun c a w => hQ c a _ _ w) h4 (.inl fun _ h => h) _ _ _ _ (Region.free_spec ho h2) (by simpa using h1) (.inl ⟨hw, hv⟩) hP hS h5 (ih _ _ _ (by simpa using hsz) h7 hP hS hk)
      · exact wpAnyC_first (S1 := Sp) ho (Region.noSelect_spec hs) (fun c a w => hQ c a _ _ w) h4 (.inl fun _ h => h) _ _ _ _ (Region.free_spec ho h2) (by simpa using h1) (.inr ⟨hw, rfl⟩) hP hS h5 (ih _ _ _ (by simpa using hsz) h7 hP hS hk)
    | 1 =>
      simp only [planC, Bool.and_eq_true, Bool.not_eq_true', bne_iff_ne] at hp
      obtain ⟨⟨⟨⟨⟨⟨h1, h2⟩, h3⟩, h4⟩, h5⟩, h6⟩, h7⟩ := hp
      obtain ⟨o, ho⟩ := Option.isSome_iff_exists.1 h3
      simp only [planOpsN, ho, wpC] at h
      have hdep : (∀ w, Sp w → S w) ∨ ((∀ w, S w → S w) ∧ ∃ ob, ops[b]? = some ob ∧ ∃ e ∈ ob.after, Region.binds .any e = true ∧ e.on = i) := by
        refine .inr ⟨fun w hw => hw, ob, hob, ?_⟩
        simp only [depsOn, hob, List.any_eq_true, Bool.and_eq_true, beq_iff_eq] at h6
        obtain ⟨e, he, h8, h9⟩ := h6
        exact ⟨e, by simpa using he, h8, h9⟩
      rcases h with ⟨hw, v, hv, hk⟩ | ⟨hw, hk⟩
      · exact wpAnyC_first (S1 := S) ho (Region.noSelect_spec hs) (fun c a w => hQ c a _ _ w) h4 hdep _ _ _ _ (Region.free_spec ho h2) (by simpa using h1) (.inl ⟨hw, hv⟩) hP hS h5 (ih _ _ _ (by simpa using hsz) h7 hP hS hk)
      · exact wpAnyC_first (S1 := S) ho (Region.noSelect_spec hs) (fun c a w => hQ c a _ _ w) h4 hdep _ _ _ _ (Region.free_spec ho h2) (by simpa using h1) (.inr ⟨hw, rfl⟩) hP hS h5 (ih _ _ _ (by simpa using hsz) h7 hP hS hk)
    | q + 2 =>
      simp only [planC, Bool.and_eq_true, Bool.not_eq_true', bne_iff_ne, decide_eq_true_eq] at hp
      obtain ⟨⟨⟨⟨h1, h3⟩, h4⟩, h5⟩, h7⟩ := hp
      obtain ⟨o, ho⟩ := Option.isSome_iff_exists.1 h3
      simp only [planOpsN, ho, wpC] at h
      obtain ⟨hw, hk⟩ := h
      refine ⟨fun h0 => (by rw [h1] at h0; cases h0), fun j hj => ?_⟩
      obtain rfl : j = i := by rw [h1] at hj; simpa using hj
      unfold wpOp
      simp only [ho, hw, if_true]
      refine .inl (Oper.wp_mono ?_ hk)
      rintro a' w' ⟨g1, g2, g3⟩
      exact ⟨⟨g1, fun _ => g2⟩, ih _ _ _ (by simpa using hsz) h7 g1 g2 g3⟩
theorem wp_region_barb {id : Nat} {a : Act} {w : World} (pre : List (Nat × Nat)) (b : Nat) (post : List (Nat × Bool)) (Sp S : World → Prop) (ob : Oper) (hob : ops[b]? = some ob) (hm : P.follows .mixedOrders = true) (hs : Region.noSelect ops = true)
    (hp : planC ops b post pre (Array.replicate ops.size false) = true) (hl : pre.length + 1 + post.length = ops.size)
    (hQ : ∀ c a d v w, Q (.panic c) (Act.put a d v) w → Q (.panic c) a w) (hP : Sp w.drew) (hS : S w.drew)
    (h : wpC P ops Q Sp S (fun a w => Region.wanted ob (yielded ops a.tmps) = true ∧ ob.wp P a w (fun a' w' => ∃ S2 : World → Prop, S2 w' ∧ (∀ x, S2 x → Sp x) ∧ wpS P ops Q (planOps ops post) S2 a' w') Q) (planOpsN ops pre) a w.drew) : (Code.region id ops true).wp P Q a w := by
  have hbs : b < ops.size := by
    rcases Nat.lt_or_ge b ops.size with h | h
    · exact h
    · rw [Array.getElem?_eq_none h] at hob; cases hob
  refine wp_region_any hm ?_
  have := wpAny_of_C _ _ _ _ (wpC_sound (b := b) (post := post) hs hQ hob hbs pre _ a w.drew (by simp) hp hP hS h)
  rwa [hl] at this
theorem wpC_0 {k : Act → World → Prop} {o : Oper} {rest : List (Oper × Nat)} {a : Act} {w : World} (v : Value) (hw : Region.wanted o (yielded ops a.tmps) = true) (h : ∀ x, Sp x → (execOp a.eval o).run P x = .ok (.value v) x)
    (hk : wpC P ops Q Sp S k rest (a.put o.dst v) w) : wpC P ops Q Sp S k ((o, 0) :: rest) a w := .inl ⟨hw, v, h, hk⟩
theorem wpC_1 {k : Act → World → Prop} {o : Oper} {rest : List (Oper × Nat)} {a : Act} {w : World} (v : Value) (hw : Region.wanted o (yielded ops a.tmps) = true) (h : ∀ x, S x → (execOp a.eval o).run P x = .ok (.value v) x)
    (hk : wpC P ops Q Sp S k rest (a.put o.dst v) w) : wpC P ops Q Sp S k ((o, 1) :: rest) a w := .inl ⟨hw, v, h, hk⟩
theorem wpC_2 {k : Act → World → Prop} {o : Oper} {rest : List (Oper × Nat)} {a : Act} {w : World} (hw : Region.wanted o (yielded ops a.tmps) = true)
    (h : ∀ K : Act → World → Prop, (∀ a' w', Sp w' → S w' → wpC P ops Q Sp S k rest a' w' → K a' w') → o.wp P a w K Q) : wpC P ops Q Sp S k ((o, 2) :: rest) a w :=
  ⟨hw, h _ fun _ _ h1 h2 h3 => ⟨h1, h2, h3⟩⟩
theorem wpC_nil {k : Act → World → Prop} {a : Act} {w : World} (h : k a w) : wpC P ops Q Sp S k [] a w := h
end
end Go.Rat
