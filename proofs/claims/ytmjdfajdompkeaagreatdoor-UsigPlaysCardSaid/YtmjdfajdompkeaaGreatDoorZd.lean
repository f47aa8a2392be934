/- disk: what a disk is, in plain words and in memory. -/
import Derived.Test.YtmjdfajdompkeaaGreatDoorZa
import Derived.Deep.DeepCutAuto
import Derived.Deep.CutBlock
namespace Go.Proofs.YtmjdfajdompkeaaGreatDoor
open Go.RowKit Go.Rat
/-- From w to w': new blocks; of the old ones only those of F may have turned. -/
structure Chg (F : Nat → Prop) (w w' : World) : Prop where
  os : w'.os = w.os
  tape : w'.tape = w.tape
  output : w'.output = w.output
  size : w.heap.size ≤ w'.heap.size
  block : ∀ k, k < w.heap.size → ¬ F k → w'.heap[k]? = w.heap[k]?
section
variable {F G : Nat → Prop} {w w' w'' : World}
theorem Chg.refl (F : Nat → Prop) (w : World) : Chg F w w := ⟨rfl, rfl, rfl, Nat.le_refl _, fun _ _ _ => rfl⟩
theorem Chg.trans (h : Chg F w w') (k : Chg G w' w'') (hG : ∀ x, G x → F x ∨ w.heap.size ≤ x) : Chg F w w'' :=
  ⟨k.os.trans h.os, k.tape.trans h.tape, k.output.trans h.output, Nat.le_trans h.size k.size, fun x hx hF => (k.block x (Nat.lt_of_lt_of_le hx h.size) (fun hg => by
    rcases hG x hg with h1 | h1
    · exact hF h1
    · omega)).trans (h.block x hx hF)⟩
theorem Chg.mono (h : Chg F w w') (hG : ∀ x, F x → G x) : Chg G w w' := ⟨h.os, h.tape, h.output, h.size, fun x hx hF => h.block x hx (fun hf => hF (hG x hf))⟩
theorem Chg.of_grown {g : Nat} (h : w.grownBy w' (some g)) (hg : F g) : Chg F w w' := ⟨h.os, h.tape, h.output, h.size, fun x hx hF => h.block x hx (fun e => hF (by cases e; exact hg))⟩
theorem Chg.of_grown' {row : Option Nat} (h : w.grownBy w' row) (hg : ∀ g, row = some g → F g) : Chg F w w' := ⟨h.os, h.tape, h.output, h.size, fun x hx hF => h.block x hx (fun e => hF (hg x e.symm))⟩
theorem Chg.of_below (F : Nat → Prop) (h : Below w.heap.size w w') : Chg F w w' := ⟨h.os, h.tape, h.output, h.size, fun x hx _ => h.block x hx⟩
theorem Chg.below {B : Nat} (h : Chg F w w') (hF : ∀ x, F x → B ≤ x) (hB : B ≤ w.heap.size) : Below B w w' := ⟨h.os, h.tape, h.output, h.size, fun x hx => h.block x (by omega) (fun hf => by have := hF x hf; omega)⟩
theorem Chg.blk {g : Nat} {T : TypeId} {cs : Array Value} (h : Chg F w w') (hB : Blk w g T cs) (hg : ¬ F g) : Blk w' g T cs := (h.block g hB.lt hg).trans hB
theorem Chg.mapV {z : Value} {g : Nat} {f : Int → Value} (h : Chg F w w') (hB : MapV z w g f) (hg : ¬ F g) : MapV z w' g f := hB.same (h.block g hB.lt hg)
theorem Chg.own {base size n c : Nat} {e : TypeId} {A : Option Addr} {xs : List Value} (h : Chg F w w') (hO : w.ownsRow base e size (.slice A n c) n xs) (hg : ∀ x, A.map (·.block) = some x → ¬ F x) : w'.ownsRow base e size (.slice A n c) n xs := by
  refine ⟨hO.1, ?_⟩
  rcases hO.2 with h1 | ⟨g, cap, cur, hv, hb, hgg, rest⟩
  · exact .inl h1
  · refine .inr ⟨g, cap, cur, hv, hb, ?_, rest⟩
    injection hv with h3 h4 h5
    subst h3
    rw [h.block g (Array.getElem?_eq_some_iff.1 hgg).1 (hg g rfl)]
    exact hgg
theorem Chg.rb {A : Option Addr} {n : Nat} {xs : List UInt8} (h : Chg F w w') (hr : RB w A n xs) (hg : ∀ x, A.map (·.block) = some x → ¬ F x) : RB w' A n xs := by
  refine ⟨hr.1, fun hn => ?_⟩
  obtain ⟨ad, rfl, hb, hc⟩ := hr.2 hn
  refine ⟨ad, rfl, Nat.lt_of_lt_of_le hb h.size, fun j u hu => ?_⟩
  rw [World.cell?_of_block (w := w) (h.block _ (by rw [block_of_add]; exact hb) (by rw [block_of_add]; exact hg _ rfl))]
  exact hc j u hu
end
/-- A sector, a disk. -/
structure Sec where
  b : List UInt8
  lost : Bool
def zs : List UInt8 := List.replicate 128 0
theorem zs_length : zs.length = 128 := by rw [zs, List.length_replicate]
def zsec : Sec := ⟨zs, false⟩
def secL (s : Sec) : List Value := bvs s.b ++ [.bool s.lost]
def secV (s : Sec) : Value := .agg (secL s).toArray
structure DS where
  sure : Int → Sec
  now : Int → Sec
  loose : List (Int × List UInt8)
  off : Bool
  fuse : Int
def looseC (l : List (Int × List UInt8)) : List Value := l.flatMap fun x => .int .i64 x.1 :: bvs x.2
structure DOk (d : DS) : Prop where
  sure : ∀ a, (d.sure a).b.length = 128
  now : ∀ a, (d.now a).b.length = 128
  loose : ∀ x ∈ d.loose, (0 ≤ x.1 ∧ x.1 < 32768) ∧ x.2.length = 128
  fuse : -1 ≤ d.fuse ∧ d.fuse ≤ 9223372036854775807
/-- Where a disk lies. -/
structure DL where
  g : Nat
  gs : Nat
  gn : Nat
  A : Option Addr
  c : Nat
def DL.fp (l : DL) (x : Nat) : Prop := x = l.g ∨ x = l.gs ∨ x = l.gn ∨ l.A.map (·.block) = some x
structure DiskAt (w : World) (base : Nat) (l : DL) (d : DS) : Prop where
  blk : Blk w l.g 67 #[.map (some l.gs), .map (some l.gn), .slice l.A d.loose.length l.c, .bool d.off, .int .i64 d.fuse]
  sure : MapV (secV zsec) w l.gs (fun a => secV (d.sure a))
  now : MapV (secV zsec) w l.gn (fun a => secV (d.now a))
  row : w.ownsRow base 91 129 (.slice l.A d.loose.length l.c) d.loose.length (looseC d.loose)
  ne1 : l.g ≠ l.gs
  ne2 : l.g ≠ l.gn
  ne3 : l.gs ≠ l.gn
  rg : l.A.map (·.block) ≠ some l.g
  rs : l.A.map (·.block) ≠ some l.gs
  rn : l.A.map (·.block) ≠ some l.gn
  bg : base ≤ l.g
  bs : base ≤ l.gs
  bn : base ≤ l.gn
  ok : DOk d
section
variable {w w' : World} {base : Nat} {l : DL} {d : DS} {F : Nat → Prop}
theorem DiskAt.fp_lt (h : DiskAt w base l d) {x : Nat} (hx : l.fp x) : base ≤ x ∧ x < w.heap.size := by
  rcases hx with rfl | rfl | rfl | hx
  · exact ⟨h.bg, h.blk.lt⟩
  · exact ⟨h.bs, h.sure.lt⟩
  · exact ⟨h.bn, h.now.lt⟩
  · exact World.ownsRow.lt h.row x (by cases hA : l.A <;> simp_all [Value.ownBlock])
theorem DiskAt.kept (h : DiskAt w base l d) (hc : Chg F w w') (hF : ∀ x, l.fp x → ¬ F x) : DiskAt w' base l d :=
  ⟨hc.blk h.blk (hF _ (.inl rfl)), hc.mapV h.sure (hF _ (.inr (.inl rfl))), hc.mapV h.now (hF _ (.inr (.inr (.inl rfl)))), hc.own h.row (fun x hx => hF x (.inr (.inr (.inr hx)))),
    h.ne1, h.ne2, h.ne3, h.rg, h.rs, h.rn, h.bg, h.bs, h.bn, h.ok⟩
theorem DiskAt.below (h : DiskAt w base l d) (hb : Below w.heap.size w w') : DiskAt w' base l d :=
  h.kept (Chg.of_below (fun _ => False) hb) (fun _ _ hf => hf)
end
theorem secL_length {s : Sec} (h : s.b.length = 128) : (secL s).length = 129 := by rw [secL, List.length_append, bvs_length, h]; rfl
theorem i128 : (Tryz.prog.info? 89).map (·.size) = some 128 := by kernel_rfl
theorem i129 : (Tryz.prog.info? 93).map (·.size) = some 129 := by kernel_rfl
theorem w129 : (Tryz.prog.info? 91).map (·.size) = some 129 := by kernel_rfl
theorem zerosec (w : World) : (zeroValue 93).run Tryz.prog w = .ok (secV zsec) w := by kernel_rfl
end Go.Proofs.YtmjdfajdompkeaaGreatDoor
namespace Go.Proofs.YtmjdfajdompkeaaGreatDoor
open Go.RowKit Go.Rat
def ds0 : DS := ⟨fun _ => zsec, fun _ => zsec, [], false, -1⟩
theorem ds0_ok : DOk ds0 := ⟨fun _ => zs_length, fun _ => zs_length, by simp [ds0], by simp [ds0]⟩
def Dp (l : DL) : Value := .pointer (some ⟨l.g, 0, none⟩)
set_option maxHeartbeats 400000 in
theorem dnew_any (w : World) : Calls Tryz.prog 6 #[] w fun e w' => ∃ l, e = .returned (.pointer (some ⟨l.g, 0, none⟩)) ∧ DiskAt w' w.heap.size l ds0 ∧ Below w.heap.size w w' := by
  have hmm := @run_makeMap Tryz.prog
  go_enter Tryz.func6, Tryz.ntmps6
  go_wp2_with fail
  go_ret
  refine ⟨⟨w.heap.size + 1 + 1, w.heap.size, w.heap.size + 1, none, 0⟩, rfl, ?_, ((below_alloc w _).alloc (by simp) _).alloc (by simp; omega) _⟩
  have h1 := MapV.new (secV zsec) w
  have h2 : MapV (secV zsec) ((w.alloc (.map #[] 0)).alloc (.map #[] 0)) (w.heap.size + 1) (fun _ => secV zsec) := by simpa using MapV.new (secV zsec) (w.alloc (.map #[] 0))
  have hs2 : ((w.alloc (.map #[] 0)).alloc (.map #[] 0)).heap.size = w.heap.size + 1 + 1 := by simp
  have h3 := Blk.new ((w.alloc (.map #[] 0)).alloc (.map #[] 0)) 67 #[.map (some w.heap.size), .map (some (w.heap.size + 1)), .slice none 0 0, .bool false, .int .i64 (-1)]
  rw [hs2] at h3
  refine ⟨h3, (h1.grown (World.grownBy_alloc _ _ none) (by simp)).grown (World.grownBy_alloc _ _ none) (by simp), h2.grown (World.grownBy_alloc _ _ none) (by simp), World.ownsRow_nil _ _ _ _, ?_, ?_, ?_, by simp, by simp, by simp, ?_, ?_, ?_, ds0_ok⟩
  all_goals simp only []
  all_goals omega
def readyE (off : Bool) (a : Int) : Int := if off = true then 8 else if 0 ≤ a ∧ a < 32768 then 0 else 1
theorem readyE_off (a : Int) : readyE true a = 8 := rfl
theorem readyE_ok {a : Int} (h : 0 ≤ a ∧ a < 32768) : readyE false a = 0 := by rw [readyE, if_neg (by decide), if_pos h]
theorem readyE_bad {a : Int} (h : ¬ (0 ≤ a ∧ a < 32768)) : readyE false a = 1 := by rw [readyE, if_neg (by decide), if_neg h]
set_option maxHeartbeats 400000 in
theorem dready_any (w : World) (base : Nat) (l : DL) (d : DS) (h : DiskAt w base l d) (at_ : Int) :
    Calls Tryz.prog 75 #[.pointer (some ⟨l.g, 0, none⟩), .int .i64 at_] w fun e w' => e = .returned (.int .i64 (readyE d.off at_)) ∧ w = w' := by
  have c3 := h.blk.cell 3
  simp only [List.getElem?_toArray, List.getElem?_cons_zero, List.getElem?_cons_succ] at c3
  cases hoff : d.off
  · rw [hoff] at c3
    by_cases h1 : at_ < 0
    · rw [readyE_bad (by omega)]
      go_enter Tryz.func75, Tryz.ntmps75
      go_wp2_with fail
      go_ret
      exact ⟨rfl, rfl⟩
    · by_cases h2 : at_ < 32768
      · rw [readyE_ok (by omega)]
        have h3 : ¬ 32768 ≤ at_ := by omega
        go_enter Tryz.func75, Tryz.ntmps75
        go_wp2_with fail
        go_ret
        exact ⟨rfl, rfl⟩
      · rw [readyE_bad (by omega)]
        have h3 : 32768 ≤ at_ := by omega
        go_enter Tryz.func75, Tryz.ntmps75
        go_wp2_with fail
        go_ret
        exact ⟨rfl, rfl⟩
  · rw [hoff] at c3
    rw [readyE_off]
    go_enter Tryz.func75, Tryz.ntmps75
    go_wp2_with fail
    go_ret
    exact ⟨rfl, rfl⟩
/-- What the power's going leaves. -/
def offD (d : DS) : DS := { d with off := true, fuse := -1 }
def burnD (d : DS) : DS := if d.fuse = 0 then offD d else if 0 < d.fuse then { d with fuse := d.fuse - 1 } else d
def burnB (d : DS) : Bool := decide (d.fuse = 0)
def fuseD (d : DS) (n : Int) : DS := { d with fuse := max n (-1) }
/-- A disk whose block alone has turned, in the power and the fuse. -/
theorem DiskAt.turn {w w' : World} {base : Nat} {l : DL} {d : DS} (h : DiskAt w base l d) (off : Bool) (fuse : Int) (hf : -1 ≤ fuse ∧ fuse ≤ 9223372036854775807) (hg : w.grownBy w' (some l.g))
    (hB : Blk w' l.g 67 #[.map (some l.gs), .map (some l.gn), .slice l.A d.loose.length l.c, .bool off, .int .i64 fuse]) : DiskAt w' base l { d with off := off, fuse := fuse } :=
  ⟨hB, h.sure.grown hg (by intro e; injection e with e; exact h.ne1 e.symm), h.now.grown hg (by intro e; injection e with e; exact h.ne2 e.symm),
    World.ownsRow.kept h.row hg (by
      by_cases hA : (Value.slice l.A d.loose.length l.c).ownBlock = none
      · exact .inl hA
      · refine .inr ?_
        have := h.rg
        cases hl : l.A <;> simp_all [Value.ownBlock]), h.ne1, h.ne2, h.ne3, h.rg, h.rs, h.rn, h.bg, h.bs, h.bn, ⟨h.ok.sure, h.ok.now, h.ok.loose, hf⟩⟩
theorem setCell_grown (w : World) (g k : Nat) (v : Value) : w.grownBy (w.setCell ⟨g, k, none⟩ v) (some g) := grownBy_set w g k v
set_option maxHeartbeats 400000 in
theorem doff_any (w : World) (base : Nat) (l : DL) (d : DS) (h : DiskAt w base l d) :
    Calls Tryz.prog 16 #[.pointer (some ⟨l.g, 0, none⟩)] w fun e w' => e = .returned (.tuple #[]) ∧ DiskAt w' base l (offD d) ∧ w.grownBy w' (some l.g) := by
  have f0 := h.blk.frozen 3
  have f1 := h.blk.frozen 4
  have c3 := h.blk.cell 3
  have c4 := h.blk.cell 4
  simp only [List.getElem?_toArray, List.getElem?_cons_zero, List.getElem?_cons_succ] at c3 c4
  have hB := (h.blk.set_ 3 (.bool true)).set_ 4 (.int .i64 (-1))
  simp only [List.setIfInBounds_toArray, List.set_cons_zero, List.set_cons_succ] at hB
  have hg := (grownBy_set w l.g 3 (.bool true)).trans (grownBy_set (w.setCell ⟨l.g, 3, none⟩ (.bool true)) l.g 4 (.int .i64 (-1)))
  have hD := h.turn true (-1) (by omega) hg hB
  clear h hB
  go_enter Tryz.func16, Tryz.ntmps16
  go_wp2_with fail
  go_end0
  exact ⟨rfl, hD, hg⟩
set_option maxHeartbeats 400000 in
theorem dburns_any (w : World) (base : Nat) (l : DL) (d : DS) (h : DiskAt w base l d) :
    Calls Tryz.prog 76 #[.pointer (some ⟨l.g, 0, none⟩)] w fun e w' => e = .returned (.bool (burnB d)) ∧ DiskAt w' base l (burnD d) ∧ w.grownBy w' (some l.g) := by
  have hf := h.ok.fuse
  have c4 := h.blk.cell 4
  have f1 := h.blk.frozen 4
  simp only [List.getElem?_toArray, List.getElem?_cons_zero, List.getElem?_cons_succ] at c4
  by_cases h0 : d.fuse = 0
  · rw [burnB, burnD, if_pos h0, decide_eq_true h0]
    rw [h0] at c4
    have H0 := Lib.hid h0
    clear h0
    go_enter Tryz.func76, Tryz.ntmps76
    go_wp2_with (go_at_call 16; refine (doff_any w base l d h).mono ?_; rintro e w2 ⟨rfl, hD, hg⟩)
    go_ret
    exact ⟨rfl, hD, hg⟩
  · rw [burnB, burnD, if_neg h0, decide_eq_false h0]
    have h0' : (d.fuse == 0) = false := by simpa using h0
    by_cases h1 : 0 < d.fuse
    · rw [if_pos h1]
      have hB := h.blk.set_ 4 (.int .i64 (d.fuse - 1))
      simp only [List.setIfInBounds_toArray, List.set_cons_zero, List.set_cons_succ] at hB
      have hg := grownBy_set w l.g 4 (.int .i64 (d.fuse - 1))
      have hD := h.turn d.off (d.fuse - 1) (by omega) hg hB
      clear hB h h0
      go_enter Tryz.func76, Tryz.ntmps76
      go_wp2_with fail
      go_ret
      exact ⟨rfl, hD, hg⟩
    · rw [if_neg h1]
      go_enter Tryz.func76, Tryz.ntmps76
      go_wp2_with fail
      go_ret
      exact ⟨rfl, h, World.grownBy.refl _ _⟩
set_option maxHeartbeats 400000 in
theorem dfuse_any (w : World) (base : Nat) (l : DL) (d : DS) (h : DiskAt w base l d) (n : Int) (hn : n ≤ 9223372036854775807) :
    Calls Tryz.prog 15 #[.pointer (some ⟨l.g, 0, none⟩), .int .i64 n] w fun e w' => e = .returned (.tuple #[]) ∧ DiskAt w' base l (fuseD d n) ∧ w.grownBy w' (some l.g) := by
  have c4 := h.blk.cell 4
  have f1 := h.blk.frozen 4
  simp only [List.getElem?_toArray, List.getElem?_cons_zero, List.getElem?_cons_succ] at c4
  have hB := h.blk.set_ 4 (.int .i64 (max n (-1)))
  simp only [List.setIfInBounds_toArray, List.set_cons_zero, List.set_cons_succ] at hB
  have hg := grownBy_set w l.g 4 (.int .i64 (max n (-1)))
  have hD := h.turn d.off (max n (-1)) (by omega) hg hB
  clear hB h
  go_enter Tryz.func15, Tryz.ntmps15
  go_wp2_with fail
  · have e : max n (-1) = -1 := by omega
    rw [e] at hD hg
    go_end0
    exact ⟨rfl, by rw [fuseD, e]; exact hD, hg⟩
  · have e : max n (-1) = n := by omega
    rw [e] at hD hg
    go_end0
    exact ⟨rfl, by rw [fuseD, e]; exact hD, hg⟩
set_option maxHeartbeats 400000 in
theorem dpower_any (w : World) (base : Nat) (l : DL) (d : DS) (h : DiskAt w base l d) :
    Calls Tryz.prog 47 #[.pointer (some ⟨l.g, 0, none⟩)] w fun e w' => e = .returned (.bool (!d.off)) ∧ w = w' := by
  have c3 := h.blk.cell 3
  simp only [List.getElem?_toArray, List.getElem?_cons_zero, List.getElem?_cons_succ] at c3
  go_enter Tryz.func47, Tryz.ntmps47
  go_wp2_with fail
  go_ret
  exact ⟨rfl, rfl⟩
end Go.Proofs.YtmjdfajdompkeaaGreatDoor
namespace Go.Proofs.YtmjdfajdompkeaaGreatDoor
open Go.RowKit Go.Rat
/-- What is read. -/
def readB (d : DS) (a : Int) : List UInt8 := if readyE d.off a = 0 ∧ (d.now a).lost = false then (d.now a).b else zs
def readE (d : DS) (a : Int) : Int := if readyE d.off a = 0 then (if (d.now a).lost = true then 9 else 0) else readyE d.off a
theorem readB_length {d : DS} (h : DOk d) (a : Int) : (readB d a).length = 128 := by
  unfold readB
  split
  · exact h.now a
  · exact zs_length
/-- Two results: a block's row, and a slot. -/
theorem results_cell_tmp {P : Program} {fn : Func} {p q : Tmp} {ty : TypeId} (h : fn.results = #[.cell p ty, .tmp q]) (tmps : Array Value) (w : World) (g : Nat) (t : TypeId) (cs : Array Value) (fr : Nat × Nat) (d : TypeDesc) (v : Value)
    (hp : tmps.getD p undef = .pointer (some ⟨g, 0, none⟩)) (hq : tmps.getD q undef = v) (hg : w.heap[g]? = some (.cells cs t fr))
    (hu : P.underlying ty = some d) (hd : (match d with | .struct _ | .array _ _ => true | _ => false) = true) (hi : (P.info? ty).map (·.size) = some cs.size) :
    (results fn tmps).run P w = .ok (.tuple #[.agg cs, v]) w := by
  have hp' : tmps[p]?.getD undef = .pointer (some ⟨g, 0, none⟩) := by simpa using hp
  have hq' : tmps[q]?.getD undef = v := by simpa using hq
  simp [results, h, hp', hq', asAddr, run_loadVar_row w g t ty cs fr d hg hu hd hi]
theorem zsA_size : (bvs zs).toArray.size = 128 := by rw [bvs_size, zs_length]
theorem wf64 {a : Int} (h : 0 ≤ a ∧ a < 32768) : (Lit.int .i64 a).wf = true := by
  simp [Lit.wf, IntKind.min, IntKind.max, IntKind.signed, IntKind.bits]; omega
theorem below_next' {a b c : World} (h : Below a.heap.size a b) (k : Below b.heap.size b c) : Below a.heap.size a c := h.trans (k.mono h.size)
theorem zc128 : Tryz.zeroCells89 = (bvs zs).toArray := by kernel_rfl
set_option maxRecDepth 20000 in
set_option maxHeartbeats 4000000 in
theorem dread_any (w : World) (base : Nat) (l : DL) (d : DS) (h : DiskAt w base l d) (a : Int) :
    Calls Tryz.prog 68 #[.pointer (some ⟨l.g, 0, none⟩), .int .i64 a] w fun e w' => e = .returned (.tuple #[.agg (bvs (readB d a)).toArray, .int .i64 (readE d a)]) ∧ Below w.heap.size w w' := by
  have hZ := Blk.new w 89 (bvs zs).toArray
  have hb1 := below_alloc w (.cells (bvs zs).toArray 89)
  obtain ⟨z, hz⟩ : ∃ z : Array Value, (bvs zs).toArray = z := ⟨_, rfl⟩
  have hzc : Tryz.zeroCells89 = z := by rw [← hz]; exact zc128
  have hzs : z.size = 128 := by rw [← hz]; exact zsA_size
  have hz1 : z.all (·.oneCell') = true := by rw [← hz]; exact bvs_all _
  rw [hz] at hZ hb1
  have HZ := Lib.hid hz
  clear hz
  have h1 := h.below hb1
  go_enter Tryz.func68, Tryz.ntmps68
  go_upto_region 1 with (fail)
  generalize w.alloc (.cells z 89) = w1 at *
  have hzi : (Tryz.prog.info? 89).map (·.size) = some z.size := by rw [hzs]; exact i128
  by_cases hr : readyE d.off a = 0
  · have hoff : d.off = false ∧ 0 ≤ a ∧ a < 32768 := by
      cases ho : d.off
      · refine ⟨rfl, ?_⟩
        by_cases h : 0 ≤ a ∧ a < 32768
        · exact h
        · rw [ho, readyE_bad h] at hr
          cases hr
      · rw [ho, readyE_off] at hr
        cases hr
    have hlook : (Instr.lookup 64 (.map (some l.gn)) (.int .i64 a) false).run Tryz.prog w1 = .ok (.agg (secL (d.now a)).toArray) w1 :=
      h1.now.look Tryz.underlying3 Tryz.underlying64 (zerosec w1) a (wf64 hoff.2)
    have c1 := h1.blk.cell 1
    simp only [List.getElem?_toArray, List.getElem?_cons_zero, List.getElem?_cons_succ] at c1
    have hsl := h.ok.now a
    have hre : readE d a = if (d.now a).lost = true then 9 else 0 := by rw [readE, if_pos hr]
    have hrb : readB d a = if (d.now a).lost = false then (d.now a).b else zs := by
      rw [readB]
      by_cases hl : (d.now a).lost = false
      · rw [if_pos ⟨hr, hl⟩, if_pos hl]
      · rw [if_neg (fun h => hl h.2), if_neg hl]
    obtain ⟨s, hs⟩ : ∃ s, d.now a = s := ⟨_, rfl⟩
    rw [hs] at hlook hsl hre hrb
    obtain ⟨b, lost⟩ := s
    simp only at hsl
    have hL : (secL ⟨b, lost⟩).length = 129 := secL_length hsl
    have hLs : (secL ⟨b, lost⟩).toArray.size = 129 := by simpa using hL
    have hL1 : (secL ⟨b, lost⟩).toArray.all (·.oneCell') = true := by
      simp [secL, bvs, bv, Value.oneCell']
    have hLb : ((secL ⟨b, lost⟩).drop 0).take 128 = bvs b := by rw [List.drop_zero, secL, List.take_append_of_le_length (by rw [bvs_length]; simp [hsl]), List.take_of_length_le (by rw [bvs_length]; simp [hsl])]
    have hLl : (secL ⟨b, lost⟩)[128]? = some (.bool lost) := by rw [secL, List.getElem?_append_right (by rw [bvs_length]; simp [hsl]), bvs_length]; simp [hsl]
    have hbl : (bvs b).length = 128 := by rw [bvs_length]; exact hsl
    have hba : (bvs b).toArray.size = 128 := by simpa using hbl
    have HR := Lib.hid hr
    have HRE := Lib.hid hre
    have HRB := Lib.hid hrb
    clear hre hrb hs hr
    obtain ⟨L, hLL⟩ : ∃ L, secL ⟨b, lost⟩ = L := ⟨_, rfl⟩
    rw [hLL] at hlook hL hLs hL1 hLb hLl
    clear hLL
    repeat (first
      | (go_at_call 75; refine (dready_any _ base l d h1 a).mono ?_; rw [HR.out]; rintro e w2 ⟨rfl, rfl⟩; simp only [])
      | ((with_reducible refine wpl_store_fresh L.toArray i129 ?_ hLs hL1 ?_ ?_ ?_); (focus kernel_rfl); (focus rfl); (focus rfl); intro w3 hS hl3 hb3; simp only [Act.put]; refine Hid.out ?_)
      | go_values | go_skip | go_guarded | go_step | go_upon | go_back)
    refine Lib.hid ?_
    have hbb3 := below_next' hb1 hb3
    have hZ3 := hZ.below hb3 hZ.lt
    have c128 := hS.cell 128
    rw [List.getElem?_toArray, hLl] at c128
    clear hlook c1 hLl
    cases lost
    · have hfin : Ending.returned (.tuple #[.agg (bvs b).toArray, .int .i64 0]) = Ending.returned (.tuple #[.agg (bvs (readB d a)).toArray, .int .i64 (readE d a)]) := by rw [HRB.out, HRE.out]; rfl
      have HFIN := Lib.hid hfin
      clear hfin
      repeat (first
        | ((with_reducible refine wpl_load_mid w1.heap.size 0 L (bvs b) Tryz.underlying89 rfl i128 hS hLb hbl ?_ ?_); (focus rfl); simp only [Act.put, List.setIfInBounds_toArray, List.set_cons_zero, List.set_cons_succ])
        | ((with_reducible refine wpl_store w.heap.size _ _ (bvs b).toArray i128 hZ3 hzs hba (bvs_all _) ?_ ?_ ?_); (focus rfl); (focus rfl))
        | go_values | go_skip | go_guarded | go_step | go_upon | go_back)
      refine bodyPost_ret (results_cell_tmp rfl _ _ w.heap.size _ _ (0, 0) _ _ rfl rfl (hZ3.setRow _) Tryz.underlying89 rfl (by rw [hba]; exact i128)) rfl ?_
      exact ⟨HFIN.out, hbb3.grown (grownBy_setRow _ _ _) hbb3.size (fun p hp => by cases hp; exact Nat.le_refl _)⟩
    · have hfin : Ending.returned (.tuple #[.agg z, .int .i64 9]) = Ending.returned (.tuple #[.agg (bvs (readB d a)).toArray, .int .i64 (readE d a)]) := by rw [HRB.out, HRE.out, ← HZ.out]; rfl
      have HFIN := Lib.hid hfin
      clear hfin
      repeat (first
        | ((with_reducible refine wpl_load w.heap.size _ _ Tryz.underlying89 i128 hZ3 hzs ?_ ?_); (focus rfl); simp only [Act.put, List.setIfInBounds_toArray, List.set_cons_zero, List.set_cons_succ])
        | ((with_reducible refine wpl_store w.heap.size _ _ z i128 hZ3 hzs hzs hz1 ?_ ?_ ?_); (focus rfl); (focus rfl))
        | go_values | go_skip | go_guarded | go_step | go_upon | go_back)
      refine bodyPost_ret (results_cell_tmp rfl _ _ w.heap.size _ _ (0, 0) _ _ rfl rfl (hZ3.setRow _) Tryz.underlying89 rfl hzi) rfl ?_
      exact ⟨HFIN.out, hbb3.grown (grownBy_setRow _ _ _) hbb3.size (fun p hp => by cases hp; exact Nat.le_refl _)⟩
  · have hre : readE d a = readyE d.off a := by rw [readE, if_neg hr]
    have hrb : readB d a = zs := by rw [readB, if_neg (fun h => hr h.1)]
    obtain ⟨E, hE⟩ : ∃ E, readyE d.off a = E := ⟨_, rfl⟩
    rw [hE] at hr hre
    have hfin : Ending.returned (.tuple #[.agg z, .int .i64 E]) = Ending.returned (.tuple #[.agg (bvs (readB d a)).toArray, .int .i64 (readE d a)]) := by rw [hre, hrb, HZ.out]
    have HFIN := Lib.hid hfin
    clear hfin
    have hr' : (E != 0) = true := by simpa using hr
    have HE := Lib.hid hE
    clear hE hre hrb
    repeat (first
      | (go_at_call 75; refine (dready_any _ base l d h1 a).mono ?_; rw [HE.out]; rintro e w2 ⟨rfl, rfl⟩; simp only [])
      | ((with_reducible refine wpl_load w.heap.size _ _ Tryz.underlying89 i128 hZ hzs ?_ ?_); (focus rfl); simp only [Act.put, List.setIfInBounds_toArray, List.set_cons_zero, List.set_cons_succ])
      | ((with_reducible refine wpl_store w.heap.size _ _ z i128 hZ hzs hzs hz1 ?_ ?_ ?_); (focus rfl); (focus rfl))
      | go_values | go_skip | go_guarded | go_step | go_upon | go_back)
    refine bodyPost_ret (results_cell_tmp rfl _ _ w.heap.size _ _ (0, 0) _ _ rfl rfl (hZ.setRow _) Tryz.underlying89 rfl hzi) rfl ?_
    exact ⟨HFIN.out, hb1.grown (grownBy_setRow _ _ _) hb1.size (fun p hp => by cases hp; exact Nat.le_refl _)⟩
end Go.Proofs.YtmjdfajdompkeaaGreatDoor
namespace Go.Proofs.YtmjdfajdompkeaaGreatDoor
open Go.RowKit Go.Rat
/-- A disk has moved on: its own blocks alone have turned, others of its own may have come. -/
structure Moved (w w' : World) (l l' : DL) : Prop where
  g : (l'.g, l'.gs, l'.gn) = (l.g, l.gs, l.gn)
  chg : Chg l.fp w w'
  fp : ∀ x, l'.fp x → l.fp x ∨ w.heap.size ≤ x
theorem Moved.refl (w : World) (l : DL) : Moved w w l l := ⟨rfl, Chg.refl _ _, fun _ h => .inl h⟩
theorem Moved.trans {a b c : World} {l m n : DL} (h : Moved a b l m) (k : Moved b c m n) : Moved a c l n :=
  ⟨k.g.trans h.g, h.chg.trans k.chg h.fp, fun x hx => by
    rcases k.fp x hx with h1 | h1
    · exact h.fp x h1
    · exact .inr (Nat.le_trans h.chg.size h1)⟩
theorem Moved.of_below {w w' : World} {l : DL} (h : Below w.heap.size w w') : Moved w w' l l := ⟨rfl, Chg.of_below _ h, fun _ h => .inl h⟩
theorem Moved.of_grown {w w' : World} {l : DL} (h : w.grownBy w' (some l.g)) : Moved w w' l l := ⟨rfl, Chg.of_grown h (.inl rfl), fun _ h => .inl h⟩
def putD (d : DS) (a : Int) (b : List UInt8) : DS := { d with now := fun x => if x = a then ⟨b, false⟩ else d.now x, loose := d.loose ++ [(a, b)] }
def writeD (d : DS) (a : Int) (b : List UInt8) : DS := if readyE d.off a = 0 then burnD (putD d a b) else d
def writeE (d : DS) (a : Int) : Int := if readyE d.off a = 0 then (if burnB d = true then 8 else 0) else readyE d.off a
theorem putD_ok {d : DS} (h : DOk d) {a : Int} (ha : 0 ≤ a ∧ a < 32768) {b : List UInt8} (hb : b.length = 128) : DOk (putD d a b) :=
  ⟨h.sure, fun x => by
    show (if x = a then (⟨b, false⟩ : Sec) else d.now x).b.length = 128
    split
    · exact hb
    · exact h.now x, fun x hx => by
    rcases List.mem_append.1 hx with h1 | h1
    · exact h.loose x h1
    · obtain rfl : x = (a, b) := by simpa using h1
      exact ⟨ha, hb⟩, h.fuse⟩
theorem readyE_zero {off : Bool} {a : Int} (h : readyE off a = 0) : off = false ∧ 0 ≤ a ∧ a < 32768 := by
  cases off
  · refine ⟨rfl, ?_⟩
    by_cases h2 : 0 ≤ a ∧ a < 32768
    · exact h2
    · rw [readyE_bad h2] at h
      cases h
  · rw [readyE_off] at h
    cases h
theorem wp_mapStore {P : Program} {w : World} {o : Oper} {a : Act} {K : Act → World → Prop} {Q : Exit → Act → World → Prop} {z : Value} {b : Nat} {f : Int → Value} {t k e : TypeId} (m x v : Operand) (ho : o.op = .mapUpdate t m x v)
    (h : MapV z w b f) (hk : P.underlying k = some (.int .i64)) (ht : P.underlying t = some (.map k e)) (i : Int) (hi : (Lit.int .i64 i).wf = true) (val : Value)
    (hm : a.eval m = .map (some b)) (hx : a.eval x = .int .i64 i) (hv : a.eval v = val)
    (hK : ∀ w', MapV z w' b (fun q => if q = i then val else f q) → w.grownBy w' (some b) → K (a.put o.dst undef) w') : o.wp P a w K Q := by
  obtain ⟨w', hrun, h1, h2⟩ := h.store (P := P) hk ht i hi val
  unfold Oper.wp
  simp only [execOp, ho, hm, hx, hv, Sem.run_bind, Sem.run_pure, Result.andThen_ok, hrun]
  exact hK w' h1 h2
theorem foldl_put (xs : List Value) : ∀ (o k : Nat) (L : List Value), o + k + xs.length ≤ L.length →
    List.foldl (fun (cs : Array Value) (x : Value × Nat) => cs.setIfInBounds (o + x.2) x.1) L.toArray (xs.zipIdx k) = (L.take (o + k) ++ xs ++ L.drop (o + k + xs.length)).toArray := by
  induction xs with
  | nil => intro o k L _; simp
  | cons x xs ih =>
    intro o k L h
    simp only [List.length_cons] at h
    rw [List.zipIdx_cons, List.foldl_cons, List.setIfInBounds_toArray, ih o (k + 1) (L.set (o + k) x) (by rw [List.length_set]; omega)]
    congr 1
    have e1 : (L.set (o + k) x).take (o + (k + 1)) = L.take (o + k) ++ [x] := by
      rw [show o + (k + 1) = o + k + 1 by omega, List.take_add_one, List.take_set_of_le (Nat.le_refl _), List.getElem?_set_self (by omega)]
      rfl
    rw [e1, List.drop_set_of_lt (by omega), show o + (k + 1) + xs.length = o + k + (x :: xs).length by simp; omega]
    simp
theorem foldl_put0 (xs : List Value) (L : List Value) (h : xs.length ≤ L.length) :
    List.foldl (fun (cs : Array Value) (x : Value × Nat) => cs.setIfInBounds x.2 x.1) L.toArray xs.zipIdx = (xs ++ L.drop xs.length).toArray := by
  have := foldl_put xs 0 0 L (by omega)
  simpa using this
theorem foldl_full (xs : List Value) (Z : Array Value) (h : Z.size = xs.length) : List.foldl (fun (cs : Array Value) (x : Value × Nat) => cs.setIfInBounds x.2 x.1) Z xs.zipIdx = xs.toArray := by
  have := foldl_put0 xs Z.toList (by simp [h])
  rw [List.drop_of_length_le (by simp [h]), List.append_nil] at this
  simpa using this
theorem zc129 : Tryz.zeroCells93 = (secL zsec).toArray := by kernel_rfl
theorem zw129 : Tryz.zeroCells91 = (.int .i64 0 :: bvs zs).toArray := by kernel_rfl
theorem sec_fold (b : List UInt8) (hb : b.length = 128) : List.foldl (fun (cs : Array Value) (x : Value × Nat) => cs.setIfInBounds x.2 x.1) Tryz.zeroCells93 (bvs b).zipIdx = (secL ⟨b, false⟩).toArray := by
  rw [zc129, foldl_put0 _ _ (by rw [bvs_length, hb, secL_length zs_length]; omega)]
  congr 1
  rw [secL, secL, bvs_length, hb]
  congr 1
theorem build_sec {w : World} {ρ : Operand → Value} {d : Option Tmp} {x : Operand} {t : TypeId} {p : String} {af : Array Edge} {gd : Option (Nat × Bool)} (b : List UInt8) (hb : b.length = 128) (hx : ρ x = .agg (bvs b).toArray) :
    (execOp ρ { dst := d, op := .build 93 #[(0, x)], type := t, pos := p, after := af, guard := gd }).run Tryz.prog w = .ok (.value (.agg (secL ⟨b, false⟩).toArray)) w := by
  have hf := sec_fold b hb
  have hl : (bvs b).length = 128 := by rw [bvs_length, hb]
  go_simp
theorem build_wr {w : World} {ρ : Operand → Value} {d : Option Tmp} {x y : Operand} {t : TypeId} {p : String} {af : Array Edge} {gd : Option (Nat × Bool)} (i : Int) (b : List UInt8) (hb : b.length = 128) (hx : ρ x = .int .i64 i) (hy : ρ y = .agg (bvs b).toArray) :
    (execOp ρ { dst := d, op := .build 91 #[(0, x), (1, y)], type := t, pos := p, after := af, guard := gd }).run Tryz.prog w = .ok (.value (.agg (.int .i64 i :: bvs b).toArray)) w := by
  have hl : (bvs b).length = 128 := by rw [bvs_length, hb]
  have hz : Tryz.zeroCells91 = (.int .i64 0 :: bvs zs).toArray := zw129
  have hlz : (bvs zs).length = 128 := by rw [bvs_length, zs_length]
  have hf : List.foldl (fun (cs : Array Value) (x : Value × Nat) => cs.setIfInBounds (1 + x.2) x.1) (.int .i64 i :: bvs zs).toArray (bvs b).zipIdx = (.int .i64 i :: bvs b).toArray := by
    rw [show (bvs b).zipIdx = (bvs b).zipIdx 0 from rfl, foldl_put _ 1 0 _ (by rw [List.length_cons, hlz, hl]; omega)]
    congr 1
    rw [List.drop_of_length_le (by rw [List.length_cons, hlz, hl]; omega)]
    simp
  go_simp
theorem buildS_wr {w : World} {ρ : Operand → Value} {d : Option Tmp} {x : Operand} {t : TypeId} {p : String} {af : Array Edge} {gd : Option (Nat × Bool)} (i : Int) (b : List UInt8) (hb : b.length = 128) (hx : ρ x = .agg (.int .i64 i :: bvs b).toArray) :
    (execOp ρ { dst := d, op := .buildSlice 65 1 #[(0, x)], type := t, pos := p, after := af, guard := gd }).run Tryz.prog w = .ok (.value (.slice (some ⟨w.heap.size, 0, none⟩) 1 1)) (w.alloc (.cells (.int .i64 i :: bvs b).toArray 91)) := by
  have hl : (bvs b).length = 128 := by rw [bvs_length, hb]
  obtain ⟨L, hL⟩ : ∃ L : List Value, .int .i64 i :: bvs b = L := ⟨_, rfl⟩
  have hLl : L.length = 129 := by rw [← hL, List.length_cons, hl]
  rw [hL] at hx ⊢
  clear hL
  go_simp
  exact congrArg (fun c => w.alloc (.cells c 91)) (foldl_full L _ (by rw [hLl]; rfl))
theorem winfo : (Tryz.prog.info? 91).map (fun i => (i.zero, i.size, i.bytes)) = some (some (.agg Tryz.zeroCells91), 129, 136) := by kernel_rfl
theorem wp_appW {w : World} {o : Oper} {a : Act} {K : Act → World → Prop} {Q : Exit → Act → World → Prop} (s x : Operand)
    (ho : o.op = .call { callee := .builtin .append, args := #[s, x], argTypes := #[65, 65] })
    (base : Nat) (A : Option Addr) (n c : Nat) (xs : List Value) (hs : a.eval s = .slice A n c) (hown : w.ownsRow base 91 129 (.slice A n c) n xs)
    (i : Int) (b : List UInt8) (hb : b.length = 128) (g : Nat) (hx : a.eval x = .slice (some ⟨g, 0, none⟩) 1 1) (hB : Blk w g 91 (.int .i64 i :: bvs b).toArray) (hn : n < 1000000000) (hbase : base ≤ w.heap.size)
    (h : ∀ A2 c2 w2, w2.ownsRow base 91 129 (.slice A2 (n + 1) c2) (n + 1) (xs ++ .int .i64 i :: bvs b) → Grew w w2 A A2 → K (a.put o.dst (.slice A2 (n + 1) c2)) w2) :
    o.wp Tryz.prog a w K Q := by
  obtain ⟨i0, hi, hz0, hz1, hz2⟩ := info_parts winfo
  have hr : Reads w w.heap.size 129 (some ⟨g, 0, none⟩) 1 (.int .i64 i :: bvs b) := by
    refine ⟨by rw [List.length_cons, bvs_length, hb], fun _ => ⟨_, rfl, hB.lt, fun j u hu => ?_⟩⟩
    have := hB.cell j
    rw [show (⟨g, 0, none⟩ : Addr).add j = ⟨g, j, none⟩ by unfold Addr.add; split <;> simp_all, this, List.getElem?_toArray]
    exact hu
  obtain ⟨A2, c2, w2, hrun, h2, h3, h4⟩ := run_append_reads (P := Tryz.prog) w base 65 o.type 91 i0 _ 129 136 Tryz.underlying65 hi hz0 hz1 hz2 (by kernel_rfl) (by omega) A n c xs hown w.heap.size _ 1 1 (.int .i64 i :: bvs b) hr (by
    intro u hu
    rcases List.mem_cons.1 hu with rfl | hu
    · rfl
    · exact bvs_one _ u hu) (by simp only [maxLen]; omega) (by omega) hbase
  unfold Oper.wp
  simp only [execOp, ho, resolve, invoke, builtin, Sem.run_bind, Sem.run_pure, Result.andThen_ok, List.map_toArray, List.map_cons, List.map_nil, hs, hx, hrun]
  exact h _ _ _ h2 ⟨h3, h4.imp id fun h => ⟨_, h, Nat.le_refl _, (h2.lt _ (by cases A2 <;> simp_all [Value.ownBlock])).2⟩⟩
theorem wp_runO {P : Program} {w w' : World} {o : Oper} {a : Act} {K : Act → World → Prop} {Q : Exit → Act → World → Prop} (v : Value) (hr : (execOp a.eval o).run P w = .ok (.value v) w') (h : K (a.put o.dst v) w') : o.wp P a w K Q := by
  unfold Oper.wp
  rw [hr]
  exact h
/-- A disk whose block holds another row of loose writes. -/
theorem DiskAt.put {w : World} {base : Nat} {l : DL} {d : DS} {f : Int → Value} {A2 : Option Addr} {c2 : Nat} {a : Int} {b : List UInt8}
    (hB : Blk w l.g 67 #[.map (some l.gs), .map (some l.gn), .slice A2 (d.loose.length + 1) c2, .bool d.off, .int .i64 d.fuse])
    (hS : MapV (secV zsec) w l.gs (fun a => secV (d.sure a))) (hM : MapV (secV zsec) w l.gn f) (hf : ∀ q, f q = secV ((putD d a b).now q))
    (hR : w.ownsRow base 91 129 (.slice A2 (d.loose.length + 1) c2) (d.loose.length + 1) (looseC d.loose ++ .int .i64 a :: bvs b))
    (ne1 : l.g ≠ l.gs) (ne2 : l.g ≠ l.gn) (ne3 : l.gs ≠ l.gn) (rg : A2.map (·.block) ≠ some l.g) (rs : A2.map (·.block) ≠ some l.gs) (rn : A2.map (·.block) ≠ some l.gn) (bg : base ≤ l.g) (bs : base ≤ l.gs) (bn : base ≤ l.gn) (ok : DOk (putD d a b)) :
    DiskAt w base { l with A := A2, c := c2 } (putD d a b) := by
  have hlen : (putD d a b).loose.length = d.loose.length + 1 := by simp [putD]
  have hlc : looseC (putD d a b).loose = looseC d.loose ++ .int .i64 a :: bvs b := by simp [putD, looseC]
  exact ⟨by rw [hlen]; exact hB, hS, hM.ext hf, by rw [hlen, hlc]; exact hR, ne1, ne2, ne3, rg, rs, rn, bg, bs, bn, ok⟩
end Go.Proofs.YtmjdfajdompkeaaGreatDoor
namespace Go.Proofs.YtmjdfajdompkeaaGreatDoor
open Go.RowKit Go.Rat
set_option maxRecDepth 20000 in
set_option maxHeartbeats 4000000 in
theorem dwrite_any (w : World) (base : Nat) (l : DL) (d : DS) (h : DiskAt w base l d) (hbase : base ≤ w.heap.size) (a : Int) (b : List UInt8) (hb : b.length = 128) (hlo : d.loose.length < 1000000000) :
    Calls Tryz.prog 74 #[.pointer (some ⟨l.g, 0, none⟩), .int .i64 a, .agg (bvs b).toArray] w fun e w' => ∃ l', e = .returned (.int .i64 (writeE d a)) ∧ DiskAt w' base l' (writeD d a b) ∧ Moved w w' l l' := by
  have hB0 := Blk.new w 89 (bvs b).toArray
  have hb1 := below_alloc w (.cells (bvs b).toArray 89)
  have hbs : (bvs b).toArray.size = 128 := by rw [bvs_size, hb]
  have h1 := h.below hb1
  have hgw := h.blk.lt
  go_enter Tryz.func74, Tryz.ntmps74
  go_upto_region 1 with (fail)
  generalize w.alloc (.cells (bvs b).toArray 89) = w1 at *
  by_cases hr : readyE d.off a = 0
  · obtain ⟨hoff, hra⟩ := readyE_zero hr
    have HR := Lib.hid hr
    go_upto_region 4 with (go_at_call 75; refine (dready_any _ base l d h1 a).mono ?_; rw [HR.out]; rintro e w2 ⟨rfl, rfl⟩; simp only [])
    have c1 := h1.blk.cell 1
    simp only [List.getElem?_toArray, List.getElem?_cons_zero, List.getElem?_cons_succ] at c1
    refine wp_region_plan [(0, true), (1, true), (2, true), (3, true), (4, true), (5, true), (6, true), (7, false)]
      (fun z => z.cell? ⟨l.g, 1, none⟩ = some (.map (some l.gn)) ∧ Blk z w.heap.size 89 (bvs b).toArray) (by kernel_rfl) (by kernel_rfl) (by kernel_rfl) (by kernel_rfl) (fun _ _ d _ _ h => by cases d <;> exact h) ⟨c1, hB0⟩ ?_
    simp only [planOps, List.getElem?_toArray, List.getElem?_cons_zero, List.getElem?_cons_succ]
    repeat (first
      | (refine wpS_skip (by rfl) ?_; simp only [Act.put, List.setIfInBounds_toArray, List.set_cons_zero, List.set_cons_succ])
      | (refine wpS_q ?_ (by rfl) ?_ ?_; rotate_left; (focus (intro z hz; (try dsimp only at hz); go_simp; rfl)); simp only [Act.put, List.setIfInBounds_toArray, List.set_cons_zero, List.set_cons_succ]))
    refine wpS_q (.agg (bvs b).toArray) (by rfl) (fun z hz => load_row_run rfl w.heap.size (bvs b).toArray Tryz.underlying89 rfl i128 hz.2 hbs rfl) ?_
    simp only [Act.put, List.setIfInBounds_toArray, List.set_cons_zero, List.set_cons_succ]
    refine wpS_q (.agg (secL ⟨b, false⟩).toArray) (by rfl) (fun z _ => build_sec b hb rfl) ?_
    simp only [Act.put, List.setIfInBounds_toArray, List.set_cons_zero, List.set_cons_succ]
    refine wpS_l (by rfl) (fun K hK => ?_)
    refine wp_mapStore _ _ _ rfl (h1.now.below drew_below h1.now.lt) Tryz.underlying3 Tryz.underlying64 a (wf64 hra) (.agg (secL ⟨b, false⟩).toArray) rfl rfl rfl ?_
    intro w3 hM3 hg3
    have hB1 : Blk w1.drew w.heap.size 89 (bvs b).toArray := hB0
    have hB3 := hB1.grown hg3 (by intro e; injection e with e; have := h.now.lt; omega)
    have hD3 := (Blk.below (w := w1) h1.blk drew_below h1.blk.lt).grown hg3 (by intro e; injection e with e; exact h.ne2 e)
    have c13 := hD3.cell 1
    have c23 := hD3.cell 2
    have f23 := hD3.frozen 2
    simp only [List.getElem?_toArray, List.getElem?_cons_zero, List.getElem?_cons_succ] at c13 c23
    refine hK _ _ (fun z => z.cell? ⟨l.g, 1, none⟩ = some (.map (some l.gn)) ∧ Blk z w.heap.size 89 (bvs b).toArray) ⟨c13, hB3⟩ (fun _ h => h) ?_
    clear hK c1 c13
    refine wpS_nil ?_
    have hS3 := (h1.sure.below drew_below h1.sure.lt).grown hg3 (by intro e; injection e with e; exact h.ne3 e)
    have hR3 : w3.ownsRow base 91 129 (.slice l.A d.loose.length l.c) d.loose.length (looseC d.loose) := (Chg.of_grown (F := fun x => x = l.gn) hg3 rfl).own (w := w1.drew) h1.row (fun x hx e => h.rn (by rw [hx, e]))
    have hc3 : Chg l.fp w w3 := (Chg.of_below l.fp hb1).trans ((Chg.of_below l.fp (drew_below (w := w1))).trans (Chg.of_grown (F := l.fp) hg3 (.inr (.inr (.inl rfl)))) (fun x hx => .inl hx)) (fun x hx => .inl hx)
    clear hg3 hb1 hB0 h1
    go_wp2_with fail
    refine wp_region_barb [(0, 0), (1, 0), (2, 0), (3, 0), (4, 1), (5, 0), (6, 0), (7, 0), (8, 2)] 9 [(10, true), (11, true), (12, false)] (fun z => Blk z w.heap.size 89 (bvs b).toArray) (fun z => z.cell? ⟨l.g, 2, none⟩ = some (.slice l.A d.loose.length l.c)) _ (by rfl) (by kernel_rfl) (by kernel_rfl) (by kernel_rfl) (by kernel_rfl) (fun _ _ d _ _ h => by cases d <;> exact h) hB3 c23 ?_
    simp only [planOpsN, List.getElem?_toArray, List.getElem?_cons_zero, List.getElem?_cons_succ]
    iterate 4 (refine wpC_0 ?_ (by rfl) ?_ ?_; rotate_left; (focus (intro z hz; (try dsimp only at hz); go_simp; rfl)); simp only [Act.put, List.setIfInBounds_toArray, List.set_cons_zero, List.set_cons_succ])
    refine wpC_1 (.slice l.A d.loose.length l.c) (by rfl) (fun z hz => by go_simp) ?_
    simp only [Act.put, List.setIfInBounds_toArray, List.set_cons_zero, List.set_cons_succ]
    iterate 1 (refine wpC_0 ?_ (by rfl) ?_ ?_; rotate_left; (focus (intro z hz; (try dsimp only at hz); go_simp; rfl)); simp only [Act.put, List.setIfInBounds_toArray, List.set_cons_zero, List.set_cons_succ])
    refine wpC_0 (.agg (bvs b).toArray) (by rfl) (fun z hz => load_row_run rfl w.heap.size (bvs b).toArray Tryz.underlying89 rfl i128 hz hbs rfl) ?_
    simp only [Act.put, List.setIfInBounds_toArray, List.set_cons_zero, List.set_cons_succ]
    refine wpC_0 (.agg (.int .i64 a :: bvs b).toArray) (by rfl) (fun z _ => build_wr a b hb rfl rfl) ?_
    simp only [Act.put, List.setIfInBounds_toArray, List.set_cons_zero, List.set_cons_succ]
    refine wpC_2 (by rfl) (fun K hK => ?_)
    refine wp_runO _ (buildS_wr a b hb rfl) ?_
    simp only [Act.put, List.setIfInBounds_toArray, List.set_cons_zero, List.set_cons_succ]
    have hB4 : Blk (w3.drew.alloc (.cells (.int .i64 a :: bvs b).toArray 91)) w.heap.size 89 (bvs b).toArray := Blk.alloc (w := w3.drew) hB3 _
    have hD4 := Blk.alloc (w := w3.drew) hD3 (.cells (.int .i64 a :: bvs b).toArray 91)
    have c24 := hD4.cell 2
    simp only [List.getElem?_toArray, List.getElem?_cons_zero, List.getElem?_cons_succ] at c24
    have hW4 := Blk.new w3.drew 91 (.int .i64 a :: bvs b).toArray
    have hR4 := World.ownsRow.alloc (w := w3.drew) hR3 (.cells (.int .i64 a :: bvs b).toArray 91)
    have hS4 := MapV.grown (w := w3.drew) hS3 (World.grownBy_alloc w3.drew (.cells (.int .i64 a :: bvs b).toArray 91) none) (by simp)
    have hM4 := MapV.grown (w := w3.drew) hM3 (World.grownBy_alloc w3.drew (.cells (.int .i64 a :: bvs b).toArray 91) none) (by simp)
    have hc4 : Chg l.fp w (w3.drew.alloc (.cells (.int .i64 a :: bvs b).toArray 91)) := hc3.trans (Chg.of_below l.fp ((drew_below (w := w3)).alloc (Nat.le_refl _) _)) (fun x hx => .inl hx)
    have hbs4 := hc4.size
    refine hK _ _ hB4 c24 ?_
    clear hK hB3 c23 f23 hD3 hR3 hS3 hM3 hc3
    generalize w3.drew.alloc (.cells (.int .i64 a :: bvs b).toArray 91) = w4 at *
    generalize w3.drew.heap.size = g4 at *
    refine wpC_nil ⟨by rfl, ?_⟩
    refine wp_appW _ _ (by rfl) base l.A d.loose.length l.c (looseC d.loose) (by rfl) hR4 a b hb g4 (by rfl) hW4 hlo (by omega) ?_
    intro A2 c2 w5 hR5 hG5
    have hlA : ∀ g, l.A.map (·.block) = some g → g < w.heap.size := fun g hg => (h.fp_lt (.inr (.inr (.inr hg)))).2
    have hB5 := hB4.grown hG5.grown (by intro e; have := hlA _ e.symm; omega)
    have hD5 := hD4.grown hG5.grown (fun e => h.rg e.symm)
    have hS5 := hS4.grown hG5.grown (fun e => h.rs e.symm)
    have hM5 := hM4.grown hG5.grown (fun e => h.rn e.symm)
    have hc5 : Chg l.fp w w5 := hc4.trans (Chg.of_grown' (F := l.fp) hG5.grown (fun g hg => .inr (.inr (.inr hg)))) (fun x hx => .inl hx)
    have hA2 : ∀ g, A2.map (·.block) = some g → l.A.map (·.block) = some g ∨ w.heap.size ≤ g := fun g hg => by
      rcases hG5.lies with h1 | ⟨g', h1, h2, _⟩
      · exact .inl (h1 ▸ hg)
      · rw [h1] at hg
        cases hg
        exact .inr (by omega)
    have c25 := hD5.cell 2
    have f25 := hD5.frozen 2
    simp only [List.getElem?_toArray, List.getElem?_cons_zero, List.getElem?_cons_succ] at c25
    refine ⟨fun z => Blk z w.heap.size 89 (bvs b).toArray, hB5, fun _ h => h, ?_⟩
    clear hB4 hD4 hS4 hM4 hR4 hW4 hG5 hc4 hbs4 c24
    simp only [planOps, List.getElem?_toArray, List.getElem?_cons_zero, List.getElem?_cons_succ]
    iterate 2 (refine wpS_q ?_ (by rfl) ?_ ?_; rotate_left; (focus (intro z hz; (try dsimp only at hz); go_simp; rfl)))
    simp only [Act.put, List.setIfInBounds_toArray]
    refine wpS_l (by rfl) (fun K hK => ?_)
    go_wp2_with fail
    have hg6 := grownBy_set w5 l.g 2 (.slice A2 (d.loose.length + 1) c2)
    have hB6 := hB5.grown hg6 (by intro e; injection e with e; omega)
    have hD6 := hD5.set_ 2 (.slice A2 (d.loose.length + 1) c2)
    simp only [List.setIfInBounds_toArray, List.set_cons_zero, List.set_cons_succ] at hD6
    have hS6 := hS5.grown hg6 (by intro e; injection e with e; exact h.ne1 e.symm)
    have hM6 := hM5.grown hg6 (by intro e; injection e with e; exact h.ne2 e.symm)
    have hne : ∀ x, A2.map (·.block) = some x → l.A.map (·.block) ≠ some x → w.heap.size ≤ x := fun x hx hn => (hA2 x hx).resolve_left hn
    have hrg : A2.map (·.block) ≠ some l.g := fun e => by have := hne _ e h.rg; omega
    have hrs : A2.map (·.block) ≠ some l.gs := fun e => by have := hne _ e h.rs; have := h.sure.lt; omega
    have hrn : A2.map (·.block) ≠ some l.gn := fun e => by have := hne _ e h.rn; have := h.now.lt; omega
    have hR6 := (Chg.of_grown (F := fun x => x = l.g) hg6 rfl).own hR5 (fun x hx e => hrg (by rw [hx, e]))
    have hc6 : Chg l.fp w (w5.setCell ⟨l.g, 2, none⟩ (.slice A2 (d.loose.length + 1) c2)) := hc5.trans (Chg.of_grown (F := l.fp) hg6 (.inl rfl)) (fun x hx => .inl hx)
    refine hK _ _ (fun z => Blk z w.heap.size 89 (bvs b).toArray) hB6 (fun _ h => h) ?_
    clear hK hB5 hD5 hS5 hM5 hR5 hc5 c25 f25 hg6
    refine wpS_nil ?_
    generalize w5.setCell ⟨l.g, 2, none⟩ (.slice A2 (d.loose.length + 1) c2) = w6 at *
    have hfin : DiskAt w6 base { l with A := A2, c := c2 } (putD d a b) := DiskAt.put hD6 hS6 hM6 (fun q => by
      show (if q = a then _ else _) = secV (if q = a then _ else _)
      split <;> rfl) hR6 h.ne1 h.ne2 h.ne3 hrg hrs hrn h.bg h.bs h.bn (putD_ok h.ok hra hb)
    have hwD : writeD d a b = burnD (putD d a b) := by rw [writeD, if_pos hr]
    have hwE : writeE d a = if burnB (putD d a b) = true then 8 else 0 := by rw [writeE, if_pos hr]; rfl
    have hmv : Moved w w6 l { l with A := A2, c := c2 } := ⟨rfl, hc6, fun x hx => by
      rcases hx with hx | hx | hx | hx
      · exact .inl (.inl hx)
      · exact .inl (.inr (.inl hx))
      · exact .inl (.inr (.inr (.inl hx)))
      · rcases hA2 x hx with h1 | h1
        · exact .inl (.inr (.inr (.inr h1)))
        · exact .inr h1⟩
    obtain ⟨v, hv⟩ : ∃ v, burnB (putD d a b) = v := ⟨_, rfl⟩
    rw [hv] at hwE
    have HV := Lib.hid hv
    have HWD := Lib.hid hwD
    have HWE := Lib.hid hwE
    clear hwD hwE hv hr hoff hD6 hS6 hM6 hR6 hc6 hB6 hne hrg hrs hrn hA2 hlA hB1
    cases v
    all_goals
      go_wp2_with (go_at_call 76; refine (dburns_any w6 base { l with A := A2, c := c2 } (putD d a b) hfin).mono ?_; rw [HV.out]; rintro e w7 ⟨rfl, hD7, hg7⟩)
      go_ret
      exact ⟨_, by rw [HWE.out]; rfl, by rw [HWD.out]; exact hD7, hmv.trans (Moved.of_grown hg7)⟩
  · have hwD : writeD d a b = d := by rw [writeD, if_neg hr]
    have hwE : writeE d a = readyE d.off a := by rw [writeE, if_neg hr]
    obtain ⟨E, hE⟩ : ∃ E, readyE d.off a = E := ⟨_, rfl⟩
    rw [hE] at hr hwE
    have hr' : (E != 0) = true := by simpa using hr
    have HE := Lib.hid hE
    have HWD := Lib.hid hwD
    have HWE := Lib.hid hwE
    clear hE hwD hwE
    go_wp2_with (go_at_call 75; refine (dready_any _ base l d h1 a).mono ?_; rw [HE.out]; rintro e w2 ⟨rfl, rfl⟩)
    go_ret
    exact ⟨l, by rw [HWE.out]; rfl, by rw [HWD.out]; exact h1, Moved.of_below hb1⟩
end Go.Proofs.YtmjdfajdompkeaaGreatDoor
namespace Go.Proofs.YtmjdfajdompkeaaGreatDoor
open Go.RowKit Go.Rat
def upd (f : Int → Sec) (a : Int) (s : Sec) : Int → Sec := fun x => if x = a then s else f x
/-- What Sync makes sure: of each loose write's sector what is there now. -/
def syncF (now : Int → Sec) : List (Int × List UInt8) → (Int → Sec) → (Int → Sec)
  | [], f => f
  | x :: r, f => syncF now r (upd f x.1 (now x.1))
def syncD (d : DS) : DS := { d with sure := syncF d.now d.loose d.sure, loose := [] }
/-- What is picked of a loose write: 0 nothing, 1 and 3 itself, 2 lost. -/
def pickF (f : Int → Sec) (x : Int × List UInt8) (p : Nat) : Int → Sec :=
  if p % 4 = 0 then f else if p % 4 = 2 then upd f x.1 ⟨zs, true⟩ else upd f x.1 ⟨x.2, false⟩
def picksF : List (Int × List UInt8) → Nat → List UInt8 → (Int → Sec) → (Int → Sec)
  | [], _, _, f => f
  | x :: r, i, ps, f => picksF r (i + 1) ps (pickF f x (ps.getD i 0).toNat)
def onD (d : DS) (ps : List UInt8) : DS :=
  { d with sure := picksF d.loose 0 ps d.sure, now := syncF (picksF d.loose 0 ps d.sure) d.loose d.now, loose := [], off := false, fuse := -1 }
theorem syncF_snoc (now : Int → Sec) (l : List (Int × List UInt8)) (x : Int × List UInt8) : ∀ f, syncF now (l ++ [x]) f = upd (syncF now l f) x.1 (now x.1) := by
  induction l with
  | nil => intro f; rfl
  | cons y l ih => intro f; exact ih _
theorem picksF_snoc (l : List (Int × List UInt8)) (x : Int × List UInt8) (ps : List UInt8) : ∀ i f, picksF (l ++ [x]) i ps f = pickF (picksF l i ps f) x (ps.getD (i + l.length) 0).toNat := by
  induction l with
  | nil => intro i f; rfl
  | cons y l ih =>
    intro i f
    simp only [List.cons_append, picksF, ih, List.length_cons]
    rw [show i + 1 + l.length = i + (l.length + 1) by omega]
theorem upd_len {f : Int → Sec} (h : ∀ a, (f a).b.length = 128) {s : Sec} (hs : s.b.length = 128) (a : Int) : ∀ x, (upd f a s x).b.length = 128 := by
  intro x
  unfold upd
  split
  · exact hs
  · exact h x
theorem syncF_len {now : Int → Sec} (hn : ∀ a, (now a).b.length = 128) (l : List (Int × List UInt8)) : ∀ f : Int → Sec, (∀ a, (f a).b.length = 128) → ∀ x, (syncF now l f x).b.length = 128 := by
  induction l with
  | nil => intro f h; exact h
  | cons y l ih => intro f h; exact ih _ (upd_len h (hn _) _)
theorem pickF_len {f : Int → Sec} (h : ∀ a, (f a).b.length = 128) {x : Int × List UInt8} (hx : x.2.length = 128) (p : Nat) : ∀ a, (pickF f x p a).b.length = 128 := by
  unfold pickF
  split
  · exact h
  · split
    · exact upd_len h zs_length _
    · exact upd_len h hx _
theorem picksF_len (l : List (Int × List UInt8)) (ps : List UInt8) : (∀ x ∈ l, x.2.length = 128) → ∀ i (f : Int → Sec), (∀ a, (f a).b.length = 128) → ∀ x, (picksF l i ps f x).b.length = 128 := by
  induction l with
  | nil => intro _ i f h; exact h
  | cons y l ih => intro hl i f h; exact ih (fun x hx => hl x (by simp [hx])) _ _ (pickF_len h (hl y (by simp)) _)
theorem syncD_ok {d : DS} (h : DOk d) : DOk (syncD d) := ⟨syncF_len h.now _ _ h.sure, h.now, by simp [syncD], h.fuse⟩
theorem onD_ok {d : DS} (h : DOk d) (ps : List UInt8) : DOk (onD d ps) :=
  ⟨picksF_len _ _ (fun x hx => (h.loose x hx).2) _ _ h.sure, syncF_len (picksF_len _ _ (fun x hx => (h.loose x hx).2) _ _ h.sure) _ _ h.now, by simp [onD], by simp [onD]⟩
/-- The cells of the k-th loose write. -/
theorem looseC_at (l : List (Int × List UInt8)) (hl : ∀ x ∈ l, x.2.length = 128) : ∀ k, (hk : k < l.length) → ((looseC l).drop (k * 129)).take 129 = .int .i64 l[k].1 :: bvs l[k].2 := by
  induction l with
  | nil => intro k hk; simp at hk
  | cons x l ih =>
    intro k hk
    have hx : (Value.int .i64 x.1 :: bvs x.2).length = 129 := by rw [List.length_cons, bvs_length, hl x (by simp)]
    have hc : looseC (x :: l) = (.int .i64 x.1 :: bvs x.2) ++ looseC l := by simp [looseC]
    cases k with
    | zero => rw [hc, Nat.zero_mul, List.drop_zero, ← hx, List.take_left]; rfl
    | succ k =>
      rw [hc, show (k + 1) * 129 = (Value.int .i64 x.1 :: bvs x.2).length + k * 129 by rw [hx]; omega, List.drop_append]
      rw [List.drop_of_length_le (by omega), List.nil_append, Nat.add_sub_cancel_left]
      exact ih (fun x hx => hl x (by simp [hx])) k (by simpa using hk)
section
variable {w w' : World} {base : Nat} {l : DL} {d : DS}
theorem DiskAt.setSure (h : DiskAt w base l d) (hg : w.grownBy w' (some l.gs)) {f : Int → Sec} (hM : MapV (secV zsec) w' l.gs (fun a => secV (f a))) (hf : ∀ a, (f a).b.length = 128) : DiskAt w' base l { d with sure := f } :=
  ⟨h.blk.grown hg (by intro e; injection e with e; exact h.ne1 e), hM, h.now.grown hg (by intro e; injection e with e; exact h.ne3 e.symm),
    (Chg.of_grown (F := fun x => x = l.gs) hg rfl).own h.row (fun x hx e => h.rs (by rw [hx, e])), h.ne1, h.ne2, h.ne3, h.rg, h.rs, h.rn, h.bg, h.bs, h.bn, ⟨hf, h.ok.now, h.ok.loose, h.ok.fuse⟩⟩
theorem DiskAt.setNow (h : DiskAt w base l d) (hg : w.grownBy w' (some l.gn)) {f : Int → Sec} (hM : MapV (secV zsec) w' l.gn (fun a => secV (f a))) (hf : ∀ a, (f a).b.length = 128) : DiskAt w' base l { d with now := f } :=
  ⟨h.blk.grown hg (by intro e; injection e with e; exact h.ne2 e), h.sure.grown hg (by intro e; injection e with e; exact h.ne3 e), hM,
    (Chg.of_grown (F := fun x => x = l.gn) hg rfl).own h.row (fun x hx e => h.rn (by rw [hx, e])), h.ne1, h.ne2, h.ne3, h.rg, h.rs, h.rn, h.bg, h.bs, h.bn, ⟨h.ok.sure, hf, h.ok.loose, h.ok.fuse⟩⟩
theorem DiskAt.clear (h : DiskAt w base l d) (off : Bool) (fuse : Int) (hf : -1 ≤ fuse ∧ fuse ≤ 9223372036854775807) (hg : w.grownBy w' (some l.g))
    (hB : Blk w' l.g 67 #[.map (some l.gs), .map (some l.gn), .slice none 0 0, .bool off, .int .i64 fuse]) : DiskAt w' base { l with A := none, c := 0 } { d with loose := [], off := off, fuse := fuse } :=
  ⟨hB, h.sure.grown hg (by intro e; injection e with e; exact h.ne1 e.symm), h.now.grown hg (by intro e; injection e with e; exact h.ne2 e.symm), World.ownsRow_nil _ _ _ _,
    h.ne1, h.ne2, h.ne3, by simp, by simp, by simp, h.bg, h.bs, h.bn, ⟨h.ok.sure, h.ok.now, by simp, hf⟩⟩
/-- The block of the loose writes, and where the k-th lies. -/
theorem DiskAt.loose_at (h : DiskAt w base l d) {k : Nat} (hk : k < d.loose.length) : ∃ (g : Nat) (L : List Value), l.A = some ⟨g, 0, none⟩ ∧ Blk w g 91 L.toArray ∧ (L.drop (k * 129)).take 129 = .int .i64 d.loose[k].1 :: bvs d.loose[k].2 ∧ g ≠ l.g ∧ g ≠ l.gs ∧ g ≠ l.gn := by
  rcases h.row.2 with ⟨h1, h2⟩ | ⟨g, cap, cur, hv, hb, hg, hnc, hm, hcs, ht⟩
  · omega
  · injection hv with h3 h4 h5
    refine ⟨g, cur.toList, h3, hg, ?_, fun e => h.rg (by rw [h3, ← e]; rfl), fun e => h.rs (by rw [h3, ← e]; rfl), fun e => h.rn (by rw [h3, ← e]; rfl)⟩
    have := looseC_at d.loose (fun x hx => (h.ok.loose x hx).2) k hk
    have hle : (k + 1) * 129 ≤ d.loose.length * 129 := Nat.mul_le_mul_right _ hk
    rw [← ht, List.drop_take, List.take_take, Nat.min_eq_left (by omega)] at this
    exact this
end
theorem look_run {P : Program} {w : World} {ρ : Operand → Value} {d : Option Tmp} {m x : Operand} {t k e ty : TypeId} {p : String} {af : Array Edge} {gd : Option (Nat × Bool)} {z : Value} {b : Nat} {f : Int → Value} (h : MapV z w b f) (hk : P.underlying k = some (.int .i64)) (ht : P.underlying t = some (.map k e)) (hz : (zeroValue e).run P w = .ok z w) (i : Int) (hi : (Lit.int .i64 i).wf = true)
    (hm : ρ m = .map (some b)) (hx : ρ x = .int .i64 i) : (execOp ρ { dst := d, op := .lookup t m x false, type := ty, pos := p, after := af, guard := gd }).run P w = .ok (.value (f i)) w := by
  have hr := h.look hk ht hz i hi
  simp only [execOp, hm, hx, Sem.run_bind, Sem.run_pure, Result.andThen_ok, hr]
theorem cells_len {i : Int} {b : List UInt8} (hb : b.length = 128) : (.int .i64 i :: bvs b : List Value).length = 129 := by rw [List.length_cons, bvs_length, hb]
theorem cells_one {i : Int} {b : List UInt8} : (.int .i64 i :: bvs b : List Value).toArray.all (·.oneCell') = true := by simp [bvs, bv, Value.oneCell']
end Go.Proofs.YtmjdfajdompkeaaGreatDoor
namespace Go.Proofs.YtmjdfajdompkeaaGreatDoor
open Go.RowKit Go.Rat
/-- What Sync leaves, and answers. -/
def syncAll (d : DS) : DS := if d.off = true then d else if burnB d = true then burnD d else syncD (burnD d)
def syncE (d : DS) : Int := if d.off = true then 8 else if burnB d = true then 8 else 0
set_option maxRecDepth 20000 in
set_option maxHeartbeats 4000000 in
theorem dsync_any (w : World) (base : Nat) (l : DL) (d : DS) (h : DiskAt w base l d) :
    Calls Tryz.prog 52 #[.pointer (some ⟨l.g, 0, none⟩)] w fun e w' => ∃ l', e = .returned (.int .i64 (syncE d)) ∧ DiskAt w' base l' (syncAll d) ∧ Moved w w' l l' := by
  cases hoff : d.off
  · have hrE : readyE d.off 0 = 0 := by rw [hoff]; exact readyE_ok (by omega)
    obtain ⟨v, hv⟩ : ∃ v, burnB d = v := ⟨_, rfl⟩
    have HV := Lib.hid hv
    cases v
    · have hfin : syncE d = 0 ∧ syncAll d = syncD (burnD d) := by simp [syncE, syncAll, hoff, hv]
      have HFIN := Lib.hid hfin
      have HR := Lib.hid hrE
      clear hfin hrE hv hoff
      go_enter Tryz.func52, Tryz.ntmps52
      go_upto_region 6 with (first
        | (go_at_call 75; refine (dready_any _ base l d h 0).mono ?_; rw [HR.out]; rintro e w2 ⟨rfl, rfl⟩; simp only [])
        | (go_at_call 76; refine (dburns_any w base l d h).mono ?_; rw [HV.out]; rintro e w1 ⟨rfl, h1, hg1⟩; simp only []))
      have hmv1 := Moved.of_grown hg1
      clear h hg1 HV HR
      obtain ⟨d1, hd1⟩ : ∃ d1, burnD d = d1 := ⟨_, rfl⟩
      rw [hd1] at h1
      have HD1 := Lib.hid hd1
      clear hd1
      have c2 := h1.blk.cell 2
      simp only [List.getElem?_toArray, List.getElem?_cons_zero, List.getElem?_cons_succ] at c2
      go_wp2_with fail
      go_loopw [18] (fun i wr => ∃ k : Nat, k ≤ d1.loose.length ∧ i = .int .i64 (k : Int) ∧ DiskAt wr base l { d1 with sure := syncF d1.now (d1.loose.take k) d1.sure } ∧ Moved w wr l l) (fun i _ => d1.loose.length - (intOf i).toNat)
      case atStart => exact ⟨0, Nat.zero_le _, rfl, h1, hmv1⟩
      case round =>
        obtain ⟨k, hk, rfl, hk1, hmk⟩ := hrel
        clear h1 c2 hmv1
        by_cases hkl : k < d1.loose.length
        · obtain ⟨g, L, hA, hgB, hgL, hne1, hne2, hne3⟩ := hk1.loose_at hkl
          have hA' : l.A = some ⟨g, 0, none⟩ := hA
          have hx := hk1.ok.loose _ (List.getElem_mem hkl)
          have hstep : syncF d1.now (d1.loose.take (k + 1)) d1.sure = upd (syncF d1.now (d1.loose.take k) d1.sure) d1.loose[k].1 (d1.now d1.loose[k].1) := by
            rw [List.take_add_one, List.getElem?_eq_getElem hkl, Option.toList_some, syncF_snoc]
          have hgL' : (L.drop (k * 129)).take 129 = .int .i64 d1.loose[k].1 :: bvs d1.loose[k].2 := hgL
          generalize d1.loose[k] = x at *
          obtain ⟨i, b⟩ := x
          simp only at hx hstep hgL'
          have HSTEP := Lib.hid hstep
          have HGL := Lib.hid hgL'
          clear hstep hgL hgL'
          have hcl := cells_len (i := i) hx.2
          have hcs : (.int .i64 i :: bvs b : List Value).toArray.size = 129 := by simpa using hcl
          have hcap := own_cap hk1.row
          have hlen : d1.loose.length ≤ 9223372036854775807 := Nat.le_trans hcap.1 hcap.2
          clear hcap
          have g1 : (k : Int) < (d1.loose.length : Int) := by omega
          have g0 : (0 : Int) ≤ (k : Int) := by omega
          clear hA'
          repeat (first
            | ((with_reducible refine wpl_load_mid g (k * 129) L (.int .i64 i :: bvs b) Tryz.underlying91 rfl w129 hgB HGL.out hcl ?_ ?_); (focus rfl); simp only [Act.put, List.setIfInBounds_toArray, List.set_cons_zero, List.set_cons_succ])
            | ((with_reducible refine wpl_store_fresh (.int .i64 i :: bvs b).toArray w129 ?_ hcs cells_one ?_ ?_ ?_); (focus kernel_rfl); (focus rfl); (focus rfl); intro w3 hW3 hl3 hb3; simp only [Act.put])
            | go_values | go_skip | go_guarded | go_step | go_upon | go_back)
          have h3 := hk1.below hb3
          have hw3 := hW3.cell 0
          have c0 := h3.blk.cell 0
          have c1 := h3.blk.cell 1
          simp only [List.getElem?_toArray, List.getElem?_cons_zero, List.getElem?_cons_succ] at c0 c1 hw3
          have hneG : wr.heap.size ≠ l.gs := by have := hk1.sure.lt; omega
          have hm3 : Moved w w3 l l := hmk.trans (Moved.of_below hb3)
          refine wp_region_plan [(0, true), (1, true), (2, true), (3, true), (4, true), (5, true), (6, true), (7, true), (8, true), (9, true), (10, true), (11, true), (12, true), (13, false)]
            (fun z => z.cell? ⟨l.g, 0, none⟩ = some (.map (some l.gs)) ∧ z.cell? ⟨l.g, 1, none⟩ = some (.map (some l.gn)) ∧ z.cell? ⟨wr.heap.size, 0, none⟩ = some (.int .i64 i) ∧ MapV (secV zsec) z l.gn (fun a => secV (d1.now a))) (by kernel_rfl) (by kernel_rfl) (by kernel_rfl) (by kernel_rfl) (fun _ _ d _ _ h => by cases d <;> exact h) ⟨c0, c1, hw3, h3.now.below drew_below h3.now.lt⟩ ?_
          simp only [planOps, List.getElem?_toArray, List.getElem?_cons_zero, List.getElem?_cons_succ]
          iterate 12 (refine wpS_q ?_ (by rfl) ?_ ?_; rotate_left; (focus (intro z hz; (try dsimp only at hz); go_simp; rfl)); simp only [Act.put, List.setIfInBounds_toArray, List.set_cons_zero, List.set_cons_succ])
          refine wpS_q (secV (d1.now i)) (by rfl) (fun z hz => look_run hz.2.2.2 Tryz.underlying3 Tryz.underlying64 (zerosec z) i (wf64 hx.1) rfl rfl) ?_
          simp only [Act.put, List.setIfInBounds_toArray, List.set_cons_zero, List.set_cons_succ]
          refine wpS_l (by rfl) (fun K hK => ?_)
          refine wp_mapStore _ _ _ rfl (h3.sure.below drew_below h3.sure.lt) Tryz.underlying3 Tryz.underlying64 i (wf64 hx.1) (secV (d1.now i)) rfl rfl rfl ?_
          intro w4 hM4 hg4
          have h3d : DiskAt w3.drew base l { d1 with sure := syncF d1.now (d1.loose.take k) d1.sure } := h3.below drew_below
          have h4 := h3d.setSure hg4 (f := syncF d1.now (d1.loose.take (k + 1)) d1.sure) (hM4.ext (fun q => by
            rw [HSTEP.out]
            show (if q = i then _ else _) = secV (if q = i then _ else _)
            split <;> rfl)) (by rw [HSTEP.out]; exact upd_len h3.ok.sure (h3.ok.now i) i)
          have c04 := h4.blk.cell 0
          have c14 := h4.blk.cell 1
          simp only [List.getElem?_toArray, List.getElem?_cons_zero, List.getElem?_cons_succ] at c04 c14
          have hW4 : w4.cell? ⟨wr.heap.size, 0, none⟩ = some (.int .i64 i) := (World.cell?_of_block (hg4.block wr.heap.size hl3 (by intro e; injection e with e; exact hneG e))).trans hw3
          refine hK _ _ _ ⟨c04, c14, hW4, h4.now⟩ (fun _ h => h) ?_
          clear hK
          refine wpS_nil ?_
          have hm4 : Moved w w4 l l := hm3.trans ⟨rfl, (Chg.of_below l.fp (drew_below (w := w3))).trans (Chg.of_grown (F := l.fp) hg4 (.inr (.inl rfl))) (fun x hx => .inl hx), fun x hx => .inl hx⟩
          clear h3 c0 c1 hw3 hm3 h3d c04 c14 hW4 hg4 hM4 hmk hk1 hgB hb3 hW3
          go_wp2_with fail
          exact ⟨⟨k + 1, by omega, by omega, h4⟩, by simp only [intOf]; omega⟩
        · obtain rfl : k = d1.loose.length := by omega
          rw [List.take_of_length_le (Nat.le_refl _)] at hk1
          have g1 : ¬ (d1.loose.length : Int) < (d1.loose.length : Int) := by omega
          have c2 := hk1.blk.cell 2
          have f2 := hk1.blk.frozen 2
          simp only [List.getElem?_toArray, List.getElem?_cons_zero, List.getElem?_cons_succ] at c2
          have hg := grownBy_set wr l.g 2 (.slice none 0 0)
          have hB := hk1.blk.set_ 2 (.slice none 0 0)
          simp only [List.setIfInBounds_toArray, List.set_cons_zero, List.set_cons_succ] at hB
          have hfin := hk1.clear d1.off d1.fuse hk1.ok.fuse hg hB
          have hmf : Moved w (wr.setCell ⟨l.g, 2, none⟩ (.slice none 0 0)) l { l with A := none, c := 0 } := ⟨rfl, hmk.chg.trans (Chg.of_grown (F := l.fp) hg (.inl rfl)) (fun x hx => .inl hx), fun x hx => by
            rcases hx with hx | hx | hx | hx
            · exact .inl (.inl hx)
            · exact .inl (.inr (.inl hx))
            · exact .inl (.inr (.inr (.inl hx)))
            · cases hx⟩
          clear hk1 hB
          go_wp2_with fail
          go_ret
          exact ⟨by rw [HFIN.out.1]; rfl, { l with A := none, c := 0 }, by rw [HFIN.out.2, HD1.out]; exact hfin, hmf⟩
    · have hfin : syncE d = 8 ∧ syncAll d = burnD d := by simp [syncE, syncAll, hoff, hv]
      have HFIN := Lib.hid hfin
      have HR := Lib.hid hrE
      clear hfin hrE hv hoff
      go_enter Tryz.func52, Tryz.ntmps52
      go_wp2_with (first
        | (go_at_call 75; refine (dready_any _ base l d h 0).mono ?_; rw [HR.out]; rintro e w2 ⟨rfl, rfl⟩; simp only [])
        | (go_at_call 76; refine (dburns_any w base l d h).mono ?_; rw [HV.out]; rintro e w1 ⟨rfl, h1, hg1⟩; simp only []))
      go_ret
      exact ⟨l, by rw [HFIN.out.1]; rfl, by rw [HFIN.out.2]; exact h1, Moved.of_grown hg1⟩
  · have hrE : readyE d.off 0 = 8 := by rw [hoff]; rfl
    have hfin : syncE d = 8 ∧ syncAll d = d := by simp [syncE, syncAll, hoff]
    have HFIN := Lib.hid hfin
    have HR := Lib.hid hrE
    clear hfin hrE hoff
    go_enter Tryz.func52, Tryz.ntmps52
    go_wp2_with (go_at_call 75; refine (dready_any _ base l d h 0).mono ?_; rw [HR.out]; rintro e w2 ⟨rfl, rfl⟩; simp only [])
    go_ret
    exact ⟨l, by rw [HFIN.out.1]; rfl, by rw [HFIN.out.2]; exact h, Moved.refl _ _⟩
end Go.Proofs.YtmjdfajdompkeaaGreatDoor
namespace Go.Proofs.YtmjdfajdompkeaaGreatDoor
open Go.RowKit Go.Rat
def onAll (d : DS) (ps : List UInt8) : DS := if d.off = true then onD d ps else d
def onE (d : DS) : Int := if d.off = true then 0 else 3
theorem build_lost {w : World} {ρ : Operand → Value} {d : Option Tmp} {t : TypeId} {p : String} {af : Array Edge} {gd : Option (Nat × Bool)} (hρ : ∀ v, ρ (.const v) = v) :
    (execOp ρ { dst := d, op := .build 93 #[(1, .const (.bool true))], type := t, pos := p, after := af, guard := gd }).run Tryz.prog w = .ok (.value (.agg (secL ⟨zs, true⟩).toArray)) w := by
  have h1 := hρ (.bool true)
  have hf : Tryz.zeroCells93.setIfInBounds 128 (.bool true) = (secL ⟨zs, true⟩).toArray := by
    rw [zc129, List.setIfInBounds_toArray, secL, secL, List.set_append_right _ _ (by rw [bvs_length]; simp [zsec, zs_length]), bvs_length]
    simp [zsec, zs_length]
  go_simp
theorem Chg.rbN {F : Nat → Prop} {w w' : World} {A : Option Addr} {n : Nat} {xs : List UInt8} (h : Chg F w w') (hr : RB w A n xs) (hg : n ≠ 0 → ∀ x, A.map (·.block) = some x → ¬ F x) : RB w' A n xs := by
  by_cases hn : n = 0
  · have hx : xs = [] := List.eq_nil_of_length_eq_zero (by rw [hr.len, hn])
    subst hn
    rw [hx]
    exact RB.nil_ _ _
  · exact h.rb hr (hg hn)
theorem pickF_0 (f : Int → Sec) (x : Int × List UInt8) (p : Nat) (h : p % 4 = 0) : pickF f x p = f := by rw [pickF, if_pos h]
theorem pickF_2 (f : Int → Sec) (x : Int × List UInt8) (p : Nat) (h : p % 4 = 2) : pickF f x p = upd f x.1 ⟨zs, true⟩ := by rw [pickF, if_neg (by omega), if_pos h]
theorem pickF_1 (f : Int → Sec) (x : Int × List UInt8) (p : Nat) (h : p % 4 = 1 ∨ p % 4 = 3) : pickF f x p = upd f x.1 ⟨x.2, false⟩ := by rw [pickF, if_neg (by omega), if_neg (by omega)]
set_option maxRecDepth 20000 in
set_option maxHeartbeats 8000000 in
theorem don_any (w : World) (base : Nat) (l : DL) (d : DS) (h : DiskAt w base l d) (A' : Option Addr) (m c' : Nat) (ps : List UInt8) (hr : RB w A' m ps) (hap : m ≠ 0 → ∀ x, A'.map (·.block) = some x → ¬ l.fp x) :
    Calls Tryz.prog 18 #[.pointer (some ⟨l.g, 0, none⟩), .slice A' m c'] w fun e w' => ∃ l', e = .returned (.int .i64 (onE d)) ∧ DiskAt w' base l' (onAll d ps) ∧ Moved w w' l l' := by
  have c3 := h.blk.cell 3
  simp only [List.getElem?_toArray, List.getElem?_cons_zero, List.getElem?_cons_succ] at c3
  cases hoff : d.off
  · have hfin : onE d = 3 ∧ onAll d ps = d := by simp [onE, onAll, hoff]
    have HFIN := Lib.hid hfin
    rw [hoff] at c3
    clear hfin hoff
    go_enter Tryz.func18, Tryz.ntmps18
    go_wp2_with fail
    go_ret
    exact ⟨l, by rw [HFIN.out.1]; rfl, by rw [HFIN.out.2]; exact h, Moved.refl _ _⟩
  · have hfin : onE d = 0 ∧ onAll d ps = onD d ps := by simp [onE, onAll, hoff]
    have HFIN := Lib.hid hfin
    rw [hoff] at c3
    have c2 := h.blk.cell 2
    simp only [List.getElem?_toArray, List.getElem?_cons_zero, List.getElem?_cons_succ] at c2
    have hcap := own_cap h.row
    have hlen : d.loose.length ≤ 9223372036854775807 := Nat.le_trans hcap.1 hcap.2
    have hml := hr.len
    have HR := Lib.hid hr
    clear hfin hoff hcap hr
    go_enter Tryz.func18, Tryz.ntmps18
    go_upto_block 1 with (fail)
    go_cut [] (fun wx => DiskAt wx base l { d with sure := picksF d.loose 0 ps d.sure } ∧ Moved w wx l l)
    case first =>
      go_wp2_with fail
      go_loopw [24] (fun i wr => ∃ k : Nat, k ≤ d.loose.length ∧ i = .int .i64 (k : Int) ∧ DiskAt wr base l { d with sure := picksF (d.loose.take k) 0 ps d.sure } ∧ Moved w wr l l) (fun i _ => d.loose.length - (intOf i).toNat)
      case atStart => exact ⟨0, Nat.zero_le _, rfl, h, Moved.refl _ _⟩
      case round =>
        obtain ⟨k, hk, rfl, hk1, hmk⟩ := hrel
        clear c2 c3
        by_cases hkl : k < d.loose.length
        · obtain ⟨g, L, hA, hgB, hgL, hne1, hne2, hne3⟩ := hk1.loose_at hkl
          have hA' : l.A = some ⟨g, 0, none⟩ := hA
          have hx := hk1.ok.loose _ (List.getElem_mem hkl)
          have hstep : picksF (d.loose.take (k + 1)) 0 ps d.sure = pickF (picksF (d.loose.take k) 0 ps d.sure) d.loose[k] (ps.getD k 0).toNat := by
            rw [List.take_add_one, List.getElem?_eq_getElem hkl, Option.toList_some, picksF_snoc, List.length_take, Nat.zero_add, Nat.min_eq_left (by omega)]
          have hgL' : (L.drop (k * 129)).take 129 = .int .i64 d.loose[k].1 :: bvs d.loose[k].2 := hgL
          generalize d.loose[k] = x at *
          obtain ⟨i, b⟩ := x
          simp only at hx hgL'
          have HSTEP := Lib.hid hstep
          have HGL := Lib.hid hgL'
          clear hstep hgL hgL' hA'
          have hcl := cells_len (i := i) hx.2
          have hcs : (.int .i64 i :: bvs b : List Value).toArray.size = 129 := by simpa using hcl
          have g1 : (k : Int) < (d.loose.length : Int) := by omega
          have g0 : (0 : Int) ≤ (k : Int) := by omega
          have hrr : RB wr A' m ps := hmk.chg.rbN HR.out hap
          obtain ⟨q, hq⟩ : ∃ q, (ps.getD k 0).toNat % 4 = q := ⟨_, rfl⟩
          repeat (first
            | ((with_reducible refine wpl_load_mid g (k * 129) L (.int .i64 i :: bvs b) Tryz.underlying91 rfl w129 hgB HGL.out hcl ?_ ?_); (focus rfl); simp only [Act.put, List.setIfInBounds_toArray, List.set_cons_zero, List.set_cons_succ])
            | ((with_reducible refine wpl_store_fresh (.int .i64 i :: bvs b).toArray w129 ?_ hcs cells_one ?_ ?_ ?_); (focus kernel_rfl); (focus rfl); (focus rfl); intro w3 hW3 hl3 hb3; simp only [Act.put]; refine Hid.out ?_)
            | go_values | go_skip | go_guarded | go_step | go_upon | go_back)
          refine Lib.hid ?_
          clear hA
          have hr3 := hrr.below hb3
          have h3 := hk1.below hb3
          have hm3 : Moved w w3 l l := hmk.trans (Moved.of_below hb3)
          have hneG : wr.heap.size ≠ l.gs := by have := hk1.sure.lt; omega
          clear hgB hb3 hmk hk1 hrr HGL
          go_upto_if 32 with (fail)
          go_cut [7] (fun p wx => p = .int .u8 (q : Int) ∧ wx = w3)
          case first =>
            have HQ := Lib.hid hq
            clear hq
            by_cases hkm : k < m
            · obtain ⟨ad, rfl, _, hc⟩ := hr3.at_ hkm
              have hq := HQ.out
              have hb := (ps.getD k 0).toNat_lt
              generalize (ps.getD k 0).toNat = p at *
              have hpq : (p : Int) % 4 = (q : Int) := by omega
              have g2 : (k : Int) < (m : Int) := by omega
              clear hq HQ
              go_wp2_with fail
              go_meet
              exact ⟨congrArg (Value.int .u8) hpq, rfl⟩
            · have hq0 : q = 0 := by rw [← HQ.out, List.getD_eq_getElem?_getD, List.getElem?_eq_none (by omega)]; rfl
              subst hq0
              have g2 : ¬ (k : Int) < (m : Int) := by omega
              go_wp2_with fail
              go_meet
              exact ⟨rfl, rfl⟩
          case rest =>
            obtain ⟨rfl, rfl⟩ := hcut
            have hq4 : q < 4 := by omega
            have hq3 : q = 0 ∨ q = 2 ∨ q = 1 ∨ q = 3 := by omega
            have hw3 := hW3.cell 0
            have c0 := h3.blk.cell 0
            simp only [List.getElem?_toArray, List.getElem?_cons_zero] at c0 hw3
            have hW3d : Blk wc.drew wr.heap.size 91 (.int .i64 i :: bvs b).toArray := hW3
            have h3d : DiskAt wc.drew base l { d with sure := picksF (d.loose.take k) 0 ps d.sure } := h3.below drew_below
            have hmd : Moved w wc.drew l l := hm3.trans (Moved.of_below drew_below)
            have hbvl : (bvs b).length = 128 := by rw [bvs_length]; exact hx.2
            have hb1 : ((.int .i64 i :: bvs b : List Value).drop 1).take 128 = bvs b := by rw [List.drop_succ_cons, List.drop_zero, List.take_of_length_le (by omega)]
            have HQ := Lib.hid hq
            clear hq
            rcases hq3 with rfl | rfl | rfl | rfl
            · have h4 : DiskAt wc base l { d with sure := picksF (d.loose.take (k + 1)) 0 ps d.sure } := by rw [HSTEP.out, pickF_0 _ _ _ HQ.out]; exact h3
              clear hW3 hW3d h3d h3 hmd
              go_wp2_with fail
              exact ⟨⟨k + 1, by omega, congrArg (Value.int .i64) (by omega), h4, hm3⟩, by simp only [intOf]; omega⟩
            · have hst2 : picksF (d.loose.take (k + 1)) 0 ps d.sure = upd (picksF (d.loose.take k) 0 ps d.sure) i ⟨zs, true⟩ := by rw [HSTEP.out, pickF_2 _ _ _ HQ.out]
              have HST2 := Lib.hid hst2
              clear hst2 HQ HSTEP
              go_wp2_with fail
              refine wp_region_plan [(0, true), (1, true), (2, true), (3, true), (4, true), (5, true), (6, true), (7, false)]
                (fun z => z.cell? ⟨l.g, 0, none⟩ = some (.map (some l.gs)) ∧ z.cell? ⟨wr.heap.size, 0, none⟩ = some (.int .i64 i)) (by kernel_rfl) (by kernel_rfl) (by kernel_rfl) (by kernel_rfl) (fun _ _ d _ _ h => by cases d <;> exact h) ⟨c0, hw3⟩ ?_
              simp only [planOps, List.getElem?_toArray, List.getElem?_cons_zero, List.getElem?_cons_succ]
              iterate 6 (refine wpS_q ?_ (by rfl) ?_ ?_; rotate_left; (focus (intro z hz; (try dsimp only at hz); go_simp; rfl)); simp only [Act.put, List.setIfInBounds_toArray, List.set_cons_zero, List.set_cons_succ])
              refine wpS_q (.agg (secL ⟨zs, true⟩).toArray) (by rfl) (fun z hz => build_lost (fun _ => rfl)) ?_
              simp only [Act.put, List.setIfInBounds_toArray, List.set_cons_zero, List.set_cons_succ]
              refine wpS_l (by rfl) (fun K hK => ?_)
              refine wp_mapStore _ _ _ rfl h3d.sure Tryz.underlying3 Tryz.underlying64 i (wf64 hx.1) (secV ⟨zs, true⟩) rfl rfl rfl ?_
              intro w4 hM4 hg4
              have h4 := h3d.setSure hg4 (f := picksF (d.loose.take (k + 1)) 0 ps d.sure) (hM4.ext (fun q => by
                rw [HST2.out]
                show (if q = i then _ else _) = secV (if q = i then _ else _)
                split <;> rfl)) (by rw [HST2.out]; exact upd_len h3.ok.sure zs_length i)
              have c04 := h4.blk.cell 0
              simp only [List.getElem?_toArray, List.getElem?_cons_zero] at c04
              have hW4 : w4.cell? ⟨wr.heap.size, 0, none⟩ = some (.int .i64 i) := (World.cell?_of_block (hg4.block wr.heap.size hl3 (by intro e; injection e with e; exact hneG e))).trans hw3
              refine hK _ _ _ ⟨c04, hW4⟩ (fun _ h => h) ?_
              clear hK
              refine wpS_nil ?_
              have hm4 : Moved w w4 l l := hmd.trans ⟨rfl, Chg.of_grown (F := l.fp) hg4 (.inr (.inl rfl)), fun x hx => .inl hx⟩
              clear h3 c0 hw3 hm3 h3d c04 hW4 hg4 hM4 hW3 hW3d hmd
              go_wp2_with fail
              exact ⟨⟨k + 1, by omega, congrArg (Value.int .i64) (by omega), h4, hm4⟩, by simp only [intOf]; omega⟩
            all_goals
              have hst2 : picksF (d.loose.take (k + 1)) 0 ps d.sure = upd (picksF (d.loose.take k) 0 ps d.sure) i ⟨b, false⟩ := by rw [HSTEP.out, pickF_1 _ _ _ (by have := HQ.out; omega)]
              have HST2 := Lib.hid hst2
              clear hst2 HQ HSTEP
              go_wp2_with fail
              refine wp_region_plan [(0, true), (1, true), (2, true), (3, true), (4, true), (5, true), (6, true), (7, true), (8, true), (9, false)]
                (fun z => z.cell? ⟨l.g, 0, none⟩ = some (.map (some l.gs)) ∧ z.cell? ⟨wr.heap.size, 0, none⟩ = some (.int .i64 i) ∧ Blk z wr.heap.size 91 (.int .i64 i :: bvs b : List Value).toArray) (by kernel_rfl) (by kernel_rfl) (by kernel_rfl) (by kernel_rfl) (fun _ _ d _ _ h => by cases d <;> exact h) ⟨c0, hw3, hW3d⟩ ?_
              simp only [planOps, List.getElem?_toArray, List.getElem?_cons_zero, List.getElem?_cons_succ]
              iterate 7 (refine wpS_q ?_ (by rfl) ?_ ?_; rotate_left; (focus (intro z hz; (try dsimp only at hz); go_simp; rfl)); simp only [Act.put, List.setIfInBounds_toArray, List.set_cons_zero, List.set_cons_succ])
              refine wpS_q (.agg (bvs b).toArray) (by rfl) (fun z hz => load_mid_run rfl wr.heap.size 1 (.int .i64 i :: bvs b) (bvs b) Tryz.underlying89 rfl i128 hz.2.2 hb1 hbvl rfl) ?_
              simp only [Act.put, List.setIfInBounds_toArray, List.set_cons_zero, List.set_cons_succ]
              refine wpS_q (.agg (secL ⟨b, false⟩).toArray) (by rfl) (fun z hz => build_sec b hx.2 rfl) ?_
              simp only [Act.put, List.setIfInBounds_toArray, List.set_cons_zero, List.set_cons_succ]
              refine wpS_l (by rfl) (fun K hK => ?_)
              refine wp_mapStore _ _ _ rfl h3d.sure Tryz.underlying3 Tryz.underlying64 i (wf64 hx.1) (secV ⟨b, false⟩) rfl rfl rfl ?_
              intro w4 hM4 hg4
              have h4 := h3d.setSure hg4 (f := picksF (d.loose.take (k + 1)) 0 ps d.sure) (hM4.ext (fun q => by
                rw [HST2.out]
                show (if q = i then _ else _) = secV (if q = i then _ else _)
                split <;> rfl)) (by rw [HST2.out]; exact upd_len h3.ok.sure hx.2 i)
              have c04 := h4.blk.cell 0
              simp only [List.getElem?_toArray, List.getElem?_cons_zero] at c04
              have hW4B := hW3d.grown hg4 (by intro e; injection e with e; exact hneG e)
              have hW4 : w4.cell? ⟨wr.heap.size, 0, none⟩ = some (.int .i64 i) := (World.cell?_of_block (hg4.block wr.heap.size hl3 (by intro e; injection e with e; exact hneG e))).trans hw3
              refine hK _ _ _ ⟨c04, hW4, hW4B⟩ (fun _ h => h) ?_
              clear hK
              refine wpS_nil ?_
              have hm4 : Moved w w4 l l := hmd.trans ⟨rfl, Chg.of_grown (F := l.fp) hg4 (.inr (.inl rfl)), fun x hx => .inl hx⟩
              clear h3 c0 hw3 hm3 h3d c04 hW4 hW4B hg4 hM4 hW3 hW3d hmd
              go_wp2_with fail
              exact ⟨⟨k + 1, by omega, congrArg (Value.int .i64) (by omega), h4, hm4⟩, by simp only [intOf]; omega⟩
        · obtain rfl : k = d.loose.length := by omega
          rw [List.take_of_length_le (Nat.le_refl _)] at hk1
          have g1 : ¬ (d.loose.length : Int) < (d.loose.length : Int) := by omega
          go_wp2_with fail
          go_meet
          exact ⟨hk1, hmk⟩
    case rest =>
      obtain ⟨h1, hm1⟩ := hcut
      obtain ⟨P, hP⟩ : ∃ P, picksF d.loose 0 ps d.sure = P := ⟨_, rfl⟩
      rw [hP] at h1
      have hfinD : onD d ps = { d with sure := P, now := syncF P d.loose d.now, loose := [], off := false, fuse := -1 } := by rw [onD, hP]
      have HFD := Lib.hid hfinD
      clear hfinD hP c2 c3 h
      have c2 := h1.blk.cell 2
      simp only [List.getElem?_toArray, List.getElem?_cons_zero, List.getElem?_cons_succ] at c2
      go_wp2_with fail
      go_loopw [66] (fun i wr => ∃ k : Nat, k ≤ d.loose.length ∧ i = .int .i64 (k : Int) ∧ DiskAt wr base l { d with sure := P, now := syncF P (d.loose.take k) d.now } ∧ Moved w wr l l) (fun i _ => d.loose.length - (intOf i).toNat)
      case atStart => exact ⟨0, Nat.zero_le _, rfl, h1, hm1⟩
      case round =>
        obtain ⟨k, hk, rfl, hk1, hmk⟩ := hrel
        clear c2 h1 hm1
        by_cases hkl : k < d.loose.length
        · obtain ⟨g, L, hA, hgB, hgL, hne1, hne2, hne3⟩ := hk1.loose_at hkl
          have hx := hk1.ok.loose _ (List.getElem_mem hkl)
          have hstep : syncF P (d.loose.take (k + 1)) d.now = upd (syncF P (d.loose.take k) d.now) d.loose[k].1 (P d.loose[k].1) := by
            rw [List.take_add_one, List.getElem?_eq_getElem hkl, Option.toList_some, syncF_snoc]
          have hgL' : (L.drop (k * 129)).take 129 = .int .i64 d.loose[k].1 :: bvs d.loose[k].2 := hgL
          generalize d.loose[k] = x at *
          obtain ⟨i, b⟩ := x
          simp only at hx hstep hgL'
          have HSTEP := Lib.hid hstep
          have HGL := Lib.hid hgL'
          clear hstep hgL hgL'
          have hcl := cells_len (i := i) hx.2
          have hcs : (.int .i64 i :: bvs b : List Value).toArray.size = 129 := by simpa using hcl
          have g1 : (k : Int) < (d.loose.length : Int) := by omega
          have g0 : (0 : Int) ≤ (k : Int) := by omega
          repeat (first
            | ((with_reducible refine wpl_load_mid g (k * 129) L (.int .i64 i :: bvs b) Tryz.underlying91 rfl w129 hgB HGL.out hcl ?_ ?_); (focus rfl); simp only [Act.put, List.setIfInBounds_toArray, List.set_cons_zero, List.set_cons_succ])
            | ((with_reducible refine wpl_store_fresh (.int .i64 i :: bvs b).toArray w129 ?_ hcs cells_one ?_ ?_ ?_); (focus kernel_rfl); (focus rfl); (focus rfl); intro w3 hW3 hl3 hb3; simp only [Act.put])
            | go_values | go_skip | go_guarded | go_step | go_upon | go_back)
          have h3 := hk1.below hb3
          have hw3 := hW3.cell 0
          have c0 := h3.blk.cell 0
          have c1 := h3.blk.cell 1
          simp only [List.getElem?_toArray, List.getElem?_cons_zero, List.getElem?_cons_succ] at c0 c1 hw3
          have hneG : wr.heap.size ≠ l.gn := by have := hk1.now.lt; omega
          have hm3 : Moved w w3 l l := hmk.trans (Moved.of_below hb3)
          refine wp_region_plan [(0, true), (1, true), (2, true), (3, true), (4, true), (5, true), (6, true), (7, true), (8, true), (9, true), (10, true), (11, true), (12, true), (13, false)]
            (fun z => z.cell? ⟨l.g, 0, none⟩ = some (.map (some l.gs)) ∧ z.cell? ⟨l.g, 1, none⟩ = some (.map (some l.gn)) ∧ z.cell? ⟨wr.heap.size, 0, none⟩ = some (.int .i64 i) ∧ MapV (secV zsec) z l.gs (fun a => secV (P a))) (by kernel_rfl) (by kernel_rfl) (by kernel_rfl) (by kernel_rfl) (fun _ _ d _ _ h => by cases d <;> exact h) ⟨c0, c1, hw3, h3.sure.below drew_below h3.sure.lt⟩ ?_
          simp only [planOps, List.getElem?_toArray, List.getElem?_cons_zero, List.getElem?_cons_succ]
          iterate 12 (refine wpS_q ?_ (by rfl) ?_ ?_; rotate_left; (focus (intro z hz; (try dsimp only at hz); go_simp; rfl)); simp only [Act.put, List.setIfInBounds_toArray, List.set_cons_zero, List.set_cons_succ])
          refine wpS_q (secV (P i)) (by rfl) (fun z hz => look_run hz.2.2.2 Tryz.underlying3 Tryz.underlying64 (zerosec z) i (wf64 hx.1) rfl rfl) ?_
          simp only [Act.put, List.setIfInBounds_toArray, List.set_cons_zero, List.set_cons_succ]
          refine wpS_l (by rfl) (fun K hK => ?_)
          refine wp_mapStore _ _ _ rfl (h3.now.below drew_below h3.now.lt) Tryz.underlying3 Tryz.underlying64 i (wf64 hx.1) (secV (P i)) rfl rfl rfl ?_
          intro w4 hM4 hg4
          have h3d : DiskAt w3.drew base l { d with sure := P, now := syncF P (d.loose.take k) d.now } := h3.below drew_below
          have h4 := h3d.setNow hg4 (f := syncF P (d.loose.take (k + 1)) d.now) (hM4.ext (fun q => by
            rw [HSTEP.out]
            show (if q = i then _ else _) = secV (if q = i then _ else _)
            split <;> rfl)) (by rw [HSTEP.out]; exact upd_len h3.ok.now (h3.ok.sure i) i)
          have c04 := h4.blk.cell 0
          have c14 := h4.blk.cell 1
          simp only [List.getElem?_toArray, List.getElem?_cons_zero, List.getElem?_cons_succ] at c04 c14
          have hW4 : w4.cell? ⟨wr.heap.size, 0, none⟩ = some (.int .i64 i) := (World.cell?_of_block (hg4.block wr.heap.size hl3 (by intro e; injection e with e; exact hneG e))).trans hw3
          refine hK _ _ _ ⟨c04, c14, hW4, h4.sure⟩ (fun _ h => h) ?_
          clear hK
          refine wpS_nil ?_
          have hm4 : Moved w w4 l l := hm3.trans ⟨rfl, (Chg.of_below l.fp (drew_below (w := w3))).trans (Chg.of_grown (F := l.fp) hg4 (.inr (.inr (.inl rfl)))) (fun x hx => .inl hx), fun x hx => .inl hx⟩
          clear h3 c0 c1 hw3 hm3 h3d c04 c14 hW4 hg4 hM4 hmk hk1 hgB hb3 hW3
          go_wp2_with fail
          first
            | exact ⟨⟨k + 1, by omega, by omega, h4⟩, by simp only [intOf]; omega⟩
            | exact ⟨⟨k + 1, by omega, congrArg (Value.int .i64) (by omega), h4, hm4⟩, by simp only [intOf]; omega⟩
        · obtain rfl : k = d.loose.length := by omega
          rw [List.take_of_length_le (Nat.le_refl _)] at hk1
          have g1 : ¬ (d.loose.length : Int) < (d.loose.length : Int) := by omega
          have c2 := hk1.blk.cell 2
          have c3 := hk1.blk.cell 3
          have c4 := hk1.blk.cell 4
          have f2 := hk1.blk.frozen 2
          have f3 := hk1.blk.frozen 3
          have f4 := hk1.blk.frozen 4
          simp only [List.getElem?_toArray, List.getElem?_cons_zero, List.getElem?_cons_succ] at c2 c3 c4
          have hg := ((grownBy_set wr l.g 2 (.slice none 0 0)).trans (grownBy_set (wr.setCell ⟨l.g, 2, none⟩ (.slice none 0 0)) l.g 3 (.bool false))).trans (grownBy_set ((wr.setCell ⟨l.g, 2, none⟩ (.slice none 0 0)).setCell ⟨l.g, 3, none⟩ (.bool false)) l.g 4 (.int .i64 (-1)))
          have hB := ((hk1.blk.set_ 2 (.slice none 0 0)).set_ 3 (.bool false)).set_ 4 (.int .i64 (-1))
          simp only [List.setIfInBounds_toArray, List.set_cons_zero, List.set_cons_succ] at hB
          have hfin := hk1.clear false (-1) (by omega) hg hB
          have hmf : Moved w (((wr.setCell ⟨l.g, 2, none⟩ (.slice none 0 0)).setCell ⟨l.g, 3, none⟩ (.bool false)).setCell ⟨l.g, 4, none⟩ (.int .i64 (-1))) l { l with A := none, c := 0 } := ⟨rfl, hmk.chg.trans (Chg.of_grown (F := l.fp) hg (.inl rfl)) (fun x hx => .inl hx), fun x hx => by
            rcases hx with hx | hx | hx | hx
            · exact .inl (.inl hx)
            · exact .inl (.inr (.inl hx))
            · exact .inl (.inr (.inr (.inl hx)))
            · cases hx⟩
          clear hk1 hB
          go_wp2_with fail
          go_ret
          first
            | exact ⟨by rw [HFIN.out.1]; rfl, { l with A := none, c := 0 }, by rw [HFIN.out.2, HFD.out]; exact hfin, hmf⟩
            | exact ⟨{ l with A := none, c := 0 }, by rw [HFIN.out.1]; rfl, by rw [HFIN.out.2, HFD.out]; exact hfin, hmf⟩
end Go.Proofs.YtmjdfajdompkeaaGreatDoor
namespace Go.Proofs.YtmjdfajdompkeaaGreatDoor
open Go.RowKit Go.Rat
theorem eql128 (xs ys : List UInt8) (hA : xs.length = 128) (hB : ys.length = 128) (w : World) : (Op.equalIn 10000 89 (.agg (bvs xs).toArray) (.agg (bvs ys).toArray)).run Tryz.prog w = .ok (decide (xs = ys)) w := by
  obtain ⟨i0, hi, _, _, _⟩ := info_parts u8info
  exact run_eql_bytes Tryz.underlying89 hi Tryz.underlying5 (by kernel_rfl) xs ys hA hB w
def rep (c : UInt8) : List UInt8 := List.replicate 128 c
theorem rep_length (c : UInt8) : (rep c).length = 128 := by rw [rep, List.length_replicate]
theorem rep_inj {c d : UInt8} : rep c = rep d ↔ c = d := by
  constructor
  · intro h
    have := congrArg (fun l => l.getD 0 0) h
    simpa [rep] using this
  · rintro rfl; rfl
end Go.Proofs.YtmjdfajdompkeaaGreatDoor
namespace Go.Proofs.YtmjdfajdompkeaaGreatDoor
open Go.RowKit Go.Rat
set_option maxHeartbeats 400000 in
theorem nready_any (w : World) (a : Int) : Calls Tryz.prog 75 #[.pointer none, .int .i64 a] w fun e w' => e = .returned (.int .i64 2) ∧ w = w' := by
  go_enter Tryz.func75, Tryz.ntmps75
  go_wp2_with fail
  go_ret
  exact ⟨rfl, rfl⟩
set_option maxHeartbeats 400000 in
theorem noff_any (w : World) : Calls Tryz.prog 16 #[.pointer none] w fun e w' => e = .returned (.tuple #[]) ∧ w = w' := by
  go_enter Tryz.func16, Tryz.ntmps16
  go_wp2_with fail
  go_end0
  exact ⟨rfl, rfl⟩
set_option maxHeartbeats 400000 in
theorem nfuse_any (w : World) (n : Int) : Calls Tryz.prog 15 #[.pointer none, .int .i64 n] w fun e w' => e = .returned (.tuple #[]) ∧ w = w' := by
  go_enter Tryz.func15, Tryz.ntmps15
  go_wp2_with fail
  go_end0
  exact ⟨rfl, rfl⟩
set_option maxHeartbeats 400000 in
theorem nsync_any (w : World) : Calls Tryz.prog 52 #[.pointer none] w fun e w' => e = .returned (.int .i64 2) ∧ w = w' := by
  go_enter Tryz.func52, Tryz.ntmps52
  go_wp2_with (go_at_call 75; refine (nready_any w 0).mono ?_; rintro e w2 ⟨rfl, rfl⟩; simp only [])
  go_ret
  exact ⟨rfl, rfl⟩
set_option maxHeartbeats 400000 in
theorem non_any (w : World) (A : Option Addr) (m c : Nat) : Calls Tryz.prog 18 #[.pointer none, .slice A m c] w fun e w' => e = .returned (.int .i64 2) ∧ w = w' := by
  go_enter Tryz.func18, Tryz.ntmps18
  go_wp2_with fail
  go_ret
  exact ⟨rfl, rfl⟩
set_option maxHeartbeats 400000 in
theorem npower_any (w : World) : Calls Tryz.prog 47 #[.pointer none] w fun e w' => e = .returned (.bool false) ∧ w = w' := by
  go_enter Tryz.func47, Tryz.ntmps47
  go_wp2_with fail
  go_ret
  exact ⟨rfl, rfl⟩
set_option maxRecDepth 20000 in
set_option maxHeartbeats 1000000 in
theorem nwrite_any (w : World) (a : Int) (b : List UInt8) : Calls Tryz.prog 74 #[.pointer none, .int .i64 a, .agg (bvs b).toArray] w fun e w' => e = .returned (.int .i64 2) ∧ Below w.heap.size w w' := by
  have hb1 := below_alloc w (.cells (bvs b).toArray 89)
  go_enter Tryz.func74, Tryz.ntmps74
  go_wp2_with (go_at_call 75; refine (nready_any _ a).mono ?_; rintro e w2 ⟨rfl, rfl⟩; simp only [])
  go_ret
  exact ⟨rfl, hb1⟩
set_option maxRecDepth 20000 in
set_option maxHeartbeats 1000000 in
theorem nread_any (w : World) (a : Int) : Calls Tryz.prog 68 #[.pointer none, .int .i64 a] w fun e w' => e = .returned (.tuple #[.agg (bvs zs).toArray, .int .i64 2]) ∧ Below w.heap.size w w' := by
  have hZ := Blk.new w 89 (bvs zs).toArray
  have hb1 := below_alloc w (.cells (bvs zs).toArray 89)
  obtain ⟨z, hz⟩ : ∃ z : Array Value, (bvs zs).toArray = z := ⟨_, rfl⟩
  have hzc : Tryz.zeroCells89 = z := by rw [← hz]; exact zc128
  have hzs : z.size = 128 := by rw [← hz]; exact zsA_size
  have hz1 : z.all (·.oneCell') = true := by rw [← hz]; exact bvs_all _
  rw [hz] at hZ hb1 ⊢
  clear hz
  have hzi : (Tryz.prog.info? 89).map (·.size) = some z.size := by rw [hzs]; exact i128
  go_enter Tryz.func68, Tryz.ntmps68
  go_upto_region 1 with (fail)
  generalize w.alloc (.cells z 89) = w1 at *
  repeat (first
    | (go_at_call 75; refine (nready_any _ a).mono ?_; rintro e w2 ⟨rfl, rfl⟩; simp only [])
    | ((with_reducible refine wpl_load w.heap.size _ _ Tryz.underlying89 i128 hZ hzs ?_ ?_); (focus rfl); simp only [Act.put, List.setIfInBounds_toArray, List.set_cons_zero, List.set_cons_succ])
    | ((with_reducible refine wpl_store w.heap.size _ _ z i128 hZ hzs hzs hz1 ?_ ?_ ?_); (focus rfl); (focus rfl))
    | go_values | go_skip | go_guarded | go_step | go_upon | go_back)
  refine bodyPost_ret (results_cell_tmp rfl _ _ w.heap.size _ _ (0, 0) _ _ rfl rfl (hZ.setRow _) Tryz.underlying89 rfl hzi) rfl ?_
  exact ⟨rfl, hb1.grown (grownBy_setRow _ _ _) hb1.size (fun p hp => by cases hp; exact Nat.le_refl _)⟩
end Go.Proofs.YtmjdfajdompkeaaGreatDoor
namespace Go.Proofs.YtmjdfajdompkeaaGreatDoor
open Go.RowKit Go.Rat
/-- What a disk's move leaves of what was there before the disk. -/
theorem below_moved {w a b : World} {l l' : DL} {d : DS} {base : Nat} (h : Below w.heap.size w a) (hw : w.heap.size ≤ base) (hD : DiskAt a base l d) (hm : Moved a b l l') : Below w.heap.size w b :=
  h.trans (hm.chg.below (fun _ hx => Nat.le_trans hw (hD.fp_lt hx).1) h.size)
/-- A block beside the disk. -/
def Out (w : World) (l : DL) (g : Nat) (T : TypeId) (cs : Array Value) : Prop := Blk w g T cs ∧ ¬ l.fp g
section
variable {w w' : World} {base : Nat} {l l' : DL} {d : DS} {g : Nat} {T : TypeId} {cs : Array Value}
theorem Out.below (h : Out w l g T cs) (hb : Below w.heap.size w w') : Out w' l g T cs := ⟨h.1.below hb h.1.lt, h.2⟩
theorem Out.moved (h : Out w l g T cs) (hm : Moved w w' l l') : Out w' l' g T cs := ⟨hm.chg.blk h.1 h.2, fun hx => by
  rcases hm.fp g hx with h1 | h1
  · exact h.2 h1
  · have := h.1.lt
    omega⟩
theorem Out.new (hD : DiskAt w base l d) {z : World} (hB : Blk z w.heap.size T cs) : Out z l w.heap.size T cs := ⟨hB, fun hx => by have := (hD.fp_lt hx).2; omega⟩
/-- A slice beside the disk. -/
structure OutR (w : World) (l : DL) (A : Option Addr) (n : Nat) (xs : List UInt8) : Prop where
  r : RB w A n xs
  out : ∀ x, A.map (·.block) = some x → ¬ l.fp x
  lt : ∀ x, A.map (·.block) = some x → x < w.heap.size
theorem OutR.below {A : Option Addr} {n : Nat} {xs : List UInt8} (h : OutR w l A n xs) (hb : Below w.heap.size w w') : OutR w' l A n xs := ⟨h.r.below hb, h.out, fun x hx => Nat.lt_of_lt_of_le (h.lt x hx) hb.size⟩
theorem OutR.moved {A : Option Addr} {n : Nat} {xs : List UInt8} (h : OutR w l A n xs) (hm : Moved w w' l l') : OutR w' l' A n xs :=
  ⟨hm.chg.rb h.r h.out, fun x hx hf => by
    rcases hm.fp x hf with h1 | h1
    · exact h.out x hx h1
    · have := h.lt x hx
      omega, fun x hx => Nat.lt_of_lt_of_le (h.lt x hx) hm.chg.size⟩
theorem OutR.below_base {A : Option Addr} {n : Nat} {xs : List UInt8} (hD : DiskAt w base l d) (hr : RB w A n xs) (hlt : ∀ x, A.map (·.block) = some x → x < base) (hb : base ≤ w.heap.size) : OutR w l A n xs :=
  ⟨hr, fun x hx hf => by have := (hD.fp_lt hf).1; have := hlt x hx; omega, fun x hx => by have := hlt x hx; omega⟩
theorem one_out (hD : DiskAt w base l d) : ∀ x, (some (⟨w.heap.size, 0, none⟩ : Addr)).map (·.block) = some x → ¬ l.fp x := fun x hx hf => by
  have h1 := (hD.fp_lt hf).2
  have h2 : w.heap.size = x := by simpa using hx
  omega
end
section
variable (w : World) (base : Nat) (g : Nat) (l : DL) (d : DS) (h : DiskAt w base l d) (hg : l.g = g)
include h hg
theorem gpower : Calls Tryz.prog 47 #[.pointer (some ⟨g, 0, none⟩)] w fun e w' => e = .returned (.bool (!d.off)) ∧ w = w' := by subst hg; exact dpower_any w base l d h
theorem gread (a : Int) : Calls Tryz.prog 68 #[.pointer (some ⟨g, 0, none⟩), .int .i64 a] w fun e w' => e = .returned (.tuple #[.agg (bvs (readB d a)).toArray, .int .i64 (readE d a)]) ∧ Below w.heap.size w w' := by subst hg; exact dread_any w base l d h a
theorem goff : Calls Tryz.prog 16 #[.pointer (some ⟨g, 0, none⟩)] w fun e w' => ∃ l', e = .returned (.tuple #[]) ∧ l'.g = g ∧ DiskAt w' base l' (offD d) ∧ Moved w w' l l' := by
  subst hg
  refine (doff_any w base l d h).mono ?_
  rintro e w' ⟨h1, h2, h3⟩
  exact ⟨l, h1, rfl, h2, Moved.of_grown h3⟩
theorem gfuse (n : Int) (hn : n ≤ 9223372036854775807) : Calls Tryz.prog 15 #[.pointer (some ⟨g, 0, none⟩), .int .i64 n] w fun e w' => ∃ l', e = .returned (.tuple #[]) ∧ l'.g = g ∧ DiskAt w' base l' (fuseD d n) ∧ Moved w w' l l' := by
  subst hg
  refine (dfuse_any w base l d h n hn).mono ?_
  rintro e w' ⟨h1, h2, h3⟩
  exact ⟨l, h1, rfl, h2, Moved.of_grown h3⟩
theorem gwrite (hbase : base ≤ w.heap.size) (a : Int) (b : List UInt8) (hb : b.length = 128) (hlo : d.loose.length < 1000000000) : Calls Tryz.prog 74 #[.pointer (some ⟨g, 0, none⟩), .int .i64 a, .agg (bvs b).toArray] w fun e w' => ∃ l', e = .returned (.int .i64 (writeE d a)) ∧ l'.g = g ∧ DiskAt w' base l' (writeD d a b) ∧ Moved w w' l l' := by
  subst hg
  refine (dwrite_any w base l d h hbase a b hb hlo).mono ?_
  rintro e w' ⟨l', h1, h2, h3⟩
  exact ⟨l', h1, congrArg Prod.fst h3.g, h2, h3⟩
theorem gsync : Calls Tryz.prog 52 #[.pointer (some ⟨g, 0, none⟩)] w fun e w' => ∃ l', e = .returned (.int .i64 (syncE d)) ∧ l'.g = g ∧ DiskAt w' base l' (syncAll d) ∧ Moved w w' l l' := by
  subst hg
  refine (dsync_any w base l d h).mono ?_
  rintro e w' ⟨l', h1, h2, h3⟩
  exact ⟨l', h1, congrArg Prod.fst h3.g, h2, h3⟩
theorem gonN (A' : Option Addr) (m c' : Nat) (ps : List UInt8) (hr : RB w A' m ps) (hap : m ≠ 0 → ∀ x, A'.map (·.block) = some x → ¬ l.fp x) : Calls Tryz.prog 18 #[.pointer (some ⟨g, 0, none⟩), .slice A' m c'] w fun e w' => ∃ l', e = .returned (.int .i64 (onE d)) ∧ l'.g = g ∧ DiskAt w' base l' (onAll d ps) ∧ Moved w w' l l' := by
  subst hg
  refine (don_any w base l d h A' m c' ps hr hap).mono ?_
  rintro e w' ⟨l', h1, h2, h3⟩
  exact ⟨l', h1, congrArg Prod.fst h3.g, h2, h3⟩
theorem gon (A' : Option Addr) (m c' : Nat) (ps : List UInt8) (hr : RB w A' m ps) (hap : ∀ x, A'.map (·.block) = some x → ¬ l.fp x) : Calls Tryz.prog 18 #[.pointer (some ⟨g, 0, none⟩), .slice A' m c'] w fun e w' => ∃ l', e = .returned (.int .i64 (onE d)) ∧ l'.g = g ∧ DiskAt w' base l' (onAll d ps) ∧ Moved w w' l l' := by
  subst hg
  refine (don_any w base l d h A' m c' ps hr (fun _ => hap)).mono ?_
  rintro e w' ⟨l', h1, h2, h3⟩
  exact ⟨l', h1, congrArg Prod.fst h3.g, h2, h3⟩
end
def wd1 : DS := writeD ds0 3 (rep 1)
def wd2 : DS := offD wd1
def wd3 : DS := onAll wd2 []
def wd4 : DS := writeD wd3 3 (rep 1)
def wd5 : DS := syncAll wd4
def wd6 : DS := offD wd5
def wd7 : DS := onAll wd6 [0]
def wd8 : DS := writeD wd7 3 (rep 2)
def wd9 : DS := offD wd8
def wd10 : DS := onAll wd9 [2]
theorem wd_facts : (writeE ds0 3 = 0 ∧ onE wd2 = 0 ∧ readB wd3 3 = zs ∧ readE wd3 3 = 0) ∧ (writeE wd3 3 = 0 ∧ syncE wd4 = 0 ∧ onE wd6 = 0 ∧ readB wd7 3 = rep 1 ∧ readE wd7 3 = 0) ∧ (writeE wd7 3 = 0 ∧ onE wd9 = 0 ∧ readE wd10 3 = 9) := by decide +kernel
theorem wd_len : ds0.loose.length = 0 ∧ wd3.loose.length = 0 ∧ wd7.loose.length = 0 := by decide +kernel
theorem onAll_ok {d : DS} (h : DOk d) (ps : List UInt8) : DOk (onAll d ps) := by
  unfold onAll
  split
  · exact onD_ok h ps
  · exact h
theorem burnD_ok {d : DS} (h : DOk d) : DOk (burnD d) := by
  have := h.fuse
  unfold burnD
  split
  · exact ⟨h.sure, h.now, h.loose, by simp [offD]⟩
  · split
    · exact ⟨h.sure, h.now, h.loose, by simp only; omega⟩
    · exact h
theorem offD_ok {d : DS} (h : DOk d) : DOk (offD d) := ⟨h.sure, h.now, h.loose, by simp [offD]⟩
theorem writeD_ok {d : DS} (h : DOk d) (a : Int) {b : List UInt8} (hb : b.length = 128) : DOk (writeD d a b) := by
  unfold writeD
  split
  · next hr => exact burnD_ok (putD_ok h (readyE_zero hr).2 hb)
  · exact h
theorem syncAll_ok {d : DS} (h : DOk d) : DOk (syncAll d) := by
  unfold syncAll
  split
  · exact h
  · split
    · exact burnD_ok h
    · exact syncD_ok (burnD_ok h)
theorem wd9_ok : DOk wd9 := offD_ok (writeD_ok (onAll_ok (offD_ok (syncAll_ok (writeD_ok (onAll_ok (offD_ok (writeD_ok ds0_ok 3 (rep_length 1))) []) 3 (rep_length 1)))) [0]) 3 (rep_length 2))
theorem below_base {w a b : World} {base : Nat} (h : Below w.heap.size w a ∧ base ≤ a.heap.size) (k : Below a.heap.size a b) : Below w.heap.size w b ∧ base ≤ b.heap.size := ⟨below_next' h.1 k, Nat.le_trans h.2 k.size⟩
theorem base_moved {w a b : World} {l l' : DL} {d : DS} {base : Nat} (h : Below w.heap.size w a ∧ base ≤ a.heap.size) (hw : w.heap.size ≤ base) (hD : DiskAt a base l d) (hm : Moved a b l l') : Below w.heap.size w b ∧ base ≤ b.heap.size :=
  ⟨below_moved h.1 hw hD hm, Nat.le_trans h.2 hm.chg.size⟩
end Go.Proofs.YtmjdfajdompkeaaGreatDoor
namespace Go.Proofs.YtmjdfajdompkeaaGreatDoor
open Go.RowKit Go.Rat
end Go.Proofs.YtmjdfajdompkeaaGreatDoor
namespace Go.Proofs.YtmjdfajdompkeaaGreatDoor
open Go.RowKit Go.Rat
theorem DiskAt.beside {w w' : World} {base : Nat} {l : DL} {d : DS} {g : Nat} (hD : DiskAt w base l d) (hg : w.grownBy w' (some g)) (hn : ¬ l.fp g) : DiskAt w' base l d :=
  hD.kept (Chg.of_grown (F := fun x => x = g) hg rfl) (fun x hx e => hn (by rw [← e]; exact hx))
theorem Out.set {w : World} {l : DL} {g : Nat} {T : TypeId} {cs : Array Value} (h : Out w l g T cs) (cs' : Array Value) : Out (w.setRow g cs') l g T cs' := ⟨h.1.setRow cs', h.2⟩
theorem syncF_at (now : Int → Sec) (l : List (Int × List UInt8)) (a : Int) : ∀ f, syncF now l f a = if (l.any fun x => decide (x.1 = a)) = true then now a else f a := by
  induction l with
  | nil => intro f; simp [syncF]
  | cons x l ih =>
    intro f
    rw [syncF, ih, List.any_cons]
    by_cases h1 : (l.any fun x => decide (x.1 = a)) = true
    · simp [h1]
    · rw [if_neg h1]
      by_cases h2 : x.1 = a
      · simp [h2, upd]
      · simp [h1, h2, upd, Ne.symm h2]
theorem syncF_all5 (now : Int → Sec) (l : List (Int × List UInt8)) (a : Int) (h : ∀ x ∈ l, x.1 = a) (f : Int → Sec) : syncF now l f a = if l = [] then f a else now a := by
  rw [syncF_at]
  cases l with
  | nil => simp
  | cons x l => simp [h x (by simp)]
theorem writeD_on {d : DS} (ho : d.off = false) (hf : d.fuse = -1) {a : Int} (ha : 0 ≤ a ∧ a < 32768) (b : List UInt8) : writeD d a b = putD d a b ∧ writeE d a = 0 := by
  have hr : readyE d.off a = 0 := by rw [ho]; exact readyE_ok ha
  have hb : burnD (putD d a b) = putD d a b := by
    have : (putD d a b).fuse = -1 := hf
    rw [burnD, if_neg (by omega), if_neg (by omega)]
  refine ⟨by rw [writeD, if_pos hr, hb], ?_⟩
  rw [writeE, if_pos hr, if_neg]
  rw [burnB, decide_eq_true_eq]
  omega
theorem syncAll_on {d : DS} (ho : d.off = false) (hf : d.fuse = -1) : syncAll d = syncD d ∧ syncE d = 0 := by
  have hb : burnB d = false := by rw [burnB, decide_eq_false_iff_not]; omega
  have hd : burnD d = d := by rw [burnD, if_neg (by omega), if_neg (by omega)]
  simp [syncAll, syncE, ho, hb, hd]
/-- DiskLast: the sector that the picks leave. -/
def lastS (first : UInt8) (l ps : List UInt8) : Nat → Sec
  | 0 => ⟨rep first, false⟩
  | k + 1 => if (ps.getD k 0).toNat % 4 = 0 then lastS first l ps k else if (ps.getD k 0).toNat % 4 = 2 then ⟨zs, true⟩ else ⟨rep (l.getD k 0), false⟩
def errS (s : Sec) : Int := if s.lost = true then 9 else 0
structure LastInv (first : UInt8) (l : List UInt8) (k : Nat) (d : DS) : Prop where
  off : d.off = false
  fuse : d.fuse = -1
  sure : d.sure 5 = ⟨rep first, false⟩
  now : k = 0 → d.now 5 = ⟨rep first, false⟩
  loose : d.loose = (l.take k).map fun c => (5, rep c)
theorem last_len (first : UInt8) (l ps : List UInt8) : ∀ k, (lastS first l ps k).b.length = 128 ∧ ((lastS first l ps k).lost = true → (lastS first l ps k).b = zs)
  | 0 => ⟨rep_length _, fun h => by cases h⟩
  | k + 1 => by
    unfold lastS
    split
    · exact last_len first l ps k
    · split
      · exact ⟨zs_length, fun _ => rfl⟩
      · exact ⟨rep_length _, fun h => by cases h⟩
theorem last_start (first : UInt8) (l : List UInt8) : LastInv first l 0 (syncAll (writeD ds0 5 (rep first))) ∧ writeE ds0 5 = 0 ∧ syncE (writeD ds0 5 (rep first)) = 0 := by
  obtain ⟨h1, h2⟩ := writeD_on (d := ds0) rfl rfl (a := 5) (by omega) (rep first)
  obtain ⟨h3, h4⟩ := syncAll_on (d := putD ds0 5 (rep first)) rfl rfl
  rw [h1, h3]
  exact ⟨⟨rfl, rfl, rfl, fun _ => rfl, rfl⟩, h2, h4⟩
theorem last_step {first : UInt8} {l : List UInt8} {k : Nat} {d : DS} (h : LastInv first l k d) (hk : k < l.length) : LastInv first l (k + 1) (writeD d 5 (rep (l.getD k 0))) ∧ writeE d 5 = 0 := by
  obtain ⟨h1, h2⟩ := writeD_on h.off h.fuse (a := 5) (by omega) (rep (l.getD k 0))
  rw [h1]
  refine ⟨⟨h.off, h.fuse, h.sure, fun h0 => by omega, ?_⟩, h2⟩
  show d.loose ++ [_] = _
  rw [h.loose, List.take_add_one, List.getElem?_eq_getElem hk, List.map_append, List.getD_eq_getElem?_getD, List.getElem?_eq_getElem hk]
  rfl
theorem last_picks (first : UInt8) (l ps : List UInt8) (f : Int → Sec) (hf : f 5 = ⟨rep first, false⟩) : ∀ k, k ≤ l.length → picksF ((l.take k).map fun c => (5, rep c)) 0 ps f 5 = lastS first l ps k
  | 0, _ => hf
  | k + 1, hk => by
    rw [List.take_add_one, List.getElem?_eq_getElem (by omega), List.map_append]
    show picksF (_ ++ [_]) 0 ps f 5 = _
    rw [picksF_snoc, List.length_map, List.length_take, Nat.zero_add, Nat.min_eq_left (by omega), lastS, pickF]
    split
    · exact last_picks first l ps f hf k (by omega)
    · split
      · simp [upd]
      · simp [upd, List.getD_eq_getElem?_getD, List.getElem?_eq_getElem (show k < l.length by omega)]
theorem last_end {first : UInt8} {l ps : List UInt8} {d : DS} (h : LastInv first l l.length d) : onE (offD d) = 0 ∧ readB (onAll (offD d) ps) 5 = (lastS first l ps l.length).b ∧ readE (onAll (offD d) ps) 5 = errS (lastS first l ps l.length) ∧ (onAll (offD d) ps).off = false ∧ (onAll (offD d) ps).fuse = -1 ∧ (onAll (offD d) ps).loose = [] := by
  have hon : onAll (offD d) ps = onD (offD d) ps := by unfold onAll; exact if_pos rfl
  have hnow : (onD (offD d) ps).now 5 = lastS first l ps l.length := by
    show syncF (picksF d.loose 0 ps d.sure) d.loose d.now 5 = _
    rw [h.loose, List.take_length, syncF_all5 _ _ 5 (by intro x hx; simp at hx; obtain ⟨c, _, rfl⟩ := hx; rfl)]
    have hp := last_picks first l ps d.sure h.sure l.length (Nat.le_refl _)
    rw [List.take_length] at hp
    split
    · next he =>
      have : l = [] := by simpa using he
      subst this
      exact h.now rfl
    · exact hp
  have hb := last_len first l ps l.length
  have hr : readyE (onD (offD d) ps).off 5 = 0 := readyE_ok (by omega)
  rw [hon]
  refine ⟨by unfold onE; exact if_pos rfl, ?_, ?_, rfl, rfl, rfl⟩
  · rw [readB, hnow]
    cases hl : (lastS first l ps l.length).lost
    · rw [if_pos ⟨hr, rfl⟩]
    · rw [if_neg (by simp), hb.2 hl]
  · rw [readE, if_pos hr, hnow]
    rfl
end Go.Proofs.YtmjdfajdompkeaaGreatDoor
