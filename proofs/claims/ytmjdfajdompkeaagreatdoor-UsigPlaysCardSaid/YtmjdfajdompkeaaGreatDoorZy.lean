/- The law UsigPlays: its steps, few, same; both counters side by side. -/
import Derived.Test.YtmjdfajdompkeaaGreatDoorZx
import Derived.Test.YtmjdfajdompkeaaGreatDoorZo
namespace Go.Rat
open Go.ChangeShapes Go.WideShapes Go.ChangeAt Go.RowKit Go
theorem rds_struct6 {P : Program} {t : TypeId} {f1 f2 f3 f4 f5 f6 : Field} {α β γ δ ε ζ : Type} {c1 : α → List Value} {c2 : β → List Value} {c3 : γ → List Value} {c4 : δ → List Value} {c5 : ε → List Value} {c6 : ζ → List Value} {I1 : World → α → Prop} {I2 : World → β → Prop} {I3 : World → γ → Prop} {I4 : World → δ → Prop} {I5 : World → ε → Prop} {I6 : World → ζ → Prop} (hu : P.underlying t = some (.struct #[f1, f2, f3, f4, f5, f6]))
    (h1 : Rds P f1.type c1 I1) (h2 : Rds P f2.type c2 I2) (h3 : Rds P f3.type c3 I3) (h4 : Rds P f4.type c4 I4) (h5 : Rds P f5.type c5 I5) (h6 : Rds P f6.type c6 I6)
    (o1 : f1.offset = 0) (o2 : f2.offset = P.cellsOf f1.type) (o3 : f3.offset = P.cellsOf f1.type + P.cellsOf f2.type) (o4 : f4.offset = P.cellsOf f1.type + P.cellsOf f2.type + P.cellsOf f3.type) (o5 : f5.offset = P.cellsOf f1.type + P.cellsOf f2.type + P.cellsOf f3.type + P.cellsOf f4.type)
    (o6 : f6.offset = P.cellsOf f1.type + P.cellsOf f2.type + P.cellsOf f3.type + P.cellsOf f4.type + P.cellsOf f5.type)
    (ot : P.cellsOf t = P.cellsOf f1.type + P.cellsOf f2.type + P.cellsOf f3.type + P.cellsOf f4.type + P.cellsOf f5.type + P.cellsOf f6.type) :
    Rds P t (fun x : α × β × γ × δ × ε × ζ => c1 x.1 ++ (c2 x.2.1 ++ (c3 x.2.2.1 ++ (c4 x.2.2.2.1 ++ (c5 x.2.2.2.2.1 ++ c6 x.2.2.2.2.2))))) (fun w x => I1 w x.1 ∧ I2 w x.2.1 ∧ I3 w x.2.2.1 ∧ I4 w x.2.2.2.1 ∧ I5 w x.2.2.2.2.1 ∧ I6 w x.2.2.2.2.2) := by
  intro H enc w base spare held fuel cs x h
  obtain ⟨xs, n, _, _, hlen, hxs, hf⟩ := DataW.trod_struct hu h
  have e1 := hf 0 f1 rfl
  have e2 := hf 1 f2 rfl
  have e3 := hf 2 f3 rfl
  have e4 := hf 3 f4 rfl
  have e5 := hf 4 f5 rfl
  have e6 := hf 5 f6 rfl
  rw [List.getElem?_eq_getElem (by rw [hxs]; simp)] at e1 e2 e3 e4 e5 e6
  obtain ⟨a, ha, i1⟩ := h1 _ _ _ _ _ _ _ _ _ e1
  obtain ⟨b, hb, i2⟩ := h2 _ _ _ _ _ _ _ _ _ e2
  obtain ⟨c, hc, i3⟩ := h3 _ _ _ _ _ _ _ _ _ e3
  obtain ⟨d, hd, i4⟩ := h4 _ _ _ _ _ _ _ _ _ e4
  obtain ⟨e, he, i5⟩ := h5 _ _ _ _ _ _ _ _ _ e5
  obtain ⟨f, hff, i6⟩ := h6 _ _ _ _ _ _ _ _ _ e6
  refine ⟨(a, b, c, d, e, f), ?_, i1, i2, i3, i4, i5, i6⟩
  have p1 := cut_piece ha
  have p2 := cut_piece hb
  have p3 := cut_piece hc
  have p4 := cut_piece hd
  have p5 := cut_piece he
  have p6 := cut_piece hff
  rw [o1, List.drop_zero, Nat.zero_add, ← o2, p2, o2, ← o3, p3, o3, ← o4, p4, o4, ← o5, p5, o5, ← o6, p6, o6, ← ot, ← hlen, List.drop_length, List.append_nil] at p1
  exact p1
end Go.Rat
namespace Go.Proofs.YtmjdfajdompkeaaGreatDoor
open Go.RowKit Go.Rat
abbrev UStep := UInt8 × SB × Bool × UInt64 × Int × SB
def ustepC (x : UStep) : List Value := [.int .u8 (x.1.toNat : Int)] ++ ([x.2.1.v] ++ ([.bool x.2.2.1] ++ ([.int .u64 (x.2.2.2.1.toNat : Int)] ++ ([.int .i8 x.2.2.2.2.1] ++ [x.2.2.2.2.2.v]))))
def ustepOk (w : World) (x : UStep) : Prop := SB.ok w x.2.1 ∧ (-128 ≤ x.2.2.2.2.1 ∧ x.2.2.2.2.1 ≤ 127) ∧ SB.ok w x.2.2.2.2.2
theorem ustep_at {w : World} {A : Option Addr} {n : Nat} {l : List UStep} (h : Reads w w.heap.size 6 A n (l.flatMap ustepC)) {k : Nat} (hk : k < n) :
    ∃ ad x, A = some ad ∧ x ∈ l ∧ l[k]? = some x ∧ (ad.add (k * 6)).block < w.heap.size ∧ (∀ j u, (ustepC x)[j]? = some u → w.cell? ((ad.add (k * 6)).add j) = some u) ∧ (∀ j u, 0 < j → (ustepC x)[j]? = some u → w.cell? ⟨(ad.add (k * 6)).block, (ad.add (k * 6)).off + j, none⟩ = some u) := by
  obtain ⟨ad, rfl, hb, hc⟩ := h.2 (by omega)
  have hlen := flat_len ustepC 6 (fun _ => rfl) l
  have hkl : k < l.length := by have := h.1; omega
  have hg : l[k]? = some l[k] := List.getElem?_eq_getElem hkl
  have hall : ∀ j u, (ustepC l[k])[j]? = some u → w.cell? (ad.add (k * 6 + j)) = some u := fun j u hu => by
    have hj : j < 6 := by
      have := (List.getElem?_eq_some_iff.1 hu).1
      simpa [ustepC] using this
    have F := flat_get ustepC 6 (fun _ => rfl) l k j _ hg hj
    exact hc _ _ (F.trans hu)
  refine ⟨ad, l[k], rfl, List.getElem_mem hkl, hg, by rw [block_of_add]; exact hb, fun j u hu => ?_, fun j u hj hu => ?_⟩
  · rw [show (ad.add (k * 6)).add j = ad.add (k * 6 + j) by
      by_cases h0 : j = 0
      · subst h0; simp [Addr.add]
      · rw [← add_field _ _ _ (by omega)]; unfold Addr.add; rw [if_neg h0]]
    exact hall j u hu
  · rw [add_field _ _ _ hj]
    exact hall j u hu
theorem iStep7 : (Tryz.prog.info? 43).map (·.size) = some 6 := by kernel_rfl
def UStepsOk (l : List UStep) (k : Nat) : Prop := ∀ (j : Nat) (x : UStep), j < k → l[j]? = some x → x.2.2.2.2.2.n ≤ 200 ∧ x.2.1.n ≤ 1300
set_option maxHeartbeats 4000000 in
theorem ufew_any (w : World) (A : Option Addr) (m c : Nat) (l : List UStep) (hr : Reads w w.heap.size 6 A m (l.flatMap ustepC)) (most : Nat) (hm : most < 1000000) :
    Calls Tryz.prog 4 #[.slice A m c, .int .i64 (most : Int)] w fun e w' => (e = .returned (.bool false) ∨ (e = .returned (.bool true) ∧ m ≤ most ∧ UStepsOk l m)) ∧ w' = w := by
  by_cases hbig : most < m
  · have hbi : (most : Int) < (m : Int) := by omega
    go_enter Tryz.func4, Tryz.ntmps4
    go_wp2_with fail
    go_ret
    exact ⟨.inl rfl, rfl⟩
  · have hbi : ¬ (most : Int) < (m : Int) := by omega
    have hml : m ≤ most := by omega
    go_enter Tryz.func4, Tryz.ntmps4
    go_wp2_with fail
    go_loopw [5] (fun i wr => ∃ k : Nat, k ≤ m ∧ i = .int .i64 (k : Int) ∧ wr = w ∧ UStepsOk l k) (fun i _ => m - (intOf i).toNat)
    case atStart => exact ⟨0, Nat.zero_le _, rfl, rfl, fun j x hj => by omega⟩
    case round =>
      obtain ⟨k, hk, rfl, rfl, hall⟩ := hrel
      have HALL := Lib.hid hall
      clear hall
      by_cases hkm : k < m
      · obtain ⟨ad, ⟨x1, ⟨A2, n2, z2, bs⟩, x3, x4, x5, ⟨A5, n5, z5, ps⟩⟩, e, hxl, hg, hadl, _, hcs⟩ := ustep_at hr hkm
        cases e
        have q4 := hcs 5 (.slice A5 n5 z5) (by omega) rfl
        have q1 := hcs 1 (.slice A2 n2 z2) (by omega) rfl
        obtain ⟨P, hP⟩ : ∃ P, ad.add (k * 6) = P := ⟨_, rfl⟩
        rw [hP] at q4 q1
        have HG := Lib.hid hg
        have g1 : (k : Int) < (m : Int) := by omega
        have g0 : (0 : Int) ≤ (k : Int) := by omega
        clear hxl hcs hadl hg
        by_cases hp2 : 200 < n5
        · have hp2' : (200 : Int) < (n5 : Int) := by omega
          go_wp2_with fail
          go_ret
          exact ⟨.inl rfl, rfl⟩
        · have hp2' : ¬ (200 : Int) < (n5 : Int) := by omega
          by_cases hp3 : 1300 < n2
          · have hp3' : (1300 : Int) < (n2 : Int) := by omega
            go_wp2_with fail
            go_ret
            exact ⟨.inl rfl, rfl⟩
          · have hp3' : ¬ (1300 : Int) < (n2 : Int) := by omega
            go_wp2_with fail
            exact ⟨⟨k + 1, by omega, by first | omega | exact congrArg (Value.int .i64) (by omega), by first | rfl | trivial, fun j x hj hx => by
              by_cases hjk : j < k
              · exact HALL.out j x hjk hx
              · obtain rfl : j = k := by omega
                rw [HG.out] at hx
                cases hx
                exact ⟨Nat.le_of_not_lt hp2, Nat.le_of_not_lt hp3⟩⟩, by simp only [intOf]; omega⟩
      · obtain rfl : k = m := by omega
        have g1 : ¬ (k : Int) < (k : Int) := by omega
        go_wp2_with fail
        go_ret
        first | exact ⟨.inr ⟨rfl, hml, HALL.out⟩, rfl⟩ | exact ⟨.inr ⟨rfl, HALL.out⟩, rfl⟩ | exact ⟨⟨hml, HALL.out⟩, rfl⟩ | exact ⟨hml, HALL.out⟩
/-- Both counters, beside both disks. -/
structure UX (w : World) (base : Nat) (l : DL) (L : RL) (k kc K KC : Nat) (s t : US) : Prop where
  u : UsigAt w base l k kc s
  x : RUsigAt w base L K KC t
  kL : ¬ L.fp k
  cL : ¬ L.fp kc
  Kl : ¬ l.fp K
  Cl : ¬ l.fp KC
  n1 : k ≠ K
  n2 : k ≠ KC
  n3 : kc ≠ K
  n4 : kc ≠ KC
section
variable {w w' : World} {base : Nat} {l l' : DL} {L L' : RL} {k kc K KC : Nat} {s t s' t' : US} {d d' : DS}
theorem UX.left (h : UX w base l L k kc K KC s t) (hD : DiskAt w base l d) (hm : UMoved w w' l l' k kc) (hU : UsigAt w' base l' k kc s') : UX w' base l' L k kc K KC s' t := by
  obtain ⟨_, _, _, b1, _⟩ := h.u.blk
  obtain ⟨_, _, _, b2, _⟩ := h.u.cell.blk
  have hx := h.x.lt
  have hxc := h.x.cell.lt
  refine ⟨hU, h.x.kept hm.chg ?_ ?_ ?_ rfl (fun _ hx => .inl hx), h.kL, h.cL, fun hf => ?_, fun hf => ?_, h.n1, h.n2, h.n3, h.n4⟩
  · rintro (e | e | e)
    · exact h.Kl e
    · exact h.n1 e.symm
    · exact h.n3 e.symm
  · rintro (e | e | e)
    · exact h.Cl e
    · exact h.n2 e.symm
    · exact h.n4 e.symm
  · rintro x (e | e | e)
    · exact hD.nb8 e
    · exact e ▸ Blk.nb8 b1 usig_ne8
    · exact e ▸ Blk.nb8 b2 cell_ne8
  · rcases hm.fp K hf with e | e
    · exact h.Kl e
    · omega
  · rcases hm.fp KC hf with e | e
    · exact h.Cl e
    · omega
theorem UX.right (h : UX w base l L k kc K KC s t) (hR : RDk w base L d) (hm : RUMoved w w' L L' K KC) (hX : RUsigAt w' base L' K KC t') : UX w' base l L' k kc K KC s t' := by
  obtain ⟨_, _, _, b1, _⟩ := h.x.blk
  obtain ⟨_, b2⟩ := h.x.cell.blk
  have hx := h.u.lt
  have hxc := h.u.cell.lt
  refine ⟨h.u.kept hm.chg ?_ ?_ ?_ rfl (fun _ hx => .inl hx), hX, fun hf => ?_, fun hf => ?_, h.Kl, h.Cl, h.n1, h.n2, h.n3, h.n4⟩
  · rintro (e | e | e)
    · exact h.kL e
    · exact h.n1 e
    · exact h.n2 e
  · rintro (e | e | e)
    · exact h.cL e
    · exact h.n3 e
    · exact h.n4 e
  · rintro x (e | e | e)
    · exact .inr (hR.typed e)
    · exact .inr ⟨_, _, e ▸ b1, by decide⟩
    · exact .inr ⟨_, _, e ▸ b2, by decide⟩
  · rcases hm.fp k hf with e | e
    · exact h.kL e
    · omega
  · rcases hm.fp kc hf with e | e
    · exact h.cL e
    · omega
theorem UX.below (h : UX w base l L k kc K KC s t) (hb : Below w.heap.size w w') : UX w' base l L k kc K KC s t :=
  ⟨h.u.below hb, h.x.below hb, h.kL, h.cL, h.Kl, h.Cl, h.n1, h.n2, h.n3, h.n4⟩
theorem UX.leftD (h : UX w base l L k kc K KC s t) (hD : DiskAt w base l d) (hm : Moved w w' l l') : UX w' base l' L k kc K KC s t := h.left hD (UMoved.of_moved hm k kc) (h.u.moved hm)
theorem UX.rightD (h : UX w base l L k kc K KC s t) (hR : RDk w base L d) (hm : RMoved w w' L L') : UX w' base l L' k kc K KC s t :=
  h.right hR (RUMoved.of_moved hm K KC) (h.x.kept hm.chg h.x.out h.x.cell.out (fun _ hx => hR.nb8 hx) hm.g hm.fp)
/-- Both made, one behind the other. -/
theorem UX.new {w0 w1 w2 : World} {l0 : DL} {L0 : RL} (hl : ∀ x, l0.fp x → x < w0.heap.size) (hL : ∀ x, L0.fp x → x < w0.heap.size) (hk : w0.heap.size ≤ k) (hkc : w0.heap.size ≤ kc) (hU : UsigAt w1 base l0 k kc s)
    (hb : Below w1.heap.size w1 w2) (hK : w1.heap.size ≤ K) (hKC : w1.heap.size ≤ KC) (hX : RUsigAt w2 base L0 K KC t) : UX w2 base l0 L0 k kc K KC s t := by
  have h1 := hU.lt
  have h2 := hU.cell.lt
  refine ⟨hU.below hb, hX, fun hf => ?_, fun hf => ?_, fun hf => ?_, fun hf => ?_, by omega, by omega, by omega, by omega⟩
  · have := hL _ hf; omega
  · have := hL _ hf; omega
  · have := hl _ hf; omega
  · have := hl _ hf; omega
theorem Two.leftU (h : Two w base l L d) (hm : UMoved w w' l l' k kc) (hk : ¬ L.fp k) (hkc : ¬ L.fp kc) (hD : DiskAt w' base l' d') : DiskAt w' base l' d' ∧ RDk w' base L d ∧ ∀ x, l'.fp x → ¬ L.fp x :=
  ⟨hD, h.r.kept hm.chg (fun x hx hf => by
    rcases hf with h1 | h1 | h1
    · exact h.x x h1 hx
    · exact hk (h1 ▸ hx)
    · exact hkc (h1 ▸ hx)), fun x hx hf => by
    rcases hm.fp x hx with h1 | h1
    · exact h.x x h1 hf
    · have := (h.r.fp_lt hf).2
      omega⟩
theorem Two.rightU (h : DiskAt w base l d' ∧ RDk w base L d ∧ ∀ x, l.fp x → ¬ L.fp x) (hm : RUMoved w w' L L' k kc) (hk : ¬ l.fp k) (hkc : ¬ l.fp kc) (hR : RDk w' base L' d') : Two w' base l L' d' :=
  ⟨h.1.kept hm.chg (fun x hx hf => by
    rcases hf with h1 | h1 | h1
    · exact h.2.2 x hx h1
    · exact hk (h1 ▸ hx)
    · exact hkc (h1 ▸ hx)), hR, fun x hx hf => by
    rcases hm.fp x hf with h1 | h1
    · exact h.2.2 x hx h1
    · have := (h.1.fp_lt hx).2
      omega⟩
theorem base_rumoved {w0 a b : World} (h : Below w0.heap.size w0 a ∧ base ≤ a.heap.size) (hw : w0.heap.size ≤ base) (hD : RDk a base L d) (hU : RUsigAt a base L k kc s) (hC : base ≤ kc) (hm : RUMoved a b L L' k kc) : Below w0.heap.size w0 b ∧ base ≤ b.heap.size := by
  refine ⟨h.1.trans (hm.chg.below (fun x hx => ?_) h.1.size), Nat.le_trans h.2 hm.chg.size⟩
  rcases hx with hx | rfl | rfl
  · exact Nat.le_trans hw (hD.fp_lt hx).1
  · exact Nat.le_trans hw hU.bk
  · exact Nat.le_trans hw hC
end
theorem putCell_p (s : CS) (b : List UInt8) (e : Int) : (putCell s b e).p = s.p := by
  unfold putCell
  first | rfl | (split <;> rfl)
theorem nextU_p (n : Nat) (tb : List Int) (d : DS) (s : US) (b : List UInt8) : (nextU n tb d s b).2.1.c.p = s.c.p := by
  unfold nextU
  have h := fun e => putCell_p s.c (be 8 (s.n + 1) ++ b) e
  generalize ptF d s.c.p s.c.which (be 8 (s.n + 1) ++ b) = r
  generalize H.numF n tb s.i (s.n + 1) b = F
  repeat (first | exact h _ | exact rfl | split)
theorem nextU_len (n : Nat) (tb : List Int) (d : DS) (s : US) (b : List UInt8) : (nextU n tb d s b).1.loose.length ≤ d.loose.length + 10 := by
  have h := ptF_len d s.c.p s.c.which (be 8 (s.n + 1) ++ b)
  unfold nextU
  repeat (first | exact h | exact Nat.le_add_right _ _ | split)
theorem nextU_t (n : Nat) (tb : List Int) (d : DS) (s : US) (b : List UInt8) : (nextU n tb d s b).2.2.2.1.length = 32 := by
  unfold nextU
  have h := H.numF_length n tb s.i (s.n + 1) b
  have h2 := z32_length
  generalize ptF d s.c.p s.c.which (be 8 (s.n + 1) ++ b) = r
  generalize H.numF n tb s.i (s.n + 1) b = F at h ⊢
  generalize z32 = z at h2 ⊢
  repeat (first | exact h | exact h2 | split)
theorem lastT_len (n : Nat) (tb : List Int) (s : US) : (lastT n tb s).length = 32 := by
  unfold lastT
  split
  · exact z32_length
  · exact H.numF_length n tb _ _ _
/-- What the law holds of both counters. -/
def UState (w : World) (base : Nat) (l : DL) (L : RL) (u x : Value) : Prop :=
  (u = .pointer none ∧ x = .pointer none) ∨
  (∃ k kc K KC s, u = .pointer (some ⟨k, 0, none⟩) ∧ x = .pointer (some ⟨K, 0, none⟩) ∧ UX w base l L k kc K KC s s ∧ s.c.p = 5)
section
variable {w w' : World} {base : Nat} {l l' : DL} {L L' : RL} {u x : Value} {d : DS}
theorem UState.left (h : UState w base l L u x) (hD : DiskAt w base l d) (hm : Moved w w' l l') : UState w' base l' L u x := by
  rcases h with h | ⟨k, kc, K, KC, s, h1, h2, h3, h4⟩
  · exact .inl h
  · exact .inr ⟨k, kc, K, KC, s, h1, h2, h3.leftD hD hm, h4⟩
theorem UState.right (h : UState w base l L u x) (hR : RDk w base L d) (hm : RMoved w w' L L') : UState w' base l L' u x := by
  rcases h with h | ⟨k, kc, K, KC, s, h1, h2, h3, h4⟩
  · exact .inl h
  · exact .inr ⟨k, kc, K, KC, s, h1, h2, h3.rightD hR hm, h4⟩
theorem UState.below (h : UState w base l L u x) (hb : Below w.heap.size w w') : UState w' base l L u x := by
  rcases h with h | ⟨k, kc, K, KC, s, h1, h2, h3, h4⟩
  · exact .inl h
  · exact .inr ⟨k, kc, K, KC, s, h1, h2, h3.below hb, h4⟩
end
set_option maxRecDepth 20000 in
set_option maxHeartbeats 4000000 in
theorem usame_none (w : World) : Calls Tryz.prog 12 #[.pointer none, .pointer none] w fun e w' => e = .returned (.bool true) ∧ w = w' := by
  go_enter Tryz.func12, Tryz.ntmps12
  go_wp2_with fail
  go_ret
  exact ⟨rfl, rfl⟩
set_option maxRecDepth 20000 in
set_option maxHeartbeats 4000000 in
theorem usame_any (n : Nat) (hn64 : n = 64) (w : World) (base : Nat) (l : DL) (L : RL) (k kc K KC : Nat) (s : US) (h : UX w base l L k kc K KC s s) (tb : List Int) (htb : H.tblL = tb) (hT : H.Tab w tb) :
    Calls Tryz.prog 12 #[.pointer (some ⟨k, 0, none⟩), .pointer (some ⟨K, 0, none⟩)] w fun e w' => e = .returned (.bool true) ∧ Below w.heap.size w w' := by
  have hF := lastT_len n tb s
  have HN := Lib.hid hn64
  have HTB := Lib.hid htb
  obtain ⟨F, hFe⟩ : ∃ F, lastT n tb s = F := ⟨_, rfl⟩
  obtain ⟨xs, hxs⟩ : ∃ F, lastB s = F := ⟨_, rfl⟩
  rw [hFe] at hF
  have hFs : (bvs F).toArray.size = 32 := by rw [bvs_size, hF]
  have hx : ∀ w, (Op.equalIn 10000 44 (.agg (bvs F).toArray) (.agg (bvs F).toArray)).run Tryz.prog w = .ok true w := fun w => by rw [H.eql32 F F hF hF w, decide_eq_true rfl]
  have h1 := fun w h hT => ulast_any n hn64 w base l k kc s h tb hT
  have h2 := fun w h => rlast7_any n hn64 w base L K KC s h tb htb
  simp only [hFe, hxs] at h1 h2
  have H1 := Lib.hid h1
  have H2 := Lib.hid h2
  clear hn64 htb hFe hxs h1 h2
  have hnn : ((s.n : Int) == (s.n : Int)) = true := by simp
  go_enter Tryz.func12, Tryz.ntmps12
  go_wp2_with fail
  refine (H1.out w h.u hT).mono ?_
  rintro e w1 ⟨A1, N1, c1, rfl, hO1, hb1⟩
  have hX := h.x.below hb1
  have hr1 := hO1.reads
  clear H1 hO1 h hT
  simp only []
  repeat (first
    | ((with_reducible refine wpl_store_fresh (bvs F).toArray i32 ?_ hFs (bvs_all _) ?_ ?_ ?_); (focus kernel_rfl); (focus rfl); (focus rfl); intro w2 hS2 hl2 hb2; simp only [Act.put]; refine Hid.out ?_)
    | go_values | go_skip | go_guarded | go_step | go_upon | go_back)
  refine Lib.hid ?_
  have hX := hX.below hb2
  have hr1 := hr1.below hb2
  have hb2 := below_next' hb1 hb2
  obtain ⟨g2, hg2⟩ : ∃ x, w1.heap.size = x := ⟨_, rfl⟩
  rw [hg2] at hS2 ⊢
  clear hb1 hl2 hg2
  go_wp2_with fail
  refine (H2.out w2 hX).mono ?_
  rintro e w3 ⟨A3, N3, c3, rfl, hO3, hb3⟩
  have hr3 := hO3.reads
  have hr1 := hr1.below hb3
  have hS2 := hS2.below hb3 hS2.lt
  have hb3 := below_next' hb2 hb3
  clear H2 hO3 hX hb2
  simp only []
  repeat (first
    | ((with_reducible refine wpl_store_fresh (bvs F).toArray i32 ?_ hFs (bvs_all _) ?_ ?_ ?_); (focus kernel_rfl); (focus rfl); (focus rfl); intro w4 hS4 hl4 hb4; simp only [Act.put]; refine Hid.out ?_)
    | go_values | go_skip | go_guarded | go_step | go_upon | go_back)
  refine Lib.hid ?_
  have hr1 := hr1.below hb4
  have hr3 := hr3.below hb4
  have hS2 := hS2.below hb4 hS2.lt
  have hb4 := below_next' hb3 hb4
  obtain ⟨g4, hg4⟩ : ∃ x, w3.heap.size = x := ⟨_, rfl⟩
  rw [hg4] at hS4 ⊢
  clear hb3 hl4 hg4
  have hv1 := conv_str hr1 c1
  have hv3 := conv_str hr3 c3
  repeat (first
    | ((with_reducible refine wpl_loadG g2 _ _ Tryz.underlying44 i32 hS2 hFs ?_ ?_ ?_); (focus rfl); (focus rfl); simp only [Act.put, List.setIfInBounds_toArray, List.set_cons_zero, List.set_cons_succ])
    | ((with_reducible refine wpl_loadG g4 _ _ Tryz.underlying44 i32 hS4 hFs ?_ ?_ ?_); (focus rfl); (focus rfl); simp only [Act.put, List.setIfInBounds_toArray, List.set_cons_zero, List.set_cons_succ])
    | go_values | go_skip | go_guarded | go_step | go_upon | go_back)
  go_ret
  exact ⟨rfl, hb4⟩
end Go.Proofs.YtmjdfajdompkeaaGreatDoor
