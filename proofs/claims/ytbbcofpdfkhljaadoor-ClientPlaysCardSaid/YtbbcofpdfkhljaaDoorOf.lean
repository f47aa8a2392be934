/- ratchetlaw25: rows of what was told. -/
import Derived.Test.YtbbcofpdfkhljaaDoorOd
namespace Go.Proofs.YtbbcofpdfkhljaaDoor
open Go.RowKit Go.Rat
/-- What is at an argument's place, loaded. -/
theorem run_load_any {P : Program} {w : World} {o : Oper} {ρ : Operand → Value} {ty : TypeId} {x : Operand} (ho : o.op = .load ty x) (ad : Addr) (cs : List Value) {D : TypeDesc}
    (hu : P.underlying ty = some D) (hd : D.isRow = true) {n : Nat} (hi : (P.info? ty).map (·.size) = some n) (hl : cs.length = n) (hc : ∀ j u, cs[j]? = some u → w.cell? (ad.add j) = some u)
    (hx : ρ x = .pointer (some ad)) : (execOp ρ o).run P w = .ok (.value (.agg cs.toArray)) w := by
  subst hl
  have hrun : (loadVar ty ad).run P w = .ok (.agg cs.toArray) w := by
    have hl : (loadCells ad cs.length).run P w = .ok cs.toArray w := run_loadCells_list (P := P) w ad cs hc
    cases hq : P.info? ty with
    | none => simp [hq] at hi
    | some i =>
      have hs : i.size = cs.length := by simpa [hq] using hi
      have hagg : (isAgg ty).run P w = .ok true w := by
        unfold isAgg
        rw [Sem.run_bind, run_underlying hu w]
        cases D <;> simp_all
      simp [loadVar, Sem.run_bind, hagg, sizeOf, typeInfo, hq, hs, hl]
  unfold execOp
  simp only [ho, hx, Instr.loadAt, Instr.sureAddr, Sem.run_bind, Sem.run_pure, Result.andThen_ok, hrun]
theorem own_typed {w : World} {base size n c N : Nat} {T : TypeId} {A : Option Addr} {xs : List Value} (h : w.ownsRow base T size (.slice A n c) N xs) {x : Nat} (hx : A.map (·.block) = some x) : ∃ cur, w.heap[x]? = some (.cells cur T (0, 0)) := by
  rcases h.2 with ⟨h3, _⟩ | ⟨g, cap, cur, hv, hbg, hc, rest⟩
  · injection h3 with h4
    rw [h4] at hx
    cases hx
  · injection hv with h4
    rw [h4] at hx
    cases hx
    exact ⟨cur, hc⟩
/-- A row and a block of another type lie apart. -/
theorem own_ne {w : World} {base size n c N g : Nat} {T T' : TypeId} {A : Option Addr} {xs : List Value} {cs : Array Value} (h : w.ownsRow base T size (.slice A n c) N xs) (hB : Blk w g T' cs) (hT : T ≠ T') : A.map (·.block) ≠ some g := fun hx => by
  obtain ⟨cur, hc⟩ := own_typed h hx
  unfold Blk at hB
  rw [hB] at hc
  injection hc with hc
  injection hc with _ h2
  exact hT h2.symm
theorem own_apart {w : World} {base size n c N base' size' n' c' N' : Nat} {T T' : TypeId} {A A' : Option Addr} {xs ys : List Value} (h : w.ownsRow base T size (.slice A n c) N xs) (h' : w.ownsRow base' T' size' (.slice A' n' c') N' ys) (hT : T ≠ T') : A.map (·.block) ≠ A'.map (·.block) ∨ A'.map (·.block) = none := by
  cases hx : A'.map (·.block) with
  | none => exact .inr rfl
  | some x =>
    obtain ⟨cur, hc⟩ := own_typed h' hx
    exact .inl (own_ne h (show Blk w x T' cur from hc) hT)
theorem rtinfo : (Tryd.prog.info? 38).map (fun i => (i.zero, i.size, i.bytes)) = some (some (.agg tl0.c.toArray), 5, 48) := by kernel_rfl
theorem intinfo : (Tryd.prog.info? 3).map (fun i => (i.zero, i.size, i.bytes)) = some (some (.int .i64 0), 1, 8) := by kernel_rfl
theorem told_one' (t : ToldV) : ∀ u ∈ t.c, u.oneCell' = true := by
  intro u hu
  simp [ToldV.c] at hu
  rcases hu with rfl | rfl | rfl | rfl | rfl <;> rfl
theorem wpl_appT {w : World} {ops : Array Oper} {rest : List Oper} {o : Oper} {a : Act} {Q : Exit → Act → World → Prop} (hgd : o.guard = none) (s x : Operand)
    (ho : o.op = .call { callee := .builtin .append, args := #[s, x], argTypes := #[60, 60] })
    (base : Nat) (A : Option Addr) (n c : Nat) (xs : List Value) (hs : a.eval s = .slice A n c) (hown : w.ownsRow base 38 5 (.slice A n c) n xs)
    (g : Nat) (y : ToldV) (hx : a.eval x = .slice (some ⟨g, 0, none⟩) 1 1) (hB : Blk w g 38 y.c.toArray) (hn : n ≤ 1000) (hbase : base ≤ w.heap.size)
    (h : ∀ A2 c2 w2, w2.ownsRow base 38 5 (.slice A2 (n + 1) c2) (n + 1) (xs ++ y.c) → Grew w w2 A A2 → wpList Tryd.prog ops Q rest (a.put o.dst (.slice A2 (n + 1) c2)) w2) :
    wpList Tryd.prog ops Q (o :: rest) a w := by
  obtain ⟨i0, hi, hz0, hz1, hz2⟩ := info_parts rtinfo
  exact wpl_app1 hgd s x 60 ho base 38 i0 _ 5 48 Tryd.underlying60 hi hz0 hz1 hz2 rfl (by omega) A n c xs hs hown g y.c hx hB rfl (told_one' y) (by simp only [maxLen]; omega) (by omega) hbase h
theorem wpl_appI {w : World} {ops : Array Oper} {rest : List Oper} {o : Oper} {a : Act} {Q : Exit → Act → World → Prop} (hgd : o.guard = none) (s x : Operand)
    (ho : o.op = .call { callee := .builtin .append, args := #[s, x], argTypes := #[45, 45] })
    (base : Nat) (A : Option Addr) (n c : Nat) (xs : List Value) (hs : a.eval s = .slice A n c) (hown : w.ownsRow base 3 1 (.slice A n c) n xs)
    (g : Nat) (y : Int) (hx : a.eval x = .slice (some ⟨g, 0, none⟩) 1 1) (hB : Blk w g 3 [Value.int .i64 y].toArray) (hn : n ≤ 1000) (hbase : base ≤ w.heap.size)
    (h : ∀ A2 c2 w2, w2.ownsRow base 3 1 (.slice A2 (n + 1) c2) (n + 1) (xs ++ [.int .i64 y]) → Grew w w2 A A2 → wpList Tryd.prog ops Q rest (a.put o.dst (.slice A2 (n + 1) c2)) w2) :
    wpList Tryd.prog ops Q (o :: rest) a w := by
  obtain ⟨i0, hi, hz0, hz1, hz2⟩ := info_parts intinfo
  exact wpl_app1 hgd s x 45 ho base 3 i0 _ 1 8 Tryd.underlying45 hi hz0 hz1 hz2 rfl (by omega) A n c xs hs hown g [.int .i64 y] hx hB rfl (by intro u hu; simp at hu; subst hu; rfl) (by simp only [maxLen]; omega) (by omega) hbase h
theorem buildSl_told (w : World) (t : ToldV) : (Instr.buildSlice 60 1 [(0, .agg t.c.toArray)].toArray).run Tryd.prog w = .ok (.slice (some ⟨w.heap.size, 0, none⟩) 1 1) (w.alloc (.cells t.c.toArray 38)) := by
  obtain ⟨k, l, ⟨m, n⟩, o⟩ := t
  simp only [ToldV.c]
  go_simp
theorem buildSl_int (w : World) (y : Int) : (Instr.buildSlice 45 1 [(0, .int .i64 y)].toArray).run Tryd.prog w = .ok (.slice (some ⟨w.heap.size, 0, none⟩) 1 1) (w.alloc (.cells [Value.int .i64 y].toArray 3)) := by
  go_simp
abbrev saidR (zs : List (Int × ToldV)) : List Value := zs.flatMap (fun z => z.2.c)
abbrev whoR (zs : List (Int × ToldV)) : List Value := zs.flatMap (fun z => [Value.int .i64 z.1])
theorem saidR_snoc (zs : List (Int × ToldV)) (j : Int) (t : ToldV) : saidR (zs ++ [(j, t)]) = saidR zs ++ t.c := by simp [saidR]
theorem whoR_snoc (zs : List (Int × ToldV)) (j : Int) (t : ToldV) : whoR (zs ++ [(j, t)]) = whoR zs ++ [Value.int .i64 j] := by simp [whoR]
theorem below_B {B : Nat} {w w1 w2 : World} (hB : w.heap.size = B) (h : Below B w w1) (k : Below w1.heap.size w1 w2) : Below B w w2 := h.trans (k.mono (by rw [← hB]; exact h.size))
theorem own_below {w w' : World} {base n c N size : Nat} {e : TypeId} {A : Option Addr} {ys : List Value} (h : w.ownsRow base e size (.slice A n c) N ys) (hb : Below w.heap.size w w') : w'.ownsRow base e size (.slice A n c) N ys := own_grown h (grownBy_of_below hb none) (.inr rfl)
theorem rq_op (q : RqV) : (q.c.drop 2).take 6 = q.op.c := rfl
end Go.Proofs.YtbbcofpdfkhljaaDoor
