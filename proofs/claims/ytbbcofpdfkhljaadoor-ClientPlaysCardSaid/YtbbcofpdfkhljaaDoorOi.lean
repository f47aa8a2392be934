/- The document's client and the program's: how they go together. -/
import Derived.Test.YtbbcofpdfkhljaaDoorOh
namespace Go.Rat
open Go.RowKit Go
theorem wp_buildSlR {P : Program} {w w2 : World} {o : Oper} {a : Act} {K : Act → World → Prop} {Q : Exit → Act → World → Prop} {t : TypeId} {n : Nat} {parts : List (Nat × Operand)} {ps : List (Nat × Value)} {v : Value}
    (ho : o.op = .buildSlice t n parts.toArray) (h : (Instr.buildSlice t n ps.toArray).run P w = .ok v w2) (hρ : (parts.map fun (i, x) => (i, a.eval x)) = ps) (hk : K (a.put o.dst v) w2) : o.wp P a w K Q := by
  subst hρ
  unfold Oper.wp execOp
  simp only [ho, List.map_toArray, Sem.run_bind, h, Sem.run_pure, Result.andThen_ok]
  exact hk
end Go.Rat
namespace Go.Proofs.YtbbcofpdfkhljaaDoor
open Go.RowKit Go.Rat
theorem wp_app1R {P : Program} {w : World} {o : Oper} {a : Act} {K : Act → World → Prop} {Q : Exit → Act → World → Prop} (s x : Operand) (t : TypeId)
    (ho : o.op = .call { callee := .builtin .append, args := #[s, x], argTypes := #[t, t] })
    (base : Nat) (e : TypeId) (i : TypeInfo) (z : Value) (size bytes : Nat) (ht : P.underlying t = some (.slice e)) (hi : P.info? e = some i) (hz : i.zero = some z)
    (hsize : i.size = size) (hby : i.bytes = bytes) (hzs : z.cells.size = size) (hsz : 0 < size)
    (A : Option Addr) (n c : Nat) (xs : List Value) (hs : a.eval s = .slice A n c) (hown : w.ownsRow base e size (.slice A n c) n xs)
    (g : Nat) (cs : List Value) (hx : a.eval x = .slice (some ⟨g, 0, none⟩) 1 1) (hB : Blk w g e cs.toArray) (hcs : cs.length = size) (h1 : ∀ u ∈ cs, u.oneCell' = true)
    (h63 : n + 1 ≤ maxLen) (hbytes : (n + 1) * bytes ≤ 140737488355328) (hbase : base ≤ w.heap.size)
    (h : ∀ A2 c2 w2, w2.ownsRow base e size (.slice A2 (n + 1) c2) (n + 1) (xs ++ cs) → Grew w w2 A A2 → K (a.put o.dst (.slice A2 (n + 1) c2)) w2) :
    o.wp P a w K Q := by
  have hr : Reads w w.heap.size size (some ⟨g, 0, none⟩) 1 cs := by
    refine ⟨by rw [hcs, Nat.one_mul], fun _ => ⟨_, rfl, hB.lt, fun j u hu => ?_⟩⟩
    have := hB.cell j
    rw [show (⟨g, 0, none⟩ : Addr).add j = ⟨g, j, none⟩ by unfold Addr.add; split <;> simp_all, this, List.getElem?_toArray]
    exact hu
  obtain ⟨A2, c2, w2, hrun, h2, h3, h4⟩ := run_append_reads (P := P) w base t o.type e i z size bytes ht hi hz hsize hby hzs hsz A n c xs hown w.heap.size _ 1 1 cs hr h1 h63 hbytes hbase
  unfold Oper.wp
  simp only [execOp, ho, resolve, invoke, builtin, Sem.run_bind, Sem.run_pure, Result.andThen_ok, List.map_toArray, List.map_cons, List.map_nil, hs, hx, hrun]
  exact h _ _ _ h2 ⟨h3, h4.imp id fun h => ⟨_, h, Nat.le_refl _, (h2.lt _ (by cases A2 <;> simp_all [Value.ownBlock])).2⟩⟩
theorem rrtinfo : (Tryd.prog.info? 52).map (fun i => (i.zero, i.size, i.bytes)) = some (some (.agg tl0.c.toArray), 5, 48) := by kernel_rfl
theorem wp_appTR {w : World} {o : Oper} {a : Act} {K : Act → World → Prop} {Q : Exit → Act → World → Prop} (s x : Operand)
    (ho : o.op = .call { callee := .builtin .append, args := #[s, x], argTypes := #[46, 46] })
    (base : Nat) (A : Option Addr) (n c : Nat) (xs : List Value) (hs : a.eval s = .slice A n c) (hown : w.ownsRow base 52 5 (.slice A n c) n xs)
    (g : Nat) (y : ToldV) (hx : a.eval x = .slice (some ⟨g, 0, none⟩) 1 1) (hB : Blk w g 52 y.c.toArray) (hn : n ≤ 1000) (hbase : base ≤ w.heap.size)
    (h : ∀ A2 c2 w2, w2.ownsRow base 52 5 (.slice A2 (n + 1) c2) (n + 1) (xs ++ y.c) → Grew w w2 A A2 → K (a.put o.dst (.slice A2 (n + 1) c2)) w2) :
    o.wp Tryd.prog a w K Q := by
  obtain ⟨i0, hi, hz0, hz1, hz2⟩ := info_parts rrtinfo
  exact wp_app1R s x 46 ho base 52 i0 _ 5 48 Tryd.underlying46 hi hz0 hz1 hz2 rfl (by omega) A n c xs hs hown g y.c hx hB rfl (told_one' y) (by simp only [maxLen]; omega) (by omega) hbase h
theorem buildSl_rtold (w : World) (t : ToldV) : (Instr.buildSlice 46 1 [(0, .agg t.c.toArray)].toArray).run Tryd.prog w = .ok (.slice (some ⟨w.heap.size, 0, none⟩) 1 1) (w.alloc (.cells t.c.toArray 52)) := by
  obtain ⟨k, l, ⟨m, n⟩, o⟩ := t
  simp only [ToldV.c]
  go_simp
/-- The program's client and the document's notes say the same. -/
structure Cpl (f : Nat) (c : ClV) (zs : List (Int × ToldV)) : Prop where
  n_ : c.n = 2 * (f : Int) + 1
  ok : c.ok
  non : ∀ p : Nat, p < 11 → (c.told.getD p none = none ↔ ∀ z ∈ zs, z.1 ≠ (p : Int) + 1)
  cnt : ∀ t, c.told.count (some t) = zs.countP (fun z => decide (z.2 = t))
theorem cpl0 (f : Nat) (id : Int) (tm : Nat) (p : Bool) (q : RqV) (hq : q.tag.length = 32) : Cpl f ⟨2 * (f : Int) + 1, id, tm, p, q, tol0⟩ [] :=
  ⟨rfl, ⟨hq, tol0_len⟩, fun p _ => ⟨fun _ z hz => absurd hz (by simp), fun _ => tol0_getD p⟩, fun t => by
    show tol0.count (some t) = 0
    rw [List.count_eq_zero]
    intro h
    have := List.eq_of_mem_replicate h
    cases this⟩
/-- Is it heard at all? -/
def heardB (c : ClV) (zs : List (Int × ToldV)) (j : Int) (t : ToldV) : Prop := (1 ≤ j ∧ j ≤ c.n ∧ c.pend = true ∧ t.cl = c.id ∧ t.tm = c.tm) ∧ ∀ z ∈ zs, z.1 ≠ j
theorem hear_cpl_no {f : Nat} {c : ClV} {zs : List (Int × ToldV)} (h : Cpl f c zs) (hf : f ≤ 5) (j : Int) (t : ToldV) (hn : ¬ heardB c zs j t) : hearC c j t = (c, rp0, false) := by
  unfold hearC
  refine if_neg (fun hc => hn ⟨⟨hc.1, hc.2.1, hc.2.2.1, hc.2.2.2.1, hc.2.2.2.2.1⟩, ?_⟩)
  have h1 := h.n_
  have := (h.non (j - 1).toNat (by omega)).1 hc.2.2.2.2.2
  rwa [show (((j - 1).toNat : Nat) : Int) + 1 = j by omega] at this
theorem hear_cpl {f : Nat} {c : ClV} {zs : List (Int × ToldV)} (h : Cpl f c zs) (hf : f ≤ 5) (j : Int) (t : ToldV) (hn : heardB c zs j t) :
    (1 + zs.countP (fun z => decide (z.2 = t)) < f + 1 ∧ hearC c j t = ({ c with told := c.told.set (j - 1).toNat (some t) }, rp0, false) ∧ Cpl f { c with told := c.told.set (j - 1).toNat (some t) } (zs ++ [(j, t)])) ∨
    (¬ 1 + zs.countP (fun z => decide (z.2 = t)) < f + 1 ∧ hearC c j t = ({ c with told := c.told.set (j - 1).toNat (some t), pend := false, q := rq0 }, t.rp, true) ∧ Cpl f { c with told := c.told.set (j - 1).toNat (some t), pend := false, q := rq0 } (zs ++ [(j, t)])) := by
  obtain ⟨⟨h1, h2, h3, h4, h5⟩, h6⟩ := hn
  have hn := h.n_
  have hp : (j - 1).toNat < c.told.length := by rw [h.ok.len]; omega
  have hj : (((j - 1).toNat : Nat) : Int) + 1 = j := by omega
  have h0 : c.told.getD (j - 1).toNat none = none := (h.non _ (by omega)).2 (by rw [hj]; exact h6)
  have hcnt : ∀ u, (c.told.set (j - 1).toNat (some t)).count (some u) = (zs ++ [(j, t)]).countP (fun z => decide (z.2 = u)) := fun u => by
    rw [count_put _ _ hp h0, h.cnt, List.countP_append, List.countP_singleton]
    by_cases e : t = u <;> simp [e]
  have hnon : ∀ p : Nat, p < 11 → ((c.told.set (j - 1).toNat (some t)).getD p none = none ↔ ∀ z ∈ zs ++ [(j, t)], z.1 ≠ (p : Int) + 1) := fun p hp' => by
    rw [getD_put _ _ hp]
    by_cases e : (j - 1).toNat = p
    · rw [if_pos e]
      exact ⟨fun h => by (cases h), fun h => absurd (by rw [← e, hj]) (h (j, t) (List.mem_append_right _ (List.mem_singleton.2 rfl)))⟩
    · rw [if_neg e, h.non p hp']
      constructor
      · intro hz z hm
        rcases List.mem_append.1 hm with hm | hm
        · exact hz z hm
        · rw [List.mem_singleton.1 hm]
          show j ≠ (p : Int) + 1
          omega
      · exact fun hz z hm => hz z (List.mem_append_left _ hm)
  have hc1 : (c.told.set (j - 1).toNat (some t)).count (some t) = 1 + zs.countP (fun z => decide (z.2 = t)) := by
    rw [count_put _ _ hp h0, h.cnt, if_pos rfl, Nat.add_comm]
  unfold hearC
  rw [if_pos ⟨h1, h2, h3, h4, h5, h0⟩, hc1, hn]
  by_cases hv : 1 + zs.countP (fun z => decide (z.2 = t)) < f + 1
  · rw [if_pos (by omega)]
    exact .inl ⟨hv, rfl, ⟨rfl, ⟨h.ok.tag, by simpa using h.ok.len⟩, hnon, hcnt⟩⟩
  · rw [if_neg (by omega)]
    exact .inr ⟨hv, rfl, ⟨rfl, ⟨z32_length, by simpa using h.ok.len⟩, hnon, hcnt⟩⟩
end Go.Proofs.YtbbcofpdfkhljaaDoor
