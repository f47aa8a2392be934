/- sha: the row of a hash, whole arrays out of and into its middle. -/
import Derived.Test.YtohfgplaocgadaaDoorRk
import Derived.Test.YtohfgplaocgadaaDoorFeed
import Derived.Deep.MidRow
namespace Go.Proofs.YtohfgplaocgadaaDoor
open Go.RowKit Go.Rat
section
variable {P : Program} {w : World} {ops : Array Oper} {rest : List Oper} {a : Act} {Q : Exit → Act → World → Prop} {d : Option Tmp} {ty : TypeId} {x y : Operand} {t : TypeId} {p : String} {af : Array Edge} {T : TypeId}
theorem range_of_row {g o n : Nat} {L cs : List Value} (hB : Blk w g T L.toArray) (hcs : (L.drop o).take n = cs) : w.rangeAt g o cs := by
  intro j v hv
  rw [hB.cell (o + j), List.getElem?_toArray]
  rw [← hcs, List.getElem?_take, List.getElem?_drop] at hv
  split at hv
  · exact hv
  · cases hv
theorem wpl_load_mid (g o : Nat) (L cs : List Value) {n : Nat} {D : TypeDesc}
    (hu : P.underlying ty = some D) (hd : D.isRow = true) (hi : (P.info? ty).map (·.size) = some n) (hB : Blk w g T L.toArray) (hcs : (L.drop o).take n = cs) (hl : cs.length = n)
    (hx : a.eval x = .pointer (some ⟨g, o, none⟩)) (h : wpList P ops Q rest (a.put d (.agg cs.toArray)) w) :
    wpList P ops Q ({ dst := d, op := .load ty x, type := t, pos := p, after := af, guard := none } :: rest) a w :=
  wpList_load_mid rfl ty x rfl g o hx cs D (range_of_row hB hcs) hu hd (by rw [hl]; exact hi) h
theorem wpl_value {o' : Oper} (hg : o'.guard = none) (v : Value) (hv : (execOp a.eval o').run P w = .ok (.value v) w) (h : wpList P ops Q rest (a.put o'.dst v) w) : wpList P ops Q (o' :: rest) a w :=
  wpList_plain hg fun _ hK => by
    unfold Oper.wp
    rw [hv]
    exact hK _ _ h
theorem wpl_nilCheck (b i : Nat) (hx : a.eval x = .pointer (some ⟨b, i, none⟩)) (h : wpList P ops Q rest (a.put d (.pointer (some ⟨b, i, none⟩))) w) :
    wpList P ops Q ({ dst := d, op := .nilCheck x, type := t, pos := p, after := af, guard := none } :: rest) a w :=
  wpl_value rfl _ (by simp [execOp, hx]) h
theorem wpl_fieldAddr (b n k : Nat) (hv : ∀ w : World, (execOp a.eval { dst := d, op := .fieldAddr ty x k, type := t, pos := p, after := af, guard := none }).run P w = .ok (.value (.pointer (some ⟨b, n, none⟩))) w)
    (h : wpList P ops Q rest (a.put d (.pointer (some ⟨b, n, none⟩))) w) :
    wpList P ops Q ({ dst := d, op := .fieldAddr ty x k, type := t, pos := p, after := af, guard := none } :: rest) a w :=
  wpl_value rfl _ (hv w) h
theorem run_store_mid (g o : Nat) (L cs : List Value) (hi : (P.info? ty).map (·.size) = some cs.length) (hB : Blk w g T L.toArray) (hfit : o + cs.length ≤ L.length) (h1 : ∀ v ∈ cs, v.oneCell' = true) :
    (storeVar ty ⟨g, o, none⟩ (.agg cs.toArray)).run P w = .ok () (w.setRow g (Go.splice L o cs).toArray) := by
  have := run_storeCells_at P g o T cs 0 L.toArray w hB (by simpa using hfit) h1
  cases hq : P.info? ty with
  | none => simp [hq] at hi
  | some i =>
    have hs : cs.length = i.size := by simp [hq] at hi; omega
    simp only [Nat.add_zero] at this
    simp [storeVar, sizeOf, typeInfo, hq, Value.cells, hs, this, Go.splice]
theorem wp_store_midR {o' : Oper} {K : Act → World → Prop} (ho : o'.op = .store ty x y) (g o : Nat) (L cs : List Value) (hi : (P.info? ty).map (·.size) = some cs.length) (hB : Blk w g T L.toArray) (hfit : o + cs.length ≤ L.length) (h1 : ∀ v ∈ cs, v.oneCell' = true)
    (hx : a.eval x = .pointer (some ⟨g, o, none⟩)) (hy : a.eval y = .agg cs.toArray) (h : K (a.put o'.dst undef) (w.setRow g (Go.splice L o cs).toArray)) : o'.wp P a w K Q := by
  unfold Oper.wp execOp
  simp only [ho, hx, hy, Instr.storeAt, Instr.sureAddr, Sem.run_bind, Sem.run_pure, Result.andThen_ok, run_store_mid g o L cs hi hB hfit h1]
  exact h
theorem wpl_store_mid (g o : Nat) (L cs : List Value) (hi : (P.info? ty).map (·.size) = some cs.length) (hB : Blk w g T L.toArray) (hfit : o + cs.length ≤ L.length) (h1 : ∀ v ∈ cs, v.oneCell' = true)
    (hx : a.eval x = .pointer (some ⟨g, o, none⟩)) (hy : a.eval y = .agg cs.toArray) (h : wpList P ops Q rest (a.put d undef) (w.setRow g (Go.splice L o cs).toArray)) :
    wpList P ops Q ({ dst := d, op := .store ty x y, type := t, pos := p, after := af, guard := none } :: rest) a w :=
  wpList_plain rfl fun _ hK => wp_store_midR rfl g o L cs hi hB hfit h1 hx hy (hK _ _ h)
end
theorem load_mid_run {P : Program} {w : World} {o : Oper} {a : Act} {ty : TypeId} {x : Operand} {T : TypeId} (ho : o.op = .load ty x) (g off : Nat) (L cs : List Value) {n : Nat} {D : TypeDesc}
    (hu : P.underlying ty = some D) (hd : D.isRow = true) (hi : (P.info? ty).map (·.size) = some n) (hB : Blk w g T L.toArray) (hcs : (L.drop off).take n = cs) (hl : cs.length = n)
    (hx : a.eval x = .pointer (some ⟨g, off, none⟩)) : (execOp a.eval o).run P w = .ok (.value (.agg cs.toArray)) w := by
  unfold execOp
  simp only [ho, hx, Instr.loadAt, Instr.sureAddr, Sem.run_bind, Sem.run_pure, Result.andThen_ok, run_loadVar_mid w g off ty cs D (range_of_row hB hcs) hu hd (by rw [hl]; exact hi)]
/-- The cells of a hash. -/
def hashL (h : HS) (all : Nat) : List Value := u32s h.s ++ (bvs h.p ++ [.int .i64 (h.k : Int), .int .u64 (all : Int)])
section
variable {h : HS} {all : Nat}
theorem u32s_length (l : List Int) : (u32s l).length = l.length := by simp [u32s]
theorem u32s_ones (l : List Int) : ∀ v ∈ u32s l, v.oneCell' = true := by
  intro v hv
  simp only [u32s, List.mem_map] at hv
  obtain ⟨x, _, rfl⟩ := hv
  rfl
theorem hashL_length (ho : h.wide) : (hashL h all).length = 74 := by simp [hashL, u32s_length, bvs_length, ho.s, ho.p]
theorem hashL_s (ho : h.wide) : ((hashL h all).drop 0).take 8 = u32s h.s := by
  rw [List.drop_zero, hashL, List.take_append_of_le_length (by rw [u32s_length, ho.s]; exact Nat.le_refl _), List.take_of_length_le (by rw [u32s_length, ho.s]; exact Nat.le_refl _)]
theorem hashL_p (ho : h.wide) : ((hashL h all).drop 8).take 64 = bvs h.p := by
  rw [hashL, List.drop_append_of_le_length (by rw [u32s_length, ho.s]; exact Nat.le_refl _), List.drop_of_length_le (by rw [u32s_length, ho.s]; exact Nat.le_refl _), List.nil_append,
    List.take_append_of_le_length (by rw [bvs_length, ho.p]; exact Nat.le_refl _), List.take_of_length_le (by rw [bvs_length, ho.p]; exact Nat.le_refl _)]
theorem hashL_k (ho : h.wide) : (hashL h all)[72]? = some (.int .i64 (h.k : Int)) := by
  rw [hashL, List.getElem?_append_right (by rw [u32s_length, ho.s]; omega), List.getElem?_append_right (by rw [u32s_length, ho.s, bvs_length, ho.p]; omega), u32s_length, ho.s, bvs_length, ho.p]
  rfl
theorem hashL_all (ho : h.wide) : (hashL h all)[73]? = some (.int .u64 (all : Int)) := by
  rw [hashL, List.getElem?_append_right (by rw [u32s_length, ho.s]; omega), List.getElem?_append_right (by rw [u32s_length, ho.s, bvs_length, ho.p]; omega), u32s_length, ho.s, bvs_length, ho.p]
  rfl
theorem hashL_set_k (ho : h.wide) (k : Nat) : (hashL h all).set 72 (.int .i64 (k : Int)) = hashL ⟨h.s, h.p, k⟩ all := by
  rw [hashL, List.set_append_right _ _ (by rw [u32s_length, ho.s]; omega), List.set_append_right _ _ (by rw [u32s_length, ho.s, bvs_length, ho.p]; omega), u32s_length, ho.s, bvs_length, ho.p]
  rfl
theorem hashL_set_all (ho : h.wide) (n : Nat) : (hashL h all).set 73 (.int .u64 (n : Int)) = hashL h n := by
  rw [hashL, List.set_append_right _ _ (by rw [u32s_length, ho.s]; omega), List.set_append_right _ _ (by rw [u32s_length, ho.s, bvs_length, ho.p]; omega), u32s_length, ho.s, bvs_length, ho.p]
  rfl
theorem hashL_put_s (ho : h.wide) (s : List Int) (hs : s.length = 8) : Go.splice (hashL h all) 0 (u32s s) = hashL ⟨s, h.p, h.k⟩ all := by
  have h8 : (u32s h.s).length = 8 := by rw [u32s_length, ho.s]
  rw [Go.splice, List.take_zero, List.nil_append, u32s_length, hs, hashL, Nat.zero_add, ← h8, List.drop_left]
  rfl
theorem hashL_put_p (ho : h.wide) (k : Nat) (c : List UInt8) (hc : k + c.length ≤ 64) : Go.splice (hashL h all) (8 + k) (bvs c) = hashL ⟨h.s, splice h.p k c, h.k⟩ all := by
  have h8 : (u32s h.s).length = 8 := by rw [u32s_length, ho.s]
  have h64 : (bvs h.p).length = 64 := by rw [bvs_length, ho.p]
  have hm : ∀ j, (bvs h.p).take j = bvs (h.p.take j) := fun j => by simp [bvs, List.map_take]
  have hd : ∀ j, (bvs h.p).drop j = bvs (h.p.drop j) := fun j => by simp [bvs, List.map_drop]
  rw [Go.splice, hashL, hashL, List.take_append, List.drop_append, h8, List.take_of_length_le (by omega), Nat.add_sub_cancel_left, List.drop_of_length_le (by omega), List.nil_append, bvs_length,
    show 8 + k + c.length - 8 = k + c.length by omega, List.take_append_of_le_length (by omega), List.drop_append_of_le_length (by omega), hm, hd, Go.splice, bvs_append, bvs_append]
  simp only [List.append_assoc]
end
theorem reads_take {w : World} {A : Option Addr} {m : Nat} {ys : List UInt8} (hr : RB w A m ys) (k : Nat) (hk : k ≤ m) (h0 : 0 < k) : ∃ ad, A = some ad ∧ ∀ j v, (bvs (ys.take k))[j]? = some v → w.cell? (ad.add j) = some v := by
  obtain ⟨ad, e, _, hc⟩ := hr.2 (by omega)
  refine ⟨ad, e, fun j v hv => hc j v ?_⟩
  rw [show bvs (ys.take k) = (bvs ys).take k by simp [bvs, List.map_take], List.getElem?_take] at hv
  split at hv
  · exact hv
  · cases hv
theorem wp_copy_mid {w : World} {o : Oper} {a : Act} {K : Act → World → Prop} {Q : Exit → Act → World → Prop} (d s : Operand)
    (ho : o.op = .call { callee := .builtin .copy, args := #[d, s], argTypes := #[28, 28] })
    (g off dLen dCap : Nat) (A : Option Addr) (m c : Nat) (hd : a.eval d = .slice (some ⟨g, off, none⟩) dLen dCap) (hs : a.eval s = .slice A m c)
    (T : TypeId) (L : List Value) (hB : Blk w g T L.toArray) (ys : List UInt8) (hr : RB w A m ys) (k : Nat) (hk : k = Nat.min m dLen) (h0 : 0 < k) (hfit : off + k ≤ L.length)
    (h : K (a.put o.dst (.int .i64 (k : Int))) (w.setRow g (Go.splice L off (bvs (ys.take k))).toArray)) : o.wp Tryd.prog a w K Q := by
  have hkm : k ≤ m := by rw [hk]; exact Nat.min_le_left _ _
  obtain ⟨ad, rfl, hsrc⟩ := reads_take hr k hkm h0
  have hl : (bvs (ys.take k)).length = k := by rw [bvs_length, List.length_take, hr.len]; omega
  have hrun := run_copy_row (P := Tryd.prog) w 28 28 o.type 5 g off dLen dCap ad m c L.toArray T (bvs (ys.take k)) Tryd.underlying28 (by kernel_rfl) hB (by rw [hl, hk]) hsrc (by rw [hl]; simpa using hfit) (bvs_one _)
  unfold Oper.wp
  simp only [execOp, ho, resolve, invoke, builtin, Sem.run_bind, Sem.run_pure, Result.andThen_ok, List.map_toArray, List.map_cons, List.map_nil, hd, hs, hrun, hl]
  rw [Go.splice, hl] at h
  rw [List.append_assoc]
  exact h
theorem wpl_copy_mid {w : World} {ops : Array Oper} {rest : List Oper} {a : Act} {Q : Exit → Act → World → Prop} {d : Option Tmp} {x y : Operand} {t : TypeId} {p : String} {af : Array Edge}
    (g off dLen dCap : Nat) (A : Option Addr) (m c : Nat) (T : TypeId) (L : List Value) (hB : Blk w g T L.toArray) (ys : List UInt8) (hr : RB w A m ys) (k : Nat) (hk : k = Nat.min m dLen) (h0 : 0 < k) (hfit : off + k ≤ L.length)
    (hd : a.eval x = .slice (some ⟨g, off, none⟩) dLen dCap) (hs : a.eval y = .slice A m c)
    (h : wpList Tryd.prog ops Q rest (a.put d (.int .i64 (k : Int))) (w.setRow g (Go.splice L off (bvs (ys.take k))).toArray)) :
    wpList Tryd.prog ops Q ({ dst := d, op := .call { callee := .builtin .copy, args := #[x, y], argTypes := #[28, 28] }, type := t, pos := p, after := af, guard := none } :: rest) a w :=
  wpList_plain rfl fun _ hK => wp_copy_mid x y rfl g off dLen dCap A m c hd hs T L hB ys hr k hk h0 hfit (hK _ _ h)
end Go.Proofs.YtohfgplaocgadaaDoor
