/- The document's disk: put, what it needs. -/
import Derived.Test.YtmjdfajdompkeaaRgc
namespace Go.Proofs.Ytmjdfajdompkeaa
open Go.RowKit Go.Rat
theorem splice_take {α : Type} (L : List α) (o m : Nat) (cs : List α) (h : o + cs.length ≤ m) (ho : o + cs.length ≤ L.length) : (Go.splice L o cs).take m = Go.splice (L.take m) o cs := by
  unfold Go.splice
  rw [List.take_append, List.length_take, Nat.min_eq_left (by omega), List.take_take, Nat.min_eq_right (by omega), List.take_append, List.take_of_length_le (by omega : cs.length ≤ m - o), List.take_take, Nat.min_eq_left (by omega), List.drop_take]
  congr 3
  omega
theorem splice_len {α : Type} (L : List α) (o : Nat) (cs : List α) (ho : o + cs.length ≤ L.length) : (Go.splice L o cs).length = L.length := by
  unfold Go.splice
  simp only [List.length_append, List.length_take, List.length_drop]
  omega
theorem rwsC_cons (y : RW) (l : List RW) : rwsC (y :: l) = rwC y ++ rwsC l := by simp [rwsC]
theorem rwsC_set : ∀ (l : List RW) (k : Nat) (x : RW), (∀ y ∈ l, y.b.length = 128) → x.b.length = 128 → k < l.length → rwsC (l.set k x) = Go.splice (rwsC l) (k * 130) (rwC x)
  | [], _, _, _, _, h => by simp at h
  | y :: l, 0, x, hl, hx, _ => by
    have h1 := rwC_length (hl y (by simp))
    have h2 := rwC_length hx
    rw [List.set_cons_zero, rwsC_cons, rwsC_cons, Go.splice, Nat.zero_mul, List.take_zero, List.nil_append, Nat.zero_add, h2, ← h1, List.drop_left]
  | y :: l, k + 1, x, hl, hx, hk => by
    have h1 := rwC_length (hl y (by simp))
    have h2 := rwC_length hx
    rw [List.set_cons_succ, rwsC_cons, rwsC_set l k x (fun z hz => hl z (by simp [hz])) hx (by simpa using hk), rwsC_cons, Go.splice, Go.splice, h2]
    have e1 : (k + 1) * 130 = (rwC y).length + k * 130 := by omega
    have e2 : (k + 1) * 130 + 130 = (rwC y).length + (k * 130 + 130) := by omega
    rw [e2, e1, List.take_length_add_append, List.drop_length_add_append, List.append_assoc]
theorem RWs.store {w : World} {base c : Nat} {A : Option Addr} {l : List RW} (h : RWs w base A c l) {g : Nat} {L : List Value} (hA : A = some ⟨g, 0, none⟩) (hB : Blk w g 114 L.toArray) (ok : ∀ x ∈ l, RWok x) {k : Nat} (hk : k < l.length) (x : RW) (hx : x.b.length = 128) :
    RWs (w.setRow g (Go.splice L (k * 130) (rwC x)).toArray) base A c (l.set k x) := by
  have hl128 : ∀ y ∈ l, y.b.length = 128 := fun y hy => (ok y hy).2
  have h2 := rwC_length hx
  have hle : (k + 1) * 130 ≤ l.length * 130 := Nat.mul_le_mul_right _ hk
  rcases h.2 with ⟨h1, h3⟩ | ⟨g', cap, cur, hv, hb, hg, hnc, hm, hcs, ht⟩
  · omega
  · injection hv with e1 e2 e3
    rw [hA] at e1
    injection e1 with e1
    injection e1 with e1
    subst e1
    subst e3
    have hcur : cur = L.toArray := by
      have := hg.symm.trans hB
      injection this with this
      injection this
    subst hcur
    rw [List.size_toArray] at hcs
    have hLl : l.length * 130 ≤ L.length := by rw [hcs]; exact Nat.mul_le_mul_right _ hnc
    refine ⟨by rw [rwsC_set l k x hl128 hx hk, splice_len _ _ _ (by rw [rwsC_length hl128, h2]; omega), rwsC_length hl128, List.length_set], .inr ⟨g, c, (Go.splice L (k * 130) (rwC x)).toArray, by rw [hA], hb, hB.setRow _, by rw [List.length_set]; exact hnc, hm, ?_, ?_⟩⟩
    · rw [List.size_toArray, splice_len _ _ _ (by rw [h2]; omega)]; exact hcs
    · rw [List.length_set, rwsC_set l k x hl128 hx hk, ← ht]
      exact splice_take L (k * 130) (l.length * 130) (rwC x) (by rw [h2]; omega) (by rw [h2]; omega)
theorem putL_set : ∀ {l : List RW} {k : Nat} {x : RW} (hk : k < l.length), (∀ y ∈ l.take k, y.at_ ≠ x.at_) → l[k].at_ = x.at_ → putL l x = l.set k x
  | [], _, _, hk, _, _ => by simp at hk
  | y :: l, 0, x, _, _, h => if_pos (show y.at_ = x.at_ from h)
  | y :: l, k + 1, x, hk, hn, h => by
    rw [putL, if_neg (hn y (by simp)), putL_set (k := k) (by simpa using hk) (fun z hz => hn z (by simp [hz])) h]
    rfl
theorem putL_none : ∀ {l : List RW} {x : RW}, (∀ y ∈ l, y.at_ ≠ x.at_) → putL l x = l ++ [x]
  | [], _, _ => rfl
  | y :: l, x, h => by
    rw [putL, if_neg (h y (by simp)), putL_none (fun z hz => h z (by simp [hz]))]
    rfl
theorem rwinfo : (Try.prog.info? 114).map (fun i => (i.zero, i.size, i.bytes)) = some (some (.agg Try.zeroCells114), 130, 144) := by kernel_rfl
theorem build_r {w : World} {ρ : Operand → Value} {d : Option Tmp} {x y : Operand} {t : TypeId} {p : String} {af : Array Edge} {gd : Option (Nat × Bool)} (i : Int) (b : List UInt8) (hb : b.length = 128) (hx : ρ x = .int .i64 i) (hy : ρ y = .agg (bvs b).toArray) :
    (execOp ρ { dst := d, op := .build 114 #[(0, x), (1, y)], type := t, pos := p, after := af, guard := gd }).run Try.prog w = .ok (.value (.agg (rwC ⟨i, b, false⟩).toArray)) w := by
  have hl : (bvs b).length = 128 := by rw [bvs_length, hb]
  have hz : Try.zeroCells114 = (.int .i64 0 :: (bvs zs ++ [.bool false])).toArray := zr130
  have hlz : (bvs zs).length = 128 := by rw [bvs_length, zs_length]
  have hf : List.foldl (fun (cs : Array Value) (x : Value × Nat) => cs.setIfInBounds (1 + x.2) x.1) (.int .i64 i :: (bvs zs ++ [.bool false])).toArray (bvs b).zipIdx = (rwC ⟨i, b, false⟩).toArray := by
    rw [show (bvs b).zipIdx = (bvs b).zipIdx 0 from rfl, foldl_put _ 1 0 _ (by rw [List.length_cons, List.length_append, hlz, hl]; simp)]
    congr 1
    rw [hl, show 1 + 0 + 128 = 128 + 1 by rfl, List.drop_succ_cons, ← hlz, List.drop_left]
    simp [rwC]
  go_simp
theorem build_rlost {w : World} {ρ : Operand → Value} {d : Option Tmp} {x y : Operand} {t : TypeId} {p : String} {af : Array Edge} {gd : Option (Nat × Bool)} (i : Int) (hx : ρ x = .int .i64 i) (hy : ρ y = .bool true) :
    (execOp ρ { dst := d, op := .build 114 #[(0, x), (2, y)], type := t, pos := p, after := af, guard := gd }).run Try.prog w = .ok (.value (.agg (rwC ⟨i, zs, true⟩).toArray)) w := by
  have hz : Try.zeroCells114 = (.int .i64 0 :: (bvs zs ++ [.bool false])).toArray := zr130
  have hlz : (bvs zs).length = 128 := by rw [bvs_length, zs_length]
  have hs : ∀ (v u : Value), ((v :: (bvs zs ++ [u])).set 129 (.bool true)) = v :: (bvs zs ++ [.bool true]) := fun v u => by
    rw [List.set_cons_succ, List.set_append_right _ _ (by rw [hlz]; omega), hlz]; rfl
  have hq : (rwC ⟨i, zs, true⟩).toArray = (.int .i64 i :: (bvs zs ++ [.bool true])).toArray := rfl
  rw [hq]
  generalize bvs zs = Z at *
  go_simp
theorem buildS_r {w : World} {ρ : Operand → Value} {d : Option Tmp} {x : Operand} {t : TypeId} {p : String} {af : Array Edge} {gd : Option (Nat × Bool)} (L : List Value) (hLl : L.length = 130) (hx : ρ x = .agg L.toArray) :
    (execOp ρ { dst := d, op := .buildSlice 49 1 #[(0, x)], type := t, pos := p, after := af, guard := gd }).run Try.prog w = .ok (.value (.slice (some ⟨w.heap.size, 0, none⟩) 1 1)) (w.alloc (.cells L.toArray 114)) := by
  go_simp
  exact congrArg (fun c => w.alloc (.cells c 114)) (foldl_full L _ (by rw [hLl]; rfl))
theorem wp_appR {w : World} {o : Oper} {a : Act} {K : Act → World → Prop} {Q : Exit → Act → World → Prop} (s x : Operand)
    (ho : o.op = .call { callee := .builtin .append, args := #[s, x], argTypes := #[49, 49] })
    (base : Nat) (A : Option Addr) (c : Nat) (l : List RW) (n : Nat) (hl : l.length = n) (hs : a.eval s = .slice A n c) (hown : RWs w base A c l)
    (y : RW) (hb : y.b.length = 128) (g : Nat) (hx : a.eval x = .slice (some ⟨g, 0, none⟩) 1 1) (hB : Blk w g 114 (rwC y).toArray) (hn : n < 1000000000) (hbase : base ≤ w.heap.size)
    (h : ∀ A2 c2 w2, RWs w2 base A2 c2 (l ++ [y]) → Grew w w2 A A2 → K (a.put o.dst (.slice A2 (n + 1) c2)) w2) :
    o.wp Try.prog a w K Q := by
  obtain ⟨i0, hi, hz0, hz1, hz2⟩ := info_parts rwinfo
  subst hl
  have hr : Reads w w.heap.size 130 (some ⟨g, 0, none⟩) 1 (rwC y) := by
    refine ⟨by rw [rwC_length hb], fun _ => ⟨_, rfl, hB.lt, fun j u hu => ?_⟩⟩
    have := hB.cell j
    rw [show (⟨g, 0, none⟩ : Addr).add j = ⟨g, j, none⟩ by unfold Addr.add; split <;> simp_all, this, List.getElem?_toArray]
    exact hu
  obtain ⟨A2, c2, w2, hrun, h2, h3, h4⟩ := run_append_reads (P := Try.prog) w base 49 o.type 114 i0 _ 130 144 Try.underlying49 hi hz0 hz1 hz2 (by kernel_rfl) (by omega) A l.length c (rwsC l) hown w.heap.size _ 1 1 (rwC y) hr (rwC_one y) (by simp only [maxLen]; omega) (by omega) hbase
  unfold Oper.wp
  simp only [execOp, ho, resolve, invoke, builtin, Sem.run_bind, Sem.run_pure, Result.andThen_ok, List.map_toArray, List.map_cons, List.map_nil, hs, hx, hrun]
  refine h _ _ _ ?_ ⟨h3, h4.imp id fun h => ⟨_, h, Nat.le_refl _, (h2.lt _ (by cases A2 <;> simp_all [Value.ownBlock])).2⟩⟩
  rw [RWs, rwsC_snoc, List.length_append]
  exact h2
end Go.Proofs.Ytmjdfajdompkeaa
