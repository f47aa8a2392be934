/- disk: what Write needs. -/
import Derived.Test.YtmjdfajdompkeaaDb
import Derived.Test.YtmjdfajdompkeaaBarb
namespace Go.Proofs.Ytmjdfajdompkeaa
open Go.RowKit Go.Rat
/-- A disk has moved on: its own blocks alone have turned, others of its own may have come. -/
structure Moved (w w' : World) (l l' : DL) : Prop where
  g : (l'.g, l'.gs, l'.gn) = (l.g, l.gs, l.gn)
  chg : Chg l.fp w w'
  fp : ∀ x, l'.fp x → l.fp x ∨ w.heap.size ≤ x
theorem Moved.refl (w : World) (l : DL) : Moved w w l l := ⟨rfl, Chg.refl _ _, fun _ h => .inl h⟩
theorem Moved.trans {a b c : World} {l m n : DL} (h : Moved a b l m) (k : Moved b c m n) : Moved a c l n :=
  ⟨k.g.trans h.g, h.chg.trans k.chg h.fp, fun x hx => by
    rcases k.fp x hx with h1 | h1
    · exact h.fp x h1
    · exact .inr (Nat.le_trans h.chg.size h1)⟩
theorem Moved.of_below {w w' : World} {l : DL} (h : Below w.heap.size w w') : Moved w w' l l := ⟨rfl, Chg.of_below _ h, fun _ h => .inl h⟩
theorem Moved.of_grown {w w' : World} {l : DL} (h : w.grownBy w' (some l.g)) : Moved w w' l l := ⟨rfl, Chg.of_grown h (.inl rfl), fun _ h => .inl h⟩
def putD (d : DS) (a : Int) (b : List UInt8) : DS := { d with now := fun x => if x = a then ⟨b, false⟩ else d.now x, loose := d.loose ++ [(a, b)] }
def writeD (d : DS) (a : Int) (b : List UInt8) : DS := if readyE d.off a = 0 then burnD (putD d a b) else d
def writeE (d : DS) (a : Int) : Int := if readyE d.off a = 0 then (if burnB d = true then 8 else 0) else readyE d.off a
theorem putD_ok {d : DS} (h : DOk d) {a : Int} (ha : 0 ≤ a ∧ a < 32768) {b : List UInt8} (hb : b.length = 128) : DOk (putD d a b) :=
  ⟨h.sure, fun x => by
    show (if x = a then (⟨b, false⟩ : Sec) else d.now x).b.length = 128
    split
    · exact hb
    · exact h.now x, fun x hx => by
    rcases List.mem_append.1 hx with h1 | h1
    · exact h.loose x h1
    · obtain rfl : x = (a, b) := by simpa using h1
      exact ⟨ha, hb⟩, h.fuse⟩
theorem readyE_zero {off : Bool} {a : Int} (h : readyE off a = 0) : off = false ∧ 0 ≤ a ∧ a < 32768 := by
  cases off
  · refine ⟨rfl, ?_⟩
    by_cases h2 : 0 ≤ a ∧ a < 32768
    · exact h2
    · rw [readyE_bad h2] at h
      cases h
  · rw [readyE_off] at h
    cases h
theorem wp_mapStore {P : Program} {w : World} {o : Oper} {a : Act} {K : Act → World → Prop} {Q : Exit → Act → World → Prop} {z : Value} {b : Nat} {f : Int → Value} {t k e : TypeId} (m x v : Operand) (ho : o.op = .mapUpdate t m x v)
    (h : MapV z w b f) (hk : P.underlying k = some (.int .i64)) (ht : P.underlying t = some (.map k e)) (i : Int) (hi : (Lit.int .i64 i).wf = true) (val : Value)
    (hm : a.eval m = .map (some b)) (hx : a.eval x = .int .i64 i) (hv : a.eval v = val)
    (hK : ∀ w', MapV z w' b (fun q => if q = i then val else f q) → w.grownBy w' (some b) → K (a.put o.dst undef) w') : o.wp P a w K Q := by
  obtain ⟨w', hrun, h1, h2⟩ := h.store (P := P) hk ht i hi val
  unfold Oper.wp
  simp only [execOp, ho, hm, hx, hv, Sem.run_bind, Sem.run_pure, Result.andThen_ok, hrun]
  exact hK w' h1 h2
theorem foldl_put (xs : List Value) : ∀ (o k : Nat) (L : List Value), o + k + xs.length ≤ L.length →
    List.foldl (fun (cs : Array Value) (x : Value × Nat) => cs.setIfInBounds (o + x.2) x.1) L.toArray (xs.zipIdx k) = (L.take (o + k) ++ xs ++ L.drop (o + k + xs.length)).toArray := by
  induction xs with
  | nil => intro o k L _; simp
  | cons x xs ih =>
    intro o k L h
    simp only [List.length_cons] at h
    rw [List.zipIdx_cons, List.foldl_cons, List.setIfInBounds_toArray, ih o (k + 1) (L.set (o + k) x) (by rw [List.length_set]; omega)]
    congr 1
    have e1 : (L.set (o + k) x).take (o + (k + 1)) = L.take (o + k) ++ [x] := by
      rw [show o + (k + 1) = o + k + 1 by omega, List.take_add_one, List.take_set_of_le (Nat.le_refl _), List.getElem?_set_self (by omega)]
      rfl
    rw [e1, List.drop_set_of_lt (by omega), show o + (k + 1) + xs.length = o + k + (x :: xs).length by simp; omega]
    simp
theorem foldl_put0 (xs : List Value) (L : List Value) (h : xs.length ≤ L.length) :
    List.foldl (fun (cs : Array Value) (x : Value × Nat) => cs.setIfInBounds x.2 x.1) L.toArray xs.zipIdx = (xs ++ L.drop xs.length).toArray := by
  have := foldl_put xs 0 0 L (by omega)
  simpa using this
theorem foldl_full (xs : List Value) (Z : Array Value) (h : Z.size = xs.length) : List.foldl (fun (cs : Array Value) (x : Value × Nat) => cs.setIfInBounds x.2 x.1) Z xs.zipIdx = xs.toArray := by
  have := foldl_put0 xs Z.toList (by simp [h])
  rw [List.drop_of_length_le (by simp [h]), List.append_nil] at this
  simpa using this
theorem zc129 : Try.zeroCells110 = (secL zsec).toArray := by kernel_rfl
theorem zw129 : Try.zeroCells112 = (.int .i64 0 :: bvs zs).toArray := by kernel_rfl
theorem sec_fold (b : List UInt8) (hb : b.length = 128) : List.foldl (fun (cs : Array Value) (x : Value × Nat) => cs.setIfInBounds x.2 x.1) Try.zeroCells110 (bvs b).zipIdx = (secL ⟨b, false⟩).toArray := by
  rw [zc129, foldl_put0 _ _ (by rw [bvs_length, hb, secL_length zs_length]; omega)]
  congr 1
  rw [secL, secL, bvs_length, hb]
  congr 1
theorem build_sec {w : World} {ρ : Operand → Value} {d : Option Tmp} {x : Operand} {t : TypeId} {p : String} {af : Array Edge} {gd : Option (Nat × Bool)} (b : List UInt8) (hb : b.length = 128) (hx : ρ x = .agg (bvs b).toArray) :
    (execOp ρ { dst := d, op := .build 110 #[(0, x)], type := t, pos := p, after := af, guard := gd }).run Try.prog w = .ok (.value (.agg (secL ⟨b, false⟩).toArray)) w := by
  have hf := sec_fold b hb
  have hl : (bvs b).length = 128 := by rw [bvs_length, hb]
  go_simp
theorem build_wr {w : World} {ρ : Operand → Value} {d : Option Tmp} {x y : Operand} {t : TypeId} {p : String} {af : Array Edge} {gd : Option (Nat × Bool)} (i : Int) (b : List UInt8) (hb : b.length = 128) (hx : ρ x = .int .i64 i) (hy : ρ y = .agg (bvs b).toArray) :
    (execOp ρ { dst := d, op := .build 112 #[(0, x), (1, y)], type := t, pos := p, after := af, guard := gd }).run Try.prog w = .ok (.value (.agg (.int .i64 i :: bvs b).toArray)) w := by
  have hl : (bvs b).length = 128 := by rw [bvs_length, hb]
  have hz : Try.zeroCells112 = (.int .i64 0 :: bvs zs).toArray := zw129
  have hlz : (bvs zs).length = 128 := by rw [bvs_length, zs_length]
  have hf : List.foldl (fun (cs : Array Value) (x : Value × Nat) => cs.setIfInBounds (1 + x.2) x.1) (.int .i64 i :: bvs zs).toArray (bvs b).zipIdx = (.int .i64 i :: bvs b).toArray := by
    rw [show (bvs b).zipIdx = (bvs b).zipIdx 0 from rfl, foldl_put _ 1 0 _ (by rw [List.length_cons, hlz, hl]; omega)]
    congr 1
    rw [List.drop_of_length_le (by rw [List.length_cons, hlz, hl]; omega)]
    simp
  go_simp
theorem buildS_wr {w : World} {ρ : Operand → Value} {d : Option Tmp} {x : Operand} {t : TypeId} {p : String} {af : Array Edge} {gd : Option (Nat × Bool)} (i : Int) (b : List UInt8) (hb : b.length = 128) (hx : ρ x = .agg (.int .i64 i :: bvs b).toArray) :
    (execOp ρ { dst := d, op := .buildSlice 105 1 #[(0, x)], type := t, pos := p, after := af, guard := gd }).run Try.prog w = .ok (.value (.slice (some ⟨w.heap.size, 0, none⟩) 1 1)) (w.alloc (.cells (.int .i64 i :: bvs b).toArray 112)) := by
  have hl : (bvs b).length = 128 := by rw [bvs_length, hb]
  obtain ⟨L, hL⟩ : ∃ L : List Value, .int .i64 i :: bvs b = L := ⟨_, rfl⟩
  have hLl : L.length = 129 := by rw [← hL, List.length_cons, hl]
  rw [hL] at hx ⊢
  clear hL
  go_simp
  exact congrArg (fun c => w.alloc (.cells c 112)) (foldl_full L _ (by rw [hLl]; rfl))
theorem winfo : (Try.prog.info? 112).map (fun i => (i.zero, i.size, i.bytes)) = some (some (.agg Try.zeroCells112), 129, 136) := by kernel_rfl
theorem wp_appW {w : World} {o : Oper} {a : Act} {K : Act → World → Prop} {Q : Exit → Act → World → Prop} (s x : Operand)
    (ho : o.op = .call { callee := .builtin .append, args := #[s, x], argTypes := #[105, 105] })
    (base : Nat) (A : Option Addr) (n c : Nat) (xs : List Value) (hs : a.eval s = .slice A n c) (hown : w.ownsRow base 112 129 (.slice A n c) n xs)
    (i : Int) (b : List UInt8) (hb : b.length = 128) (g : Nat) (hx : a.eval x = .slice (some ⟨g, 0, none⟩) 1 1) (hB : Blk w g 112 (.int .i64 i :: bvs b).toArray) (hn : n < 1000000000) (hbase : base ≤ w.heap.size)
    (h : ∀ A2 c2 w2, w2.ownsRow base 112 129 (.slice A2 (n + 1) c2) (n + 1) (xs ++ .int .i64 i :: bvs b) → Grew w w2 A A2 → K (a.put o.dst (.slice A2 (n + 1) c2)) w2) :
    o.wp Try.prog a w K Q := by
  obtain ⟨i0, hi, hz0, hz1, hz2⟩ := info_parts winfo
  have hr : Reads w w.heap.size 129 (some ⟨g, 0, none⟩) 1 (.int .i64 i :: bvs b) := by
    refine ⟨by rw [List.length_cons, bvs_length, hb], fun _ => ⟨_, rfl, hB.lt, fun j u hu => ?_⟩⟩
    have := hB.cell j
    rw [show (⟨g, 0, none⟩ : Addr).add j = ⟨g, j, none⟩ by unfold Addr.add; split <;> simp_all, this, List.getElem?_toArray]
    exact hu
  obtain ⟨A2, c2, w2, hrun, h2, h3, h4⟩ := run_append_reads (P := Try.prog) w base 105 o.type 112 i0 _ 129 136 Try.underlying105 hi hz0 hz1 hz2 (by kernel_rfl) (by omega) A n c xs hown w.heap.size _ 1 1 (.int .i64 i :: bvs b) hr (by
    intro u hu
    rcases List.mem_cons.1 hu with rfl | hu
    · rfl
    · exact bvs_one _ u hu) (by simp only [maxLen]; omega) (by omega) hbase
  unfold Oper.wp
  simp only [execOp, ho, resolve, invoke, builtin, Sem.run_bind, Sem.run_pure, Result.andThen_ok, List.map_toArray, List.map_cons, List.map_nil, hs, hx, hrun]
  exact h _ _ _ h2 ⟨h3, h4.imp id fun h => ⟨_, h, Nat.le_refl _, (h2.lt _ (by cases A2 <;> simp_all [Value.ownBlock])).2⟩⟩
theorem wp_runO {P : Program} {w w' : World} {o : Oper} {a : Act} {K : Act → World → Prop} {Q : Exit → Act → World → Prop} (v : Value) (hr : (execOp a.eval o).run P w = .ok (.value v) w') (h : K (a.put o.dst v) w') : o.wp P a w K Q := by
  unfold Oper.wp
  rw [hr]
  exact h
/-- A disk whose block holds another row of loose writes. -/
theorem DiskAt.put {w : World} {base : Nat} {l : DL} {d : DS} {f : Int → Value} {A2 : Option Addr} {c2 : Nat} {a : Int} {b : List UInt8}
    (hB : Blk w l.g 107 #[.map (some l.gs), .map (some l.gn), .slice A2 (d.loose.length + 1) c2, .bool d.off, .int .i64 d.fuse])
    (hS : MapV (secV zsec) w l.gs (fun a => secV (d.sure a))) (hM : MapV (secV zsec) w l.gn f) (hf : ∀ q, f q = secV ((putD d a b).now q))
    (hR : w.ownsRow base 112 129 (.slice A2 (d.loose.length + 1) c2) (d.loose.length + 1) (looseC d.loose ++ .int .i64 a :: bvs b))
    (ne1 : l.g ≠ l.gs) (ne2 : l.g ≠ l.gn) (ne3 : l.gs ≠ l.gn) (rg : A2.map (·.block) ≠ some l.g) (rs : A2.map (·.block) ≠ some l.gs) (rn : A2.map (·.block) ≠ some l.gn) (bg : base ≤ l.g) (bs : base ≤ l.gs) (bn : base ≤ l.gn) (ok : DOk (putD d a b)) :
    DiskAt w base { l with A := A2, c := c2 } (putD d a b) := by
  have hlen : (putD d a b).loose.length = d.loose.length + 1 := by simp [putD]
  have hlc : looseC (putD d a b).loose = looseC d.loose ++ .int .i64 a :: bvs b := by simp [putD, looseC]
  exact ⟨by rw [hlen]; exact hB, hS, hM.ext hf, by rw [hlen, hlc]; exact hR, ne1, ne2, ne3, rg, rs, rn, bg, bs, bn, ok⟩
end Go.Proofs.Ytmjdfajdompkeaa
