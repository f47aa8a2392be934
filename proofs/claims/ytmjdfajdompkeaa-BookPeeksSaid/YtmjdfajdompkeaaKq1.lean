/- Merged. -/
import Derived.WalkKit
import Derived.WalkSpells
import Derived.WalkLawsBesides
import Derived.Maps.AppendAt
import Derived.Deep.AppendLies
import Derived.Deep.Draws
import Derived.Lib.Hide
import Derived.Laws.Tables
import Derived.Maps.OwnOps
import Derived.Deep.MidRow
import Derived.Test.YtmjdfajdompkeaaRows
import Derived.Lib.AppendStr
import Derived.Laws.CopyOwn
import Derived.ChangeKeysEq
import Derived.Laws.StructEq
namespace Go.Rat
open Go.RowKit Go

theorem block_of_add (a : Addr) (n : Nat) : (a.add n).block = a.block := by unfold Addr.add; split <;> rfl
theorem add_of_add (a : Addr) (i j : Nat) : (a.add i).add j = a.add (i + j) := by
  unfold Addr.add
  by_cases hi : i = 0 <;> by_cases hj : j = 0 <;> simp [hi, hj, Nat.add_assoc]
theorem add_zero_addr (a : Addr) : a.add 0 = a := by unfold Addr.add; simp

/-- The slice address A reads the cells xs (n elements, size cells each), in a block below B. -/
def Reads (w : World) (B size : Nat) (A : Option Addr) (n : Nat) (xs : List Value) : Prop :=
  xs.length = n * size ∧ (0 < n → ∃ ad, A = some ad ∧ ad.block < B ∧ ∀ j u, xs[j]? = some u → w.cell? (ad.add j) = some u)

section
variable {w w' : World} {B B' size n : Nat} {A : Option Addr} {xs : List Value}
theorem Reads.none_ : Reads w B size A 0 [] := ⟨by simp, fun h => absurd h (by omega)⟩
theorem Reads.keep (h : Reads w B size A n xs) (hk : ∀ p : Addr, p.block < B → w'.cell? p = w.cell? p) : Reads w' B size A n xs :=
  ⟨h.1, fun hn => by
    obtain ⟨ad, e, hb, hc⟩ := h.2 hn
    exact ⟨ad, e, hb, fun j u hu => (hk _ (by rw [block_of_add]; exact hb)).trans (hc j u hu)⟩⟩
theorem Reads.more (h : Reads w B size A n xs) (hB : B ≤ B') : Reads w B' size A n xs :=
  ⟨h.1, fun hn => by
    obtain ⟨ad, e, hb, hc⟩ := h.2 hn
    exact ⟨ad, e, by omega, hc⟩⟩
theorem Reads.below (h : Reads w B size A n xs) (hb : Below B w w') : Reads w' B size A n xs := h.keep fun _ hp => hb.cell hp
theorem Reads.cut (h : Reads w B size A n xs) {k cap : Nat} (hk : k ≤ n) (hc : n ≤ cap) :
    Reads w B size (if cap = k then A else A.map (·.add (k * size))) (n - k) (xs.drop (k * size)) := by
  refine ⟨by rw [List.length_drop, h.1, Nat.sub_mul], fun hn => ?_⟩
  obtain ⟨ad, rfl, hb, hcell⟩ := h.2 (by omega)
  rw [if_neg (by omega)]
  refine ⟨ad.add (k * size), rfl, by rw [block_of_add]; exact hb, fun j u hu => ?_⟩
  rw [add_of_add]
  exact hcell _ u (by rw [← hu, List.getElem?_drop])
theorem Reads.take_ (h : Reads w B size A n xs) {k : Nat} (hk : k ≤ n) : Reads w B size A k (xs.take (k * size)) := by
  refine ⟨by rw [List.length_take, h.1]; exact Nat.min_eq_left (Nat.mul_le_mul_right _ hk), fun hn => ?_⟩
  obtain ⟨ad, rfl, hb, hcell⟩ := h.2 (by omega)
  refine ⟨ad, rfl, hb, fun j u hu => hcell j u ?_⟩
  rw [List.getElem?_take] at hu
  split at hu
  · exact hu
  · cases hu
theorem Reads.of_own {base : Nat} {e : TypeId} {c : Nat} (h : w.ownsRow base e size (.slice A n c) n xs) : Reads w w.heap.size size A n xs := by
  refine ⟨h.1, fun hn => ?_⟩
  obtain ⟨g, cap, hv, _, hlt⟩ := h.form hn
  have hA : A = some ⟨g, 0, none⟩ := by injection hv
  subst hA
  exact ⟨_, rfl, hlt, h.cells (g := g) rfl⟩
end

def bv (x : UInt8) : Value := .int .u8 (x.toNat : Int)
def bvs (xs : List UInt8) : List Value := xs.map bv
def ub (k : Int) : UInt8 := UInt8.ofNat k.toNat
theorem bv_ub {k : Int} (h0 : 0 ≤ k) (h1 : k < 256) : bv (ub k) = .int .u8 k := by
  unfold bv ub
  congr 1
  have : (UInt8.ofNat k.toNat).toNat = k.toNat := by rw [UInt8.toNat_ofNat']; omega
  omega
theorem bvs_append (xs ys : List UInt8) : bvs (xs ++ ys) = bvs xs ++ bvs ys := by simp [bvs]
theorem bvs_length (xs : List UInt8) : (bvs xs).length = xs.length := by simp [bvs]
theorem bv_one (x : UInt8) : (bv x).oneCell' = true := rfl
theorem bvs_one (xs : List UInt8) : ∀ u ∈ bvs xs, u.oneCell' = true := by
  intro u hu
  simp only [bvs, List.mem_map] at hu
  obtain ⟨x, _, rfl⟩ := hu
  rfl

/-- A []byte that reads xs. -/
def RB (w : World) (A : Option Addr) (n : Nat) (xs : List UInt8) : Prop := Reads w w.heap.size 1 A n (bvs xs)
/-- A []byte of the call's own (its block is base or behind it). -/
def OB (e : TypeId) (w : World) (base : Nat) (A : Option Addr) (n c : Nat) (xs : List UInt8) : Prop := w.ownsRow base e 1 (.slice A n c) n (bvs xs)

/-- From w to w2: new blocks; of the old ones only that of A (if any) may have turned; A2 lies where A lay, or in a new block. -/
structure Grew (w w2 : World) (A A2 : Option Addr) : Prop where
  grown : w.grownBy w2 (A.map (·.block))
  lies : A2.map (·.block) = A.map (·.block) ∨ (∃ g, A2.map (·.block) = some g ∧ w.heap.size ≤ g ∧ g < w2.heap.size)

section
variable {w w' : World} {B B' base n c : Nat} {A A2 : Option Addr} {xs : List UInt8} {e : TypeId}
theorem RB.len (h : RB w A n xs) : xs.length = n := by have := h.1; simpa [bvs_length] using this
theorem RB.at_ {k : Nat} (h : RB w A n xs) (hk : k < n) : ∃ ad, A = some ad ∧ ad.block < w.heap.size ∧ w.cell? (ad.add k) = some (.int .u8 ((xs.getD k 0).toNat : Int)) := by
  obtain ⟨ad, e, hb, hc⟩ := h.2 (by omega)
  have hl : k < xs.length := by have := RB.len h; omega
  refine ⟨ad, e, hb, hc k _ ?_⟩
  unfold bvs
  rw [List.getElem?_map, List.getElem?_eq_getElem hl, List.getD_eq_getElem?_getD, List.getElem?_eq_getElem hl]
  rfl
theorem RB.nil0 (h : RB w none n xs) : n = 0 := by
  rcases Nat.eq_zero_or_pos n with h0 | h0
  · exact h0
  · obtain ⟨ad, h, _⟩ := h.2 h0
    cases h
theorem OB.len (h : OB e w base A n c xs) : xs.length = n := by have := h.1; simpa [bvs_length] using this
theorem OB.reads (h : OB e w base A n c xs) : RB w A n xs := Reads.of_own h
theorem OB.ge (h : OB e w base A n c xs) : ∀ g, A.map (·.block) = some g → base ≤ g ∧ g < w.heap.size := by
  intro g hg
  refine World.ownsRow.lt h g ?_
  cases A <;> simp_all [Value.ownBlock]
theorem RB.below (h : RB w A n xs) (hb : Below w.heap.size w w') : RB w' A n xs := (Reads.below h hb).more hb.size
theorem RB.grown {row : Option Nat} (h : RB w A n xs) (hg : w.grownBy w' row) (hne : A.map (·.block) ≠ row ∨ row = none) : RB w' A n xs := by
  refine ⟨h.1, fun hn => ?_⟩
  obtain ⟨ad, rfl, hb, hc⟩ := h.2 hn
  refine ⟨ad, rfl, Nat.lt_of_lt_of_le hb hg.size, fun j u hu => ?_⟩
  rw [World.cell?_of_block (hg.block _ (by rw [block_of_add]; exact hb) (by rw [block_of_add]; rcases hne with h | h <;> simp_all))]
  exact hc j u hu
theorem OB.grown {row : Option Nat} (h : OB e w base A n c xs) (hg : w.grownBy w' row) (hne : A.map (·.block) ≠ row ∨ row = none) : OB e w' base A n c xs :=
  World.ownsRow.kept h hg (by rcases hne with hne | rfl <;> cases A <;> simp_all [Value.ownBlock])
theorem own_cap {size : Nat} {ys : List Value} (h : w.ownsRow base e size (.slice A n c) n ys) : n ≤ c ∧ c ≤ 9223372036854775807 := by
  rcases h.2 with ⟨h, h2⟩ | ⟨g, cap, cur, h, _, _, hnc, hm, _⟩
  · injection h with h3 h4 h5
    omega
  · injection h with h3 h4 h5
    simp only [maxLen] at hm
    omega
theorem own_shorter {size k : Nat} {ys : List Value} (h : w.ownsRow base e size (.slice A n c) n ys) (hk : k ≤ n) : w.ownsRow base e size (.slice A k c) k (ys.take (k * size)) := by
  obtain ⟨h1, h2⟩ := h
  have hks : k * size ≤ n * size := Nat.mul_le_mul_right _ hk
  refine ⟨by rw [List.length_take, h1]; exact Nat.min_eq_left hks, ?_⟩
  rcases h2 with ⟨h, h2⟩ | ⟨g, cap, cur, h, hb, hg, hnc, hm, hcs, ht⟩
  · injection h with h3 h4 h5
    obtain rfl : k = 0 := by omega
    subst h3 h5
    exact .inl ⟨rfl, rfl⟩
  · injection h with h3 h4 h5
    subst h3 h5
    refine .inr ⟨g, c, cur, rfl, hb, hg, by omega, hm, hcs, ?_⟩
    rw [← ht, List.take_take, Nat.min_eq_left hks]
theorem own_full {size : Nat} {ys : List Value} (h : w.ownsRow base e size (.slice A n c) n ys) : ∃ zs, w.ownsRow base e size (.slice A c c) c zs ∧ zs.take (n * size) = ys := by
  obtain ⟨h1, h2⟩ := h
  rcases h2 with ⟨h, h2⟩ | ⟨g, cap, cur, h, hb, hg, hnc, hm, hcs, ht⟩
  · injection h with h3 h4 h5
    subst h2 h3 h5
    exact ⟨[], ⟨by simp, .inl ⟨rfl, rfl⟩⟩, by have h0 : ys = [] := List.eq_nil_of_length_eq_zero (by simpa using h1); subst h0; simp⟩
  · injection h with h3 h4 h5
    subst h3 h5
    exact ⟨cur.toList, ⟨by simpa using hcs, .inr ⟨g, c, cur, rfl, hb, hg, Nat.le_refl _, hm, hcs, List.take_of_length_le (by simp [hcs])⟩⟩, ht⟩
theorem OB.cap (h : OB e w base A n c xs) : n ≤ c ∧ c ≤ 9223372036854775807 := own_cap h
theorem OB.empty (w : World) (e : TypeId) : OB e (w.alloc (.cells #[] e)) w.heap.size (some ⟨w.heap.size, 0, none⟩) 0 0 [] :=
  World.ownsRow_made w #[] 0 (Nat.le_refl _) (by simp [maxLen]) (by simp)
theorem OB.nil_ (w : World) (e : TypeId) (base : Nat) : OB e w base none 0 0 [] := World.ownsRow_nil _ _ _ _
theorem OB.mono (h : OB e w base A n c xs) (hb : B ≤ base) : OB e w B A n c xs := by
  obtain ⟨h1, h2⟩ := h
  refine ⟨h1, ?_⟩
  rcases h2 with h2 | ⟨g, cap, cur, hv, hg, r⟩
  · exact .inl h2
  · exact .inr ⟨g, cap, cur, hv, by omega, r⟩
theorem RB.one (w : World) (e : TypeId) (x : UInt8) : RB (w.alloc (.cells #[bv x] e)) (some ⟨w.heap.size, 0, none⟩) 1 [x] :=
  ⟨by simp [bvs], fun _ => ⟨_, rfl, by simp, cell_one_new w (bv x) e⟩⟩
theorem RB.one_ (w : World) (e : TypeId) {v : Value} {x : UInt8} (h : v = bv x) : RB (w.alloc (.cells #[v] e)) (some ⟨w.heap.size, 0, none⟩) 1 [x] := by
  subst h; exact RB.one w e x
theorem OB.alloc (h : OB e w base A n c xs) (o : Obj) : OB e (w.alloc o) base A n c xs := h.grown (World.grownBy_alloc w o none) (.inr rfl)
theorem RB.alloc (h : RB w A n xs) (o : Obj) : RB (w.alloc o) A n xs := h.grown (World.grownBy_alloc w o none) (.inr rfl)
theorem below_alloc2 {a : World} (h : Below B a w) (hB : B ≤ a.heap.size) (o : Obj) : Below B a (w.alloc o) := h.alloc (Nat.le_trans hB h.size) o
/-- .. where the row lies from the base on. -/
theorem Grew.own {a : World} {m k : Nat} {ys : List UInt8} (h : Grew w w' A A2) (hb : Below B a w) (hB : B ≤ a.heap.size) (ho : OB e w B A m k ys) : Below B a w' :=
  hb.grown h.grown (Nat.le_trans hB hb.size) (fun g hg => (ho.ge g hg).1)
theorem RB.nil_ (w : World) (A : Option Addr) : RB w A 0 [] := ⟨by simp [bvs], fun h => absurd h (by omega)⟩
theorem Grew.below {a : World} (h : Grew w w' A A2) (hb : Below B a w) (hB : B ≤ w.heap.size) (hA : ∀ g, A.map (·.block) = some g → B ≤ g) : Below B a w' :=
  hb.grown h.grown hB hA
theorem below_alloc (w : World) (o : Obj) : Below w.heap.size w (w.alloc o) := (Below.refl _ _).alloc (Nat.le_refl _) o
end

section
variable {P : Program} {w : World}
theorem reads_split {B m : Nat} {A : Option Addr} {news : List Value} {size : Nat} (hr : Reads w B size A m news) :
    (m = 0 ∧ news = []) ∨ ∃ ad, A = some ad ∧ ∀ j u, news[j]? = some u → w.cell? (ad.add j) = some u := by
  rcases Nat.eq_zero_or_pos m with h0 | h0
  · subst h0
    exact .inl ⟨rfl, List.eq_nil_of_length_eq_zero (by simpa using hr.1)⟩
  · obtain ⟨ad, h, _, hc⟩ := hr.2 h0
    exact .inr ⟨ad, h, hc⟩

/-- append onto a row of the call's own; the source is a slice, nil or not. -/
theorem run_append_reads (w : World) (base : Nat) (t ty e : TypeId) (i : TypeInfo) (z : Value) (size bytes : Nat) (ht : P.underlying t = some (.slice e)) (hi : P.info? e = some i) (hz : i.zero = some z)
    (hsize : i.size = size) (hby : i.bytes = bytes) (hzs : z.cells.size = size) (hsz : 0 < size)
    (A : Option Addr) (n c : Nat) (xs : List Value) (hown : w.ownsRow base e size (.slice A n c) n xs)
    (B : Nat) (A' : Option Addr) (m c' : Nat) (news : List Value) (hr : Reads w B size A' m news) (h1 : ∀ u ∈ news, u.oneCell' = true)
    (h63 : n + m ≤ maxLen) (hbytes : (n + m) * bytes ≤ 140737488355328) (hbase : base ≤ w.heap.size) :
    ∃ A2 c2 w2, (Builtin.append_ #[t, t] ty #[.slice A n c, .slice A' m c']).run P w = .ok (.slice A2 (n + m) c2) w2 ∧ w2.ownsRow base e size (.slice A2 (n + m) c2) (n + m) (xs ++ news) ∧
      w.grownBy w2 (A.map (·.block)) ∧ (A2.map (·.block) = A.map (·.block) ∨ A2.map (·.block) = some w.heap.size) := by
  have hob : ∀ (A : Option Addr) (n c : Nat), (Value.slice A n c).ownBlock = A.map (·.block) := by intro A _ _; cases A <;> rfl
  rcases reads_split hr with ⟨rfl, rfl⟩ | ⟨ad, rfl, hc⟩
  · refine ⟨A, c, w, ?_, by simpa using hown, World.grownBy.refl w _, .inl rfl⟩
    rcases hown.2 with ⟨h, h2⟩ | ⟨g, cap, cur, h, _, _, hnc, _⟩
    · injection h with h3 h4 h5
      subst h3 h4 h5
      cases A' <;> simp [Builtin.append_, run_underlying ht, sizeOf, typeInfo, hi, Builtin.lenOf, Builtin.firstCells, loadCells, loadCellsFrom]
    · injection h with h3 h4 h5
      subst h3 h5
      cases A' <;> simp [Builtin.append_, run_underlying ht, sizeOf, typeInfo, hi, Builtin.lenOf, Builtin.firstCells, hnc, storeCells, loadCells, loadCellsFrom]
  · obtain ⟨v', w', hrun, h2, h3, _, h5⟩ := run_append_own_at (P := P) w base t ty e i z size bytes ht hi hz hsize hby hzs hsz _ n xs hown ad m c' news hr.1 hc h1 h63 hbytes hbase
    rw [hob] at h3 h5
    have hv : ∃ A2 c2, v' = .slice A2 (n + m) c2 := by
      rcases h2.2 with ⟨h, h'⟩ | ⟨g, cap, cur, h, _⟩
      · exact ⟨none, 0, by rw [h, h']⟩
      · exact ⟨_, _, h⟩
    obtain ⟨A2, c2, rfl⟩ := hv
    rw [hob] at h5
    exact ⟨A2, c2, w', hrun, h2, h3, h5⟩

theorem wpl_append {ops : Array Oper} {rest : List Oper} {o : Oper} {a : Act} {Q : Exit → Act → World → Prop} (hgd : o.guard = none) (s x : Operand) (t : TypeId)
    (ho : o.op = .call { callee := .builtin .append, args := #[s, x], argTypes := #[t, t] })
    (base : Nat) (e : TypeId) (i : TypeInfo) (z : Value) (size bytes : Nat) (ht : P.underlying t = some (.slice e)) (hi : P.info? e = some i) (hz : i.zero = some z)
    (hsize : i.size = size) (hby : i.bytes = bytes) (hzs : z.cells.size = size) (hsz : 0 < size)
    (A : Option Addr) (n c : Nat) (xs : List Value) (hs : a.eval s = .slice A n c) (hown : w.ownsRow base e size (.slice A n c) n xs)
    (A' : Option Addr) (m c' : Nat) (news : List Value) (hx : a.eval x = .slice A' m c') (hr : ∃ B, Reads w B size A' m news) (h1 : ∀ u ∈ news, u.oneCell' = true)
    (h63 : n + m ≤ maxLen) (hbytes : (n + m) * bytes ≤ 140737488355328) (hbase : base ≤ w.heap.size)
    (h : ∀ A2 N2 c2 w2, N2 ≤ c2 → c2 ≤ 9223372036854775807 → w2.ownsRow base e size (.slice A2 N2 c2) N2 (xs ++ news) → Grew w w2 A A2 → wpList P ops Q rest (a.put o.dst (.slice A2 N2 c2)) w2) :
    wpList P ops Q (o :: rest) a w := by
  obtain ⟨B, hr⟩ := hr
  refine wpList_plain hgd fun K hK => ?_
  obtain ⟨A2, c2, w2, hrun, h2, h3, h4⟩ := run_append_reads (P := P) w base t o.type e i z size bytes ht hi hz hsize hby hzs hsz A n c xs hown B A' m c' news hr h1 h63 hbytes hbase
  unfold Oper.wp execOp
  simp only [ho, resolve, invoke, builtin, Sem.run_bind, Sem.run_pure, Result.andThen_ok, List.map_toArray, List.map_cons, List.map_nil, hs, hx, hrun]
  exact hK _ _ (h _ _ _ _ (own_cap h2).1 (own_cap h2).2 h2 ⟨h3, h4.imp id fun h => ⟨_, h, Nat.le_refl _, (h2.lt _ (by cases A2 <;> simp_all [Value.ownBlock])).2⟩⟩)

/-- 'append(s[:cap(s)], make([]T, k)...)': a new row: what was there, noughts behind it. -/
theorem run_append_zeros (w : World) (base : Nat) (t ti ty e : TypeId) (i : TypeInfo) (z : Value) (bytes : Nat) (ht : P.underlying t = some (.slice e)) (hti : ∃ k, P.underlying ti = some (.int k)) (hi : P.info? e = some i) (hz : i.zero = some z)
    (hsize : i.size = 1) (hby : i.bytes = bytes) (hzs : z.cells = #[z])
    (A : Option Addr) (c : Nat) (xs : List Value) (hown : w.ownsRow base e 1 (.slice A c c) c xs)
    (k : Nat) (hk : 0 < k) (h63 : c + k ≤ maxLen) (hbytes : (c + k) * bytes ≤ 140737488355328) (hbase : base ≤ w.heap.size) :
    ∃ A2 c2 w2, (Builtin.append_ #[t, ti] ty #[.slice A c c, .int .i64 (k : Int)]).run P w = .ok (.slice A2 (c + k) c2) w2 ∧ w2.ownsRow base e 1 (.slice A2 (c + k) c2) (c + k) (xs ++ List.replicate k z) ∧
      w.grownBy w2 none ∧ (∃ g, A2.map (·.block) = some g ∧ w.heap.size ≤ g ∧ g < w2.heap.size) := by
  subst hby
  obtain ⟨ki, hti⟩ := hti
  have hsmall : c + k ≤ 9223372036854775807 := by simp only [maxLen] at h63; omega
  have hwk : IntKind.i64.wrap (k : Int) = (k : Int) := IntWalk.i64_in _ (by omega)
  have hkb : (k : Int) * (i.bytes : Int) ≤ 281474976710656 := by
    have : k * i.bytes ≤ (c + k) * i.bytes := Nat.mul_le_mul_right _ (by omega)
    have h2 : ((k * i.bytes : Nat) : Int) ≤ 140737488355328 := by omega
    rw [Int.natCast_mul] at h2; omega
  have hnext : Builtin.nextslicecap (c + k) c * i.bytes ≤ 281474976710656 := growslice_fits (by omega) hbytes
  have hr := Reads.of_own hown
  have hge := grownCap_ge w (c + k) c e
  have hcm : grownCap w (c + k) c e ≤ maxLen := grownCap_le_maxLen w (c + k) c e h63
  have hold : ∀ w' : World, w'.heap = w.heap → (Builtin.firstCells 1 c (.slice A c c)).run P w' = .ok xs.toArray w' := by
    intro w' hw'
    rcases reads_split hr with ⟨rfl, rfl⟩ | ⟨ad, rfl, hc⟩
    · cases A <;> simp [Builtin.firstCells, loadCells, loadCellsFrom]
    · exact run_firstCells_some (P := P) w' 1 c ad c c xs (by simpa using hown.1) (fun j u hu => by rw [← hc j u hu]; simp [World.cell?, hw'])
  have hkz : (Builtin.zeroCells #[z] k).toList = List.replicate k z := by
    refine List.ext_getElem (by simp [Builtin.zeroCells]) ?_
    intro j h1 h2
    simp [Builtin.zeroCells, Nat.mod_one]
  refine ⟨some ⟨w.heap.size, 0, none⟩, grownCap w (c + k) c e, w.drew.alloc (.cells (xs.toArray ++ Builtin.zeroCells #[z] k ++ Builtin.zeroCells #[z] (grownCap w (c + k) c e - (c + k))) e), ?_, ⟨?_, .inr ⟨w.heap.size, _, _, rfl, hbase, _root_.Go.heap_alloc_new w.drew _, hge, hcm, ?_, ?_⟩⟩, ⟨rfl, rfl, rfl, by simp, fun j hj _ => _root_.Go.heap_alloc_old w.drew _ hj⟩, ⟨w.heap.size, rfl, Nat.le_refl _, by simp⟩⟩
  · have hc1 : ¬ (c + k ≤ c) := by omega
    have hkz0 : k ≠ 0 := by omega
    have hh := hold w.drew rfl
    have h63' : ¬ (9223372036854775807 < ((c : Int) + (k : Int))) := by omega
    have h48' : ¬ (281474976710656 < Builtin.nextslicecap (c + k) c * i.bytes) := by omega
    have hneg : ¬ ((k : Int) < 0) := by omega
    have hbig : ¬ (281474976710656 < (k : Int) * (i.bytes : Int)) := by omega
    simp [Builtin.append_, run_underlying ht, run_underlying hti, sizeOf, typeInfo, zeroValue, hi, hz, hsize, asInt, asIntOf, hwk, hneg, hbig, hkz0, h63', h48', Question.forced, hh, newRow, grownCap, hzs]
    intro hcc; omega
  · have := hown.1; simp at this ⊢; omega
  · have := hown.1; simp at this; simp [Builtin.zeroCells]; omega
  · have := hown.1
    simp at this
    rw [Array.toList_append, Array.toList_append, hkz]
    rw [List.take_append_of_le_length (by simp; omega), List.take_of_length_le (by simp; omega)]

theorem wpl_append_zeros {ops : Array Oper} {rest : List Oper} {o : Oper} {a : Act} {Q : Exit → Act → World → Prop} (hgd : o.guard = none) (s x : Operand) (t ti : TypeId)
    (ho : o.op = .call { callee := .builtin .append, args := #[s, x], argTypes := #[t, ti] })
    (base : Nat) (e : TypeId) (i : TypeInfo) (z : Value) (bytes : Nat) (ht : P.underlying t = some (.slice e)) (hti : ∃ k, P.underlying ti = some (.int k)) (hi : P.info? e = some i) (hz : i.zero = some z)
    (hsize : i.size = 1) (hby : i.bytes = bytes) (hzs : z.cells = #[z])
    (A : Option Addr) (c : Nat) (xs : List Value) (hs : a.eval s = .slice A c c) (hown : w.ownsRow base e 1 (.slice A c c) c xs)
    (k : Int) (hx : a.eval x = .int .i64 k) (hk : 0 < k) (h63 : c + k.toNat ≤ maxLen) (hbytes : (c + k.toNat) * bytes ≤ 140737488355328) (hbase : base ≤ w.heap.size)
    (h : ∀ A2 N2 c2 w2, N2 ≤ c2 → c2 ≤ 9223372036854775807 → w2.ownsRow base e 1 (.slice A2 N2 c2) N2 (xs ++ List.replicate k.toNat z) → Grew w w2 none A2 → wpList P ops Q rest (a.put o.dst (.slice A2 N2 c2)) w2) :
    wpList P ops Q (o :: rest) a w := by
  refine wpList_plain hgd fun K hK => ?_
  obtain ⟨A2, c2, w2, hrun, h2, h3, h4⟩ := run_append_zeros (P := P) w base t ti o.type e i z bytes ht hti hi hz hsize hby hzs A c xs hown k.toNat (by omega) h63 hbytes hbase
  rw [Int.toNat_of_nonneg (by omega)] at hrun
  unfold Oper.wp execOp
  simp only [ho, resolve, invoke, builtin, Sem.run_bind, Sem.run_pure, Result.andThen_ok, List.map_toArray, List.map_cons, List.map_nil, hs, hx, hrun]
  obtain ⟨g, hg, hg2⟩ := h4
  refine hK _ _ (h _ _ _ _ (own_cap h2).1 (own_cap h2).2 h2 ⟨h3, .inr ⟨g, hg, hg2⟩⟩)
end

/-- Block g is just these cells, none frozen. -/
def Blk (w : World) (g : Nat) (t : TypeId) (cs : Array Value) : Prop := w.heap[g]? = some (.cells cs t (0, 0))
section
variable {w w' : World} {g : Nat} {t : TypeId} {cs : Array Value}
theorem Blk.lt (h : Blk w g t cs) : g < w.heap.size := by
  rcases Nat.lt_or_ge g w.heap.size with hlt | hge
  · exact hlt
  · unfold Blk at h; rw [Array.getElem?_eq_none hge] at h; cases h
theorem Blk.cell (h : Blk w g t cs) (i : Nat) : w.cell? ⟨g, i, none⟩ = cs[i]? := cell_of_row w g i cs t (0, 0) h
theorem Blk.frozen (h : Blk w g t cs) (i : Nat) : w.frozen? ⟨g, i, none⟩ = false := by
  unfold Blk at h
  simp [World.frozen?, h]
theorem Blk.new (w : World) (t : TypeId) (cs : Array Value) : Blk (w.alloc (.cells cs t)) w.heap.size t cs := _root_.Go.heap_alloc_new w _
theorem Blk.alloc (h : Blk w g t cs) (o : Obj) : Blk (w.alloc o) g t cs := (Below.heap_alloc w o g h.lt).trans h
theorem Blk.set_ (h : Blk w g t cs) (i : Nat) (u : Value) : Blk (w.setCell ⟨g, i, none⟩ u) g t (cs.setIfInBounds i u) := by
  unfold Blk at h ⊢
  simp [World.setCell, Array.getElem?_modify, h]
theorem Blk.far (h : Blk w g t cs) {p : Addr} (hp : g ≠ p.block) (u : Value) : Blk (w.setCell p u) g t cs := (Below.heap_setCell w p u g hp).trans h
theorem Blk.below {B : Nat} (h : Blk w g t cs) (hb : Below B w w') (hg : g < B) : Blk w' g t cs := (hb.block g hg).trans h
theorem Blk.grown {row : Option Nat} (h : Blk w g t cs) (hb : w.grownBy w' row) (hg : some g ≠ row) : Blk w' g t cs := (hb.block g h.lt hg).trans h
/-- Only block g has turned, and new ones have come. -/
theorem grownBy_set (w : World) (g i : Nat) (u : Value) : w.grownBy (w.setCell ⟨g, i, none⟩ u) (some g) :=
  ⟨rfl, rfl, rfl, by simp, fun k _ hne => Below.heap_setCell _ _ _ _ (fun e => hne (by rw [e]))⟩
theorem grown_drew {row : Option Nat} (h : w.drew.grownBy w' row) : w.grownBy w' row := ⟨h.os, h.tape, h.output, h.size, h.block⟩
theorem grown_drewN {row : Option Nat} {k : Nat} (h : (w.drewN k).grownBy w' row) : w.grownBy w' row := ⟨h.os, h.tape, h.output, h.size, h.block⟩
theorem grownBy_of_below (h : Below w.heap.size w w') (row : Option Nat) : w.grownBy w' row := ⟨h.os, h.tape, h.output, h.size, fun k hk _ => h.block k hk⟩
theorem below_of_grownBy {row : Option Nat} {B : Nat} (h : w.grownBy w' row) (hr : ∀ g, row = some g → B ≤ g) (hB : B ≤ w.heap.size) : Below B w w' := (Below.refl B w).grown h hB hr
end
theorem Blk.reads {w : World} {g : Nat} {t : TypeId} {cs : Array Value} (h : Blk w g t cs) (xs : List UInt8) (hx : cs.toList.take xs.length = bvs xs) : RB w (some ⟨g, 0, none⟩) xs.length xs := by
  refine ⟨by simp [bvs_length], fun _ => ⟨_, rfl, h.lt, fun j u hu => ?_⟩⟩
  have hj : j < xs.length := by have := (List.getElem?_eq_some_iff.1 hu).1; rwa [bvs_length] at this
  rw [show (⟨g, 0, none⟩ : Addr).add j = ⟨g, j, none⟩ by unfold Addr.add; split <;> simp_all, h.cell j, ← Array.getElem?_toList]
  rw [← hx, List.getElem?_take] at hu
  simpa [hj] using hu
end Go.Rat
namespace Go.Rat
open Go Go.RowKit
section
variable {P : Program} {w : World} {g : Nat} {T : TypeId} {cs cs' : Array Value}
theorem Blk.setRow (h : Blk w g T cs) (cs' : Array Value) : Blk (w.setRow g cs') g T cs' := setRow_heap w g cs cs' T (0, 0) h
theorem grownBy_setRow (w : World) (g : Nat) (cs : Array Value) : w.grownBy (w.setRow g cs) (some g) :=
  ⟨rfl, rfl, rfl, by simp, fun k _ hne => setRow_other w g k cs (fun e => hne (by rw [e]))⟩
theorem Blk.setRow_self (h : Blk w g T cs) : w.setRow g cs = w := by
  have hh : (w.setRow g cs).heap = w.heap := by
    apply Array.ext_getElem?
    intro i
    by_cases hi : i = g
    · subst hi
      rw [setRow_heap w i cs cs T (0, 0) h, h]
    · exact setRow_other w g i cs hi
  show { w with heap := (w.setRow g cs).heap } = w
  rw [hh]
theorem wpl_load {ops : Array Oper} {rest : List Oper} {a : Act} {Q : Exit → Act → World → Prop} {d : Option Tmp} {ty : TypeId} {x : Operand} {t : TypeId} {p : String} {af : Array Edge} (g : Nat) (T : TypeId) (cs : Array Value) {n : Nat} {e : TypeId}
    (hu : P.underlying ty = some (.array n e)) (hi : (P.info? ty).map (·.size) = some n) (hB : Blk w g T cs) (hs : cs.size = n)
    (hx : a.eval x = .pointer (some ⟨g, 0, none⟩)) (h : wpList P ops Q rest (a.put d (.agg cs)) w) :
    wpList P ops Q ({ dst := d, op := .load ty x, type := t, pos := p, after := af, guard := none } :: rest) a w :=
  wpList_load_row rfl ty x rfl g hx T cs (0, 0) _ hB hu rfl (by rw [hs]; exact hi) h
theorem wpl_store {ops : Array Oper} {rest : List Oper} {a : Act} {Q : Exit → Act → World → Prop} {d : Option Tmp} {ty : TypeId} {x y : Operand} {t : TypeId} {p : String} {af : Array Edge} (g : Nat) (T : TypeId) (cs cs' : Array Value) {n : Nat}
    (hi : (P.info? ty).map (·.size) = some n) (hB : Blk w g T cs) (hs : cs.size = n) (hs' : cs'.size = n) (h1 : cs'.all (·.oneCell') = true)
    (hx : a.eval x = .pointer (some ⟨g, 0, none⟩)) (hy : a.eval y = .agg cs') (h : wpList P ops Q rest (a.put d undef) (w.setRow g cs')) :
    wpList P ops Q ({ dst := d, op := .store ty x y, type := t, pos := p, after := af, guard := none } :: rest) a w :=
  wpList_store_row rfl ty x y rfl g cs' hx hy T cs hB (by rw [hs']; exact hi) (by rw [hs, hs']) h1 h
end
def u32s (l : List Int) : List Value := l.map (Value.int .u32)
theorem u32s_one (l : List Int) : (u32s l).toArray.all (·.oneCell') = true := by
  simp only [u32s, List.all_toArray, List.all_map, List.all_eq_true]
  intro x _
  rfl
theorem bvs_all (xs : List UInt8) : (bvs xs).toArray.all (·.oneCell') = true := by
  simp only [bvs, List.all_toArray, List.all_map, List.all_eq_true]
  intro x _
  rfl
theorem u32s_size (l : List Int) : (u32s l).toArray.size = l.length := by simp [u32s]
theorem bvs_size (l : List UInt8) : (bvs l).toArray.size = l.length := by simp [bvs]
theorem u32s_set (l : List Int) (i : Nat) (x : Int) : (u32s l).toArray.setIfInBounds i (.int .u32 x) = (u32s (l.set i x)).toArray := by
  simp [u32s, List.map_set]
theorem u32s_at {w : World} {g : Nat} {t : TypeId} {l : List Int} (h : Blk w g t (u32s l).toArray) {i : Nat} (hi : i < l.length) : w.cell? ⟨g, i, none⟩ = some (.int .u32 (l.getD i 0)) := by
  rw [h.cell i]
  simp [u32s, List.getElem?_eq_getElem hi, List.getD_eq_getElem?_getD]
theorem bytes_at {w : World} {g : Nat} {t : TypeId} {xs : List UInt8} (h : Blk w g t (bvs xs).toArray) {i : Nat} (hi : i < xs.length) : w.cell? ⟨g, i, none⟩ = some (.int .u8 ((xs.getD i 0).toNat : Int)) := by
  rw [h.cell i]
  simp [bvs, bv, List.getElem?_eq_getElem hi, List.getD_eq_getElem?_getD]
end Go.Rat
namespace Go.Rat
open Go Go.RowKit
open Go.Maps (Keyed)
open Go.ChangeMaps Go.MapKept
/-- Block b is a map from int; at a it answers f a (z where nothing is). -/
def MapV (z : Value) (w : World) (b : Nat) (f : Int → Value) : Prop :=
  ∃ es clock, w.heap[b]? = some (.map es clock) ∧ (∀ e ∈ es.toList, ∃ a, e.key = .int .i64 a ∧ (Lit.int .i64 a).wf = true) ∧
    es.toList.Pairwise (fun x y => x.key ≠ y.key) ∧ (∀ e ∈ es.toList, ∀ a, e.key = .int .i64 a → e.val = f a) ∧ ∀ a, (∀ e ∈ es.toList, e.key ≠ .int .i64 a) → f a = z
section
variable {P : Program} {z : Value} {w w' : World} {b : Nat} {f : Int → Value} {t k e : TypeId}
theorem MapV.lt (h : MapV z w b f) : b < w.heap.size := by
  obtain ⟨es, clock, hb, _⟩ := h
  exact (Array.getElem?_eq_some_iff.1 hb).1
theorem MapV.same (h : MapV z w b f) (hb : w'.heap[b]? = w.heap[b]?) : MapV z w' b f := by
  obtain ⟨es, clock, h1, r⟩ := h
  exact ⟨es, clock, hb.trans h1, r⟩
theorem MapV.below {B : Nat} (h : MapV z w b f) (hb : Below B w w') (hl : b < B) : MapV z w' b f := h.same (hb.block b hl)
theorem MapV.grown {row : Option Nat} (h : MapV z w b f) (hg : w.grownBy w' row) (hne : some b ≠ row) : MapV z w' b f := h.same (hg.block b h.lt hne)
theorem MapV.new (z : Value) (w : World) : MapV z (w.alloc (.map #[] 0)) w.heap.size (fun _ => z) :=
  ⟨#[], 0, (MapKept.heap_alloc w _).1, by simp, by simp, by simp, fun _ _ => rfl⟩
theorem MapV.ext {g : Int → Value} (h : MapV z w b f) (he : ∀ a, f a = g a) : MapV z w b g := by
  have : f = g := funext he
  rwa [← this]
theorem MapV.keyed (hk : P.underlying k = some (.int .i64)) {es : List MapEntry} (h : ∀ e ∈ es, ∃ a, e.key = .int .i64 a ∧ (Lit.int .i64 a).wf = true) : ∀ e ∈ es, ∃ l, keyOf P k e.key = some l := fun x hx => by
  obtain ⟨a, ha, hw⟩ := h x hx
  exact ⟨_, by rw [ha]; exact Maps.keyOf_int_mk hk hw⟩
theorem MapV.look (h : MapV z w b f) (hk : P.underlying k = some (.int .i64)) (ht : P.underlying t = some (.map k e)) (hz : (zeroValue e).run P w = .ok z w) (a : Int) (ha : (Lit.int .i64 a).wf = true) :
    (Instr.lookup t (.map (some b)) (.int .i64 a) false).run P w = .ok (f a) w := by
  obtain ⟨es, clock, hb, hks, hd, hv, hn⟩ := h
  have K := Maps.int_keyed hk
  have hkey := Maps.keyOf_int_mk hk ha
  rcases K.find w hkey es.toList (MapV.keyed hk hks) with ⟨h1, h2⟩ | ⟨j, e0, h1, h2, h3⟩
  · rw [hn a h2]
    simp [Instr.lookup, run_underlying ht, MapKept.run_getObj_map hb, K.check w _ hkey, h1, hz, Result.andThen]
  · rw [← hv e0 (List.mem_of_getElem? h2) a h3]
    simp [Instr.lookup, run_underlying ht, MapKept.run_getObj_map hb, K.check w _ hkey, h1, Result.andThen]
theorem MapV.store (h : MapV z w b f) (hk : P.underlying k = some (.int .i64)) (ht : P.underlying t = some (.map k e)) (a : Int) (ha : (Lit.int .i64 a).wf = true) (v : Value) :
    ∃ w', (Instr.mapUpdate t (.map (some b)) (.int .i64 a) v).run P w = .ok () w' ∧ MapV z w' b (fun x => if x = a then v else f x) ∧ w.grownBy w' (some b) := by
  obtain ⟨es, clock, hb, hks, hd, hv, hn⟩ := h
  have K := Maps.int_keyed hk
  have hkey := Maps.keyOf_int_mk hk ha
  have hgr : ∀ o, w.grownBy (setBlock w b o) (some b) := fun o => ⟨rfl, rfl, rfl, by simp [setBlock], fun i _ hi => heap_setBlock_other hb _ (fun e => hi (by rw [e]))⟩
  rcases K.find w hkey es.toList (MapV.keyed hk hks) with ⟨h1, h2⟩ | ⟨j, e0, h1, h2, h3⟩
  · refine ⟨setBlock w b (.map (es.push ⟨.int .i64 a, v, clock⟩) (clock + 1)), ?_, ⟨_, _, heap_setBlock_same hb _, ?_, ?_, ?_, ?_⟩, hgr _⟩
    · simp [Instr.mapUpdate, run_underlying ht, MapKept.run_getObj_map hb, K.check w false hkey, h1, MapKept.run_setObj_map _ hb, Result.andThen, setBlock]
    · intro x hx
      simp only [Array.toList_push, List.mem_append, List.mem_singleton] at hx
      rcases hx with hx | rfl
      · exact hks x hx
      · exact ⟨a, rfl, ha⟩
    · rw [Array.toList_push, List.pairwise_append]
      exact ⟨hd, List.pairwise_singleton _ _, fun x hx y hy => by
        obtain rfl : y = _ := by simpa using hy
        exact h2 x hx⟩
    · intro x hx q hq
      simp only [Array.toList_push, List.mem_append, List.mem_singleton] at hx
      rcases hx with hx | rfl
      · show _ = if q = a then v else f q
        rw [if_neg (fun e => h2 x hx (by rw [hq, e]))]
        exact hv x hx q hq
      · have : q = a := by simpa using hq.symm
        show _ = if q = a then v else f q
        rw [if_pos this]
    · intro q hq
      show (if q = a then v else f q) = z
      have h5 := hq ⟨.int .i64 a, v, clock⟩ (by simp)
      rw [if_neg (fun e => h5 (by rw [e]))]
      exact hn q (fun x hx => hq x (by simp at hx; simp [hx]))
  · have hj : es[j]? = some e0 := by simpa using h2
    have hm0 := List.mem_of_getElem? h2
    have hlist : (es.modify j (fun e' => { e' with key := .int .i64 a, val := v })).toList = es.toList.set j { e0 with key := .int .i64 a, val := v } := by rw [Array.toList_modify, modify_eq_set _ _ _ _ h2]
    have hjl : j < es.toList.length := (List.getElem?_eq_some_iff.1 h2).1
    have hje : es.toList[j] = e0 := (List.getElem?_eq_some_iff.1 h2).2
    have who : ∀ x ∈ es.toList.set j { e0 with key := .int .i64 a, val := v }, x = { e0 with key := .int .i64 a, val := v } ∨ (x ∈ es.toList ∧ x.key ≠ .int .i64 a) := by
      intro x hx
      obtain ⟨i, hi, ex⟩ := List.getElem_of_mem hx
      rw [List.getElem_set] at ex
      split at ex
      · exact Or.inl ex.symm
      · rename_i hne
        have hi' : i < es.toList.length := by simpa using hi
        refine Or.inr ⟨ex ▸ List.getElem_mem hi', ?_⟩
        rw [← h3, ← hje, ← ex]
        rcases Nat.lt_or_gt_of_ne hne with h | h
        · exact fun e => (List.pairwise_iff_getElem.1 hd j i hjl hi' h) e.symm
        · exact List.pairwise_iff_getElem.1 hd i j hi' hjl h
    refine ⟨setBlock w b (.map (es.modify j (fun e' => { e' with key := .int .i64 a, val := v })) clock), ?_, ⟨_, _, heap_setBlock_same hb _, ?_, ?_, ?_, ?_⟩, hgr _⟩
    · simp [Instr.mapUpdate, run_underlying ht, MapKept.run_getObj_map hb, K.check w false hkey, h1, hj, h3, K.stays w hkey, MapKept.run_setObj_map _ hb, Result.andThen, setBlock]
    · intro x hx
      rw [hlist] at hx
      rcases who x hx with rfl | ⟨hx', _⟩
      · exact ⟨a, rfl, ha⟩
      · exact hks x hx'
    · rw [hlist]
      refine List.pairwise_iff_getElem.2 fun i i' hi hi' hlt => ?_
      have hi2 : i < es.toList.length := by simpa using hi
      have hi3 : i' < es.toList.length := by simpa using hi'
      have key : ∀ q (hq : q < es.toList.length), ((es.toList.set j { e0 with key := .int .i64 a, val := v })[q]'(by simpa using hq)).key = (es.toList[q]).key := fun q hq => by
        rw [List.getElem_set]
        split
        · rename_i e
          subst e
          rw [hje, h3]
        · rfl
      rw [key i hi2, key i' hi3]
      exact List.pairwise_iff_getElem.1 hd i i' hi2 hi3 hlt
    · intro x hx q hq
      rw [hlist] at hx
      rcases who x hx with rfl | ⟨hx', hne⟩
      · have : q = a := by simpa using hq.symm
        show _ = if q = a then v else f q
        rw [if_pos this]
      · show _ = if q = a then v else f q
        rw [if_neg (fun e => hne (by rw [hq, e]))]
        exact hv x hx' q hq
    · intro q hq
      rw [hlist] at hq
      have h5 : q ≠ a := fun e => hq { e0 with key := .int .i64 a, val := v } (List.mem_set hjl _) (by rw [e])
      show (if q = a then v else f q) = z
      rw [if_neg h5]
      refine hn q (fun x hx => ?_)
      obtain ⟨i, hi, ex⟩ := List.getElem_of_mem hx
      by_cases hij : j = i
      · subst hij
        rw [← ex, hje, h3]
        intro e
        exact h5 (by simpa using e.symm)
      · exact hq x (ex ▸ by
          have : (es.toList.set j { e0 with key := .int .i64 a, val := v })[i]'(by simpa using hi) = es.toList[i] := by rw [List.getElem_set_ne hij]
          rw [← this]
          exact List.getElem_mem _)
end
end Go.Rat
namespace Go.Rat
open Go Go.RowKit
theorem load_row_run {P : Program} {w : World} {o : Oper} {a : Act} {ty : TypeId} {x : Operand} {T : TypeId} (ho : o.op = .load ty x) (g : Nat) (cs : Array Value) {n : Nat} {D : TypeDesc}
    (hu : P.underlying ty = some D) (hd : D.isRow = true) (hi : (P.info? ty).map (·.size) = some n) (hB : Blk w g T cs) (hl : cs.size = n)
    (hx : a.eval x = .pointer (some ⟨g, 0, none⟩)) : (execOp a.eval o).run P w = .ok (.value (.agg cs)) w := by
  have hr : w.rangeAt g 0 cs.toList := by
    intro i v hv
    have := hB.cell i
    rw [Nat.zero_add, this, ← Array.getElem?_toList]
    exact hv
  unfold execOp
  simp only [ho, hx, Instr.loadAt, Instr.sureAddr, Sem.run_bind, Sem.run_pure, Result.andThen_ok, run_loadVar_mid w g 0 ty cs.toList D hr hu hd (by rw [hi]; simp [hl])]
theorem wpl_loadG {P : Program} {w : World} {ops : Array Oper} {rest : List Oper} {a : Act} {Q : Exit → Act → World → Prop} {d : Option Tmp} {ty : TypeId} {x : Operand} {t : TypeId} {p : String} {af : Array Edge} {gd : Option (Nat × Bool)} (g : Nat) (T : TypeId) (cs : Array Value) {n : Nat} {e : TypeId}
    (hu : P.underlying ty = some (.array n e)) (hi : (P.info? ty).map (·.size) = some n) (hB : Blk w g T cs) (hs : cs.size = n)
    (hw : Region.wanted { dst := d, op := .load ty x, type := t, pos := p, after := af, guard := gd } (yielded ops a.tmps) = true)
    (hx : a.eval x = .pointer (some ⟨g, 0, none⟩)) (h : wpList P ops Q rest (a.put d (.agg cs)) w) :
    wpList P ops Q ({ dst := d, op := .load ty x, type := t, pos := p, after := af, guard := gd } :: rest) a w :=
  BigFrame.wpList_want hw fun _ hK => by
    unfold Oper.wp
    rw [load_row_run rfl g cs hu rfl hi hB hs hx]
    exact hK _ _ h
end Go.Rat
namespace Go.Proofs.Ytmjdfajdompkeaa
open Go.RowKit Go.Rat
theorem u8info : (Try.prog.info? 5).map (fun i => (i.zero, i.size, i.bytes)) = some (some (.int .u8 0), 1, 1) := by kernel_rfl
section
variable {w : World}
/-- append of bytes onto bytes of the call's own. -/
theorem app_bytes {ops : Array Oper} {rest : List Oper} {o : Oper} {a : Act} {Q : Exit → Act → World → Prop} (hgd : o.guard = none) (s x : Operand)
    (ho : o.op = .call { callee := .builtin .append, args := #[s, x], argTypes := #[22, 22] })
    (base : Nat) (A : Option Addr) (n c : Nat) (xs : List UInt8) (hs : a.eval s = .slice A n c) (hown : OB 5 w base A n c xs)
    (A' : Option Addr) (m c' : Nat) (news : List UInt8) (hx : a.eval x = .slice A' m c') (hr : RB w A' m news)
    (hbytes : n + m ≤ 140737488355328) (hbase : base ≤ w.heap.size)
    (h : ∀ A2 N2 c2 w2, N2 ≤ c2 → c2 ≤ 9223372036854775807 → OB 5 w2 base A2 N2 c2 (xs ++ news) → Grew w w2 A A2 → wpList Try.prog ops Q rest (a.put o.dst (.slice A2 N2 c2)) w2) :
    wpList Try.prog ops Q (o :: rest) a w := by
  obtain ⟨i0, hi, hz0, hz1, hz2⟩ := info_parts u8info
  exact wpl_append hgd s x 22 ho base 5 i0 _ 1 1 Try.underlying22 hi hz0 hz1 hz2 rfl (by omega) A n c (bvs xs) hs hown A' m c' (bvs news) hx ⟨_, hr⟩ (bvs_one _)
    (by simp only [maxLen]; omega) (by omega) hbase (fun A2 N2 c2 w2 hc hc' h1 h2 => h A2 N2 c2 w2 hc hc' (by unfold OB; rw [bvs_append]; exact h1) h2)
theorem app_str {ops : Array Oper} {rest : List Oper} {o : Oper} {a : Act} {Q : Exit → Act → World → Prop} (hgd : o.guard = none) (s x : Operand)
    (ho : o.op = .call { callee := .builtin .append, args := #[s, x], argTypes := #[22, 9] })
    (base : Nat) (A : Option Addr) (n c : Nat) (xs : List UInt8) (hs : a.eval s = .slice A n c) (hown : OB 5 w base A n c xs)
    (st : ByteArray) (hx : a.eval x = .string st) (hbytes : n + st.size ≤ 140737488355328) (hbase : base ≤ w.heap.size)
    (h : ∀ A2 N2 c2 w2, N2 ≤ c2 → c2 ≤ 9223372036854775807 → OB 5 w2 base A2 N2 c2 (xs ++ st.data.toList) → w.grownBy w2 (A.map (·.block)) → wpList Try.prog ops Q rest (a.put o.dst (.slice A2 N2 c2)) w2) :
    wpList Try.prog ops Q (o :: rest) a w := by
  obtain ⟨i0, hi, hz0, hz1, hz2⟩ := info_parts u8info
  refine wpList_plain hgd fun K hK => ?_
  obtain ⟨v', w2, hrun, h2, h3, _⟩ := Lib.run_append_own_string (P := Try.prog) w base 22 9 o.type 5 i0 Try.underlying22 Try.underlying9 hi hz0 hz1 hz2 _ n (bvs xs) hown st (by simp only [maxLen]; omega) hbytes hbase
  have hv : ∃ A2 c2, v' = .slice A2 (n + st.size) c2 := by
    rcases h2.2 with ⟨h, h'⟩ | ⟨g, cap, cur, h, _⟩
    · exact ⟨none, 0, by rw [h, h']⟩
    · exact ⟨_, _, h⟩
  obtain ⟨A2, c2, rfl⟩ := hv
  have hob : (Value.slice A n c).ownBlock = A.map (·.block) := by cases A <;> rfl
  rw [hob] at h3
  unfold Oper.wp execOp
  simp only [ho, resolve, invoke, builtin, Sem.run_bind, Sem.run_pure, Result.andThen_ok, List.map_toArray, List.map_cons, List.map_nil, hs, hx, hrun]
  exact hK _ _ (h _ _ _ _ (own_cap h2).1 (own_cap h2).2 (by unfold OB; rw [bvs_append]; exact h2) h3)
theorem app_zeros {ops : Array Oper} {rest : List Oper} {o : Oper} {a : Act} {Q : Exit → Act → World → Prop} (hgd : o.guard = none) (s x : Operand)
    (ho : o.op = .call { callee := .builtin .append, args := #[s, x], argTypes := #[22, 3] })
    (base : Nat) (A : Option Addr) (c : Nat) (xs : List Value) (hs : a.eval s = .slice A c c) (hown : w.ownsRow base 5 1 (.slice A c c) c xs)
    (k : Int) (hx : a.eval x = .int .i64 k) (hk : 0 < k) (hbytes : c + k.toNat ≤ 140737488355328) (hbase : base ≤ w.heap.size)
    (h : ∀ A2 N2 c2 w2, N2 ≤ c2 → c2 ≤ 9223372036854775807 → w2.ownsRow base 5 1 (.slice A2 N2 c2) N2 (xs ++ List.replicate k.toNat (.int .u8 0)) → Grew w w2 none A2 → wpList Try.prog ops Q rest (a.put o.dst (.slice A2 N2 c2)) w2) :
    wpList Try.prog ops Q (o :: rest) a w := by
  obtain ⟨i0, hi, hz0, hz1, hz2⟩ := info_parts u8info
  exact wpl_append_zeros hgd s x 22 3 ho base 5 i0 _ 1 Try.underlying22 ⟨_, Try.underlying3⟩ hi hz0 hz1 hz2 rfl A c xs hs hown k hx hk
    (by simp only [maxLen]; omega) (by omega) hbase h
end

/-- Bytes as a text. -/
def bstr (xs : List UInt8) : ByteArray := ⟨xs.toArray⟩
theorem bstr_data (s : ByteArray) : bstr s.data.toList = s := by cases s; simp [bstr]
theorem data_bstr (xs : List UInt8) : (bstr xs).data.toList = xs := by simp [bstr]
theorem bstr_inj {xs ys : List UInt8} (h : bstr xs = bstr ys) : xs = ys := by rw [← data_bstr xs, ← data_bstr ys, h]
theorem push_all (xs : List UInt8) : ∀ s : ByteArray, (xs.map fun x => (x.toNat : Int)).foldl (fun r n => r.push (UInt8.ofNat n.toNat)) s = ⟨s.data ++ xs.toArray⟩ := by
  induction xs with
  | nil => intro s; simp
  | cons x xs ih =>
    intro s
    simp only [List.map_cons, List.foldl_cons]
    rw [ih]
    have : UInt8.ofNat ((x.toNat : Int).toNat) = x := by simp
    rw [this]
    simp [ByteArray.push]
/-- string(b) -/
theorem conv_str {w : World} {A : Option Addr} {n : Nat} {xs : List UInt8} (h : RB w A n xs) (c : Nat) : (convert 22 9 (.slice A n c)).run Try.prog w = .ok (.string (bstr xs)) w := by
  have hl := h.len
  rcases A with _ | ad
  · obtain rfl : n = 0 := h.nil0
    obtain rfl : xs = [] := List.eq_nil_of_length_eq_zero hl
    simp [convert, run_underlying Try.underlying22, run_underlying Try.underlying9, run_underlying Try.underlying5, Conv.bytesToString, bstr]
    rfl
  · have hcells : (loadCells ad n).run Try.prog w = .ok ((xs.map fun x => (x.toNat : Int)).map (Value.int .u8)).toArray w := by
      have := run_firstCells_some (P := Try.prog) w 1 n ad n c (bvs xs) (by rw [bvs_length]; omega) (fun j u hu => by
        obtain ⟨ad', he, _, hc⟩ := h.2 (by have := (List.getElem?_eq_some_iff.1 hu).1; rw [bvs_length] at this; omega)
        cases he
        exact hc j u hu)
      simp only [Builtin.firstCells, Nat.mul_one, bvs] at this
      rw [this, List.map_map]
      rfl
    rw [run_convert_bytes_string w _ _ _ _ _ _ Try.underlying22 Try.underlying5 Try.underlying9, run_bytesToString w ad n c _ hcells, push_all]
    simp [bstr]

/-- A make that leaves its room noughts, and what is appended within it. -/
theorem app_room {w : World} {ops : Array Oper} {rest : List Oper} {o : Oper} {a : Act} {Q : Exit → Act → World → Prop} (hgd : o.guard = none) (s x : Operand)
    (ho : o.op = .call { callee := .builtin .append, args := #[s, x], argTypes := #[22, 22] })
    (g n c : Nat) (cur : List Value) (hs : a.eval s = .slice (some ⟨g, 0, none⟩) n c) (hB : Blk w g 5 cur.toArray) (hcur : cur.length = c)
    (A' : Option Addr) (m c' : Nat) (news : List UInt8) (hx : a.eval x = .slice A' m c') (hr : RB w A' m news) (hroom : n + m ≤ c)
    (h : ∀ w2, Blk w2 g 5 (cur.take n ++ bvs news ++ cur.drop (n + m)).toArray → w.grownBy w2 (some g) → wpList Try.prog ops Q rest (a.put o.dst (.slice (some ⟨g, 0, none⟩) (n + m) c)) w2) :
    wpList Try.prog ops Q (o :: rest) a w := by
  obtain ⟨i0, hi, hz0, hz1, hz2⟩ := info_parts u8info
  refine wpList_plain hgd fun K hK => ?_
  have hl := hr.len
  have hrun : ∃ w2, (Builtin.append_ #[22, 22] o.type #[.slice (some ⟨g, 0, none⟩) n c, .slice A' m c']).run Try.prog w = .ok (.slice (some ⟨g, 0, none⟩) (n + m) c) w2 ∧ Blk w2 g 5 (cur.take n ++ bvs news ++ cur.drop (n + m)).toArray ∧ w.grownBy w2 (some g) := by
    rcases reads_split hr with ⟨rfl, h0⟩ | ⟨ad, rfl, hc⟩
    · have h0' : news = [] := List.eq_nil_of_length_eq_zero (by omega)
      subst h0'
      refine ⟨w, ?_, ?_, World.grownBy.refl w _⟩
      · have hnc : n ≤ c := by omega
        cases A' <;> simp [Builtin.append_, run_underlying Try.underlying22, sizeOf, typeInfo, hi, Builtin.lenOf, Builtin.firstCells, hnc, storeCells, loadCells, loadCellsFrom]
      · simpa [bvs] using hB
    · have hr := run_append_room (P := Try.prog) w 22 o.type 5 i0 Try.underlying22 hi g n c cur.toArray hB ad m c' (bvs news) (by rw [bvs_length, hz1]; omega) hc (bvs_one _) hroom (by rw [bvs_length, hz1, List.size_toArray]; omega)
      rw [hz1] at hr
      simp only [Nat.mul_one, bvs_length, hl] at hr
      exact ⟨_, hr, setRow_heap w g cur.toArray _ _ _ hB, ⟨rfl, rfl, rfl, by simp, fun k _ hk => setRow_other w g k _ (fun e => hk (by rw [e]))⟩⟩
  obtain ⟨w2, hrun, h1, h2⟩ := hrun
  unfold Oper.wp execOp
  simp only [ho, resolve, invoke, builtin, Sem.run_bind, Sem.run_pure, Result.andThen_ok, List.map_toArray, List.map_cons, List.map_nil, hs, hx, hrun]
  exact hK _ _ (h w2 h1 h2)
theorem make_bytes {w : World} {ops : Array Oper} {rest : List Oper} {o : Oper} {a : Act} {Q : Exit → Act → World → Prop} (hgd : o.guard = none) (l c : Operand) (ho : o.op = .makeSlice 22 l c)
    (L C : Int) (hl : a.eval l = .int .i64 L) (hc : a.eval c = .int .i64 C) (h0 : 0 ≤ L) (h1 : L ≤ C) (h2 : C ≤ 140737488355328)
    (h : ∀ w2, Blk w2 w.heap.size 5 (List.replicate C.toNat (Value.int .u8 0)).toArray → Below w.heap.size w w2 → w2.heap.size = w.heap.size + 1 → wpList Try.prog ops Q rest (a.put o.dst (.slice (some ⟨w.heap.size, 0, none⟩) L.toNat C.toNat)) w2) :
    wpList Try.prog ops Q (o :: rest) a w := by
  obtain ⟨i0, hi, hz0, hz1, hz2⟩ := info_parts u8info
  refine wpList_plain hgd fun K hK => ?_
  have hr := run_make (P := Try.prog) w 22 5 i0 _ Try.underlying22 hi hz0 .i64 .i64 L C h0 h1 (by rw [hz2]; omega) (by omega)
  unfold Oper.wp execOp
  simp only [ho, hl, hc, Sem.run_bind, Sem.run_pure, Result.andThen_ok, hr]
  refine hK _ _ (h _ ?_ (below_alloc _ _) (by simp))
  have := Blk.new w 5 (madeCells (Value.int .u8 0).cells (C.toNat * i0.size))
  rw [show (List.replicate C.toNat (Value.int .u8 0)).toArray = madeCells (Value.int .u8 0).cells (C.toNat * i0.size) from ?_]
  · exact this
  · have := toList_madeCells_one (.int .u8 0) C.toNat
    rw [hz1, Nat.mul_one]
    exact (congrArg List.toArray this).symm
end Go.Proofs.Ytmjdfajdompkeaa
namespace Go.Proofs.Ytmjdfajdompkeaa
open Go.RowKit Go.Rat
section
variable {P : Program} {w : World} {ops : Array Oper} {rest : List Oper} {a : Act} {Q : Exit → Act → World → Prop} {d : Option Tmp} {ty : TypeId} {x y : Operand} {t : TypeId} {p : String} {af : Array Edge} {T : TypeId}
theorem range_of_row {g o n : Nat} {L cs : List Value} (hB : Blk w g T L.toArray) (hcs : (L.drop o).take n = cs) : w.rangeAt g o cs := by
  intro j v hv
  rw [hB.cell (o + j), List.getElem?_toArray]
  rw [← hcs, List.getElem?_take, List.getElem?_drop] at hv
  split at hv
  · exact hv
  · cases hv
theorem wpl_load_mid (g o : Nat) (L cs : List Value) {n : Nat} {D : TypeDesc}
    (hu : P.underlying ty = some D) (hd : D.isRow = true) (hi : (P.info? ty).map (·.size) = some n) (hB : Blk w g T L.toArray) (hcs : (L.drop o).take n = cs) (hl : cs.length = n)
    (hx : a.eval x = .pointer (some ⟨g, o, none⟩)) (h : wpList P ops Q rest (a.put d (.agg cs.toArray)) w) :
    wpList P ops Q ({ dst := d, op := .load ty x, type := t, pos := p, after := af, guard := none } :: rest) a w :=
  wpList_load_mid rfl ty x rfl g o hx cs D (range_of_row hB hcs) hu hd (by rw [hl]; exact hi) h
theorem wpl_value {o' : Oper} (hg : o'.guard = none) (v : Value) (hv : (execOp a.eval o').run P w = .ok (.value v) w) (h : wpList P ops Q rest (a.put o'.dst v) w) : wpList P ops Q (o' :: rest) a w :=
  wpList_plain hg fun _ hK => by
    unfold Oper.wp
    rw [hv]
    exact hK _ _ h
theorem wpl_nilCheck (b i : Nat) (hx : a.eval x = .pointer (some ⟨b, i, none⟩)) (h : wpList P ops Q rest (a.put d (.pointer (some ⟨b, i, none⟩))) w) :
    wpList P ops Q ({ dst := d, op := .nilCheck x, type := t, pos := p, after := af, guard := none } :: rest) a w :=
  wpl_value rfl _ (by simp [execOp, hx]) h
theorem wpl_fieldAddr (b n k : Nat) (hv : ∀ w : World, (execOp a.eval { dst := d, op := .fieldAddr ty x k, type := t, pos := p, after := af, guard := none }).run P w = .ok (.value (.pointer (some ⟨b, n, none⟩))) w)
    (h : wpList P ops Q rest (a.put d (.pointer (some ⟨b, n, none⟩))) w) :
    wpList P ops Q ({ dst := d, op := .fieldAddr ty x k, type := t, pos := p, after := af, guard := none } :: rest) a w :=
  wpl_value rfl _ (hv w) h
theorem run_store_mid (g o : Nat) (L cs : List Value) (hi : (P.info? ty).map (·.size) = some cs.length) (hB : Blk w g T L.toArray) (hfit : o + cs.length ≤ L.length) (h1 : ∀ v ∈ cs, v.oneCell' = true) :
    (storeVar ty ⟨g, o, none⟩ (.agg cs.toArray)).run P w = .ok () (w.setRow g (Go.splice L o cs).toArray) := by
  have := run_storeCells_at P g o T cs 0 L.toArray w hB (by simpa using hfit) h1
  cases hq : P.info? ty with
  | none => simp [hq] at hi
  | some i =>
    have hs : cs.length = i.size := by simp [hq] at hi; omega
    simp only [Nat.add_zero] at this
    simp [storeVar, sizeOf, typeInfo, hq, Value.cells, hs, this, Go.splice]
theorem wp_store_midR {o' : Oper} {K : Act → World → Prop} (ho : o'.op = .store ty x y) (g o : Nat) (L cs : List Value) (hi : (P.info? ty).map (·.size) = some cs.length) (hB : Blk w g T L.toArray) (hfit : o + cs.length ≤ L.length) (h1 : ∀ v ∈ cs, v.oneCell' = true)
    (hx : a.eval x = .pointer (some ⟨g, o, none⟩)) (hy : a.eval y = .agg cs.toArray) (h : K (a.put o'.dst undef) (w.setRow g (Go.splice L o cs).toArray)) : o'.wp P a w K Q := by
  unfold Oper.wp execOp
  simp only [ho, hx, hy, Instr.storeAt, Instr.sureAddr, Sem.run_bind, Sem.run_pure, Result.andThen_ok, run_store_mid g o L cs hi hB hfit h1]
  exact h
theorem wpl_store_mid (g o : Nat) (L cs : List Value) (hi : (P.info? ty).map (·.size) = some cs.length) (hB : Blk w g T L.toArray) (hfit : o + cs.length ≤ L.length) (h1 : ∀ v ∈ cs, v.oneCell' = true)
    (hx : a.eval x = .pointer (some ⟨g, o, none⟩)) (hy : a.eval y = .agg cs.toArray) (h : wpList P ops Q rest (a.put d undef) (w.setRow g (Go.splice L o cs).toArray)) :
    wpList P ops Q ({ dst := d, op := .store ty x y, type := t, pos := p, after := af, guard := none } :: rest) a w :=
  wpList_plain rfl fun _ hK => wp_store_midR rfl g o L cs hi hB hfit h1 hx hy (hK _ _ h)
end
theorem load_mid_run {P : Program} {w : World} {o : Oper} {a : Act} {ty : TypeId} {x : Operand} {T : TypeId} (ho : o.op = .load ty x) (g off : Nat) (L cs : List Value) {n : Nat} {D : TypeDesc}
    (hu : P.underlying ty = some D) (hd : D.isRow = true) (hi : (P.info? ty).map (·.size) = some n) (hB : Blk w g T L.toArray) (hcs : (L.drop off).take n = cs) (hl : cs.length = n)
    (hx : a.eval x = .pointer (some ⟨g, off, none⟩)) : (execOp a.eval o).run P w = .ok (.value (.agg cs.toArray)) w := by
  unfold execOp
  simp only [ho, hx, Instr.loadAt, Instr.sureAddr, Sem.run_bind, Sem.run_pure, Result.andThen_ok, run_loadVar_mid w g off ty cs D (range_of_row hB hcs) hu hd (by rw [hl]; exact hi)]
theorem wpl_loadM {P : Program} {w : World} {ops : Array Oper} {rest : List Oper} {a : Act} {Q : Exit → Act → World → Prop} {d : Option Tmp} {ty : TypeId} {x : Operand} {t : TypeId} {p : String} {af : Array Edge} {gd : Option (Nat × Bool)} {T : TypeId} (g o : Nat) (L cs : List Value) {n : Nat} {D : TypeDesc}
    (hu : P.underlying ty = some D) (hd : D.isRow = true) (hi : (P.info? ty).map (·.size) = some n) (hB : Blk w g T L.toArray) (hcs : (L.drop o).take n = cs) (hl : cs.length = n)
    (hw : Region.wanted { dst := d, op := .load ty x, type := t, pos := p, after := af, guard := gd } (yielded ops a.tmps) = true)
    (hx : a.eval x = .pointer (some ⟨g, o, none⟩)) (h : wpList P ops Q rest (a.put d (.agg cs.toArray)) w) :
    wpList P ops Q ({ dst := d, op := .load ty x, type := t, pos := p, after := af, guard := gd } :: rest) a w :=
  BigFrame.wpList_want hw fun _ hK => by
    unfold Oper.wp
    rw [load_mid_run rfl g o L cs hu hd hi hB hcs hl hx]
    exact hK _ _ h
theorem wpl_store_fresh {P : Program} {w : World} {ops : Array Oper} {rest : List Oper} {a : Act} {Q : Exit → Act → World → Prop} {d : Option Tmp} {ty : TypeId} {x y : Operand} {t : TypeId} {p : String} {af : Array Edge} {Z : Array Value} {T : TypeId} (cs' : Array Value) {n : Nat}
    (hi : (P.info? ty).map (·.size) = some n) (hZ : Z.size = n) (hs' : cs'.size = n) (h1 : cs'.all (·.oneCell') = true)
    (hx : a.eval x = .pointer (some ⟨w.heap.size, 0, none⟩)) (hy : a.eval y = .agg cs') (h : ∀ z, Blk z w.heap.size T cs' → w.heap.size < z.heap.size → Below w.heap.size w z → wpList P ops Q rest (a.put d undef) z) :
    wpList P ops Q ({ dst := d, op := .store ty x y, type := t, pos := p, after := af, guard := none } :: rest) a (w.alloc (.cells Z T)) :=
  wpl_store w.heap.size T Z cs' hi (Blk.new w T Z) hZ hs' h1 hx hy (h _ ((Blk.new w T Z).setRow _) (by simp) ((below_alloc _ _).grown (grownBy_setRow _ _ _) (by simp) (fun q hq => by cases hq; exact Nat.le_refl _)))
end Go.Proofs.Ytmjdfajdompkeaa
namespace Go.Rat
open Go Go.RowKit
section
variable {P : Program}
theorem run_eqItems_ints (d : Nat) {e : TypeId} {k k' : IntKind} (he : P.underlying e = some (.int k')) (A B : List Int) (w : World) : ∀ (is : List Nat), (∀ i ∈ is, i < A.length ∧ i < B.length) →
    (Op.eqItems (d + 1) e 1 (A.map (Value.int k)).toArray (B.map (Value.int k)).toArray is).run P w = .ok (is.all fun i => A.getD i 0 == B.getD i 0) w
  | [], _ => by simp [Op.eqItems]
  | i :: is, h => by
    obtain ⟨ha, hb⟩ := h i (by simp)
    have hp : P.plainKey e = true := by simp [Program.plainKey, he]
    have h1 : (part e (A.map (Value.int k)).toArray (i * 1)).run P w = .ok (.int k (A.getD i 0)) w := run_part_plain w hp (by
      rw [Nat.mul_one, List.getElem?_toArray, List.getElem?_map, List.getElem?_eq_getElem ha, List.getD_eq_getElem?_getD, List.getElem?_eq_getElem ha]; rfl)
    have h2 : (part e (B.map (Value.int k)).toArray (i * 1)).run P w = .ok (.int k (B.getD i 0)) w := run_part_plain w hp (by
      rw [Nat.mul_one, List.getElem?_toArray, List.getElem?_map, List.getElem?_eq_getElem hb, List.getD_eq_getElem?_getD, List.getElem?_eq_getElem hb]; rfl)
    have ih := run_eqItems_ints d (k := k) he A B w is (fun j hj => h j (by simp [hj]))
    simp only [Op.eqItems, Sem.run_bind, h1, h2, Result.andThen_ok, run_equalIn_int w d e k k' _ _ he, List.all_cons]
    cases hab : (A.getD i 0 == B.getD i 0)
    · simp
    · simpa using ih
theorem all_range_eq {A B : List Int} (h : A.length = B.length) : ((List.range A.length).all fun i => A.getD i 0 == B.getD i 0) = decide (A = B) := by
  by_cases hab : A = B
  · subst hab
    simp
  · rw [decide_eq_false hab, List.all_eq_false]
    refine Classical.byContradiction fun hc => hab (List.ext_getElem h fun i h1 h2 => ?_)
    have : ¬ (¬ (A.getD i 0 == B.getD i 0) = true) := fun hn => hc ⟨i, by simpa using h1, hn⟩
    have h3 := eq_of_beq (Classical.byContradiction this)
    simpa [List.getD_eq_getElem?_getD, List.getElem?_eq_getElem h1, List.getElem?_eq_getElem h2] using h3
theorem run_eql_ints {t e : TypeId} {n : Nat} {i : TypeInfo} {k k' : IntKind} (hu : P.underlying t = some (.array n e)) (hi : P.info? e = some i) (he : P.underlying e = some (.int k')) (hc : P.cellsOf e = 1)
    (A B : List Int) (hA : A.length = n) (hB : B.length = n) (w : World) :
    (Op.equalIn 10000 t (.agg (A.map (Value.int k)).toArray) (.agg (B.map (Value.int k)).toArray)).run P w = .ok (decide (A = B)) w := by
  rw [show (10000 : Nat) = 9998 + 1 + 1 from rfl, run_equalIn_array w (9998 + 1) _ _ hu hi, hc, run_eqItems_ints 9998 he A B w (List.range n) (fun j hj => by simp at hj; omega), ← hA, all_range_eq (by omega)]
theorem bvs_ints (xs : List UInt8) : bvs xs = (xs.map fun x => (x.toNat : Int)).map (Value.int .u8) := by simp [bvs, bv]
theorem nats_inj {xs ys : List UInt8} : (xs.map fun x => (x.toNat : Int)) = (ys.map fun x => (x.toNat : Int)) ↔ xs = ys := by
  constructor
  · intro h
    refine List.map_inj_right (f := fun x : UInt8 => (x.toNat : Int)) (fun x y h => ?_) |>.1 h
    exact UInt8.toNat_inj.1 (by omega)
  · rintro rfl; rfl
theorem run_eql_bytes {t e : TypeId} {n : Nat} {i : TypeInfo} {k' : IntKind} (hu : P.underlying t = some (.array n e)) (hi : P.info? e = some i) (he : P.underlying e = some (.int k')) (hc : P.cellsOf e = 1)
    (xs ys : List UInt8) (hA : xs.length = n) (hB : ys.length = n) (w : World) :
    (Op.equalIn 10000 t (.agg (bvs xs).toArray) (.agg (bvs ys).toArray)).run P w = .ok (decide (xs = ys)) w := by
  rw [bvs_ints, bvs_ints, run_eql_ints hu hi he hc _ _ (by simpa using hA) (by simpa using hB)]
  congr 1
  exact decide_eq_decide.2 nats_inj
end
end Go.Rat
