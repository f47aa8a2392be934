/- Merged. -/
import Derived.WalkKit
import Derived.WalkSpells
import Derived.WalkLawsBesides
import Derived.Maps.AppendAt
import Derived.Deep.AppendLies
import Derived.Deep.Draws
import Derived.Lib.Hide
import Derived.Laws.Tables
import Derived.Deep.MidRow
import Derived.Test.YtbbcofpdfkhljaaDoorRows
import Derived.Lib.AppendStr
import Derived.Laws.CopyOwn
import Derived.ChangeKeysEq
import Derived.Laws.StructEq
import Derived.OrdersHeld
namespace Go.Rat
open Go.RowKit Go

theorem block_of_add (a : Addr) (n : Nat) : (a.add n).block = a.block := by unfold Addr.add; split <;> rfl
theorem add_of_add (a : Addr) (i j : Nat) : (a.add i).add j = a.add (i + j) := by
  unfold Addr.add
  by_cases hi : i = 0 <;> by_cases hj : j = 0 <;> simp [hi, hj, Nat.add_assoc]
theorem add_zero_addr (a : Addr) : a.add 0 = a := by unfold Addr.add; simp

/-- The slice address A reads the cells xs (n elements, size cells each), in a block below B. -/
def Reads (w : World) (B size : Nat) (A : Option Addr) (n : Nat) (xs : List Value) : Prop :=
  xs.length = n * size ∧ (0 < n → ∃ ad, A = some ad ∧ ad.block < B ∧ ∀ j u, xs[j]? = some u → w.cell? (ad.add j) = some u)

section
variable {w w' : World} {B B' size n : Nat} {A : Option Addr} {xs : List Value}
theorem Reads.none_ : Reads w B size A 0 [] := ⟨by simp, fun h => absurd h (by omega)⟩
theorem Reads.keep (h : Reads w B size A n xs) (hk : ∀ p : Addr, p.block < B → w'.cell? p = w.cell? p) : Reads w' B size A n xs :=
  ⟨h.1, fun hn => by
    obtain ⟨ad, e, hb, hc⟩ := h.2 hn
    exact ⟨ad, e, hb, fun j u hu => (hk _ (by rw [block_of_add]; exact hb)).trans (hc j u hu)⟩⟩
theorem Reads.more (h : Reads w B size A n xs) (hB : B ≤ B') : Reads w B' size A n xs :=
  ⟨h.1, fun hn => by
    obtain ⟨ad, e, hb, hc⟩ := h.2 hn
    exact ⟨ad, e, by omega, hc⟩⟩
theorem Reads.below (h : Reads w B size A n xs) (hb : Below B w w') : Reads w' B size A n xs := h.keep fun _ hp => hb.cell hp
theorem Reads.cut (h : Reads w B size A n xs) {k cap : Nat} (hk : k ≤ n) (hc : n ≤ cap) :
    Reads w B size (if cap = k then A else A.map (·.add (k * size))) (n - k) (xs.drop (k * size)) := by
  refine ⟨by rw [List.length_drop, h.1, Nat.sub_mul], fun hn => ?_⟩
  obtain ⟨ad, rfl, hb, hcell⟩ := h.2 (by omega)
  rw [if_neg (by omega)]
  refine ⟨ad.add (k * size), rfl, by rw [block_of_add]; exact hb, fun j u hu => ?_⟩
  rw [add_of_add]
  exact hcell _ u (by rw [← hu, List.getElem?_drop])
theorem Reads.take_ (h : Reads w B size A n xs) {k : Nat} (hk : k ≤ n) : Reads w B size A k (xs.take (k * size)) := by
  refine ⟨by rw [List.length_take, h.1]; exact Nat.min_eq_left (Nat.mul_le_mul_right _ hk), fun hn => ?_⟩
  obtain ⟨ad, rfl, hb, hcell⟩ := h.2 (by omega)
  refine ⟨ad, rfl, hb, fun j u hu => hcell j u ?_⟩
  rw [List.getElem?_take] at hu
  split at hu
  · exact hu
  · cases hu
theorem Reads.of_own {base : Nat} {e : TypeId} {c : Nat} (h : w.ownsRow base e size (.slice A n c) n xs) : Reads w w.heap.size size A n xs := by
  refine ⟨h.1, fun hn => ?_⟩
  obtain ⟨g, cap, hv, _, hlt⟩ := h.form hn
  have hA : A = some ⟨g, 0, none⟩ := by injection hv
  subst hA
  exact ⟨_, rfl, hlt, h.cells (g := g) rfl⟩
end

def bv (x : UInt8) : Value := .int .u8 (x.toNat : Int)
def bvs (xs : List UInt8) : List Value := xs.map bv
def ub (k : Int) : UInt8 := UInt8.ofNat k.toNat
theorem bv_ub {k : Int} (h0 : 0 ≤ k) (h1 : k < 256) : bv (ub k) = .int .u8 k := by
  unfold bv ub
  congr 1
  have : (UInt8.ofNat k.toNat).toNat = k.toNat := by rw [UInt8.toNat_ofNat']; omega
  omega
theorem bvs_append (xs ys : List UInt8) : bvs (xs ++ ys) = bvs xs ++ bvs ys := by simp [bvs]
theorem bvs_length (xs : List UInt8) : (bvs xs).length = xs.length := by simp [bvs]
theorem bv_one (x : UInt8) : (bv x).oneCell' = true := rfl
theorem bvs_one (xs : List UInt8) : ∀ u ∈ bvs xs, u.oneCell' = true := by
  intro u hu
  simp only [bvs, List.mem_map] at hu
  obtain ⟨x, _, rfl⟩ := hu
  rfl

/-- A []byte that reads xs. -/
def RB (w : World) (A : Option Addr) (n : Nat) (xs : List UInt8) : Prop := Reads w w.heap.size 1 A n (bvs xs)
/-- A []byte of the call's own (its block is base or behind it). -/
def OB (e : TypeId) (w : World) (base : Nat) (A : Option Addr) (n c : Nat) (xs : List UInt8) : Prop := w.ownsRow base e 1 (.slice A n c) n (bvs xs)

/-- From w to w2: new blocks; of the old ones only that of A (if any) may have turned; A2 lies where A lay, or in a new block. -/
structure Grew (w w2 : World) (A A2 : Option Addr) : Prop where
  grown : w.grownBy w2 (A.map (·.block))
  lies : A2.map (·.block) = A.map (·.block) ∨ (∃ g, A2.map (·.block) = some g ∧ w.heap.size ≤ g ∧ g < w2.heap.size)

section
variable {w w' : World} {B B' base n c : Nat} {A A2 : Option Addr} {xs : List UInt8} {e : TypeId}
theorem RB.len (h : RB w A n xs) : xs.length = n := by have := h.1; simpa [bvs_length] using this
theorem RB.at_ {k : Nat} (h : RB w A n xs) (hk : k < n) : ∃ ad, A = some ad ∧ ad.block < w.heap.size ∧ w.cell? (ad.add k) = some (.int .u8 ((xs.getD k 0).toNat : Int)) := by
  obtain ⟨ad, e, hb, hc⟩ := h.2 (by omega)
  have hl : k < xs.length := by have := RB.len h; omega
  refine ⟨ad, e, hb, hc k _ ?_⟩
  unfold bvs
  rw [List.getElem?_map, List.getElem?_eq_getElem hl, List.getD_eq_getElem?_getD, List.getElem?_eq_getElem hl]
  rfl
theorem RB.nil0 (h : RB w none n xs) : n = 0 := by
  rcases Nat.eq_zero_or_pos n with h0 | h0
  · exact h0
  · obtain ⟨ad, h, _⟩ := h.2 h0
    cases h
theorem OB.len (h : OB e w base A n c xs) : xs.length = n := by have := h.1; simpa [bvs_length] using this
theorem OB.reads (h : OB e w base A n c xs) : RB w A n xs := Reads.of_own h
theorem OB.ge (h : OB e w base A n c xs) : ∀ g, A.map (·.block) = some g → base ≤ g ∧ g < w.heap.size := by
  intro g hg
  refine World.ownsRow.lt h g ?_
  cases A <;> simp_all [Value.ownBlock]
theorem RB.below (h : RB w A n xs) (hb : Below w.heap.size w w') : RB w' A n xs := (Reads.below h hb).more hb.size
theorem RB.grown {row : Option Nat} (h : RB w A n xs) (hg : w.grownBy w' row) (hne : A.map (·.block) ≠ row ∨ row = none) : RB w' A n xs := by
  refine ⟨h.1, fun hn => ?_⟩
  obtain ⟨ad, rfl, hb, hc⟩ := h.2 hn
  refine ⟨ad, rfl, Nat.lt_of_lt_of_le hb hg.size, fun j u hu => ?_⟩
  rw [World.cell?_of_block (hg.block _ (by rw [block_of_add]; exact hb) (by rw [block_of_add]; rcases hne with h | h <;> simp_all))]
  exact hc j u hu
theorem OB.grown {row : Option Nat} (h : OB e w base A n c xs) (hg : w.grownBy w' row) (hne : A.map (·.block) ≠ row ∨ row = none) : OB e w' base A n c xs :=
  World.ownsRow.kept h hg (by rcases hne with hne | rfl <;> cases A <;> simp_all [Value.ownBlock])
theorem own_cap {size : Nat} {ys : List Value} (h : w.ownsRow base e size (.slice A n c) n ys) : n ≤ c ∧ c ≤ 9223372036854775807 := by
  rcases h.2 with ⟨h, h2⟩ | ⟨g, cap, cur, h, _, _, hnc, hm, _⟩
  · injection h with h3 h4 h5
    omega
  · injection h with h3 h4 h5
    simp only [maxLen] at hm
    omega
theorem own_shorter {size k : Nat} {ys : List Value} (h : w.ownsRow base e size (.slice A n c) n ys) (hk : k ≤ n) : w.ownsRow base e size (.slice A k c) k (ys.take (k * size)) := by
  obtain ⟨h1, h2⟩ := h
  have hks : k * size ≤ n * size := Nat.mul_le_mul_right _ hk
  refine ⟨by rw [List.length_take, h1]; exact Nat.min_eq_left hks, ?_⟩
  rcases h2 with ⟨h, h2⟩ | ⟨g, cap, cur, h, hb, hg, hnc, hm, hcs, ht⟩
  · injection h with h3 h4 h5
    obtain rfl : k = 0 := by omega
    subst h3 h5
    exact .inl ⟨rfl, rfl⟩
  · injection h with h3 h4 h5
    subst h3 h5
    refine .inr ⟨g, c, cur, rfl, hb, hg, by omega, hm, hcs, ?_⟩
    rw [← ht, List.take_take, Nat.min_eq_left hks]
theorem own_full {size : Nat} {ys : List Value} (h : w.ownsRow base e size (.slice A n c) n ys) : ∃ zs, w.ownsRow base e size (.slice A c c) c zs ∧ zs.take (n * size) = ys := by
  obtain ⟨h1, h2⟩ := h
  rcases h2 with ⟨h, h2⟩ | ⟨g, cap, cur, h, hb, hg, hnc, hm, hcs, ht⟩
  · injection h with h3 h4 h5
    subst h2 h3 h5
    exact ⟨[], ⟨by simp, .inl ⟨rfl, rfl⟩⟩, by have h0 : ys = [] := List.eq_nil_of_length_eq_zero (by simpa using h1); subst h0; simp⟩
  · injection h with h3 h4 h5
    subst h3 h5
    exact ⟨cur.toList, ⟨by simpa using hcs, .inr ⟨g, c, cur, rfl, hb, hg, Nat.le_refl _, hm, hcs, List.take_of_length_le (by simp [hcs])⟩⟩, ht⟩
theorem OB.cap (h : OB e w base A n c xs) : n ≤ c ∧ c ≤ 9223372036854775807 := own_cap h
theorem OB.empty (w : World) (e : TypeId) : OB e (w.alloc (.cells #[] e)) w.heap.size (some ⟨w.heap.size, 0, none⟩) 0 0 [] :=
  World.ownsRow_made w #[] 0 (Nat.le_refl _) (by simp [maxLen]) (by simp)
theorem OB.nil_ (w : World) (e : TypeId) (base : Nat) : OB e w base none 0 0 [] := World.ownsRow_nil _ _ _ _
theorem OB.mono (h : OB e w base A n c xs) (hb : B ≤ base) : OB e w B A n c xs := by
  obtain ⟨h1, h2⟩ := h
  refine ⟨h1, ?_⟩
  rcases h2 with h2 | ⟨g, cap, cur, hv, hg, r⟩
  · exact .inl h2
  · exact .inr ⟨g, cap, cur, hv, by omega, r⟩
theorem RB.one (w : World) (e : TypeId) (x : UInt8) : RB (w.alloc (.cells #[bv x] e)) (some ⟨w.heap.size, 0, none⟩) 1 [x] :=
  ⟨by simp [bvs], fun _ => ⟨_, rfl, by simp, cell_one_new w (bv x) e⟩⟩
theorem RB.one_ (w : World) (e : TypeId) {v : Value} {x : UInt8} (h : v = bv x) : RB (w.alloc (.cells #[v] e)) (some ⟨w.heap.size, 0, none⟩) 1 [x] := by
  subst h; exact RB.one w e x
theorem OB.alloc (h : OB e w base A n c xs) (o : Obj) : OB e (w.alloc o) base A n c xs := h.grown (World.grownBy_alloc w o none) (.inr rfl)
theorem RB.alloc (h : RB w A n xs) (o : Obj) : RB (w.alloc o) A n xs := h.grown (World.grownBy_alloc w o none) (.inr rfl)
theorem below_alloc2 {a : World} (h : Below B a w) (hB : B ≤ a.heap.size) (o : Obj) : Below B a (w.alloc o) := h.alloc (Nat.le_trans hB h.size) o
/-- .. where the row lies from the base on. -/
theorem Grew.own {a : World} {m k : Nat} {ys : List UInt8} (h : Grew w w' A A2) (hb : Below B a w) (hB : B ≤ a.heap.size) (ho : OB e w B A m k ys) : Below B a w' :=
  hb.grown h.grown (Nat.le_trans hB hb.size) (fun g hg => (ho.ge g hg).1)
theorem RB.nil_ (w : World) (A : Option Addr) : RB w A 0 [] := ⟨by simp [bvs], fun h => absurd h (by omega)⟩
theorem Grew.below {a : World} (h : Grew w w' A A2) (hb : Below B a w) (hB : B ≤ w.heap.size) (hA : ∀ g, A.map (·.block) = some g → B ≤ g) : Below B a w' :=
  hb.grown h.grown hB hA
theorem below_alloc (w : World) (o : Obj) : Below w.heap.size w (w.alloc o) := (Below.refl _ _).alloc (Nat.le_refl _) o
end

section
variable {P : Program} {w : World}
theorem reads_split {B m : Nat} {A : Option Addr} {news : List Value} {size : Nat} (hr : Reads w B size A m news) :
    (m = 0 ∧ news = []) ∨ ∃ ad, A = some ad ∧ ∀ j u, news[j]? = some u → w.cell? (ad.add j) = some u := by
  rcases Nat.eq_zero_or_pos m with h0 | h0
  · subst h0
    exact .inl ⟨rfl, List.eq_nil_of_length_eq_zero (by simpa using hr.1)⟩
  · obtain ⟨ad, h, _, hc⟩ := hr.2 h0
    exact .inr ⟨ad, h, hc⟩

/-- append onto a row of the call's own; the source is a slice, nil or not. -/
theorem run_append_reads (w : World) (base : Nat) (t ty e : TypeId) (i : TypeInfo) (z : Value) (size bytes : Nat) (ht : P.underlying t = some (.slice e)) (hi : P.info? e = some i) (hz : i.zero = some z)
    (hsize : i.size = size) (hby : i.bytes = bytes) (hzs : z.cells.size = size) (hsz : 0 < size)
    (A : Option Addr) (n c : Nat) (xs : List Value) (hown : w.ownsRow base e size (.slice A n c) n xs)
    (B : Nat) (A' : Option Addr) (m c' : Nat) (news : List Value) (hr : Reads w B size A' m news) (h1 : ∀ u ∈ news, u.oneCell' = true)
    (h63 : n + m ≤ maxLen) (hbytes : (n + m) * bytes ≤ 140737488355328) (hbase : base ≤ w.heap.size) :
    ∃ A2 c2 w2, (Builtin.append_ #[t, t] ty #[.slice A n c, .slice A' m c']).run P w = .ok (.slice A2 (n + m) c2) w2 ∧ w2.ownsRow base e size (.slice A2 (n + m) c2) (n + m) (xs ++ news) ∧
      w.grownBy w2 (A.map (·.block)) ∧ (A2.map (·.block) = A.map (·.block) ∨ A2.map (·.block) = some w.heap.size) := by
  have hob : ∀ (A : Option Addr) (n c : Nat), (Value.slice A n c).ownBlock = A.map (·.block) := by intro A _ _; cases A <;> rfl
  rcases reads_split hr with ⟨rfl, rfl⟩ | ⟨ad, rfl, hc⟩
  · refine ⟨A, c, w, ?_, by simpa using hown, World.grownBy.refl w _, .inl rfl⟩
    rcases hown.2 with ⟨h, h2⟩ | ⟨g, cap, cur, h, _, _, hnc, _⟩
    · injection h with h3 h4 h5
      subst h3 h4 h5
      cases A' <;> simp [Builtin.append_, run_underlying ht, sizeOf, typeInfo, hi, Builtin.lenOf, Builtin.firstCells, loadCells, loadCellsFrom]
    · injection h with h3 h4 h5
      subst h3 h5
      cases A' <;> simp [Builtin.append_, run_underlying ht, sizeOf, typeInfo, hi, Builtin.lenOf, Builtin.firstCells, hnc, storeCells, loadCells, loadCellsFrom]
  · obtain ⟨v', w', hrun, h2, h3, _, h5⟩ := run_append_own_at (P := P) w base t ty e i z size bytes ht hi hz hsize hby hzs hsz _ n xs hown ad m c' news hr.1 hc h1 h63 hbytes hbase
    rw [hob] at h3 h5
    have hv : ∃ A2 c2, v' = .slice A2 (n + m) c2 := by
      rcases h2.2 with ⟨h, h'⟩ | ⟨g, cap, cur, h, _⟩
      · exact ⟨none, 0, by rw [h, h']⟩
      · exact ⟨_, _, h⟩
    obtain ⟨A2, c2, rfl⟩ := hv
    rw [hob] at h5
    exact ⟨A2, c2, w', hrun, h2, h3, h5⟩

theorem wpl_append {ops : Array Oper} {rest : List Oper} {o : Oper} {a : Act} {Q : Exit → Act → World → Prop} (hgd : o.guard = none) (s x : Operand) (t : TypeId)
    (ho : o.op = .call { callee := .builtin .append, args := #[s, x], argTypes := #[t, t] })
    (base : Nat) (e : TypeId) (i : TypeInfo) (z : Value) (size bytes : Nat) (ht : P.underlying t = some (.slice e)) (hi : P.info? e = some i) (hz : i.zero = some z)
    (hsize : i.size = size) (hby : i.bytes = bytes) (hzs : z.cells.size = size) (hsz : 0 < size)
    (A : Option Addr) (n c : Nat) (xs : List Value) (hs : a.eval s = .slice A n c) (hown : w.ownsRow base e size (.slice A n c) n xs)
    (A' : Option Addr) (m c' : Nat) (news : List Value) (hx : a.eval x = .slice A' m c') (hr : ∃ B, Reads w B size A' m news) (h1 : ∀ u ∈ news, u.oneCell' = true)
    (h63 : n + m ≤ maxLen) (hbytes : (n + m) * bytes ≤ 140737488355328) (hbase : base ≤ w.heap.size)
    (h : ∀ A2 N2 c2 w2, N2 ≤ c2 → c2 ≤ 9223372036854775807 → w2.ownsRow base e size (.slice A2 N2 c2) N2 (xs ++ news) → Grew w w2 A A2 → wpList P ops Q rest (a.put o.dst (.slice A2 N2 c2)) w2) :
    wpList P ops Q (o :: rest) a w := by
  obtain ⟨B, hr⟩ := hr
  refine wpList_plain hgd fun K hK => ?_
  obtain ⟨A2, c2, w2, hrun, h2, h3, h4⟩ := run_append_reads (P := P) w base t o.type e i z size bytes ht hi hz hsize hby hzs hsz A n c xs hown B A' m c' news hr h1 h63 hbytes hbase
  unfold Oper.wp execOp
  simp only [ho, resolve, invoke, builtin, Sem.run_bind, Sem.run_pure, Result.andThen_ok, List.map_toArray, List.map_cons, List.map_nil, hs, hx, hrun]
  exact hK _ _ (h _ _ _ _ (own_cap h2).1 (own_cap h2).2 h2 ⟨h3, h4.imp id fun h => ⟨_, h, Nat.le_refl _, (h2.lt _ (by cases A2 <;> simp_all [Value.ownBlock])).2⟩⟩)

/-- 'append(s[:cap(s)], make([]T, k)...)': a new row: what was there, noughts behind it. -/
theorem run_append_zeros (w : World) (base : Nat) (t ti ty e : TypeId) (i : TypeInfo) (z : Value) (bytes : Nat) (ht : P.underlying t = some (.slice e)) (hti : ∃ k, P.underlying ti = some (.int k)) (hi : P.info? e = some i) (hz : i.zero = some z)
    (hsize : i.size = 1) (hby : i.bytes = bytes) (hzs : z.cells = #[z])
    (A : Option Addr) (c : Nat) (xs : List Value) (hown : w.ownsRow base e 1 (.slice A c c) c xs)
    (k : Nat) (hk : 0 < k) (h63 : c + k ≤ maxLen) (hbytes : (c + k) * bytes ≤ 140737488355328) (hbase : base ≤ w.heap.size) :
    ∃ A2 c2 w2, (Builtin.append_ #[t, ti] ty #[.slice A c c, .int .i64 (k : Int)]).run P w = .ok (.slice A2 (c + k) c2) w2 ∧ w2.ownsRow base e 1 (.slice A2 (c + k) c2) (c + k) (xs ++ List.replicate k z) ∧
      w.grownBy w2 none ∧ (∃ g, A2.map (·.block) = some g ∧ w.heap.size ≤ g ∧ g < w2.heap.size) := by
  subst hby
  obtain ⟨ki, hti⟩ := hti
  have hsmall : c + k ≤ 9223372036854775807 := by simp only [maxLen] at h63; omega
  have hwk : IntKind.i64.wrap (k : Int) = (k : Int) := IntWalk.i64_in _ (by omega)
  have hkb : (k : Int) * (i.bytes : Int) ≤ 281474976710656 := by
    have : k * i.bytes ≤ (c + k) * i.bytes := Nat.mul_le_mul_right _ (by omega)
    have h2 : ((k * i.bytes : Nat) : Int) ≤ 140737488355328 := by omega
    rw [Int.natCast_mul] at h2; omega
  have hnext : Builtin.nextslicecap (c + k) c * i.bytes ≤ 281474976710656 := growslice_fits (by omega) hbytes
  have hr := Reads.of_own hown
  have hge := grownCap_ge w (c + k) c e
  have hcm : grownCap w (c + k) c e ≤ maxLen := grownCap_le_maxLen w (c + k) c e h63
  have hold : ∀ w' : World, w'.heap = w.heap → (Builtin.firstCells 1 c (.slice A c c)).run P w' = .ok xs.toArray w' := by
    intro w' hw'
    rcases reads_split hr with ⟨rfl, rfl⟩ | ⟨ad, rfl, hc⟩
    · cases A <;> simp [Builtin.firstCells, loadCells, loadCellsFrom]
    · exact run_firstCells_some (P := P) w' 1 c ad c c xs (by simpa using hown.1) (fun j u hu => by rw [← hc j u hu]; simp [World.cell?, hw'])
  have hkz : (Builtin.zeroCells #[z] k).toList = List.replicate k z := by
    refine List.ext_getElem (by simp [Builtin.zeroCells]) ?_
    intro j h1 h2
    simp [Builtin.zeroCells, Nat.mod_one]
  refine ⟨some ⟨w.heap.size, 0, none⟩, grownCap w (c + k) c e, w.drew.alloc (.cells (xs.toArray ++ Builtin.zeroCells #[z] k ++ Builtin.zeroCells #[z] (grownCap w (c + k) c e - (c + k))) e), ?_, ⟨?_, .inr ⟨w.heap.size, _, _, rfl, hbase, _root_.Go.heap_alloc_new w.drew _, hge, hcm, ?_, ?_⟩⟩, ⟨rfl, rfl, rfl, by simp, fun j hj _ => _root_.Go.heap_alloc_old w.drew _ hj⟩, ⟨w.heap.size, rfl, Nat.le_refl _, by simp⟩⟩
  · have hc1 : ¬ (c + k ≤ c) := by omega
    have hkz0 : k ≠ 0 := by omega
    have hh := hold w.drew rfl
    have h63' : ¬ (9223372036854775807 < ((c : Int) + (k : Int))) := by omega
    have h48' : ¬ (281474976710656 < Builtin.nextslicecap (c + k) c * i.bytes) := by omega
    have hneg : ¬ ((k : Int) < 0) := by omega
    have hbig : ¬ (281474976710656 < (k : Int) * (i.bytes : Int)) := by omega
    simp [Builtin.append_, run_underlying ht, run_underlying hti, sizeOf, typeInfo, zeroValue, hi, hz, hsize, asInt, asIntOf, hwk, hneg, hbig, hkz0, h63', h48', Question.forced, hh, newRow, grownCap, hzs]
    intro hcc; omega
  · have := hown.1; simp at this ⊢; omega
  · have := hown.1; simp at this; simp [Builtin.zeroCells]; omega
  · have := hown.1
    simp at this
    rw [Array.toList_append, Array.toList_append, hkz]
    rw [List.take_append_of_le_length (by simp; omega), List.take_of_length_le (by simp; omega)]

theorem wpl_append_zeros {ops : Array Oper} {rest : List Oper} {o : Oper} {a : Act} {Q : Exit → Act → World → Prop} (hgd : o.guard = none) (s x : Operand) (t ti : TypeId)
    (ho : o.op = .call { callee := .builtin .append, args := #[s, x], argTypes := #[t, ti] })
    (base : Nat) (e : TypeId) (i : TypeInfo) (z : Value) (bytes : Nat) (ht : P.underlying t = some (.slice e)) (hti : ∃ k, P.underlying ti = some (.int k)) (hi : P.info? e = some i) (hz : i.zero = some z)
    (hsize : i.size = 1) (hby : i.bytes = bytes) (hzs : z.cells = #[z])
    (A : Option Addr) (c : Nat) (xs : List Value) (hs : a.eval s = .slice A c c) (hown : w.ownsRow base e 1 (.slice A c c) c xs)
    (k : Int) (hx : a.eval x = .int .i64 k) (hk : 0 < k) (h63 : c + k.toNat ≤ maxLen) (hbytes : (c + k.toNat) * bytes ≤ 140737488355328) (hbase : base ≤ w.heap.size)
    (h : ∀ A2 N2 c2 w2, N2 ≤ c2 → c2 ≤ 9223372036854775807 → w2.ownsRow base e 1 (.slice A2 N2 c2) N2 (xs ++ List.replicate k.toNat z) → Grew w w2 none A2 → wpList P ops Q rest (a.put o.dst (.slice A2 N2 c2)) w2) :
    wpList P ops Q (o :: rest) a w := by
  refine wpList_plain hgd fun K hK => ?_
  obtain ⟨A2, c2, w2, hrun, h2, h3, h4⟩ := run_append_zeros (P := P) w base t ti o.type e i z bytes ht hti hi hz hsize hby hzs A c xs hown k.toNat (by omega) h63 hbytes hbase
  rw [Int.toNat_of_nonneg (by omega)] at hrun
  unfold Oper.wp execOp
  simp only [ho, resolve, invoke, builtin, Sem.run_bind, Sem.run_pure, Result.andThen_ok, List.map_toArray, List.map_cons, List.map_nil, hs, hx, hrun]
  obtain ⟨g, hg, hg2⟩ := h4
  refine hK _ _ (h _ _ _ _ (own_cap h2).1 (own_cap h2).2 h2 ⟨h3, .inr ⟨g, hg, hg2⟩⟩)
end

/-- Block g is just these cells, none frozen. -/
def Blk (w : World) (g : Nat) (t : TypeId) (cs : Array Value) : Prop := w.heap[g]? = some (.cells cs t (0, 0))
section
variable {w w' : World} {g : Nat} {t : TypeId} {cs : Array Value}
theorem Blk.lt (h : Blk w g t cs) : g < w.heap.size := by
  rcases Nat.lt_or_ge g w.heap.size with hlt | hge
  · exact hlt
  · unfold Blk at h; rw [Array.getElem?_eq_none hge] at h; cases h
theorem Blk.cell (h : Blk w g t cs) (i : Nat) : w.cell? ⟨g, i, none⟩ = cs[i]? := cell_of_row w g i cs t (0, 0) h
theorem Blk.frozen (h : Blk w g t cs) (i : Nat) : w.frozen? ⟨g, i, none⟩ = false := by
  unfold Blk at h
  simp [World.frozen?, h]
theorem Blk.new (w : World) (t : TypeId) (cs : Array Value) : Blk (w.alloc (.cells cs t)) w.heap.size t cs := _root_.Go.heap_alloc_new w _
theorem Blk.alloc (h : Blk w g t cs) (o : Obj) : Blk (w.alloc o) g t cs := (Below.heap_alloc w o g h.lt).trans h
theorem Blk.set_ (h : Blk w g t cs) (i : Nat) (u : Value) : Blk (w.setCell ⟨g, i, none⟩ u) g t (cs.setIfInBounds i u) := by
  unfold Blk at h ⊢
  simp [World.setCell, Array.getElem?_modify, h]
theorem Blk.far (h : Blk w g t cs) {p : Addr} (hp : g ≠ p.block) (u : Value) : Blk (w.setCell p u) g t cs := (Below.heap_setCell w p u g hp).trans h
theorem Blk.below {B : Nat} (h : Blk w g t cs) (hb : Below B w w') (hg : g < B) : Blk w' g t cs := (hb.block g hg).trans h
theorem Blk.grown {row : Option Nat} (h : Blk w g t cs) (hb : w.grownBy w' row) (hg : some g ≠ row) : Blk w' g t cs := (hb.block g h.lt hg).trans h
/-- Only block g has turned, and new ones have come. -/
theorem grownBy_set (w : World) (g i : Nat) (u : Value) : w.grownBy (w.setCell ⟨g, i, none⟩ u) (some g) :=
  ⟨rfl, rfl, rfl, by simp, fun k _ hne => Below.heap_setCell _ _ _ _ (fun e => hne (by rw [e]))⟩
theorem grown_drew {row : Option Nat} (h : w.drew.grownBy w' row) : w.grownBy w' row := ⟨h.os, h.tape, h.output, h.size, h.block⟩
theorem grown_drewN {row : Option Nat} {k : Nat} (h : (w.drewN k).grownBy w' row) : w.grownBy w' row := ⟨h.os, h.tape, h.output, h.size, h.block⟩
theorem grownBy_of_below (h : Below w.heap.size w w') (row : Option Nat) : w.grownBy w' row := ⟨h.os, h.tape, h.output, h.size, fun k hk _ => h.block k hk⟩
theorem below_of_grownBy {row : Option Nat} {B : Nat} (h : w.grownBy w' row) (hr : ∀ g, row = some g → B ≤ g) (hB : B ≤ w.heap.size) : Below B w w' := (Below.refl B w).grown h hB hr
end
theorem Blk.reads {w : World} {g : Nat} {t : TypeId} {cs : Array Value} (h : Blk w g t cs) (xs : List UInt8) (hx : cs.toList.take xs.length = bvs xs) : RB w (some ⟨g, 0, none⟩) xs.length xs := by
  refine ⟨by simp [bvs_length], fun _ => ⟨_, rfl, h.lt, fun j u hu => ?_⟩⟩
  have hj : j < xs.length := by have := (List.getElem?_eq_some_iff.1 hu).1; rwa [bvs_length] at this
  rw [show (⟨g, 0, none⟩ : Addr).add j = ⟨g, j, none⟩ by unfold Addr.add; split <;> simp_all, h.cell j, ← Array.getElem?_toList]
  rw [← hx, List.getElem?_take] at hu
  simpa [hj] using hu
end Go.Rat
namespace Go.Rat
open Go Go.RowKit
section
variable {P : Program} {w : World} {g : Nat} {T : TypeId} {cs cs' : Array Value}
theorem Blk.setRow (h : Blk w g T cs) (cs' : Array Value) : Blk (w.setRow g cs') g T cs' := setRow_heap w g cs cs' T (0, 0) h
theorem grownBy_setRow (w : World) (g : Nat) (cs : Array Value) : w.grownBy (w.setRow g cs) (some g) :=
  ⟨rfl, rfl, rfl, by simp, fun k _ hne => setRow_other w g k cs (fun e => hne (by rw [e]))⟩
theorem Blk.setRow_self (h : Blk w g T cs) : w.setRow g cs = w := by
  have hh : (w.setRow g cs).heap = w.heap := by
    apply Array.ext_getElem?
    intro i
    by_cases hi : i = g
    · subst hi
      rw [setRow_heap w i cs cs T (0, 0) h, h]
    · exact setRow_other w g i cs hi
  show { w with heap := (w.setRow g cs).heap } = w
  rw [hh]
theorem wpl_load {ops : Array Oper} {rest : List Oper} {a : Act} {Q : Exit → Act → World → Prop} {d : Option Tmp} {ty : TypeId} {x : Operand} {t : TypeId} {p : String} {af : Array Edge} (g : Nat) (T : TypeId) (cs : Array Value) {n : Nat} {e : TypeId}
    (hu : P.underlying ty = some (.array n e)) (hi : (P.info? ty).map (·.size) = some n) (hB : Blk w g T cs) (hs : cs.size = n)
    (hx : a.eval x = .pointer (some ⟨g, 0, none⟩)) (h : wpList P ops Q rest (a.put d (.agg cs)) w) :
    wpList P ops Q ({ dst := d, op := .load ty x, type := t, pos := p, after := af, guard := none } :: rest) a w :=
  wpList_load_row rfl ty x rfl g hx T cs (0, 0) _ hB hu rfl (by rw [hs]; exact hi) h
theorem wpl_store {ops : Array Oper} {rest : List Oper} {a : Act} {Q : Exit → Act → World → Prop} {d : Option Tmp} {ty : TypeId} {x y : Operand} {t : TypeId} {p : String} {af : Array Edge} (g : Nat) (T : TypeId) (cs cs' : Array Value) {n : Nat}
    (hi : (P.info? ty).map (·.size) = some n) (hB : Blk w g T cs) (hs : cs.size = n) (hs' : cs'.size = n) (h1 : cs'.all (·.oneCell') = true)
    (hx : a.eval x = .pointer (some ⟨g, 0, none⟩)) (hy : a.eval y = .agg cs') (h : wpList P ops Q rest (a.put d undef) (w.setRow g cs')) :
    wpList P ops Q ({ dst := d, op := .store ty x y, type := t, pos := p, after := af, guard := none } :: rest) a w :=
  wpList_store_row rfl ty x y rfl g cs' hx hy T cs hB (by rw [hs']; exact hi) (by rw [hs, hs']) h1 h
end
def u32s (l : List Int) : List Value := l.map (Value.int .u32)
theorem u32s_one (l : List Int) : (u32s l).toArray.all (·.oneCell') = true := by
  simp only [u32s, List.all_toArray, List.all_map, List.all_eq_true]
  intro x _
  rfl
theorem bvs_all (xs : List UInt8) : (bvs xs).toArray.all (·.oneCell') = true := by
  simp only [bvs, List.all_toArray, List.all_map, List.all_eq_true]
  intro x _
  rfl
theorem u32s_size (l : List Int) : (u32s l).toArray.size = l.length := by simp [u32s]
theorem bvs_size (l : List UInt8) : (bvs l).toArray.size = l.length := by simp [bvs]
theorem u32s_set (l : List Int) (i : Nat) (x : Int) : (u32s l).toArray.setIfInBounds i (.int .u32 x) = (u32s (l.set i x)).toArray := by
  simp [u32s, List.map_set]
theorem u32s_at {w : World} {g : Nat} {t : TypeId} {l : List Int} (h : Blk w g t (u32s l).toArray) {i : Nat} (hi : i < l.length) : w.cell? ⟨g, i, none⟩ = some (.int .u32 (l.getD i 0)) := by
  rw [h.cell i]
  simp [u32s, List.getElem?_eq_getElem hi, List.getD_eq_getElem?_getD]
theorem bytes_at {w : World} {g : Nat} {t : TypeId} {xs : List UInt8} (h : Blk w g t (bvs xs).toArray) {i : Nat} (hi : i < xs.length) : w.cell? ⟨g, i, none⟩ = some (.int .u8 ((xs.getD i 0).toNat : Int)) := by
  rw [h.cell i]
  simp [bvs, bv, List.getElem?_eq_getElem hi, List.getD_eq_getElem?_getD]
end Go.Rat
namespace Go.Rat
open Go Go.RowKit
theorem load_row_run {P : Program} {w : World} {o : Oper} {a : Act} {ty : TypeId} {x : Operand} {T : TypeId} (ho : o.op = .load ty x) (g : Nat) (cs : Array Value) {n : Nat} {D : TypeDesc}
    (hu : P.underlying ty = some D) (hd : D.isRow = true) (hi : (P.info? ty).map (·.size) = some n) (hB : Blk w g T cs) (hl : cs.size = n)
    (hx : a.eval x = .pointer (some ⟨g, 0, none⟩)) : (execOp a.eval o).run P w = .ok (.value (.agg cs)) w := by
  have hr : w.rangeAt g 0 cs.toList := by
    intro i v hv
    have := hB.cell i
    rw [Nat.zero_add, this, ← Array.getElem?_toList]
    exact hv
  unfold execOp
  simp only [ho, hx, Instr.loadAt, Instr.sureAddr, Sem.run_bind, Sem.run_pure, Result.andThen_ok, run_loadVar_mid w g 0 ty cs.toList D hr hu hd (by rw [hi]; simp [hl])]
theorem wpl_loadG {P : Program} {w : World} {ops : Array Oper} {rest : List Oper} {a : Act} {Q : Exit → Act → World → Prop} {d : Option Tmp} {ty : TypeId} {x : Operand} {t : TypeId} {p : String} {af : Array Edge} {gd : Option (Nat × Bool)} (g : Nat) (T : TypeId) (cs : Array Value) {n : Nat} {e : TypeId}
    (hu : P.underlying ty = some (.array n e)) (hi : (P.info? ty).map (·.size) = some n) (hB : Blk w g T cs) (hs : cs.size = n)
    (hw : Region.wanted { dst := d, op := .load ty x, type := t, pos := p, after := af, guard := gd } (yielded ops a.tmps) = true)
    (hx : a.eval x = .pointer (some ⟨g, 0, none⟩)) (h : wpList P ops Q rest (a.put d (.agg cs)) w) :
    wpList P ops Q ({ dst := d, op := .load ty x, type := t, pos := p, after := af, guard := gd } :: rest) a w :=
  BigFrame.wpList_want hw fun _ hK => by
    unfold Oper.wp
    rw [load_row_run rfl g cs hu rfl hi hB hs hx]
    exact hK _ _ h
end Go.Rat
namespace Go.Proofs.YtbbcofpdfkhljaaDoor
open Go.RowKit Go.Rat
theorem u8info : (Tryd.prog.info? 5).map (fun i => (i.zero, i.size, i.bytes)) = some (some (.int .u8 0), 1, 1) := by kernel_rfl
section
variable {w : World}
/-- append of bytes onto bytes of the call's own. -/
theorem app_bytes {ops : Array Oper} {rest : List Oper} {o : Oper} {a : Act} {Q : Exit → Act → World → Prop} (hgd : o.guard = none) (s x : Operand)
    (ho : o.op = .call { callee := .builtin .append, args := #[s, x], argTypes := #[64, 64] })
    (base : Nat) (A : Option Addr) (n c : Nat) (xs : List UInt8) (hs : a.eval s = .slice A n c) (hown : OB 5 w base A n c xs)
    (A' : Option Addr) (m c' : Nat) (news : List UInt8) (hx : a.eval x = .slice A' m c') (hr : RB w A' m news)
    (hbytes : n + m ≤ 140737488355328) (hbase : base ≤ w.heap.size)
    (h : ∀ A2 N2 c2 w2, N2 ≤ c2 → c2 ≤ 9223372036854775807 → OB 5 w2 base A2 N2 c2 (xs ++ news) → Grew w w2 A A2 → wpList Tryd.prog ops Q rest (a.put o.dst (.slice A2 N2 c2)) w2) :
    wpList Tryd.prog ops Q (o :: rest) a w := by
  obtain ⟨i0, hi, hz0, hz1, hz2⟩ := info_parts u8info
  exact wpl_append hgd s x 64 ho base 5 i0 _ 1 1 Tryd.underlying64 hi hz0 hz1 hz2 rfl (by omega) A n c (bvs xs) hs hown A' m c' (bvs news) hx ⟨_, hr⟩ (bvs_one _)
    (by simp only [maxLen]; omega) (by omega) hbase (fun A2 N2 c2 w2 hc hc' h1 h2 => h A2 N2 c2 w2 hc hc' (by unfold OB; rw [bvs_append]; exact h1) h2)
theorem app_str {ops : Array Oper} {rest : List Oper} {o : Oper} {a : Act} {Q : Exit → Act → World → Prop} (hgd : o.guard = none) (s x : Operand)
    (ho : o.op = .call { callee := .builtin .append, args := #[s, x], argTypes := #[64, 9] })
    (base : Nat) (A : Option Addr) (n c : Nat) (xs : List UInt8) (hs : a.eval s = .slice A n c) (hown : OB 5 w base A n c xs)
    (st : ByteArray) (hx : a.eval x = .string st) (hbytes : n + st.size ≤ 140737488355328) (hbase : base ≤ w.heap.size)
    (h : ∀ A2 N2 c2 w2, N2 ≤ c2 → c2 ≤ 9223372036854775807 → OB 5 w2 base A2 N2 c2 (xs ++ st.data.toList) → w.grownBy w2 (A.map (·.block)) → wpList Tryd.prog ops Q rest (a.put o.dst (.slice A2 N2 c2)) w2) :
    wpList Tryd.prog ops Q (o :: rest) a w := by
  obtain ⟨i0, hi, hz0, hz1, hz2⟩ := info_parts u8info
  refine wpList_plain hgd fun K hK => ?_
  obtain ⟨v', w2, hrun, h2, h3, _⟩ := Lib.run_append_own_string (P := Tryd.prog) w base 64 9 o.type 5 i0 Tryd.underlying64 Tryd.underlying9 hi hz0 hz1 hz2 _ n (bvs xs) hown st (by simp only [maxLen]; omega) hbytes hbase
  have hv : ∃ A2 c2, v' = .slice A2 (n + st.size) c2 := by
    rcases h2.2 with ⟨h, h'⟩ | ⟨g, cap, cur, h, _⟩
    · exact ⟨none, 0, by rw [h, h']⟩
    · exact ⟨_, _, h⟩
  obtain ⟨A2, c2, rfl⟩ := hv
  have hob : (Value.slice A n c).ownBlock = A.map (·.block) := by cases A <;> rfl
  rw [hob] at h3
  unfold Oper.wp execOp
  simp only [ho, resolve, invoke, builtin, Sem.run_bind, Sem.run_pure, Result.andThen_ok, List.map_toArray, List.map_cons, List.map_nil, hs, hx, hrun]
  exact hK _ _ (h _ _ _ _ (own_cap h2).1 (own_cap h2).2 (by unfold OB; rw [bvs_append]; exact h2) h3)
theorem app_zeros {ops : Array Oper} {rest : List Oper} {o : Oper} {a : Act} {Q : Exit → Act → World → Prop} (hgd : o.guard = none) (s x : Operand)
    (ho : o.op = .call { callee := .builtin .append, args := #[s, x], argTypes := #[64, 3] })
    (base : Nat) (A : Option Addr) (c : Nat) (xs : List Value) (hs : a.eval s = .slice A c c) (hown : w.ownsRow base 5 1 (.slice A c c) c xs)
    (k : Int) (hx : a.eval x = .int .i64 k) (hk : 0 < k) (hbytes : c + k.toNat ≤ 140737488355328) (hbase : base ≤ w.heap.size)
    (h : ∀ A2 N2 c2 w2, N2 ≤ c2 → c2 ≤ 9223372036854775807 → w2.ownsRow base 5 1 (.slice A2 N2 c2) N2 (xs ++ List.replicate k.toNat (.int .u8 0)) → Grew w w2 none A2 → wpList Tryd.prog ops Q rest (a.put o.dst (.slice A2 N2 c2)) w2) :
    wpList Tryd.prog ops Q (o :: rest) a w := by
  obtain ⟨i0, hi, hz0, hz1, hz2⟩ := info_parts u8info
  exact wpl_append_zeros hgd s x 64 3 ho base 5 i0 _ 1 Tryd.underlying64 ⟨_, Tryd.underlying3⟩ hi hz0 hz1 hz2 rfl A c xs hs hown k hx hk
    (by simp only [maxLen]; omega) (by omega) hbase h
end

/-- Bytes as a text. -/
def bstr (xs : List UInt8) : ByteArray := ⟨xs.toArray⟩
theorem bstr_data (s : ByteArray) : bstr s.data.toList = s := by cases s; simp [bstr]
theorem data_bstr (xs : List UInt8) : (bstr xs).data.toList = xs := by simp [bstr]
theorem bstr_inj {xs ys : List UInt8} (h : bstr xs = bstr ys) : xs = ys := by rw [← data_bstr xs, ← data_bstr ys, h]
theorem push_all (xs : List UInt8) : ∀ s : ByteArray, (xs.map fun x => (x.toNat : Int)).foldl (fun r n => r.push (UInt8.ofNat n.toNat)) s = ⟨s.data ++ xs.toArray⟩ := by
  induction xs with
  | nil => intro s; simp
  | cons x xs ih =>
    intro s
    simp only [List.map_cons, List.foldl_cons]
    rw [ih]
    have : UInt8.ofNat ((x.toNat : Int).toNat) = x := by simp
    rw [this]
    simp [ByteArray.push]
/-- string(b) -/
theorem conv_str {w : World} {A : Option Addr} {n : Nat} {xs : List UInt8} (h : RB w A n xs) (c : Nat) : (convert 64 9 (.slice A n c)).run Tryd.prog w = .ok (.string (bstr xs)) w := by
  have hl := h.len
  rcases A with _ | ad
  · obtain rfl : n = 0 := h.nil0
    obtain rfl : xs = [] := List.eq_nil_of_length_eq_zero hl
    simp [convert, run_underlying Tryd.underlying64, run_underlying Tryd.underlying9, run_underlying Tryd.underlying5, Conv.bytesToString, bstr]
    rfl
  · have hcells : (loadCells ad n).run Tryd.prog w = .ok ((xs.map fun x => (x.toNat : Int)).map (Value.int .u8)).toArray w := by
      have := run_firstCells_some (P := Tryd.prog) w 1 n ad n c (bvs xs) (by rw [bvs_length]; omega) (fun j u hu => by
        obtain ⟨ad', he, _, hc⟩ := h.2 (by have := (List.getElem?_eq_some_iff.1 hu).1; rw [bvs_length] at this; omega)
        cases he
        exact hc j u hu)
      simp only [Builtin.firstCells, Nat.mul_one, bvs] at this
      rw [this, List.map_map]
      rfl
    rw [run_convert_bytes_string w _ _ _ _ _ _ Tryd.underlying64 Tryd.underlying5 Tryd.underlying9, run_bytesToString w ad n c _ hcells, push_all]
    simp [bstr]

/-- A make that leaves its room noughts, and what is appended within it. -/
theorem app_room {w : World} {ops : Array Oper} {rest : List Oper} {o : Oper} {a : Act} {Q : Exit → Act → World → Prop} (hgd : o.guard = none) (s x : Operand)
    (ho : o.op = .call { callee := .builtin .append, args := #[s, x], argTypes := #[64, 64] })
    (g n c : Nat) (cur : List Value) (hs : a.eval s = .slice (some ⟨g, 0, none⟩) n c) (hB : Blk w g 5 cur.toArray) (hcur : cur.length = c)
    (A' : Option Addr) (m c' : Nat) (news : List UInt8) (hx : a.eval x = .slice A' m c') (hr : RB w A' m news) (hroom : n + m ≤ c)
    (h : ∀ w2, Blk w2 g 5 (cur.take n ++ bvs news ++ cur.drop (n + m)).toArray → w.grownBy w2 (some g) → wpList Tryd.prog ops Q rest (a.put o.dst (.slice (some ⟨g, 0, none⟩) (n + m) c)) w2) :
    wpList Tryd.prog ops Q (o :: rest) a w := by
  obtain ⟨i0, hi, hz0, hz1, hz2⟩ := info_parts u8info
  refine wpList_plain hgd fun K hK => ?_
  have hl := hr.len
  have hrun : ∃ w2, (Builtin.append_ #[64, 64] o.type #[.slice (some ⟨g, 0, none⟩) n c, .slice A' m c']).run Tryd.prog w = .ok (.slice (some ⟨g, 0, none⟩) (n + m) c) w2 ∧ Blk w2 g 5 (cur.take n ++ bvs news ++ cur.drop (n + m)).toArray ∧ w.grownBy w2 (some g) := by
    rcases reads_split hr with ⟨rfl, h0⟩ | ⟨ad, rfl, hc⟩
    · have h0' : news = [] := List.eq_nil_of_length_eq_zero (by omega)
      subst h0'
      refine ⟨w, ?_, ?_, World.grownBy.refl w _⟩
      · have hnc : n ≤ c := by omega
        cases A' <;> simp [Builtin.append_, run_underlying Tryd.underlying64, sizeOf, typeInfo, hi, Builtin.lenOf, Builtin.firstCells, hnc, storeCells, loadCells, loadCellsFrom]
      · simpa [bvs] using hB
    · have hr := run_append_room (P := Tryd.prog) w 64 o.type 5 i0 Tryd.underlying64 hi g n c cur.toArray hB ad m c' (bvs news) (by rw [bvs_length, hz1]; omega) hc (bvs_one _) hroom (by rw [bvs_length, hz1, List.size_toArray]; omega)
      rw [hz1] at hr
      simp only [Nat.mul_one, bvs_length, hl] at hr
      exact ⟨_, hr, setRow_heap w g cur.toArray _ _ _ hB, ⟨rfl, rfl, rfl, by simp, fun k _ hk => setRow_other w g k _ (fun e => hk (by rw [e]))⟩⟩
  obtain ⟨w2, hrun, h1, h2⟩ := hrun
  unfold Oper.wp execOp
  simp only [ho, resolve, invoke, builtin, Sem.run_bind, Sem.run_pure, Result.andThen_ok, List.map_toArray, List.map_cons, List.map_nil, hs, hx, hrun]
  exact hK _ _ (h w2 h1 h2)
theorem make_bytes {w : World} {ops : Array Oper} {rest : List Oper} {o : Oper} {a : Act} {Q : Exit → Act → World → Prop} (hgd : o.guard = none) (l c : Operand) (ho : o.op = .makeSlice 64 l c)
    (L C : Int) (hl : a.eval l = .int .i64 L) (hc : a.eval c = .int .i64 C) (h0 : 0 ≤ L) (h1 : L ≤ C) (h2 : C ≤ 140737488355328)
    (h : ∀ w2, Blk w2 w.heap.size 5 (List.replicate C.toNat (Value.int .u8 0)).toArray → Below w.heap.size w w2 → w2.heap.size = w.heap.size + 1 → wpList Tryd.prog ops Q rest (a.put o.dst (.slice (some ⟨w.heap.size, 0, none⟩) L.toNat C.toNat)) w2) :
    wpList Tryd.prog ops Q (o :: rest) a w := by
  obtain ⟨i0, hi, hz0, hz1, hz2⟩ := info_parts u8info
  refine wpList_plain hgd fun K hK => ?_
  have hr := run_make (P := Tryd.prog) w 64 5 i0 _ Tryd.underlying64 hi hz0 .i64 .i64 L C h0 h1 (by rw [hz2]; omega) (by omega)
  unfold Oper.wp execOp
  simp only [ho, hl, hc, Sem.run_bind, Sem.run_pure, Result.andThen_ok, hr]
  refine hK _ _ (h _ ?_ (below_alloc _ _) (by simp))
  have := Blk.new w 5 (madeCells (Value.int .u8 0).cells (C.toNat * i0.size))
  rw [show (List.replicate C.toNat (Value.int .u8 0)).toArray = madeCells (Value.int .u8 0).cells (C.toNat * i0.size) from ?_]
  · exact this
  · have := toList_madeCells_one (.int .u8 0) C.toNat
    rw [hz1, Nat.mul_one]
    exact (congrArg List.toArray this).symm
end Go.Proofs.YtbbcofpdfkhljaaDoor
namespace Go.Proofs.YtbbcofpdfkhljaaDoor
open Go.RowKit Go.Rat
section
variable {P : Program} {w : World} {ops : Array Oper} {rest : List Oper} {a : Act} {Q : Exit → Act → World → Prop} {d : Option Tmp} {ty : TypeId} {x y : Operand} {t : TypeId} {p : String} {af : Array Edge} {T : TypeId}
theorem range_of_row {g o n : Nat} {L cs : List Value} (hB : Blk w g T L.toArray) (hcs : (L.drop o).take n = cs) : w.rangeAt g o cs := by
  intro j v hv
  rw [hB.cell (o + j), List.getElem?_toArray]
  rw [← hcs, List.getElem?_take, List.getElem?_drop] at hv
  split at hv
  · exact hv
  · cases hv
theorem wpl_load_mid (g o : Nat) (L cs : List Value) {n : Nat} {D : TypeDesc}
    (hu : P.underlying ty = some D) (hd : D.isRow = true) (hi : (P.info? ty).map (·.size) = some n) (hB : Blk w g T L.toArray) (hcs : (L.drop o).take n = cs) (hl : cs.length = n)
    (hx : a.eval x = .pointer (some ⟨g, o, none⟩)) (h : wpList P ops Q rest (a.put d (.agg cs.toArray)) w) :
    wpList P ops Q ({ dst := d, op := .load ty x, type := t, pos := p, after := af, guard := none } :: rest) a w :=
  wpList_load_mid rfl ty x rfl g o hx cs D (range_of_row hB hcs) hu hd (by rw [hl]; exact hi) h
theorem wpl_value {o' : Oper} (hg : o'.guard = none) (v : Value) (hv : (execOp a.eval o').run P w = .ok (.value v) w) (h : wpList P ops Q rest (a.put o'.dst v) w) : wpList P ops Q (o' :: rest) a w :=
  wpList_plain hg fun _ hK => by
    unfold Oper.wp
    rw [hv]
    exact hK _ _ h
theorem wpl_nilCheck (b i : Nat) (hx : a.eval x = .pointer (some ⟨b, i, none⟩)) (h : wpList P ops Q rest (a.put d (.pointer (some ⟨b, i, none⟩))) w) :
    wpList P ops Q ({ dst := d, op := .nilCheck x, type := t, pos := p, after := af, guard := none } :: rest) a w :=
  wpl_value rfl _ (by simp [execOp, hx]) h
theorem wpl_fieldAddr (b n k : Nat) (hv : ∀ w : World, (execOp a.eval { dst := d, op := .fieldAddr ty x k, type := t, pos := p, after := af, guard := none }).run P w = .ok (.value (.pointer (some ⟨b, n, none⟩))) w)
    (h : wpList P ops Q rest (a.put d (.pointer (some ⟨b, n, none⟩))) w) :
    wpList P ops Q ({ dst := d, op := .fieldAddr ty x k, type := t, pos := p, after := af, guard := none } :: rest) a w :=
  wpl_value rfl _ (hv w) h
theorem run_store_mid (g o : Nat) (L cs : List Value) (hi : (P.info? ty).map (·.size) = some cs.length) (hB : Blk w g T L.toArray) (hfit : o + cs.length ≤ L.length) (h1 : ∀ v ∈ cs, v.oneCell' = true) :
    (storeVar ty ⟨g, o, none⟩ (.agg cs.toArray)).run P w = .ok () (w.setRow g (Go.splice L o cs).toArray) := by
  have := run_storeCells_at P g o T cs 0 L.toArray w hB (by simpa using hfit) h1
  cases hq : P.info? ty with
  | none => simp [hq] at hi
  | some i =>
    have hs : cs.length = i.size := by simp [hq] at hi; omega
    simp only [Nat.add_zero] at this
    simp [storeVar, sizeOf, typeInfo, hq, Value.cells, hs, this, Go.splice]
theorem wp_store_midR {o' : Oper} {K : Act → World → Prop} (ho : o'.op = .store ty x y) (g o : Nat) (L cs : List Value) (hi : (P.info? ty).map (·.size) = some cs.length) (hB : Blk w g T L.toArray) (hfit : o + cs.length ≤ L.length) (h1 : ∀ v ∈ cs, v.oneCell' = true)
    (hx : a.eval x = .pointer (some ⟨g, o, none⟩)) (hy : a.eval y = .agg cs.toArray) (h : K (a.put o'.dst undef) (w.setRow g (Go.splice L o cs).toArray)) : o'.wp P a w K Q := by
  unfold Oper.wp execOp
  simp only [ho, hx, hy, Instr.storeAt, Instr.sureAddr, Sem.run_bind, Sem.run_pure, Result.andThen_ok, run_store_mid g o L cs hi hB hfit h1]
  exact h
theorem wpl_store_mid (g o : Nat) (L cs : List Value) (hi : (P.info? ty).map (·.size) = some cs.length) (hB : Blk w g T L.toArray) (hfit : o + cs.length ≤ L.length) (h1 : ∀ v ∈ cs, v.oneCell' = true)
    (hx : a.eval x = .pointer (some ⟨g, o, none⟩)) (hy : a.eval y = .agg cs.toArray) (h : wpList P ops Q rest (a.put d undef) (w.setRow g (Go.splice L o cs).toArray)) :
    wpList P ops Q ({ dst := d, op := .store ty x y, type := t, pos := p, after := af, guard := none } :: rest) a w :=
  wpList_plain rfl fun _ hK => wp_store_midR rfl g o L cs hi hB hfit h1 hx hy (hK _ _ h)
end
theorem load_mid_run {P : Program} {w : World} {o : Oper} {a : Act} {ty : TypeId} {x : Operand} {T : TypeId} (ho : o.op = .load ty x) (g off : Nat) (L cs : List Value) {n : Nat} {D : TypeDesc}
    (hu : P.underlying ty = some D) (hd : D.isRow = true) (hi : (P.info? ty).map (·.size) = some n) (hB : Blk w g T L.toArray) (hcs : (L.drop off).take n = cs) (hl : cs.length = n)
    (hx : a.eval x = .pointer (some ⟨g, off, none⟩)) : (execOp a.eval o).run P w = .ok (.value (.agg cs.toArray)) w := by
  unfold execOp
  simp only [ho, hx, Instr.loadAt, Instr.sureAddr, Sem.run_bind, Sem.run_pure, Result.andThen_ok, run_loadVar_mid w g off ty cs D (range_of_row hB hcs) hu hd (by rw [hl]; exact hi)]
theorem wpl_loadM {P : Program} {w : World} {ops : Array Oper} {rest : List Oper} {a : Act} {Q : Exit → Act → World → Prop} {d : Option Tmp} {ty : TypeId} {x : Operand} {t : TypeId} {p : String} {af : Array Edge} {gd : Option (Nat × Bool)} {T : TypeId} (g o : Nat) (L cs : List Value) {n : Nat} {D : TypeDesc}
    (hu : P.underlying ty = some D) (hd : D.isRow = true) (hi : (P.info? ty).map (·.size) = some n) (hB : Blk w g T L.toArray) (hcs : (L.drop o).take n = cs) (hl : cs.length = n)
    (hw : Region.wanted { dst := d, op := .load ty x, type := t, pos := p, after := af, guard := gd } (yielded ops a.tmps) = true)
    (hx : a.eval x = .pointer (some ⟨g, o, none⟩)) (h : wpList P ops Q rest (a.put d (.agg cs.toArray)) w) :
    wpList P ops Q ({ dst := d, op := .load ty x, type := t, pos := p, after := af, guard := gd } :: rest) a w :=
  BigFrame.wpList_want hw fun _ hK => by
    unfold Oper.wp
    rw [load_mid_run rfl g o L cs hu hd hi hB hcs hl hx]
    exact hK _ _ h
theorem wpl_store_fresh {P : Program} {w : World} {ops : Array Oper} {rest : List Oper} {a : Act} {Q : Exit → Act → World → Prop} {d : Option Tmp} {ty : TypeId} {x y : Operand} {t : TypeId} {p : String} {af : Array Edge} {Z : Array Value} {T : TypeId} (cs' : Array Value) {n : Nat}
    (hi : (P.info? ty).map (·.size) = some n) (hZ : Z.size = n) (hs' : cs'.size = n) (h1 : cs'.all (·.oneCell') = true)
    (hx : a.eval x = .pointer (some ⟨w.heap.size, 0, none⟩)) (hy : a.eval y = .agg cs') (h : ∀ z, Blk z w.heap.size T cs' → w.heap.size < z.heap.size → Below w.heap.size w z → wpList P ops Q rest (a.put d undef) z) :
    wpList P ops Q ({ dst := d, op := .store ty x y, type := t, pos := p, after := af, guard := none } :: rest) a (w.alloc (.cells Z T)) :=
  wpl_store w.heap.size T Z cs' hi (Blk.new w T Z) hZ hs' h1 hx hy (h _ ((Blk.new w T Z).setRow _) (by simp) ((below_alloc _ _).grown (grownBy_setRow _ _ _) (by simp) (fun q hq => by cases hq; exact Nat.le_refl _)))
end Go.Proofs.YtbbcofpdfkhljaaDoor
namespace Go.Rat
open Go Go.RowKit
section
variable {P : Program} {w : World}
theorem zeroCells_list (z : Value) (k : Nat) : (Builtin.zeroCells #[z] k).toList = List.replicate k z := by
  refine List.ext_getElem (by simp [Builtin.zeroCells]) ?_
  intro j h1 h2
  simp [Builtin.zeroCells, Nat.mod_one]
theorem run_append_zerosG (w : World) (base : Nat) (t ti ty e : TypeId) (i : TypeInfo) (z : Value) (bytes : Nat) (ht : P.underlying t = some (.slice e)) (hti : ∃ k, P.underlying ti = some (.int k)) (hi : P.info? e = some i) (hz : i.zero = some z)
    (hsize : i.size = 1) (hby : i.bytes = bytes) (hzs : z.cells = #[z]) (hz1 : z.oneCell' = true)
    (A : Option Addr) (n c : Nat) (xs : List Value) (hown : w.ownsRow base e 1 (.slice A n c) n xs)
    (k : Nat) (hk : 0 < k) (h63 : n + k ≤ maxLen) (hbytes : (n + k) * bytes ≤ 140737488355328) (hbase : base ≤ w.heap.size) :
    ∃ A2 c2 w2, (Builtin.append_ #[t, ti] ty #[.slice A n c, .int .i64 (k : Int)]).run P w = .ok (.slice A2 (n + k) c2) w2 ∧ w2.ownsRow base e 1 (.slice A2 (n + k) c2) (n + k) (xs ++ List.replicate k z) ∧
      w.grownBy w2 (A.map (·.block)) ∧ (A2.map (·.block) = A.map (·.block) ∨ A2.map (·.block) = some w.heap.size) := by
  subst hby
  obtain ⟨ki, hti⟩ := hti
  have hsmall : n + k ≤ 9223372036854775807 := by simp only [maxLen] at h63; omega
  have hwk : IntKind.i64.wrap (k : Int) = (k : Int) := IntWalk.i64_in _ (by omega)
  have hkb : (k : Int) * (i.bytes : Int) ≤ 281474976710656 := by
    have : k * i.bytes ≤ (n + k) * i.bytes := Nat.mul_le_mul_right _ (by omega)
    have h2 : ((k * i.bytes : Nat) : Int) ≤ 140737488355328 := by omega
    rw [Int.natCast_mul] at h2; omega
  have hneg : ¬ ((k : Int) < 0) := by omega
  have hbig : ¬ (281474976710656 < (k : Int) * (i.bytes : Int)) := by omega
  have hkz := zeroCells_list z k
  have hkz0 : k ≠ 0 := by omega
  have hxl : xs.length = n := by simpa using hown.1
  by_cases hroom : n + k ≤ c
  · rcases hown.2 with ⟨h, _⟩ | ⟨g, cap, cur, hv, hbg, hgB, hnc, hcm, hcs, htk⟩
    · injection h with h1 h2 h3
      omega
    · injection hv with h3 h4 h5
      subst h3 h5
      have hB : Blk w g e cur := hgB
      have hst := run_storeCells_at P g n e (List.replicate k z) 0 cur w hB (by simp; omega) (by intro u hu; rw [List.eq_of_mem_replicate hu]; exact hz1)
      simp only [Nat.add_zero] at hst
      refine ⟨some ⟨g, 0, none⟩, c, w.setRow g (cur.toList.take n ++ List.replicate k z ++ cur.toList.drop (n + (List.replicate k z).length)).toArray, ?_, ?_, grownBy_setRow w g _, .inl rfl⟩
      · have ha : ({ block := g, off := 0 } : Addr).add n = ⟨g, n, none⟩ := by simp [Addr.add]; omega
        have hnk : (n : Int) + (k : Int) ≤ (c : Int) := by omega
        simp [Builtin.append_, run_underlying ht, run_underlying hti, sizeOf, typeInfo, zeroValue, hi, hz, hsize, asInt, asIntOf, hwk, hneg, hbig, hkz0, hroom, hzs, hkz, ha, hst]
      · refine ⟨by simp [hxl], .inr ⟨g, c, _, rfl, hbg, (hB.setRow _), hroom, hcm, ?_, ?_⟩⟩
        · simp; omega
        · have hl2 : (xs ++ List.replicate k z).length = (n + k) * 1 := by simp [hxl]
          rw [Nat.mul_one] at htk
          rw [htk, ← hl2]
          exact List.take_left
  · have hnext : Builtin.nextslicecap (n + k) c * i.bytes ≤ 281474976710656 := growslice_fits (by omega) hbytes
    have hr := Reads.of_own hown
    have hge := grownCap_ge w (n + k) c e
    have hcm : grownCap w (n + k) c e ≤ maxLen := grownCap_le_maxLen w (n + k) c e h63
    have hold : ∀ w' : World, w'.heap = w.heap → (Builtin.firstCells 1 n (.slice A n c)).run P w' = .ok xs.toArray w' := by
      intro w' hw'
      rcases reads_split hr with ⟨rfl, rfl⟩ | ⟨ad, rfl, hc⟩
      · cases A <;> simp [Builtin.firstCells, loadCells, loadCellsFrom]
      · exact run_firstCells_some (P := P) w' 1 n ad n c xs (by simpa using hown.1) (fun j u hu => by rw [← hc j u hu]; simp [World.cell?, hw'])
    refine ⟨some ⟨w.heap.size, 0, none⟩, grownCap w (n + k) c e, w.drew.alloc (.cells (xs.toArray ++ Builtin.zeroCells #[z] k ++ Builtin.zeroCells #[z] (grownCap w (n + k) c e - (n + k))) e), ?_, ⟨?_, .inr ⟨w.heap.size, _, _, rfl, hbase, _root_.Go.heap_alloc_new w.drew _, hge, hcm, ?_, ?_⟩⟩, ⟨rfl, rfl, rfl, by simp, fun j hj _ => _root_.Go.heap_alloc_old w.drew _ hj⟩, .inr rfl⟩
    · have hh := hold w.drew rfl
      have h63' : ¬ (9223372036854775807 < ((n : Int) + (k : Int))) := by omega
      have h48' : ¬ (281474976710656 < Builtin.nextslicecap (n + k) c * i.bytes) := by omega
      simp [Builtin.append_, run_underlying ht, run_underlying hti, sizeOf, typeInfo, zeroValue, hi, hz, hsize, asInt, asIntOf, hwk, hneg, hbig, hroom, hkz0, h63', h48', Question.forced, hh, newRow, grownCap, hzs]
    · simp [hxl]
    · simp [Builtin.zeroCells, hxl]; omega
    · rw [Array.toList_append, Array.toList_append, hkz]
      rw [List.take_append_of_le_length (by simp [hxl]), List.take_of_length_le (by simp [hxl])]
end
end Go.Rat
namespace Go.Proofs.YtbbcofpdfkhljaaDoor
open Go.RowKit Go.Rat
theorem bvs_zeros (k : Nat) : bvs (List.replicate k 0) = List.replicate k (Value.int .u8 0) := by
  rw [bvs, List.map_replicate]; rfl
theorem app_noughts {w : World} {ops : Array Oper} {rest : List Oper} {o : Oper} {a : Act} {Q : Exit → Act → World → Prop} (hgd : o.guard = none) (s x : Operand)
    (ho : o.op = .call { callee := .builtin .append, args := #[s, x], argTypes := #[64, 3] })
    (base : Nat) (A : Option Addr) (n c : Nat) (xs : List UInt8) (hs : a.eval s = .slice A n c) (hown : OB 5 w base A n c xs)
    (k : Nat) (hx : a.eval x = .int .i64 (k : Int)) (hk : 0 < k) (hbytes : n + k ≤ 140737488355328) (hbase : base ≤ w.heap.size)
    (h : ∀ A2 N2 c2 w2, N2 ≤ c2 → c2 ≤ 9223372036854775807 → OB 5 w2 base A2 N2 c2 (xs ++ List.replicate k 0) → Grew w w2 A A2 → wpList Tryd.prog ops Q rest (a.put o.dst (.slice A2 N2 c2)) w2) :
    wpList Tryd.prog ops Q (o :: rest) a w := by
  obtain ⟨i0, hi, hz0, hz1, hz2⟩ := info_parts u8info
  refine wpList_plain hgd fun K hK => ?_
  obtain ⟨A2, c2, w2, hrun, h2, h3, h4⟩ := run_append_zerosG (P := Tryd.prog) w base 64 3 o.type 5 i0 _ 1 Tryd.underlying64 ⟨_, Tryd.underlying3⟩ hi hz0 hz1 hz2 rfl rfl A n c (bvs xs) hown k hk (by simp only [maxLen]; omega) (by omega) hbase
  unfold Oper.wp execOp
  simp only [ho, resolve, invoke, builtin, Sem.run_bind, Sem.run_pure, Result.andThen_ok, List.map_toArray, List.map_cons, List.map_nil, hs, hx, hrun]
  exact hK _ _ (h _ _ _ _ (own_cap h2).1 (own_cap h2).2 (by unfold OB; rw [bvs_append, bvs_zeros]; exact h2) ⟨h3, h4.imp id fun h => ⟨_, h, Nat.le_refl _, (h2.lt _ (by cases A2 <;> simp_all [Value.ownBlock])).2⟩⟩)
end Go.Proofs.YtbbcofpdfkhljaaDoor
namespace Go.Rat
open Go Go.RowKit
section
variable {P : Program}
theorem run_eqItems_ints (d : Nat) {e : TypeId} {k k' : IntKind} (he : P.underlying e = some (.int k')) (A B : List Int) (w : World) : ∀ (is : List Nat), (∀ i ∈ is, i < A.length ∧ i < B.length) →
    (Op.eqItems (d + 1) e 1 (A.map (Value.int k)).toArray (B.map (Value.int k)).toArray is).run P w = .ok (is.all fun i => A.getD i 0 == B.getD i 0) w
  | [], _ => by simp [Op.eqItems]
  | i :: is, h => by
    obtain ⟨ha, hb⟩ := h i (by simp)
    have hp : P.plainKey e = true := by simp [Program.plainKey, he]
    have h1 : (part e (A.map (Value.int k)).toArray (i * 1)).run P w = .ok (.int k (A.getD i 0)) w := run_part_plain w hp (by
      rw [Nat.mul_one, List.getElem?_toArray, List.getElem?_map, List.getElem?_eq_getElem ha, List.getD_eq_getElem?_getD, List.getElem?_eq_getElem ha]; rfl)
    have h2 : (part e (B.map (Value.int k)).toArray (i * 1)).run P w = .ok (.int k (B.getD i 0)) w := run_part_plain w hp (by
      rw [Nat.mul_one, List.getElem?_toArray, List.getElem?_map, List.getElem?_eq_getElem hb, List.getD_eq_getElem?_getD, List.getElem?_eq_getElem hb]; rfl)
    have ih := run_eqItems_ints d (k := k) he A B w is (fun j hj => h j (by simp [hj]))
    simp only [Op.eqItems, Sem.run_bind, h1, h2, Result.andThen_ok, run_equalIn_int w d e k k' _ _ he, List.all_cons]
    cases hab : (A.getD i 0 == B.getD i 0)
    · simp
    · simpa using ih
theorem all_range_eq {A B : List Int} (h : A.length = B.length) : ((List.range A.length).all fun i => A.getD i 0 == B.getD i 0) = decide (A = B) := by
  by_cases hab : A = B
  · subst hab
    simp
  · rw [decide_eq_false hab, List.all_eq_false]
    refine Classical.byContradiction fun hc => hab (List.ext_getElem h fun i h1 h2 => ?_)
    have : ¬ (¬ (A.getD i 0 == B.getD i 0) = true) := fun hn => hc ⟨i, by simpa using h1, hn⟩
    have h3 := eq_of_beq (Classical.byContradiction this)
    simpa [List.getD_eq_getElem?_getD, List.getElem?_eq_getElem h1, List.getElem?_eq_getElem h2] using h3
theorem run_eql_ints {t e : TypeId} {n : Nat} {i : TypeInfo} {k k' : IntKind} (hu : P.underlying t = some (.array n e)) (hi : P.info? e = some i) (he : P.underlying e = some (.int k')) (hc : P.cellsOf e = 1)
    (A B : List Int) (hA : A.length = n) (hB : B.length = n) (w : World) :
    (Op.equalIn 10000 t (.agg (A.map (Value.int k)).toArray) (.agg (B.map (Value.int k)).toArray)).run P w = .ok (decide (A = B)) w := by
  rw [show (10000 : Nat) = 9998 + 1 + 1 from rfl, run_equalIn_array w (9998 + 1) _ _ hu hi, hc, run_eqItems_ints 9998 he A B w (List.range n) (fun j hj => by simp at hj; omega), ← hA, all_range_eq (by omega)]
theorem bvs_ints (xs : List UInt8) : bvs xs = (xs.map fun x => (x.toNat : Int)).map (Value.int .u8) := by simp [bvs, bv]
theorem nats_inj {xs ys : List UInt8} : (xs.map fun x => (x.toNat : Int)) = (ys.map fun x => (x.toNat : Int)) ↔ xs = ys := by
  constructor
  · intro h
    refine List.map_inj_right (f := fun x : UInt8 => (x.toNat : Int)) (fun x y h => ?_) |>.1 h
    exact UInt8.toNat_inj.1 (by omega)
  · rintro rfl; rfl
theorem run_eql_bytes {t e : TypeId} {n : Nat} {i : TypeInfo} {k' : IntKind} (hu : P.underlying t = some (.array n e)) (hi : P.info? e = some i) (he : P.underlying e = some (.int k')) (hc : P.cellsOf e = 1)
    (xs ys : List UInt8) (hA : xs.length = n) (hB : ys.length = n) (w : World) :
    (Op.equalIn 10000 t (.agg (bvs xs).toArray) (.agg (bvs ys).toArray)).run P w = .ok (decide (xs = ys)) w := by
  rw [bvs_ints, bvs_ints, run_eql_ints hu hi he hc _ _ (by simpa using hA) (by simpa using hB)]
  congr 1
  exact decide_eq_decide.2 nats_inj
end
end Go.Rat
namespace Go.Rat
open Go Go.RowKit
section
variable {P : Program} {ops : Array Oper} {Q : Exit → Act → World → Prop}

/-- The walk along a plan: (operation, does it only read). S: what is known of every world from here on. -/
def wpS (P : Program) (ops : Array Oper) (Q : Exit → Act → World → Prop) : List (Oper × Bool) → (World → Prop) → Act → World → Prop
  | [], _, a, w => Q .normal a w
  | (o, true) :: rest, S, a, w =>
    (Region.wanted o (yielded ops a.tmps) = true ∧ ∃ v, (∀ x, S x → (execOp a.eval o).run P x = .ok (.value v) x) ∧ wpS P ops Q rest S (a.put o.dst v) w) ∨
    (Region.wanted o (yielded ops a.tmps) = false ∧ wpS P ops Q rest S (a.put o.dst undef) w)
  | (o, false) :: rest, S, a, w =>
    (Region.wanted o (yielded ops a.tmps) = true ∧ o.wp P a w (fun a' w' => ∃ S' : World → Prop, S' w' ∧ (∀ x, S' x → S x) ∧ wpS P ops Q rest S' a' w') Q) ∨
    (Region.wanted o (yielded ops a.tmps) = false ∧ wpS P ops Q rest S (a.put o.dst undef) w)

def planOK (ops : Array Oper) : List (Nat × Bool) → Array Bool → Bool
  | [], listed => (Region.ready .any ops listed).isEmpty
  | (i, true) :: rest, listed => (Region.ready .any ops listed).contains i && Region.free .any ops listed i && (ops[i]?).isSome && planOK ops rest (listed.setIfInBounds i true)
  | (i, false) :: rest, listed => decide (Region.ready .any ops listed = [i]) && (ops[i]?).isSome && planOK ops rest (listed.setIfInBounds i true)
def planOps (ops : Array Oper) : List (Nat × Bool) → List (Oper × Bool)
  | [] => []
  | (i, q) :: rest => match ops[i]? with
    | some o => (o, q) :: planOps ops rest
    | none => planOps ops rest

theorem wpAnyH_weaken {S S' : World → Prop} {md : Region.Mode} (h : ∀ x, S' x → S x) : ∀ (fuel : Nat) (listed : Array Bool) (a : Act) (w : World), wpAnyH P md ops Q S' fuel listed a w → wpAnyH P md ops Q S fuel listed a w
  | 0, _, _, _, H => H
  | fuel + 1, _, _, _, H => ⟨H.1, fun i hi => wpOp_mono (fun _ _ h' => ⟨h _ h'.1, wpAnyH_weaken h fuel _ _ _ h'.2⟩) (H.2 i hi)⟩

theorem wpS_sound (hs : Region.noSelect ops = true) (hQ : ∀ c a d v w, Q (.panic c) (Act.put a d v) w → Q (.panic c) a w) :
    ∀ (plan : List (Nat × Bool)) (listed : Array Bool) (S : World → Prop) (a : Act) (w : World), planOK ops plan listed = true → S w → wpS P ops Q (planOps ops plan) S a w → wpAnyH P .any ops Q S plan.length listed a w := by
  intro plan
  induction plan with
  | nil =>
    intro listed S a w hp _ h
    exact wpAnyH_done (by simpa [planOK] using hp) h 0
  | cons x plan ih =>
    obtain ⟨i, q⟩ := x
    intro listed S a w hp hS h
    cases q with
    | true =>
      simp only [planOK, Bool.and_eq_true] at hp
      obtain ⟨⟨⟨h1, h2⟩, h3⟩, h4⟩ := hp
      obtain ⟨o, ho⟩ := Option.isSome_iff_exists.1 h3
      simp only [planOps, ho, wpS] at h
      rcases h with ⟨hw, v, hv, hk⟩ | ⟨hw, hk⟩
      · exact wpAnyH_take ho hs h2 h1 (fun c a w => hQ c a _ _ w) (.inl ⟨hw, hv⟩) hS (ih _ _ _ _ h4 hS hk)
      · exact wpAnyH_take ho hs h2 h1 (fun c a w => hQ c a _ _ w) (.inr ⟨hw, rfl⟩) hS (ih _ _ _ _ h4 hS hk)
    | false =>
      simp only [planOK, Bool.and_eq_true, decide_eq_true_eq] at hp
      obtain ⟨⟨h1, h3⟩, h4⟩ := hp
      obtain ⟨o, ho⟩ := Option.isSome_iff_exists.1 h3
      simp only [planOps, ho, wpS] at h
      refine wpAnyH_all h1 (by simp) fun j hj => ?_
      obtain rfl : j = i := by simpa using hj
      unfold wpOp
      simp only [ho]
      rcases h with ⟨hw, hk⟩ | ⟨hw, hk⟩
      · rw [if_pos hw]
        refine .inl (Oper.wp_mono ?_ hk)
        rintro a' w' ⟨S', h5, h6, h7⟩
        exact ⟨h6 _ h5, wpAnyH_weaken h6 _ _ _ _ (ih _ _ _ _ h4 h5 h7)⟩
      · rw [hw]
        exact ⟨hS, ih _ _ _ _ h4 hS hk⟩

/-- THE BEGINNING. -/
theorem wp_region_plan {id : Nat} {a : Act} {w : World} (plan : List (Nat × Bool)) (S : World → Prop) (hm : P.follows .mixedOrders = true) (hs : Region.noSelect ops = true) (hp : planOK ops plan (Array.replicate ops.size false) = true) (hl : plan.length = ops.size)
    (hQ : ∀ c a d v w, Q (.panic c) (Act.put a d v) w → Q (.panic c) a w) (hS : S w.drew) (h : wpS P ops Q (planOps ops plan) S a w.drew) : (Code.region id ops true).wp P Q a w :=
  wp_region_held (S := S) hm (by have := wpS_sound hs hQ plan _ S a w.drew hp hS h; rwa [hl] at this)

theorem wpS_q {o : Oper} {rest : List (Oper × Bool)} {S : World → Prop} {a : Act} {w : World} (v : Value) (hw : Region.wanted o (yielded ops a.tmps) = true) (h : ∀ x, S x → (execOp a.eval o).run P x = .ok (.value v) x)
    (k : wpS P ops Q rest S (a.put o.dst v) w) : wpS P ops Q ((o, true) :: rest) S a w := .inl ⟨hw, v, h, k⟩
theorem wpS_skip {o : Oper} {q : Bool} {rest : List (Oper × Bool)} {S : World → Prop} {a : Act} {w : World} (hw : Region.wanted o (yielded ops a.tmps) = false)
    (k : wpS P ops Q rest S (a.put o.dst undef) w) : wpS P ops Q ((o, q) :: rest) S a w := by
  cases q
  · exact .inr ⟨hw, k⟩
  · exact .inr ⟨hw, k⟩
theorem wpS_l {o : Oper} {rest : List (Oper × Bool)} {S : World → Prop} {a : Act} {w : World} (hw : Region.wanted o (yielded ops a.tmps) = true)
    (h : ∀ K : Act → World → Prop, (∀ a' w' (S' : World → Prop), S' w' → (∀ x, S' x → S x) → wpS P ops Q rest S' a' w' → K a' w') → o.wp P a w K Q) : wpS P ops Q ((o, false) :: rest) S a w :=
  .inl ⟨hw, h _ fun _ _ S' h1 h2 h3 => ⟨S', h1, h2, h3⟩⟩
theorem wpS_nil {S : World → Prop} {a : Act} {w : World} (h : Q .normal a w) : wpS P ops Q [] S a w := h
end
/-- What may be taken as soon as it comes up. -/
def quietOp : Op → Bool
  | .alloc _ | .box .. | .buildSlice .. | .insert .. | .store .. | .ready _ | .makeMap .. | .makeChan .. | .makeSlice .. | .mapUpdate .. | .mapEntry .. | .entryStore .. | .range .. | .next .. | .go _ | .defer _ | .panic _ | .send .. | .recv .. | .select .. => false
  | .call c => (match c.callee with | .builtin .len | .builtin .cap | .builtin .min | .builtin .max => true | _ => false)
  | .convert _ _ _ => true
  | _ => true
def greedy (ops : Array Oper) : Nat → Array Bool → List (Nat × Bool)
  | 0, _ => []
  | fuel + 1, listed =>
    let r := Region.ready .any ops listed
    match r.find? (fun i => ((ops[i]?).map (fun o => quietOp o.op)).getD false) with
    | some i => (i, true) :: greedy ops fuel (listed.setIfInBounds i true)
    | none => match r with
      | i :: _ => (i, false) :: greedy ops fuel (listed.setIfInBounds i true)
      | [] => []
def plan (ops : Array Oper) : List (Nat × Bool) := greedy ops ops.size (Array.replicate ops.size false)
theorem drew_below {w : World} : Below w.heap.size w w.drew := (Below.refl _ _).drew
theorem below_step {w w' : World} (h : Below w.heap.size w w') : ∀ x, Below w'.heap.size w' x → Below w.heap.size w x := fun _ hx => h.trans (hx.mono h.size)
end Go.Rat
namespace Go.Rat
open Go Go.RowKit
section
variable {P : Program} {ops : Array Oper} {Q : Exit → Act → World → Prop} {S S2 : World → Prop} {b : Nat} {md : Region.Mode}
/-- Whatever order is picked; S is held as long as operation b has not come up. -/
def wpAnyB (P : Program) (md : Region.Mode) (ops : Array Oper) (Q : Exit → Act → World → Prop) (S : World → Prop) (b : Nat) : Nat → Array Bool → Act → World → Prop
  | 0, listed, a, w => Region.ready md ops listed = [] ∧ Q .normal a w
  | fuel + 1, listed, a, w =>
    (Region.ready md ops listed = [] → Q .normal a w) ∧
    ∀ i ∈ Region.ready md ops listed, wpOp P ops Q i (fun a' w' => ((listed.setIfInBounds i true).getD b true = false → S w') ∧ wpAnyB P md ops Q S b fuel (listed.setIfInBounds i true) a' w') a w
theorem wpAny_of_B : ∀ (fuel : Nat) (listed : Array Bool) (a : Act) (w : World), wpAnyB P md ops Q S b fuel listed a w → wpAny P md ops Q fuel listed a w
  | 0, _, _, _, h => h
  | fuel + 1, _, _, _, h => ⟨h.1, fun i hi => wpOp_mono (fun a' w' h' => wpAny_of_B fuel _ a' w' h'.2) (h.2 i hi)⟩
theorem getD_keep {listed : Array Bool} (i : Nat) (h : listed.getD b true = true) : (listed.setIfInBounds i true).getD b true = true := by
  by_cases hib : i = b
  · subst hib
    rcases Nat.lt_or_ge i listed.size with hl | hl
    · simp [hl]
    · simp [hl]
  · rw [getD_set_ne true hib]; exact h
/-- Behind b another knowledge serves. -/
theorem wpAnyB_of_H : ∀ (fuel : Nat) (listed : Array Bool) (a : Act) (w : World), listed.getD b true = true → wpAnyH P md ops Q S2 fuel listed a w → wpAnyB P md ops Q S b fuel listed a w
  | 0, _, _, _, _, h => h
  | fuel + 1, listed, _, _, hb, h => ⟨h.1, fun i hi => wpOp_mono (fun a' w' h' => ⟨fun hf => (by rw [getD_keep i hb] at hf; cases hf), wpAnyB_of_H fuel _ a' w' (getD_keep i hb) h'.2⟩) (h.2 i hi)⟩
theorem trueH : ∀ (fuel : Nat) (listed : Array Bool) (a : Act) (w : World), wpAnyB P md ops Q S b fuel listed a w → wpAnyH P md ops Q (fun _ => True) fuel listed a w
  | 0, _, _, _, h => h
  | fuel + 1, _, _, _, h => ⟨h.1, fun i hi => wpOp_mono (fun a' w' h' => ⟨trivial, trueH fuel _ a' w' h'.2⟩) (h.2 i hi)⟩
theorem wpAnyB_first {S1 : World → Prop} {i : Nat} {oi : Oper} {v : Value} (hi : ops[i]? = some oi) (hsel : ∀ (j : Nat) (o : Oper) cs b, ops[j]? = some o → o.op ≠ .select cs b)
    (hQ : ∀ c a w, Q (.panic c) (a.put oi.dst v) w → Q (.panic c) a w) (hib : i ≠ b)
    (hS1 : (∀ w, S1 w) ∨ ((∀ w, S w → S1 w) ∧ ∃ ob, ops[b]? = some ob ∧ ∃ e ∈ ob.after, Region.binds md e = true ∧ e.on = i)) :
    ∀ (fuel : Nat) (listed : Array Bool) (a : Act) (w : World),
      (∀ j oj, ops[j]? = some oj → j ≠ i → listed.getD j true = false → (∀ e ∈ oj.after, Region.binds md e = true → e.on ≠ i) → oi.apart ops oj = true) →
      i ∈ Region.ready md ops listed → YieldsIf P ops S1 oi v a → S w → listed.getD b true = false →
      wpAnyB P md ops Q S b fuel (listed.setIfInBounds i true) (a.put oi.dst v) w → wpAnyB P md ops Q S b (fuel + 1) listed a w := by
  have hsw : ∀ w, S w → S1 w := fun w hw => hS1.elim (fun h => h w) (fun h => h.1 w hw)
  intro fuel
  induction fuel with
  | zero =>
    intro listed a w _ hr hy hS _ H
    refine ⟨fun h => (by rw [h] at hr; cases hr), fun j hj => ?_⟩
    by_cases hji : j = i
    · subst hji; exact hy.wpOp hi (hsw _ hS) ⟨fun _ => hS, H⟩
    · have := ready_mono hj hji
      rw [H.1] at this
      cases this
  | succ fuel ih =>
    intro listed a w hfree hr hy hS hb H
    refine ⟨fun h => (by rw [h] at hr; cases hr), fun j hj => ?_⟩
    by_cases hji : j = i
    · subst hji; exact hy.wpOp hi (hsw _ hS) ⟨fun _ => hS, H⟩
    · have h1 := H.2 j (ready_mono hj hji)
      obtain ⟨hjun, oj, hoj, hall⟩ := mem_ready.1 hj
      have hnot : ∀ e ∈ oj.after, Region.binds md e = true → e.on ≠ i := fun e he hb heq => by
        have h1 := hall e he hb
        have h0 := (mem_ready.1 hr).1
        rw [heq] at h1
        rcases Nat.lt_or_ge i listed.size with h' | h'
        · simp [h'] at h0 h1; rw [h0] at h1; cases h1
        · simp [Array.getElem?_eq_none h'] at h1
      have hfree' : ∀ k ok, ops[k]? = some ok → k ≠ i → (listed.setIfInBounds j true).getD k true = false →
          (∀ e ∈ ok.after, Region.binds md e = true → e.on ≠ i) → oi.apart ops ok = true := fun k ok hk hki hun hno => by
        refine hfree k ok hk hki ?_ hno
        by_cases hjk : j = k
        · subst hjk; exact hjun
        · rw [getD_set_ne true hjk] at hun; exact hun
      have h2 := wpOp_putIf hoj (hfree j oj hoj hji hjun hnot) (fun cs b => hsel i oi cs b hi) (fun cs b => hsel j oj cs b hoj) hQ hy h1
      refine wpOp_mono (fun a' w' h3 => ?_) h2
      obtain ⟨hy', hSx, H3⟩ := h3
      rw [Array.setIfInBounds_comm _ _ (Ne.symm hji)] at H3
      by_cases hjb : j = b
      · subst hjb
        have hjl : (listed.setIfInBounds j true).getD j true = true := by
          rcases Nat.lt_or_ge j listed.size with hl | hl
          · simp [hl]
          · simp [hl]
        rcases hS1 with h | ⟨_, ob, hob, e, he, hbe, heq⟩
        · refine ⟨fun hf => (by rw [hjl] at hf; cases hf), ?_⟩
          have := wpAnyH_first (S := fun _ => True) (md := md) hi hsel hQ fuel (listed.setIfInBounds j true) a' w' hfree' (ready_mono hr (Ne.symm hji)) (by
            rcases hy' with ⟨g1, g2⟩ | g
            · exact .inl ⟨g1, fun w _ => g2 w (h w)⟩
            · exact .inr g) trivial ?_
          · exact wpAnyB_of_H _ _ _ _ hjl this
          · exact trueH fuel _ _ _ H3
        · rw [hob] at hoj
          cases hoj
          exact absurd heq (hnot e he hbe)
      · have hbl : (listed.setIfInBounds j true).getD b true = false := by rw [getD_set_ne true hjb]; exact hb
        have hSw : S w' := hSx (by rw [getD_set_ne true hjb, getD_set_ne true hib]; exact hb)
        exact ⟨fun _ => hSw, ih (listed.setIfInBounds j true) a' w' hfree' (ready_mono hr (Ne.symm hji)) hy' hSw hbl H3⟩
/-- The walk up to b: (operation, does it need S). -/
def wpQ (P : Program) (ops : Array Oper) (S : World → Prop) (k : Act → World → Prop) : List (Oper × Bool) → Act → World → Prop
  | [], a, w => k a w
  | (o, dep) :: rest, a, w =>
    (Region.wanted o (yielded ops a.tmps) = true ∧ ∃ v, (∀ x, (dep = true → S x) → (execOp a.eval o).run P x = .ok (.value v) x) ∧ wpQ P ops S k rest (a.put o.dst v) w) ∨
    (Region.wanted o (yielded ops a.tmps) = false ∧ wpQ P ops S k rest (a.put o.dst undef) w)
def depsOn (ops : Array Oper) (b i : Nat) : Bool := match ops[b]? with
  | some o => o.after.toList.any fun e => Region.binds .any e && e.on == i
  | none => false
def planB (ops : Array Oper) (b : Nat) (post : List (Nat × Bool)) : List (Nat × Bool) → Array Bool → Bool
  | [], listed => decide (Region.ready .any ops listed = [b]) && (ops[b]?).isSome && planOK ops post (listed.setIfInBounds b true)
  | (i, dep) :: rest, listed => (Region.ready .any ops listed).contains i && Region.free .any ops listed i && (ops[i]?).isSome && (i != b) && !(listed.getD b true) && (!dep || depsOn ops b i) && planB ops b post rest (listed.setIfInBounds i true)
theorem wpQ_sound (hs : Region.noSelect ops = true) (hQ : ∀ c a d v w, Q (.panic c) (Act.put a d v) w → Q (.panic c) a w) {post : List (Nat × Bool)} {ob : Oper} (hob : ops[b]? = some ob) (hbs : b < ops.size) :
    ∀ (pre : List (Nat × Bool)) (listed : Array Bool) (a : Act) (w : World), listed.size = ops.size → planB ops b post pre listed = true → S w →
      wpQ P ops S (fun a w => Region.wanted ob (yielded ops a.tmps) = true ∧ ob.wp P a w (fun a' w' => ∃ S2 : World → Prop, S2 w' ∧ wpS P ops Q (planOps ops post) S2 a' w') Q) (planOps ops pre) a w →
      wpAnyB P .any ops Q S b (pre.length + 1 + post.length) listed a w := by
  intro pre
  induction pre with
  | nil =>
    intro listed a w hsz hp hS h
    simp only [planB, Bool.and_eq_true, decide_eq_true_eq] at hp
    obtain ⟨⟨h1, h2⟩, h3⟩ := hp
    obtain ⟨hw, hk⟩ := h
    rw [List.length_nil, Nat.zero_add, Nat.add_comm]
    have hbl : (listed.setIfInBounds b true).getD b true = true := by simp [hsz, hbs]
    refine ⟨fun h0 => (by rw [h1] at h0; cases h0), fun j hj => ?_⟩
    obtain rfl : j = b := by rw [h1] at hj; simpa using hj
    unfold wpOp
    simp only [hob, hw, if_true]
    refine .inl (Oper.wp_mono ?_ hk)
    rintro a' w' ⟨S2, h5, h7⟩
    exact ⟨fun hf => (by rw [hbl] at hf; cases hf), wpAnyB_of_H _ _ _ _ hbl (wpS_sound hs hQ post _ S2 a' w' h3 h5 h7)⟩
  | cons x pre ih =>
    obtain ⟨i, dep⟩ := x
    intro listed a w hsz hp hS h
    simp only [planB, Bool.and_eq_true, Bool.not_eq_true', bne_iff_ne, Bool.or_eq_true] at hp
    obtain ⟨⟨⟨⟨⟨⟨h1, h2⟩, h3⟩, h4⟩, h5⟩, h6⟩, h7⟩ := hp
    obtain ⟨o, ho⟩ := Option.isSome_iff_exists.1 h3
    simp only [planOps, ho, wpQ] at h
    have hl : ((i, dep) :: pre).length + 1 + post.length = (pre.length + 1 + post.length) + 1 := by simp only [List.length_cons]; omega
    rw [hl]
    have hdep : (∀ w, (fun x => dep = true → S x) w) ∨ ((∀ w, S w → (fun x => dep = true → S x) w) ∧ ∃ ob, ops[b]? = some ob ∧ ∃ e ∈ ob.after, Region.binds .any e = true ∧ e.on = i) := by
      rcases h6 with h6 | h6
      · exact .inl fun w hd => by rw [h6] at hd; cases hd
      · refine .inr ⟨fun w hw _ => hw, ob, hob, ?_⟩
        simp only [depsOn, hob, List.any_eq_true, Bool.and_eq_true, beq_iff_eq] at h6
        obtain ⟨e, he, h8, h9⟩ := h6
        exact ⟨e, by simpa using he, h8, h9⟩
    rcases h with ⟨hw, v, hv, hk⟩ | ⟨hw, hk⟩
    · exact wpAnyB_first (S1 := fun x => dep = true → S x) ho (Region.noSelect_spec hs) (fun c a w => hQ c a _ _ w) h4 hdep _ _ _ _ (Region.free_spec ho h2) (by simpa using h1) (.inl ⟨hw, hv⟩) hS h5 (ih _ _ _ (by simpa using hsz) h7 hS hk)
    · exact wpAnyB_first (S1 := fun x => dep = true → S x) ho (Region.noSelect_spec hs) (fun c a w => hQ c a _ _ w) h4 hdep _ _ _ _ (Region.free_spec ho h2) (by simpa using h1) (.inr ⟨hw, rfl⟩) hS h5 (ih _ _ _ (by simpa using hsz) h7 hS hk)
theorem wp_region_barrier {id : Nat} {a : Act} {w : World} (pre : List (Nat × Bool)) (b : Nat) (post : List (Nat × Bool)) (S : World → Prop) (ob : Oper) (hob : ops[b]? = some ob) (hm : P.follows .mixedOrders = true) (hs : Region.noSelect ops = true)
    (hp : planB ops b post pre (Array.replicate ops.size false) = true) (hl : pre.length + 1 + post.length = ops.size)
    (hQ : ∀ c a d v w, Q (.panic c) (Act.put a d v) w → Q (.panic c) a w) (hS : S w.drew)
    (h : wpQ P ops S (fun a w => Region.wanted ob (yielded ops a.tmps) = true ∧ ob.wp P a w (fun a' w' => ∃ S2 : World → Prop, S2 w' ∧ wpS P ops Q (planOps ops post) S2 a' w') Q) (planOps ops pre) a w.drew) : (Code.region id ops true).wp P Q a w := by
  have hbs : b < ops.size := by
    rcases Nat.lt_or_ge b ops.size with h | h
    · exact h
    · rw [Array.getElem?_eq_none h] at hob; cases hob
  refine wp_region_any hm ?_
  have := wpAny_of_B _ _ _ _ (wpQ_sound (b := b) (post := post) hs hQ hob hbs pre _ a w.drew (by simp) hp hS h)
  rwa [hl] at this
theorem wpQ_q {k : Act → World → Prop} {o : Oper} {dep : Bool} {rest : List (Oper × Bool)} {a : Act} {w : World} (v : Value) (hw : Region.wanted o (yielded ops a.tmps) = true) (h : ∀ x, (dep = true → S x) → (execOp a.eval o).run P x = .ok (.value v) x)
    (hk : wpQ P ops S k rest (a.put o.dst v) w) : wpQ P ops S k ((o, dep) :: rest) a w := .inl ⟨hw, v, h, hk⟩
theorem wpQ_nil {k : Act → World → Prop} {a : Act} {w : World} (h : k a w) : wpQ P ops S k [] a w := h
end
end Go.Rat
namespace Go.Rat
open Go Go.RowKit
section
variable {P : Program} {ops : Array Oper} {Q : Exit → Act → World → Prop} {Sp S S2 : World → Prop} {b : Nat} {md : Region.Mode}
def wpAnyC (P : Program) (md : Region.Mode) (ops : Array Oper) (Q : Exit → Act → World → Prop) (Sp S : World → Prop) (b : Nat) : Nat → Array Bool → Act → World → Prop
  | 0, listed, a, w => Region.ready md ops listed = [] ∧ Q .normal a w
  | fuel + 1, listed, a, w =>
    (Region.ready md ops listed = [] → Q .normal a w) ∧
    ∀ i ∈ Region.ready md ops listed, wpOp P ops Q i (fun a' w' => (Sp w' ∧ ((listed.setIfInBounds i true).getD b true = false → S w')) ∧ wpAnyC P md ops Q Sp S b fuel (listed.setIfInBounds i true) a' w') a w
theorem wpAny_of_C : ∀ (fuel : Nat) (listed : Array Bool) (a : Act) (w : World), wpAnyC P md ops Q Sp S b fuel listed a w → wpAny P md ops Q fuel listed a w
  | 0, _, _, _, h => h
  | fuel + 1, _, _, _, h => ⟨h.1, fun i hi => wpOp_mono (fun a' w' h' => wpAny_of_C fuel _ a' w' h'.2) (h.2 i hi)⟩
theorem wpAnyC_of_H (h2 : ∀ x, S2 x → Sp x) : ∀ (fuel : Nat) (listed : Array Bool) (a : Act) (w : World), listed.getD b true = true → wpAnyH P md ops Q S2 fuel listed a w → wpAnyC P md ops Q Sp S b fuel listed a w
  | 0, _, _, _, _, h => h
  | fuel + 1, listed, _, _, hb, h => ⟨h.1, fun i hi => wpOp_mono (fun a' w' h' => ⟨⟨h2 _ h'.1, fun hf => (by rw [getD_keep i hb] at hf; cases hf)⟩, wpAnyC_of_H h2 fuel _ a' w' (getD_keep i hb) h'.2⟩) (h.2 i hi)⟩
theorem persH : ∀ (fuel : Nat) (listed : Array Bool) (a : Act) (w : World), wpAnyC P md ops Q Sp S b fuel listed a w → wpAnyH P md ops Q Sp fuel listed a w
  | 0, _, _, _, h => h
  | fuel + 1, _, _, _, h => ⟨h.1, fun i hi => wpOp_mono (fun a' w' h' => ⟨h'.1.1, persH fuel _ a' w' h'.2⟩) (h.2 i hi)⟩
theorem wpAnyC_first {S1 : World → Prop} {i : Nat} {oi : Oper} {v : Value} (hi : ops[i]? = some oi) (hsel : ∀ (j : Nat) (o : Oper) cs b, ops[j]? = some o → o.op ≠ .select cs b)
    (hQ : ∀ c a w, Q (.panic c) (a.put oi.dst v) w → Q (.panic c) a w) (hib : i ≠ b)
    (hS1 : (∀ w, Sp w → S1 w) ∨ ((∀ w, S w → S1 w) ∧ ∃ ob, ops[b]? = some ob ∧ ∃ e ∈ ob.after, Region.binds md e = true ∧ e.on = i)) :
    ∀ (fuel : Nat) (listed : Array Bool) (a : Act) (w : World),
      (∀ j oj, ops[j]? = some oj → j ≠ i → listed.getD j true = false → (∀ e ∈ oj.after, Region.binds md e = true → e.on ≠ i) → oi.apart ops oj = true) →
      i ∈ Region.ready md ops listed → YieldsIf P ops S1 oi v a → Sp w → S w → listed.getD b true = false →
      wpAnyC P md ops Q Sp S b fuel (listed.setIfInBounds i true) (a.put oi.dst v) w → wpAnyC P md ops Q Sp S b (fuel + 1) listed a w := by
  have hsw : ∀ w, Sp w → S w → S1 w := fun w hp hw => hS1.elim (fun h => h w hp) (fun h => h.1 w hw)
  intro fuel
  induction fuel with
  | zero =>
    intro listed a w _ hr hy hp hS _ H
    refine ⟨fun h => (by rw [h] at hr; cases hr), fun j hj => ?_⟩
    by_cases hji : j = i
    · subst hji; exact hy.wpOp hi (hsw _ hp hS) ⟨⟨hp, fun _ => hS⟩, H⟩
    · have := ready_mono hj hji
      rw [H.1] at this
      cases this
  | succ fuel ih =>
    intro listed a w hfree hr hy hp hS hb H
    refine ⟨fun h => (by rw [h] at hr; cases hr), fun j hj => ?_⟩
    by_cases hji : j = i
    · subst hji; exact hy.wpOp hi (hsw _ hp hS) ⟨⟨hp, fun _ => hS⟩, H⟩
    · have h1 := H.2 j (ready_mono hj hji)
      obtain ⟨hjun, oj, hoj, hall⟩ := mem_ready.1 hj
      have hnot : ∀ e ∈ oj.after, Region.binds md e = true → e.on ≠ i := fun e he hb heq => by
        have h1 := hall e he hb
        have h0 := (mem_ready.1 hr).1
        rw [heq] at h1
        rcases Nat.lt_or_ge i listed.size with h' | h'
        · simp [h'] at h0 h1; rw [h0] at h1; cases h1
        · simp [Array.getElem?_eq_none h'] at h1
      have hfree' : ∀ k ok, ops[k]? = some ok → k ≠ i → (listed.setIfInBounds j true).getD k true = false →
          (∀ e ∈ ok.after, Region.binds md e = true → e.on ≠ i) → oi.apart ops ok = true := fun k ok hk hki hun hno => by
        refine hfree k ok hk hki ?_ hno
        by_cases hjk : j = k
        · subst hjk; exact hjun
        · rw [getD_set_ne true hjk] at hun; exact hun
      have h2 := wpOp_putIf hoj (hfree j oj hoj hji hjun hnot) (fun cs b => hsel i oi cs b hi) (fun cs b => hsel j oj cs b hoj) hQ hy h1
      refine wpOp_mono (fun a' w' h3 => ?_) h2
      obtain ⟨hy', ⟨hpx, hSx⟩, H3⟩ := h3
      rw [Array.setIfInBounds_comm _ _ (Ne.symm hji)] at H3
      by_cases hjb : j = b
      · subst hjb
        have hjl : (listed.setIfInBounds j true).getD j true = true := by
          rcases Nat.lt_or_ge j listed.size with hl | hl
          · simp [hl]
          · simp [hl]
        rcases hS1 with h | ⟨_, ob, hob, e, he, hbe, heq⟩
        · refine ⟨⟨hpx, fun hf => (by rw [hjl] at hf; cases hf)⟩, ?_⟩
          have := wpAnyH_first (S := Sp) (md := md) hi hsel hQ fuel (listed.setIfInBounds j true) a' w' hfree' (ready_mono hr (Ne.symm hji)) (by
            rcases hy' with ⟨g1, g2⟩ | g
            · exact .inl ⟨g1, fun w hw => g2 w (h w hw)⟩
            · exact .inr g) hpx ?_
          · exact wpAnyC_of_H (fun _ h => h) _ _ _ _ hjl this
          · exact persH fuel _ _ _ H3
        · rw [hob] at hoj
          cases hoj
          exact absurd heq (hnot e he hbe)
      · have hbl : (listed.setIfInBounds j true).getD b true = false := by rw [getD_set_ne true hjb]; exact hb
        have hSw : S w' := hSx (by rw [getD_set_ne true hjb, getD_set_ne true hib]; exact hb)
        exact ⟨⟨hpx, fun _ => hSw⟩, ih (listed.setIfInBounds j true) a' w' hfree' (ready_mono hr (Ne.symm hji)) hy' hpx hSw hbl H3⟩
/-- The walk up to b: 0 reads what holds throughout, 1 reads what holds up to b, 2 is a step of its own. -/
def wpC (P : Program) (ops : Array Oper) (Q : Exit → Act → World → Prop) (Sp S : World → Prop) (k : Act → World → Prop) : List (Oper × Nat) → Act → World → Prop
  | [], a, w => k a w
  | (o, 0) :: rest, a, w =>
    (Region.wanted o (yielded ops a.tmps) = true ∧ ∃ v, (∀ x, Sp x → (execOp a.eval o).run P x = .ok (.value v) x) ∧ wpC P ops Q Sp S k rest (a.put o.dst v) w) ∨
    (Region.wanted o (yielded ops a.tmps) = false ∧ wpC P ops Q Sp S k rest (a.put o.dst undef) w)
  | (o, 1) :: rest, a, w =>
    (Region.wanted o (yielded ops a.tmps) = true ∧ ∃ v, (∀ x, S x → (execOp a.eval o).run P x = .ok (.value v) x) ∧ wpC P ops Q Sp S k rest (a.put o.dst v) w) ∨
    (Region.wanted o (yielded ops a.tmps) = false ∧ wpC P ops Q Sp S k rest (a.put o.dst undef) w)
  | (o, _ + 2) :: rest, a, w =>
    Region.wanted o (yielded ops a.tmps) = true ∧ o.wp P a w (fun a' w' => Sp w' ∧ S w' ∧ wpC P ops Q Sp S k rest a' w') Q
def planOpsN (ops : Array Oper) : List (Nat × Nat) → List (Oper × Nat)
  | [] => []
  | (i, q) :: rest => match ops[i]? with
    | some o => (o, q) :: planOpsN ops rest
    | none => planOpsN ops rest
def planC (ops : Array Oper) (b : Nat) (post : List (Nat × Bool)) : List (Nat × Nat) → Array Bool → Bool
  | [], listed => decide (Region.ready .any ops listed = [b]) && (ops[b]?).isSome && planOK ops post (listed.setIfInBounds b true)
  | (i, 0) :: rest, listed => (Region.ready .any ops listed).contains i && Region.free .any ops listed i && (ops[i]?).isSome && (i != b) && !(listed.getD b true) && planC ops b post rest (listed.setIfInBounds i true)
  | (i, 1) :: rest, listed => (Region.ready .any ops listed).contains i && Region.free .any ops listed i && (ops[i]?).isSome && (i != b) && !(listed.getD b true) && depsOn ops b i && planC ops b post rest (listed.setIfInBounds i true)
  | (i, _ + 2) :: rest, listed => decide (Region.ready .any ops listed = [i]) && (ops[i]?).isSome && (i != b) && !(listed.getD b true) && planC ops b post rest (listed.setIfInBounds i true)
theorem wpC_sound (hs : Region.noSelect ops = true) (hQ : ∀ c a d v w, Q (.panic c) (Act.put a d v) w → Q (.panic c) a w) {post : List (Nat × Bool)} {ob : Oper} (hob : ops[b]? = some ob) (hbs : b < ops.size) :
    ∀ (pre : List (Nat × Nat)) (listed : Array Bool) (a : Act) (w : World), listed.size = ops.size → planC ops b post pre listed = true → Sp w → S w →
      wpC P ops Q Sp S (fun a w => Region.wanted ob (yielded ops a.tmps) = true ∧ ob.wp P a w (fun a' w' => ∃ S2 : World → Prop, S2 w' ∧ (∀ x, S2 x → Sp x) ∧ wpS P ops Q (planOps ops post) S2 a' w') Q) (planOpsN ops pre) a w →
      wpAnyC P .any ops Q Sp S b (pre.length + 1 + post.length) listed a w := by
  intro pre
  induction pre with
  | nil =>
    intro listed a w hsz hp _ hS h
    simp only [planC, Bool.and_eq_true, decide_eq_true_eq] at hp
    obtain ⟨⟨h1, h2⟩, h3⟩ := hp
    obtain ⟨hw, hk⟩ := h
    rw [List.length_nil, Nat.zero_add, Nat.add_comm]
    have hbl : (listed.setIfInBounds b true).getD b true = true := by simp [hsz, hbs]
    refine ⟨fun h0 => (by rw [h1] at h0; cases h0), fun j hj => ?_⟩
    obtain rfl : j = b := by rw [h1] at hj; simpa using hj
    unfold wpOp
    simp only [hob, hw, if_true]
    refine .inl (Oper.wp_mono ?_ hk)
    rintro a' w' ⟨S2, h5, h6, h7⟩
    exact ⟨⟨h6 _ h5, fun hf => (by rw [hbl] at hf; cases hf)⟩, wpAnyC_of_H h6 _ _ _ _ hbl (wpS_sound hs hQ post _ S2 a' w' h3 h5 h7)⟩
  | cons x pre ih =>
    obtain ⟨i, kind⟩ := x
    intro listed a w hsz hp hP hS h
    have hl : ((i, kind) :: pre).length + 1 + post.length = (pre.length + 1 + post.length) + 1 := by simp only [List.length_cons]; omega
    rw [hl]
    match kind with
    | 0 =>
      simp only [planC, Bool.and_eq_true, Bool.not_eq_true', bne_iff_ne] at hp
      obtain ⟨⟨⟨⟨⟨h1, h2⟩, h3⟩, h4⟩, h5⟩, h7⟩ := hp
      obtain ⟨o, ho⟩ := Option.isSome_iff_exists.1 h3
      simp only [planOpsN, ho, wpC] at h
      rcases h with ⟨hw, v, hv, hk⟩ | ⟨hw, hk⟩
      · exact wpAnyC_first (S1 := Sp) ho (Region.noSelect_spec hs) (fun c a w => hQ c a _ _ w) h4 (.inl fun _ h => h) _ _ _ _ (Region.free_spec ho h2) (by simpa using h1) (.inl ⟨hw, hv⟩) hP hS h5 (ih _ _ _ (by simpa using hsz) h7 hP hS hk)
      · exact wpAnyC_first (S1 := Sp) ho (Region.noSelect_spec hs) (fun c a w => hQ c a _ _ w) h4 (.inl fun _ h => h) _ _ _ _ (Region.free_spec ho h2) (by simpa using h1) (.inr ⟨hw, rfl⟩) hP hS h5 (ih _ _ _ (by simpa using hsz) h7 hP hS hk)
    | 1 =>
      simp only [planC, Bool.and_eq_true, Bool.not_eq_true', bne_iff_ne] at hp
      obtain ⟨⟨⟨⟨⟨⟨h1, h2⟩, h3⟩, h4⟩, h5⟩, h6⟩, h7⟩ := hp
      obtain ⟨o, ho⟩ := Option.isSome_iff_exists.1 h3
      simp only [planOpsN, ho, wpC] at h
      have hdep : (∀ w, Sp w → S w) ∨ ((∀ w, S w → S w) ∧ ∃ ob, ops[b]? = some ob ∧ ∃ e ∈ ob.after, Region.binds .any e = true ∧ e.on = i) := by
        refine .inr ⟨fun w hw => hw, ob, hob, ?_⟩
        simp only [depsOn, hob, List.any_eq_true, Bool.and_eq_true, beq_iff_eq] at h6
        obtain ⟨e, he, h8, h9⟩ := h6
        exact ⟨e, by simpa using he, h8, h9⟩
      rcases h with ⟨hw, v, hv, hk⟩ | ⟨hw, hk⟩
      · exact wpAnyC_first (S1 := S) ho (Region.noSelect_spec hs) (fun c a w => hQ c a _ _ w) h4 hdep _ _ _ _ (Region.free_spec ho h2) (by simpa using h1) (.inl ⟨hw, hv⟩) hP hS h5 (ih _ _ _ (by simpa using hsz) h7 hP hS hk)
      · exact wpAnyC_first (S1 := S) ho (Region.noSelect_spec hs) (fun c a w => hQ c a _ _ w) h4 hdep _ _ _ _ (Region.free_spec ho h2) (by simpa using h1) (.inr ⟨hw, rfl⟩) hP hS h5 (ih _ _ _ (by simpa using hsz) h7 hP hS hk)
    | q + 2 =>
      simp only [planC, Bool.and_eq_true, Bool.not_eq_true', bne_iff_ne, decide_eq_true_eq] at hp
      obtain ⟨⟨⟨⟨h1, h3⟩, h4⟩, h5⟩, h7⟩ := hp
      obtain ⟨o, ho⟩ := Option.isSome_iff_exists.1 h3
      simp only [planOpsN, ho, wpC] at h
      obtain ⟨hw, hk⟩ := h
      refine ⟨fun h0 => (by rw [h1] at h0; cases h0), fun j hj => ?_⟩
      obtain rfl : j = i := by rw [h1] at hj; simpa using hj
      unfold wpOp
      simp only [ho, hw, if_true]
      refine .inl (Oper.wp_mono ?_ hk)
      rintro a' w' ⟨g1, g2, g3⟩
      exact ⟨⟨g1, fun _ => g2⟩, ih _ _ _ (by simpa using hsz) h7 g1 g2 g3⟩
theorem wp_region_barb {id : Nat} {a : Act} {w : World} (pre : List (Nat × Nat)) (b : Nat) (post : List (Nat × Bool)) (Sp S : World → Prop) (ob : Oper) (hob : ops[b]? = some ob) (hm : P.follows .mixedOrders = true) (hs : Region.noSelect ops = true)
    (hp : planC ops b post pre (Array.replicate ops.size false) = true) (hl : pre.length + 1 + post.length = ops.size)
    (hQ : ∀ c a d v w, Q (.panic c) (Act.put a d v) w → Q (.panic c) a w) (hP : Sp w.drew) (hS : S w.drew)
    (h : wpC P ops Q Sp S (fun a w => Region.wanted ob (yielded ops a.tmps) = true ∧ ob.wp P a w (fun a' w' => ∃ S2 : World → Prop, S2 w' ∧ (∀ x, S2 x → Sp x) ∧ wpS P ops Q (planOps ops post) S2 a' w') Q) (planOpsN ops pre) a w.drew) : (Code.region id ops true).wp P Q a w := by
  have hbs : b < ops.size := by
    rcases Nat.lt_or_ge b ops.size with h | h
    · exact h
    · rw [Array.getElem?_eq_none h] at hob; cases hob
  refine wp_region_any hm ?_
  have := wpAny_of_C _ _ _ _ (wpC_sound (b := b) (post := post) hs hQ hob hbs pre _ a w.drew (by simp) hp hP hS h)
  rwa [hl] at this
theorem wpC_0 {k : Act → World → Prop} {o : Oper} {rest : List (Oper × Nat)} {a : Act} {w : World} (v : Value) (hw : Region.wanted o (yielded ops a.tmps) = true) (h : ∀ x, Sp x → (execOp a.eval o).run P x = .ok (.value v) x)
    (hk : wpC P ops Q Sp S k rest (a.put o.dst v) w) : wpC P ops Q Sp S k ((o, 0) :: rest) a w := .inl ⟨hw, v, h, hk⟩
theorem wpC_1 {k : Act → World → Prop} {o : Oper} {rest : List (Oper × Nat)} {a : Act} {w : World} (v : Value) (hw : Region.wanted o (yielded ops a.tmps) = true) (h : ∀ x, S x → (execOp a.eval o).run P x = .ok (.value v) x)
    (hk : wpC P ops Q Sp S k rest (a.put o.dst v) w) : wpC P ops Q Sp S k ((o, 1) :: rest) a w := .inl ⟨hw, v, h, hk⟩
theorem wpC_2 {k : Act → World → Prop} {o : Oper} {rest : List (Oper × Nat)} {a : Act} {w : World} (hw : Region.wanted o (yielded ops a.tmps) = true)
    (h : ∀ K : Act → World → Prop, (∀ a' w', Sp w' → S w' → wpC P ops Q Sp S k rest a' w' → K a' w') → o.wp P a w K Q) : wpC P ops Q Sp S k ((o, 2) :: rest) a w :=
  ⟨hw, h _ fun _ _ h1 h2 h3 => ⟨h1, h2, h3⟩⟩
theorem wpC_nil {k : Act → World → Prop} {a : Act} {w : World} (h : k a w) : wpC P ops Q Sp S k [] a w := h
end
end Go.Rat
namespace Go.Proofs.YtbbcofpdfkhljaaDoor
open Go.RowKit Go.Rat
set_option maxHeartbeats 400000 in
theorem clone_any (w : World) (A : Option Addr) (n c : Nat) (xs : List UInt8) (hr : RB w A n xs) (hn : n ≤ 140737488355328) :
    Calls Tryd.prog 55 #[.slice A n c] w fun e w' => ∃ A' c', e = .returned (.slice A' n c') ∧ OB 5 w' w.heap.size A' n c' xs ∧ Below w.heap.size w w' := by
  rcases A with _ | ad
  · obtain rfl : n = 0 := hr.nil0
    obtain rfl : xs = [] := List.eq_nil_of_length_eq_zero hr.len
    have hnil := fun (w : World) (n c : Nat) => Lib.run_eql_slice_nil w 64 5 none n c 0 0 Tryd.underlying64
    go_enter Tryd.func55, Tryd.ntmps55
    go_wp2_with fail
    go_ret
    exact ⟨none, 0, rfl, OB.nil_ _ _ _, Below.refl _ _⟩
  · have hnil := fun (w : World) (n c : Nat) => Lib.run_eql_slice_nil w 64 5 (some ad) n c 0 0 Tryd.underlying64
    go_enter Tryd.func55, Tryd.ntmps55
    go_wp2_with (at_builtin; refine app_bytes rfl _ _ rfl w.heap.size _ _ _ [] rfl (OB.empty _ _) _ _ _ xs rfl (hr.below (below_alloc _ _)) (by omega) (by simp) ?_; intro A2 N2 c2 w2 hc2 hc3 hO hG)
    go_ret
    obtain rfl : N2 = n := by have := hO.len; have := hr.len; simp at *; omega
    exact ⟨A2, c2, rfl, hO, hG.below (below_alloc _ _) (by simp) (by simp)⟩

theorem take_first {xs : List UInt8} {zs ys : List Value} {n : Nat} (hl : n ≤ zs.length) (h : zs.take (n * 1) = bvs xs) : (zs ++ ys).take (n * 1) = bvs xs := by
  rw [List.take_append_of_le_length (by omega), h]
set_option maxHeartbeats 400000 in
theorem grow_any (w : World) (base : Nat) (A : Option Addr) (n c : Nat) (xs : List UInt8) (k : Int) (hO : OB 5 w base A n c xs) (hb : base ≤ w.heap.size) (h0 : 0 ≤ k) (h1 : k ≤ 8) (hn : n ≤ 140737488000000) :
    Calls Tryd.prog 62 #[.slice A n c, .int .i64 k] w fun e w' => ∃ A' c', e = .returned (.slice A' n c') ∧ OB 5 w' base A' n c' xs ∧ Below w.heap.size w w' := by
  have hnc := hO.cap.1
  have hc := hO.cap.2
  by_cases hk : k ≤ (c : Int) - n
  · go_enter Tryd.func62, Tryd.ntmps62
    go_wp2_with fail
    go_ret
    exact ⟨A, c, rfl, hO, Below.refl _ _⟩
  · obtain ⟨zs, hz, hzt⟩ := own_full hO
    have hzl := hz.1
    go_enter Tryd.func62, Tryd.ntmps62
    go_wp2_with (at_builtin; refine app_zeros rfl _ _ rfl base _ _ zs rfl hz _ rfl (by omega) (by omega) hb ?_; intro A2 N2 c2 w2 hc2 hc3 hO2 hG; have hN2 : n ≤ N2 := (by have h1 := hO2.1; simp at h1; omega))
    go_ret
    refine ⟨A2, c2, rfl, ?_, hG.below (Below.refl _ _) (Nat.le_refl _) (by simp)⟩
    have := own_shorter hO2 (k := n) (by omega)
    rwa [take_first (by omega) hzt] at this

/-- A number by its bytes, the highest one first. -/
def be (size x : Nat) : List UInt8 := (List.range size).map fun j => UInt8.ofNat (x / 2 ^ (8 * (size - 1 - j)))
theorem be_length (size x : Nat) : (be size x).length = size := by simp [be]
theorem be_snoc (size x k : Nat) (h : k < size) : (be size x).take (k + 1) = (be size x).take k ++ [UInt8.ofNat (x / 2 ^ (8 * (size - 1 - k)))] := by
  rw [List.take_succ_eq_append_getElem (by rw [be_length]; exact h)]
  simp [be]
theorem bv_be (x k : Nat) : Value.int .u8 ((x : Int) / 2 ^ k % 256) = bv (UInt8.ofNat (x / 2 ^ k)) := by
  unfold bv
  congr 1

set_option maxHeartbeats 400000 in
theorem put64_any (w : World) (A : Option Addr) (n c : Nat) (xs : List UInt8) (x : Nat) (hr : RB w A n xs) (hn : n ≤ 140737487000000) (_hx : x < 2 ^ 64) :
    Calls Tryd.prog 56 #[.slice A n c, .int .u64 x, .int .i64 8] w fun e w' => ∃ A' N' c', e = .returned (.slice A' N' c') ∧ OB 5 w' w.heap.size A' N' c' (xs ++ be 8 x) ∧ Below w.heap.size w w' := by
  have hxl := hr.len
  go_enter Tryd.func56, Tryd.ntmps56
  go_wp2_with (first | (go_at_call 55; refine (clone_any _ A n c xs hr (by omega)).mono ?_; rintro e w1 ⟨A1, c1, rfl, hO1, hb1⟩) | (go_at_call 62; refine (grow_any w1 w.heap.size A1 n c1 xs 8 hO1 hb1.size (by omega) (by omega) (by omega)).mono ?_; rintro e w2 ⟨A2, c2, rfl, hO2, hb2⟩))
  go_loopw [7, 8] (fun v i wr => ∃ (k : Nat) (A3 : Option Addr) (N3 c3 : Nat), k ≤ 8 ∧ i = .int .i64 (8 - 1 - (k : Int)) ∧ v = .slice A3 N3 c3 ∧ OB 5 wr w.heap.size A3 N3 c3 (xs ++ (be 8 x).take k) ∧ Below w.heap.size w wr) (fun _ i _ => (intOf i + 1).toNat)
  case atStart => exact ⟨0, A2, n, c2, by omega, rfl, rfl, by simpa using hO2, hb1.trans (hb2.mono hb1.size)⟩
  case round =>
    obtain ⟨k, A3, N3, c3, hk, rfl, rfl, hO3, hb3⟩ := hrel
    clear hO1 hb1 hO2 hb2
    have hN3 := hO3.len
    go_wp2_with (at_builtin; refine app_bytes rfl _ _ rfl w.heap.size _ _ _ (xs ++ (be 8 x).take k) rfl (hO3.alloc _) _ _ _ [UInt8.ofNat (x / 2 ^ (8 * (7 - k)))] rfl (RB.one_ _ _ (bv_be _ _)) (by simp [be_length] at hN3; omega) (by simp; exact Nat.le_succ_of_le hb3.size) ?_; intro A4 N4 c4 w4 hc4 hc4' hO4 hG4)
    · go_roundw
      case rel => exact ⟨k + 1, A4, N4, c4, by omega, by go_num, rfl, by rw [be_snoc 8 x k (by omega), ← List.append_assoc]; exact hO4, hG4.own (below_alloc2 hb3 (Nat.le_refl _) _) (Nat.le_refl _) (hO3.alloc _)⟩
      case measure => simp [intOf]; omega
    · go_ret
      exact ⟨A3, N3, c3, rfl, by rwa [List.take_of_length_le (by rw [be_length]; omega)] at hO3, hb3⟩

set_option maxHeartbeats 400000 in
theorem word_any (w : World) (A : Option Addr) (n c : Nat) (xs : List UInt8) (x : Nat) (hr : RB w A n xs) (hn : n ≤ 140737487000000) (hx : x < 2 ^ 64) :
    Calls Tryd.prog 46 #[.slice A n c, .int .u64 x] w fun e w' => ∃ A' N' c', e = .returned (.slice A' N' c') ∧ OB 5 w' w.heap.size A' N' c' (xs ++ be 8 x) ∧ Below w.heap.size w w' := by
  go_enter Tryd.func46, Tryd.ntmps46
  go_wp2_with (go_at_call 56; refine (put64_any _ A n c xs x hr hn hx).mono ?_; rintro e w1 ⟨A1, N1, c1, rfl, hO1, hb1⟩)
  go_ret
  exact ⟨A1, N1, c1, rfl, hO1, hb1⟩

set_option maxHeartbeats 400000 in
theorem rput_any (w : World) (A : Option Addr) (n c : Nat) (xs : List UInt8) (x sz : Nat) (hr : RB w A n xs) (hn : n ≤ 140737487000000) (_hx : x < 2 ^ 64) (hsz : sz ≤ 8) :
    Calls Tryd.prog 50 #[.slice A n c, .int .u64 x, .int .i64 sz] w fun e w' => ∃ A' N' c', e = .returned (.slice A' N' c') ∧ OB 5 w' w.heap.size A' N' c' (xs ++ be sz x) ∧ Below w.heap.size w w' := by
  have hxl := hr.len
  go_enter Tryd.func50, Tryd.ntmps50
  go_wp2_with (at_builtin; refine app_bytes rfl _ _ rfl w.heap.size _ _ _ [] rfl (OB.empty _ _) _ _ _ xs rfl (hr.below (below_alloc _ _)) (by omega) (by simp) ?_; intro A2 N2 c2 w2 hc2 hc3 hO2 hG2)
  go_loopw [7, 8] (fun v i wr => ∃ (k : Nat) (A3 : Option Addr) (N3 c3 : Nat), k ≤ sz ∧ i = .int .i64 (sz - 1 - (k : Int)) ∧ v = .slice A3 N3 c3 ∧ OB 5 wr w.heap.size A3 N3 c3 (xs ++ (be sz x).take k) ∧ Below w.heap.size w wr) (fun _ i _ => (intOf i + 1).toNat)
  case atStart => exact ⟨0, A2, N2, c2, by omega, by go_num, rfl, by simpa using hO2, hG2.below (below_alloc _ _) (by simp) (by simp)⟩
  case round =>
    obtain ⟨k, A3, N3, c3, hk, rfl, rfl, hO3, hb3⟩ := hrel
    clear hO2 hG2
    have hN3 := hO3.len
    by_cases hks : k < sz
    · have hc0 : (0 : Int) ≤ (sz : Int) - 1 - (k : Int) := by omega
      go_wp2_with (at_builtin; refine app_bytes rfl _ _ rfl w.heap.size _ _ _ (xs ++ (be sz x).take k) rfl (hO3.alloc _) _ _ _ [UInt8.ofNat (x / 2 ^ (8 * (sz - 1 - k)))] rfl (RB.one_ _ _ (bv_be _ _)) (by simp [be_length] at hN3; omega) (by simp; exact Nat.le_succ_of_le hb3.size) ?_; intro A4 N4 c4 w4 hc4 hc4' hO4 hG4)
      go_roundw
      case rel => exact ⟨k + 1, A4, N4, c4, by omega, by go_num, rfl, by rw [be_snoc sz x k (by omega), ← List.append_assoc]; exact hO4, hG4.own (below_alloc2 hb3 (Nat.le_refl _) _) (Nat.le_refl _) (hO3.alloc _)⟩
      case measure => simp [intOf]; omega
    · obtain rfl : k = sz := by omega
      go_wp2_with fail
      go_ret
      exact ⟨A3, N3, c3, rfl, by rwa [List.take_of_length_le (by rw [be_length]; omega)] at hO3, hb3⟩

set_option maxHeartbeats 400000 in
theorem rword_any (w : World) (A : Option Addr) (n c : Nat) (xs : List UInt8) (x : Nat) (hr : RB w A n xs) (hn : n ≤ 140737487000000) (hx : x < 2 ^ 64) :
    Calls Tryd.prog 41 #[.slice A n c, .int .u64 x] w fun e w' => ∃ A' N' c', e = .returned (.slice A' N' c') ∧ OB 5 w' w.heap.size A' N' c' (xs ++ be 8 x) ∧ Below w.heap.size w w' := by
  go_enter Tryd.func41, Tryd.ntmps41
  go_wp2_with (go_at_call 50; refine (rput_any _ A n c xs x 8 hr hn hx (by omega)).mono ?_; rintro e w1 ⟨A1, N1, c1, rfl, hO1, hb1⟩)
  go_ret
  exact ⟨A1, N1, c1, rfl, hO1, hb1⟩
end Go.Proofs.YtbbcofpdfkhljaaDoor
namespace Go.Proofs.YtbbcofpdfkhljaaDoor
open Go.RowKit Go.Rat
/-- The number of bytes, the highest one first. -/
def num (ys : List UInt8) : Nat := ys.foldl (fun n b => n * 256 + b.toNat) 0
theorem num_lt (ys : List UInt8) : num ys < 256 ^ ys.length := by
  unfold num
  suffices H : ∀ (ys : List UInt8) (a : Nat), ys.foldl (fun n b => n * 256 + b.toNat) a < (a + 1) * 256 ^ ys.length by simpa using H ys 0
  intro ys
  induction ys with
  | nil => intro a; simp
  | cons y ys ih =>
    intro a
    refine Nat.lt_of_lt_of_le (ih _) ?_
    have := y.toNat_lt
    rw [List.length_cons, Nat.pow_succ, Nat.mul_comm (256 ^ _) 256, ← Nat.mul_assoc]
    exact Nat.mul_le_mul_right _ (by show a * 256 + y.toNat + 1 ≤ _; omega)
theorem num_snoc (ys : List UInt8) (b : UInt8) : num (ys ++ [b]) = num ys * 256 + b.toNat := by simp [num]
theorem num_lt64 {ys : List UInt8} (h : ys.length ≤ 8) : num ys < 18446744073709551616 :=
  Nat.lt_of_lt_of_le (num_lt ys) (Nat.le_trans (Nat.pow_le_pow_right (by omega) h) (by decide))

theorem num_lt16 {ys : List UInt8} (h : ys.length ≤ 2) : num ys < 65536 :=
  Nat.lt_of_lt_of_le (num_lt ys) (Nat.le_trans (Nat.pow_le_pow_right (by omega) h) (by decide))
theorem num_lt8 {ys : List UInt8} (h : ys.length ≤ 1) : num ys < 256 :=
  Nat.lt_of_lt_of_le (num_lt ys) (Nat.le_trans (Nat.pow_le_pow_right (by omega) h) (by decide))
theorem be_succ (n a : Nat) : be (n + 1) a = UInt8.ofNat (a / 2 ^ (8 * n)) :: be n a := by
  unfold be
  rw [List.range_succ_eq_map, List.map_cons, List.map_map]
  congr 1
  refine List.map_congr_left fun j hj => ?_
  simp only [Function.comp, List.mem_range] at hj ⊢
  rw [show n + 1 - 1 - (j + 1) = n - 1 - j by omega]
theorem num_cons (x : UInt8) (xs : List UInt8) : num (x :: xs) = x.toNat * 256 ^ xs.length + num xs := by
  unfold num
  rw [List.foldl_cons]
  suffices H : ∀ (ys : List UInt8) (a : Nat), ys.foldl (fun n b => n * 256 + b.toNat) a = a * 256 ^ ys.length + ys.foldl (fun n b => n * 256 + b.toNat) 0 by rw [H]; simp
  intro ys
  induction ys with
  | nil => intro a; simp
  | cons y ys ih =>
    intro a
    rw [List.foldl_cons, List.foldl_cons, ih, ih (0 * 256 + y.toNat), List.length_cons, Nat.pow_succ, Nat.zero_mul, Nat.zero_add, Nat.add_mul, Nat.mul_assoc, Nat.mul_comm 256, Nat.add_assoc]
theorem pow256 (n : Nat) : 2 ^ (8 * n) = 256 ^ n := by rw [Nat.pow_mul]
/-- A number's bytes are that number. -/
theorem num_be (n a : Nat) : num (be n a) = a % 256 ^ n := by
  induction n with
  | zero => simp [be, num, Nat.mod_one]
  | succ n ih =>
    have h := Nat.mod_mul (a := 256 ^ n) (b := 256) (x := a)
    rw [← Nat.pow_succ] at h
    rw [be_succ, num_cons, be_length, ih, UInt8.toNat_ofNat', pow256, h, show (2 : Nat) ^ 8 = 256 from rfl, Nat.mul_comm (256 ^ n)]
    omega
end Go.Proofs.YtbbcofpdfkhljaaDoor
namespace Go.Proofs.YtbbcofpdfkhljaaDoor
open Go.RowKit Go.Rat
theorem add_field (ad : Addr) (j i : Nat) (hi : 0 < i) : (⟨(ad.add j).block, (ad.add j).off + i, none⟩ : Addr) = ad.add (j + i) := by
  unfold Addr.add
  by_cases hj : j = 0
  · subst hj
    simp; omega
  · simp [hj]; omega
theorem flat_get {α : Type} (f : α → List Value) (s : Nat) (hf : ∀ a, (f a).length = s) : ∀ (l : List α) (k i : Nat) (a : α), l[k]? = some a → i < s → (l.flatMap f)[k * s + i]? = (f a)[i]? := by
  intro l
  induction l with
  | nil => intro k i a h; simp at h
  | cons x l ih =>
    intro k i a h hi
    rw [List.flatMap_cons]
    cases k with
    | zero =>
      simp at h
      subst h
      rw [Nat.zero_mul, Nat.zero_add, List.getElem?_append_left (by rw [hf]; exact hi)]
    | succ k =>
      simp at h
      rw [List.getElem?_append_right (by rw [hf, Nat.succ_mul]; omega), hf, show (k + 1) * s + i - s = k * s + i by rw [Nat.succ_mul]; omega]
      exact ih k i a h hi
theorem flat_len {α : Type} (f : α → List Value) (s : Nat) (hf : ∀ a, (f a).length = s) (l : List α) : (l.flatMap f).length = l.length * s := by
  rw [List.length_flatMap, List.map_congr_left (g := fun _ => s) (fun a _ => hf a), List.map_const', List.sum_replicate_nat]
end Go.Proofs.YtbbcofpdfkhljaaDoor
namespace Go.Proofs.YtbbcofpdfkhljaaDoor
open Go.RowKit Go.Rat
/-- A cut at block g (of type T) has the bytes xs left; bad: it is spoilt; its bytes lie in block gb. -/
def CutAt (w : World) (g : Nat) (T : TypeId) (gb : Option Nat) (xs : List UInt8) (bad : Bool) : Prop :=
  ∃ A n c, Blk w g T #[.slice A n c, .bool bad] ∧ RB w A n xs ∧ n ≤ c ∧ c ≤ 9223372036854775807 ∧ A.map (·.block) = gb ∧ gb ≠ some g
theorem CutAt.grown {w w' : World} {g : Nat} {T : TypeId} {gb : Option Nat} {xs : List UInt8} {bad : Bool} {row : Option Nat} (h : CutAt w g T gb xs bad) (hg : w.grownBy w' row) (h1 : some g ≠ row) (h2 : gb ≠ row ∨ row = none) : CutAt w' g T gb xs bad := by
  obtain ⟨A, n, c, hB, hR, h3, h4, h5, h6⟩ := h
  exact ⟨A, n, c, hB.grown hg h1, hR.grown hg (by rw [h5]; exact h2), h3, h4, h5, h6⟩

/-- What is taken: the bytes, those that are left, whether it is spoilt. -/
def takeF (xs : List UInt8) (bad : Bool) (k : Int) : List UInt8 × List UInt8 × Bool :=
  if bad = true ∨ k < 0 ∨ (xs.length : Int) < k then ([], xs, true) else (xs.take k.toNat, xs.drop k.toNat, false)
theorem takeF_bad {xs : List UInt8} {bad : Bool} {k : Int} (h : bad = true ∨ k < 0 ∨ (xs.length : Int) < k) : takeF xs bad k = ([], xs, true) := if_pos h
theorem takeF_ok {xs : List UInt8} {k : Nat} (h : k ≤ xs.length) : takeF xs false (k : Int) = (xs.take k, xs.drop k, false) := by
  unfold takeF
  rw [if_neg (by simp; omega)]
  rfl

theorem takeF_len (xs : List UInt8) (bad : Bool) (k : Int) : ((takeF xs bad k).1.length : Int) ≤ max k 0 := by
  unfold takeF
  split
  · simp; omega
  · simp; omega
theorem ret_int {k : IntKind} {a b : Int} (h : a = b) : Ending.returned (.int k a) = .returned (.int k b) := by rw [h]
theorem or_snoc64 (a : Nat) (b : UInt8) (ha : a < 72057594037927936) : bits .or .u64 (IntKind.u64.wrap ((a : Int) * 256)) (IntKind.u64.wrap (b.toNat : Int)) = ((a * 256 + b.toNat : Nat) : Int) := by
  have hb := b.toNat_lt
  rw [IntKind.wrap_u64, IntKind.wrap_u64, Int.emod_eq_of_lt (by omega) (by omega), Int.emod_eq_of_lt (by omega) (by omega)]
  rw [show (a : Int) * 256 = ((a * 256 : Nat) : Int) from by omega, u64_or_nat _ _ (by omega) (by omega)]
  have := Nat.shiftLeft_add_eq_or_of_lt (i := 8) (b := b.toNat) (by omega) a
  rw [Nat.shiftLeft_eq] at this
  rw [← this]
theorem num_next {ys : List UInt8} {j : Nat} (hj : j < ys.length) (h8 : j < 8) :
    Value.int .u64 (bits .or .u64 (IntKind.u64.wrap ((num (ys.take j) : Int) * 256)) (IntKind.u64.wrap ((ys.getD j 0).toNat : Int))) = .int .u64 (num (ys.take (j + 1)) : Int) := by
  have h : num (ys.take j) < 72057594037927936 := Nat.lt_of_lt_of_le (num_lt _) (Nat.le_trans (Nat.pow_le_pow_right (by omega) (show (ys.take j).length ≤ 7 by simp; omega)) (by decide))
  rw [or_snoc64 _ _ h, List.take_succ_eq_append_getElem hj, num_snoc]
  simp [List.getD_eq_getElem?_getD, List.getElem?_eq_getElem hj]

theorem takeF_len' (xs : List UInt8) (bad : Bool) (k : Nat) : (takeF xs bad k).1.length ≤ k := by have := takeF_len xs bad k; omega
theorem OB.blocks {e : TypeId} {w : World} {base n c : Nat} {A : Option Addr} {xs : List UInt8} (h : OB e w base A n c xs) : ∀ k, A.map (·.block) = some k → base ≤ k := fun k hk => (h.ge k hk).1
theorem CutAt.open_ {w : World} {g : Nat} {T : TypeId} {gb : Option Nat} {xs : List UInt8} {bad : Bool} (h : CutAt w g T gb xs bad) : ∃ A n c, Blk w g T #[.slice A n c, .bool bad] ∧ RB w A n xs ∧ n ≤ c ∧ c ≤ 9223372036854775807 ∧ A.map (·.block) = gb ∧ gb ≠ some g ∧
    w.cell? ⟨g, 0, none⟩ = some (.slice A n c) ∧ w.cell? ⟨g, 1, none⟩ = some (.bool bad) ∧ w.frozen? ⟨g, 0, none⟩ = false ∧ w.frozen? ⟨g, 1, none⟩ = false := by
  obtain ⟨A, n, c, hB, h2, h3, h4, h5, h6⟩ := h
  exact ⟨A, n, c, hB, h2, h3, h4, h5, h6, by simpa using hB.cell 0, by simpa using hB.cell 1, hB.frozen 0, hB.frozen 1⟩
theorem takeF_length (xs : List UInt8) (bad : Bool) (k : Int) : (takeF xs bad k).1.length ≤ xs.length ∧ (takeF xs bad k).2.1.length ≤ xs.length := by
  unfold takeF
  split
  · simp
  · simp; omega
set_option maxHeartbeats 400000 in
theorem put16_any (w : World) (A : Option Addr) (n c : Nat) (xs : List UInt8) (x : Nat) (hr : RB w A n xs) (hn : n ≤ 140737487000000) (_hx : x < 2 ^ 16) :
    Calls Tryd.prog 63 #[.slice A n c, .int .u16 x, .int .i64 2] w fun e w' => ∃ A' N' c', e = .returned (.slice A' N' c') ∧ OB 5 w' w.heap.size A' N' c' (xs ++ be 2 x) ∧ Below w.heap.size w w' := by
  have hxl := hr.len
  go_enter Tryd.func63, Tryd.ntmps63
  go_wp2_with (first | (go_at_call 55; refine (clone_any _ A n c xs hr (by omega)).mono ?_; rintro e w1 ⟨A1, c1, rfl, hO1, hb1⟩) | (go_at_call 62; refine (grow_any w1 w.heap.size A1 n c1 xs 2 hO1 hb1.size (by omega) (by omega) (by omega)).mono ?_; rintro e w2 ⟨A2, c2, rfl, hO2, hb2⟩))
  go_loopw [7, 8] (fun v i wr => ∃ (k : Nat) (A3 : Option Addr) (N3 c3 : Nat), k ≤ 2 ∧ i = .int .i64 (2 - 1 - (k : Int)) ∧ v = .slice A3 N3 c3 ∧ OB 5 wr w.heap.size A3 N3 c3 (xs ++ (be 2 x).take k) ∧ Below w.heap.size w wr) (fun _ i _ => (intOf i + 1).toNat)
  case atStart => exact ⟨0, A2, n, c2, by omega, rfl, rfl, by simpa using hO2, hb1.trans (hb2.mono hb1.size)⟩
  case round =>
    obtain ⟨k, A3, N3, c3, hk, rfl, rfl, hO3, hb3⟩ := hrel
    clear hO1 hb1 hO2 hb2
    have hN3 := hO3.len
    go_wp2_with (at_builtin; refine app_bytes rfl _ _ rfl w.heap.size _ _ _ (xs ++ (be 2 x).take k) rfl (hO3.alloc _) _ _ _ [UInt8.ofNat (x / 2 ^ (8 * (1 - k)))] rfl (RB.one_ _ _ (bv_be _ _)) (by simp [be_length] at hN3; omega) (by simp; exact Nat.le_succ_of_le hb3.size) ?_; intro A4 N4 c4 w4 hc4 hc4' hO4 hG4)
    · go_roundw
      case rel => exact ⟨k + 1, A4, N4, c4, by omega, by go_num, rfl, by rw [be_snoc 2 x k (by omega), ← List.append_assoc]; exact hO4, hG4.own (below_alloc2 hb3 (Nat.le_refl _) _) (Nat.le_refl _) (hO3.alloc _)⟩
      case measure => simp [intOf]; omega
    · go_ret
      exact ⟨A3, N3, c3, rfl, by rwa [List.take_of_length_le (by rw [be_length]; omega)] at hO3, hb3⟩

set_option maxHeartbeats 400000 in
theorem half_any (w : World) (A : Option Addr) (n c : Nat) (xs : List UInt8) (x : Nat) (hr : RB w A n xs) (hn : n ≤ 140737487000000) (hx : x < 2 ^ 16) :
    Calls Tryd.prog 57 #[.slice A n c, .int .u16 x] w fun e w' => ∃ A' N' c', e = .returned (.slice A' N' c') ∧ OB 5 w' w.heap.size A' N' c' (xs ++ be 2 x) ∧ Below w.heap.size w w' := by
  go_enter Tryd.func57, Tryd.ntmps57
  go_wp2_with (go_at_call 63; refine (put16_any _ A n c xs x hr hn hx).mono ?_; rintro e w1 ⟨A1, N1, c1, rfl, hO1, hb1⟩)
  go_ret
  exact ⟨A1, N1, c1, rfl, hO1, hb1⟩

end Go.Proofs.YtbbcofpdfkhljaaDoor
namespace Go.Rat
open Go Go.RowKit
section
variable {P : Program} {ops : Array Oper} {Q : Exit → Act → World → Prop}
inductive PlanT where
  | done
  | q (i : Nat) (rest : PlanT)
  | l (i : Nat) (rest : PlanT)
  | two (i j : Nat) (r1 r2 : PlanT)
def PlanT.depth : PlanT → Nat
  | .done => 0
  | .q _ r => r.depth + 1
  | .l _ r => r.depth + 1
  | .two _ _ r1 _ => r1.depth + 1
def PlanT.even : PlanT → Bool
  | .done => true
  | .q _ r => r.even
  | .l _ r => r.even
  | .two _ _ r1 r2 => r1.even && r2.even && decide (r1.depth = r2.depth)
def wpT (P : Program) (ops : Array Oper) (Q : Exit → Act → World → Prop) : PlanT → (World → Prop) → Act → World → Prop
  | .done, _, a, w => Q .normal a w
  | .q i rest, S, a, w => ∀ o, ops[i]? = some o → 
    (Region.wanted o (yielded ops a.tmps) = true ∧ ∃ v, (∀ x, S x → (execOp a.eval o).run P x = .ok (.value v) x) ∧ wpT P ops Q rest S (a.put o.dst v) w) ∨
    (Region.wanted o (yielded ops a.tmps) = false ∧ wpT P ops Q rest S (a.put o.dst undef) w)
  | .l i rest, S, a, w => ∀ o, ops[i]? = some o → 
    (Region.wanted o (yielded ops a.tmps) = true ∧ o.wp P a w (fun a' w' => ∃ S' : World → Prop, S' w' ∧ (∀ x, S' x → S x) ∧ wpT P ops Q rest S' a' w') Q) ∨
    (Region.wanted o (yielded ops a.tmps) = false ∧ wpT P ops Q rest S (a.put o.dst undef) w)
  | .two i j r1 r2, S, a, w =>
    (∀ o, ops[i]? = some o → (Region.wanted o (yielded ops a.tmps) = true ∧ o.wp P a w (fun a' w' => ∃ S' : World → Prop, S' w' ∧ (∀ x, S' x → S x) ∧ wpT P ops Q r1 S' a' w') Q)) ∧
    (∀ o, ops[j]? = some o → (Region.wanted o (yielded ops a.tmps) = true ∧ o.wp P a w (fun a' w' => ∃ S' : World → Prop, S' w' ∧ (∀ x, S' x → S x) ∧ wpT P ops Q r2 S' a' w') Q))
def planOKT (ops : Array Oper) : PlanT → Array Bool → Bool
  | .done, listed => (Region.ready .any ops listed).isEmpty
  | .q i rest, listed => (Region.ready .any ops listed).contains i && Region.free .any ops listed i && (ops[i]?).isSome && planOKT ops rest (listed.setIfInBounds i true)
  | .l i rest, listed => decide (Region.ready .any ops listed = [i]) && (ops[i]?).isSome && planOKT ops rest (listed.setIfInBounds i true)
  | .two i j r1 r2, listed => decide (Region.ready .any ops listed = [i, j]) && (ops[i]?).isSome && (ops[j]?).isSome && planOKT ops r1 (listed.setIfInBounds i true) && planOKT ops r2 (listed.setIfInBounds j true)
theorem wpT_sound (hs : Region.noSelect ops = true) (hQ : ∀ c a d v w, Q (.panic c) (Act.put a d v) w → Q (.panic c) a w) :
    ∀ (plan : PlanT) (listed : Array Bool) (S : World → Prop) (a : Act) (w : World), plan.even = true → planOKT ops plan listed = true → S w → wpT P ops Q plan S a w → wpAnyH P .any ops Q S plan.depth listed a w := by
  intro plan
  induction plan with
  | done =>
    intro listed S a w _ hp _ h
    exact wpAnyH_done (by simpa [planOKT] using hp) h 0
  | q i r ih =>
    intro listed S a w he hp hS h
    simp only [planOKT, Bool.and_eq_true] at hp
    obtain ⟨⟨⟨h1, h2⟩, h3⟩, h4⟩ := hp
    obtain ⟨o, ho⟩ := Option.isSome_iff_exists.1 h3
    rcases h o ho with ⟨hw, v, hv, hk⟩ | ⟨hw, hk⟩
    · exact wpAnyH_take ho hs h2 h1 (fun c a w => hQ c a _ _ w) (.inl ⟨hw, hv⟩) hS (ih _ _ _ _ he h4 hS hk)
    · exact wpAnyH_take ho hs h2 h1 (fun c a w => hQ c a _ _ w) (.inr ⟨hw, rfl⟩) hS (ih _ _ _ _ he h4 hS hk)
  | l i r ih =>
    intro listed S a w he hp hS h
    simp only [planOKT, Bool.and_eq_true, decide_eq_true_eq] at hp
    obtain ⟨⟨h1, h3⟩, h4⟩ := hp
    obtain ⟨o, ho⟩ := Option.isSome_iff_exists.1 h3
    refine wpAnyH_all h1 (by simp) fun j hj => ?_
    obtain rfl : j = i := by simpa using hj
    unfold wpOp
    simp only [ho]
    rcases h o ho with ⟨hw, hk⟩ | ⟨hw, hk⟩
    · rw [if_pos hw]
      refine .inl (Oper.wp_mono ?_ hk)
      rintro a' w' ⟨S', h5, h6, h7⟩
      exact ⟨h6 _ h5, wpAnyH_weaken h6 _ _ _ _ (ih _ _ _ _ he h4 h5 h7)⟩
    · rw [hw]
      exact ⟨hS, ih _ _ _ _ he h4 hS hk⟩
  | two i j r1 r2 ih1 ih2 =>
    intro listed S a w he hp hS h
    simp only [planOKT, Bool.and_eq_true, decide_eq_true_eq] at hp
    obtain ⟨⟨⟨⟨h1, h3⟩, h3'⟩, h4⟩, h4'⟩ := hp
    simp only [PlanT.even, Bool.and_eq_true, decide_eq_true_eq] at he
    obtain ⟨⟨he1, he2⟩, hd⟩ := he
    obtain ⟨o, ho⟩ := Option.isSome_iff_exists.1 h3
    obtain ⟨o', ho'⟩ := Option.isSome_iff_exists.1 h3'
    refine wpAnyH_all h1 (by simp) fun x hx => ?_
    have hx : x = i ∨ x = j := by simpa using hx
    rcases hx with rfl | rfl
    · obtain ⟨hw, hk⟩ := h.1 o ho
      unfold wpOp
      simp only [ho]
      rw [if_pos hw]
      refine .inl (Oper.wp_mono ?_ hk)
      rintro a' w' ⟨S', h5, h6, h7⟩
      exact ⟨h6 _ h5, wpAnyH_weaken h6 _ _ _ _ (ih1 _ _ _ _ he1 h4 h5 h7)⟩
    · obtain ⟨hw, hk⟩ := h.2 o' ho'
      unfold wpOp
      simp only [ho']
      rw [if_pos hw]
      refine .inl (Oper.wp_mono ?_ hk)
      rintro a' w' ⟨S', h5, h6, h7⟩
      have := ih2 _ _ _ _ he2 h4' h5 h7
      rw [← hd] at this
      exact ⟨h6 _ h5, wpAnyH_weaken h6 _ _ _ _ this⟩
theorem wp_region_planT {id : Nat} {a : Act} {w : World} (plan : PlanT) (S : World → Prop) (hm : P.follows .mixedOrders = true) (hs : Region.noSelect ops = true) (hp : planOKT ops plan (Array.replicate ops.size false) = true) (he : plan.even = true) (hl : plan.depth = ops.size)
    (hQ : ∀ c a d v w, Q (.panic c) (Act.put a d v) w → Q (.panic c) a w) (hS : S w.drew) (h : wpT P ops Q plan S a w.drew) : (Code.region id ops true).wp P Q a w :=
  wp_region_held (S := S) hm (by have := wpT_sound hs hQ plan _ S a w.drew he hp hS h; rwa [hl] at this)
theorem wpT_q {i : Nat} {o : Oper} {rest : PlanT} {S : World → Prop} {a : Act} {w : World} (ho : ops[i]? = some o) (v : Value) (hw : Region.wanted o (yielded ops a.tmps) = true) (h : ∀ x, S x → (execOp a.eval o).run P x = .ok (.value v) x)
    (k : wpT P ops Q rest S (a.put o.dst v) w) : wpT P ops Q (.q i rest) S a w := fun o' ho' => by
  rw [ho] at ho'
  cases ho'
  exact .inl ⟨hw, v, h, k⟩
theorem wpT_skip {i : Nat} {o : Oper} {rest : PlanT} {S : World → Prop} {a : Act} {w : World} (ho : ops[i]? = some o) (hw : Region.wanted o (yielded ops a.tmps) = false)
    (k : wpT P ops Q rest S (a.put o.dst undef) w) : wpT P ops Q (.q i rest) S a w := fun o' ho' => by
  rw [ho] at ho'
  cases ho'
  exact .inr ⟨hw, k⟩
theorem wpT_l {i : Nat} {o : Oper} {rest : PlanT} {S : World → Prop} {a : Act} {w : World} (ho : ops[i]? = some o) (hw : Region.wanted o (yielded ops a.tmps) = true)
    (h : ∀ K : Act → World → Prop, (∀ a' w' (S' : World → Prop), S' w' → (∀ x, S' x → S x) → wpT P ops Q rest S' a' w' → K a' w') → o.wp P a w K Q) : wpT P ops Q (.l i rest) S a w := fun o' ho' => by
  rw [ho] at ho'
  cases ho'
  exact .inl ⟨hw, h _ fun _ _ S' h1 h2 h3 => ⟨S', h1, h2, h3⟩⟩
theorem wpT_two {i j : Nat} {o1 o2 : Oper} {r1 r2 : PlanT} {S : World → Prop} {a : Act} {w : World} (ho1 : ops[i]? = some o1) (ho2 : ops[j]? = some o2) (hw1 : Region.wanted o1 (yielded ops a.tmps) = true) (hw2 : Region.wanted o2 (yielded ops a.tmps) = true)
    (h1 : ∀ K : Act → World → Prop, (∀ a' w' (S' : World → Prop), S' w' → (∀ x, S' x → S x) → wpT P ops Q r1 S' a' w' → K a' w') → o1.wp P a w K Q)
    (h2 : ∀ K : Act → World → Prop, (∀ a' w' (S' : World → Prop), S' w' → (∀ x, S' x → S x) → wpT P ops Q r2 S' a' w' → K a' w') → o2.wp P a w K Q) : wpT P ops Q (.two i j r1 r2) S a w := by
  refine ⟨fun o ho => ?_, fun o ho => ?_⟩
  · rw [ho1] at ho
    cases ho
    exact ⟨hw1, h1 _ fun _ _ S' h1 h2 h3 => ⟨S', h1, h2, h3⟩⟩
  · rw [ho2] at ho
    cases ho
    exact ⟨hw2, h2 _ fun _ _ S' h1 h2 h3 => ⟨S', h1, h2, h3⟩⟩
theorem wpT_done {S : World → Prop} {a : Act} {w : World} (h : Q .normal a w) : wpT P ops Q .done S a w := h
end
/-- A store of a whole array over a block, as a step. -/
theorem wp_storeRow {P : Program} {w : World} {o : Oper} {a : Act} {K : Act → World → Prop} {Q : Exit → Act → World → Prop} {ty : TypeId} {x y : Operand} (ho : o.op = .store ty x y) (g : Nat) (T : TypeId) (cs cs' : Array Value) {n : Nat}
    (hi : (P.info? ty).map (·.size) = some n) (hB : Blk w g T cs) (hs : cs.size = n) (hs' : cs'.size = n) (h1 : ∀ v ∈ cs'.toList, v.oneCell' = true)
    (hx : a.eval x = .pointer (some ⟨g, 0, none⟩)) (hy : a.eval y = .agg cs') (h : K (a.put o.dst undef) (w.setRow g cs')) : o.wp P a w K Q := by
  have hst := run_storeCells_at P g 0 T cs'.toList 0 cs w hB (by simp [hs, hs']) h1
  have he : (cs.toList.take (0 + 0) ++ cs'.toList ++ cs.toList.drop (0 + 0 + cs'.toList.length)).toArray = cs' := by
    rw [List.take_zero, List.nil_append, List.drop_of_length_le (by simp [hs, hs']), List.append_nil, Array.toArray_toList]
  rw [he] at hst
  have hr : (storeVar ty ⟨g, 0, none⟩ (.agg cs')).run P w = .ok () (w.setRow g cs') := by
    cases hq : P.info? ty with
    | none => simp [hq] at hi
    | some i =>
      have : i.size = n := by simp [hq] at hi; omega
      simp [storeVar, sizeOf, typeInfo, hq, Value.cells, hs', this, hst]
  unfold Oper.wp execOp
  simp only [ho, hx, hy, Instr.storeAt, Instr.sureAddr, Sem.run_bind, Sem.run_pure, Result.andThen_ok, hr]
  exact h
end Go.Rat
