import Derived.WalkKit
import Derived.WalkSpells
import Derived.WalkLawsBesides
import Derived.Maps.AppendAt
import Derived.Deep.AppendLies
import Derived.Deep.Draws
import Derived.Lib.Hide
namespace Go.Rat
open Go.RowKit Go

theorem block_of_add (a : Addr) (n : Nat) : (a.add n).block = a.block := by unfold Addr.add; split <;> rfl
theorem add_of_add (a : Addr) (i j : Nat) : (a.add i).add j = a.add (i + j) := by
  unfold Addr.add
  by_cases hi : i = 0 <;> by_cases hj : j = 0 <;> simp [hi, hj, Nat.add_assoc]
theorem add_zero_addr (a : Addr) : a.add 0 = a := by unfold Addr.add; simp

/-- The slice address A reads the cells xs (n elements, size cells each), in a block below B. -/
def Reads (w : World) (B size : Nat) (A : Option Addr) (n : Nat) (xs : List Value) : Prop :=
  xs.length = n * size ∧ (0 < n → ∃ ad, A = some ad ∧ ad.block < B ∧ ∀ j u, xs[j]? = some u → w.cell? (ad.add j) = some u)

section
variable {w w' : World} {B B' size n : Nat} {A : Option Addr} {xs : List Value}
theorem Reads.none_ : Reads w B size A 0 [] := ⟨by simp, fun h => absurd h (by omega)⟩
theorem Reads.keep (h : Reads w B size A n xs) (hk : ∀ p : Addr, p.block < B → w'.cell? p = w.cell? p) : Reads w' B size A n xs :=
  ⟨h.1, fun hn => by
    obtain ⟨ad, e, hb, hc⟩ := h.2 hn
    exact ⟨ad, e, hb, fun j u hu => (hk _ (by rw [block_of_add]; exact hb)).trans (hc j u hu)⟩⟩
theorem Reads.more (h : Reads w B size A n xs) (hB : B ≤ B') : Reads w B' size A n xs :=
  ⟨h.1, fun hn => by
    obtain ⟨ad, e, hb, hc⟩ := h.2 hn
    exact ⟨ad, e, by omega, hc⟩⟩
theorem Reads.below (h : Reads w B size A n xs) (hb : Below B w w') : Reads w' B size A n xs := h.keep fun _ hp => hb.cell hp
theorem Reads.cut (h : Reads w B size A n xs) {k cap : Nat} (hk : k ≤ n) (hc : n ≤ cap) :
    Reads w B size (if cap = k then A else A.map (·.add (k * size))) (n - k) (xs.drop (k * size)) := by
  refine ⟨by rw [List.length_drop, h.1, Nat.sub_mul], fun hn => ?_⟩
  obtain ⟨ad, rfl, hb, hcell⟩ := h.2 (by omega)
  rw [if_neg (by omega)]
  refine ⟨ad.add (k * size), rfl, by rw [block_of_add]; exact hb, fun j u hu => ?_⟩
  rw [add_of_add]
  exact hcell _ u (by rw [← hu, List.getElem?_drop])
theorem Reads.take_ (h : Reads w B size A n xs) {k : Nat} (hk : k ≤ n) : Reads w B size A k (xs.take (k * size)) := by
  refine ⟨by rw [List.length_take, h.1]; exact Nat.min_eq_left (Nat.mul_le_mul_right _ hk), fun hn => ?_⟩
  obtain ⟨ad, rfl, hb, hcell⟩ := h.2 (by omega)
  refine ⟨ad, rfl, hb, fun j u hu => hcell j u ?_⟩
  rw [List.getElem?_take] at hu
  split at hu
  · exact hu
  · cases hu
theorem Reads.of_own {base : Nat} {e : TypeId} {c : Nat} (h : w.ownsRow base e size (.slice A n c) n xs) : Reads w w.heap.size size A n xs := by
  refine ⟨h.1, fun hn => ?_⟩
  obtain ⟨g, cap, hv, _, hlt⟩ := h.form hn
  have hA : A = some ⟨g, 0, none⟩ := by injection hv
  subst hA
  exact ⟨_, rfl, hlt, h.cells (g := g) rfl⟩
end

def bv (x : UInt8) : Value := .int .u8 (x.toNat : Int)
def bvs (xs : List UInt8) : List Value := xs.map bv
def ub (k : Int) : UInt8 := UInt8.ofNat k.toNat
theorem bv_ub {k : Int} (h0 : 0 ≤ k) (h1 : k < 256) : bv (ub k) = .int .u8 k := by
  unfold bv ub
  congr 1
  have : (UInt8.ofNat k.toNat).toNat = k.toNat := by rw [UInt8.toNat_ofNat']; omega
  omega
theorem bvs_append (xs ys : List UInt8) : bvs (xs ++ ys) = bvs xs ++ bvs ys := by simp [bvs]
theorem bvs_length (xs : List UInt8) : (bvs xs).length = xs.length := by simp [bvs]
theorem bv_one (x : UInt8) : (bv x).oneCell' = true := rfl
theorem bvs_one (xs : List UInt8) : ∀ u ∈ bvs xs, u.oneCell' = true := by
  intro u hu
  simp only [bvs, List.mem_map] at hu
  obtain ⟨x, _, rfl⟩ := hu
  rfl

/-- A []byte that reads xs. -/
def RB (w : World) (A : Option Addr) (n : Nat) (xs : List UInt8) : Prop := Reads w w.heap.size 1 A n (bvs xs)
/-- A []byte of the call's own (its block is base or behind it). -/
def OB (e : TypeId) (w : World) (base : Nat) (A : Option Addr) (n c : Nat) (xs : List UInt8) : Prop := w.ownsRow base e 1 (.slice A n c) n (bvs xs)

/-- From w to w2: new blocks; of the old ones only that of A (if any) may have turned; A2 lies where A lay, or in a new block. -/
structure Grew (w w2 : World) (A A2 : Option Addr) : Prop where
  grown : w.grownBy w2 (A.map (·.block))
  lies : A2.map (·.block) = A.map (·.block) ∨ (∃ g, A2.map (·.block) = some g ∧ w.heap.size ≤ g ∧ g < w2.heap.size)

section
variable {w w' : World} {B B' base n c : Nat} {A A2 : Option Addr} {xs : List UInt8} {e : TypeId}
theorem RB.len (h : RB w A n xs) : xs.length = n := by have := h.1; simpa [bvs_length] using this
theorem RB.at_ {k : Nat} (h : RB w A n xs) (hk : k < n) : ∃ ad, A = some ad ∧ ad.block < w.heap.size ∧ w.cell? (ad.add k) = some (.int .u8 ((xs.getD k 0).toNat : Int)) := by
  obtain ⟨ad, e, hb, hc⟩ := h.2 (by omega)
  have hl : k < xs.length := by have := RB.len h; omega
  refine ⟨ad, e, hb, hc k _ ?_⟩
  unfold bvs
  rw [List.getElem?_map, List.getElem?_eq_getElem hl, List.getD_eq_getElem?_getD, List.getElem?_eq_getElem hl]
  rfl
theorem RB.nil0 (h : RB w none n xs) : n = 0 := by
  rcases Nat.eq_zero_or_pos n with h0 | h0
  · exact h0
  · obtain ⟨ad, h, _⟩ := h.2 h0
    cases h
theorem OB.len (h : OB e w base A n c xs) : xs.length = n := by have := h.1; simpa [bvs_length] using this
theorem OB.reads (h : OB e w base A n c xs) : RB w A n xs := Reads.of_own h
theorem OB.ge (h : OB e w base A n c xs) : ∀ g, A.map (·.block) = some g → base ≤ g ∧ g < w.heap.size := by
  intro g hg
  refine World.ownsRow.lt h g ?_
  cases A <;> simp_all [Value.ownBlock]
theorem RB.below (h : RB w A n xs) (hb : Below w.heap.size w w') : RB w' A n xs := (Reads.below h hb).more hb.size
theorem RB.grown {row : Option Nat} (h : RB w A n xs) (hg : w.grownBy w' row) (hne : A.map (·.block) ≠ row ∨ row = none) : RB w' A n xs := by
  refine ⟨h.1, fun hn => ?_⟩
  obtain ⟨ad, rfl, hb, hc⟩ := h.2 hn
  refine ⟨ad, rfl, Nat.lt_of_lt_of_le hb hg.size, fun j u hu => ?_⟩
  rw [World.cell?_of_block (hg.block _ (by rw [block_of_add]; exact hb) (by rw [block_of_add]; rcases hne with h | h <;> simp_all))]
  exact hc j u hu
theorem OB.grown {row : Option Nat} (h : OB e w base A n c xs) (hg : w.grownBy w' row) (hne : A.map (·.block) ≠ row ∨ row = none) : OB e w' base A n c xs :=
  World.ownsRow.kept h hg (by rcases hne with hne | rfl <;> cases A <;> simp_all [Value.ownBlock])
theorem own_cap {size : Nat} {ys : List Value} (h : w.ownsRow base e size (.slice A n c) n ys) : n ≤ c ∧ c ≤ 9223372036854775807 := by
  rcases h.2 with ⟨h, h2⟩ | ⟨g, cap, cur, h, _, _, hnc, hm, _⟩
  · injection h with h3 h4 h5
    omega
  · injection h with h3 h4 h5
    simp only [maxLen] at hm
    omega
theorem own_shorter {size k : Nat} {ys : List Value} (h : w.ownsRow base e size (.slice A n c) n ys) (hk : k ≤ n) : w.ownsRow base e size (.slice A k c) k (ys.take (k * size)) := by
  obtain ⟨h1, h2⟩ := h
  have hks : k * size ≤ n * size := Nat.mul_le_mul_right _ hk
  refine ⟨by rw [List.length_take, h1]; exact Nat.min_eq_left hks, ?_⟩
  rcases h2 with ⟨h, h2⟩ | ⟨g, cap, cur, h, hb, hg, hnc, hm, hcs, ht⟩
  · injection h with h3 h4 h5
    obtain rfl : k = 0 := by omega
    subst h3 h5
    exact .inl ⟨rfl, rfl⟩
  · injection h with h3 h4 h5
    subst h3 h5
    refine .inr ⟨g, c, cur, rfl, hb, hg, by omega, hm, hcs, ?_⟩
    rw [← ht, List.take_take, Nat.min_eq_left hks]
theorem own_full {size : Nat} {ys : List Value} (h : w.ownsRow base e size (.slice A n c) n ys) : ∃ zs, w.ownsRow base e size (.slice A c c) c zs ∧ zs.take (n * size) = ys := by
  obtain ⟨h1, h2⟩ := h
  rcases h2 with ⟨h, h2⟩ | ⟨g, cap, cur, h, hb, hg, hnc, hm, hcs, ht⟩
  · injection h with h3 h4 h5
    subst h2 h3 h5
    exact ⟨[], ⟨by simp, .inl ⟨rfl, rfl⟩⟩, by have h0 : ys = [] := List.eq_nil_of_length_eq_zero (by simpa using h1); subst h0; simp⟩
  · injection h with h3 h4 h5
    subst h3 h5
    exact ⟨cur.toList, ⟨by simpa using hcs, .inr ⟨g, c, cur, rfl, hb, hg, Nat.le_refl _, hm, hcs, List.take_of_length_le (by simp [hcs])⟩⟩, ht⟩
theorem OB.cap (h : OB e w base A n c xs) : n ≤ c ∧ c ≤ 9223372036854775807 := own_cap h
theorem OB.empty (w : World) (e : TypeId) : OB e (w.alloc (.cells #[] e)) w.heap.size (some ⟨w.heap.size, 0, none⟩) 0 0 [] :=
  World.ownsRow_made w #[] 0 (Nat.le_refl _) (by simp [maxLen]) (by simp)
theorem OB.nil_ (w : World) (e : TypeId) (base : Nat) : OB e w base none 0 0 [] := World.ownsRow_nil _ _ _ _
theorem OB.mono (h : OB e w base A n c xs) (hb : B ≤ base) : OB e w B A n c xs := by
  obtain ⟨h1, h2⟩ := h
  refine ⟨h1, ?_⟩
  rcases h2 with h2 | ⟨g, cap, cur, hv, hg, r⟩
  · exact .inl h2
  · exact .inr ⟨g, cap, cur, hv, by omega, r⟩
theorem RB.one (w : World) (e : TypeId) (x : UInt8) : RB (w.alloc (.cells #[bv x] e)) (some ⟨w.heap.size, 0, none⟩) 1 [x] :=
  ⟨by simp [bvs], fun _ => ⟨_, rfl, by simp, cell_one_new w (bv x) e⟩⟩
theorem RB.one_ (w : World) (e : TypeId) {v : Value} {x : UInt8} (h : v = bv x) : RB (w.alloc (.cells #[v] e)) (some ⟨w.heap.size, 0, none⟩) 1 [x] := by
  subst h; exact RB.one w e x
theorem OB.alloc (h : OB e w base A n c xs) (o : Obj) : OB e (w.alloc o) base A n c xs := h.grown (World.grownBy_alloc w o none) (.inr rfl)
theorem RB.alloc (h : RB w A n xs) (o : Obj) : RB (w.alloc o) A n xs := h.grown (World.grownBy_alloc w o none) (.inr rfl)
theorem below_alloc2 {a : World} (h : Below B a w) (hB : B ≤ a.heap.size) (o : Obj) : Below B a (w.alloc o) := h.alloc (Nat.le_trans hB h.size) o
/-- .. where the row lies from the base on. -/
theorem Grew.own {a : World} {m k : Nat} {ys : List UInt8} (h : Grew w w' A A2) (hb : Below B a w) (hB : B ≤ a.heap.size) (ho : OB e w B A m k ys) : Below B a w' :=
  hb.grown h.grown (Nat.le_trans hB hb.size) (fun g hg => (ho.ge g hg).1)
theorem RB.nil_ (w : World) (A : Option Addr) : RB w A 0 [] := ⟨by simp [bvs], fun h => absurd h (by omega)⟩
theorem Grew.below {a : World} (h : Grew w w' A A2) (hb : Below B a w) (hB : B ≤ w.heap.size) (hA : ∀ g, A.map (·.block) = some g → B ≤ g) : Below B a w' :=
  hb.grown h.grown hB hA
theorem below_alloc (w : World) (o : Obj) : Below w.heap.size w (w.alloc o) := (Below.refl _ _).alloc (Nat.le_refl _) o
end

section
variable {P : Program} {w : World}
theorem reads_split {B m : Nat} {A : Option Addr} {news : List Value} {size : Nat} (hr : Reads w B size A m news) :
    (m = 0 ∧ news = []) ∨ ∃ ad, A = some ad ∧ ∀ j u, news[j]? = some u → w.cell? (ad.add j) = some u := by
  rcases Nat.eq_zero_or_pos m with h0 | h0
  · subst h0
    exact .inl ⟨rfl, List.eq_nil_of_length_eq_zero (by simpa using hr.1)⟩
  · obtain ⟨ad, h, _, hc⟩ := hr.2 h0
    exact .inr ⟨ad, h, hc⟩

/-- append onto a row of the call's own; the source is a slice, nil or not. -/
theorem run_append_reads (w : World) (base : Nat) (t ty e : TypeId) (i : TypeInfo) (z : Value) (size bytes : Nat) (ht : P.underlying t = some (.slice e)) (hi : P.info? e = some i) (hz : i.zero = some z)
    (hsize : i.size = size) (hby : i.bytes = bytes) (hzs : z.cells.size = size) (hsz : 0 < size)
    (A : Option Addr) (n c : Nat) (xs : List Value) (hown : w.ownsRow base e size (.slice A n c) n xs)
    (B : Nat) (A' : Option Addr) (m c' : Nat) (news : List Value) (hr : Reads w B size A' m news) (h1 : ∀ u ∈ news, u.oneCell' = true)
    (h63 : n + m ≤ maxLen) (hbytes : (n + m) * bytes ≤ 140737488355328) (hbase : base ≤ w.heap.size) :
    ∃ A2 c2 w2, (Builtin.append_ #[t, t] ty #[.slice A n c, .slice A' m c']).run P w = .ok (.slice A2 (n + m) c2) w2 ∧ w2.ownsRow base e size (.slice A2 (n + m) c2) (n + m) (xs ++ news) ∧
      w.grownBy w2 (A.map (·.block)) ∧ (A2.map (·.block) = A.map (·.block) ∨ A2.map (·.block) = some w.heap.size) := by
  have hob : ∀ (A : Option Addr) (n c : Nat), (Value.slice A n c).ownBlock = A.map (·.block) := by intro A _ _; cases A <;> rfl
  rcases reads_split hr with ⟨rfl, rfl⟩ | ⟨ad, rfl, hc⟩
  · refine ⟨A, c, w, ?_, by simpa using hown, World.grownBy.refl w _, .inl rfl⟩
    rcases hown.2 with ⟨h, h2⟩ | ⟨g, cap, cur, h, _, _, hnc, _⟩
    · injection h with h3 h4 h5
      subst h3 h4 h5
      cases A' <;> simp [Builtin.append_, run_underlying ht, sizeOf, typeInfo, hi, Builtin.lenOf, Builtin.firstCells, loadCells, loadCellsFrom]
    · injection h with h3 h4 h5
      subst h3 h5
      cases A' <;> simp [Builtin.append_, run_underlying ht, sizeOf, typeInfo, hi, Builtin.lenOf, Builtin.firstCells, hnc, storeCells, loadCells, loadCellsFrom]
  · obtain ⟨v', w', hrun, h2, h3, _, h5⟩ := run_append_own_at (P := P) w base t ty e i z size bytes ht hi hz hsize hby hzs hsz _ n xs hown ad m c' news hr.1 hc h1 h63 hbytes hbase
    rw [hob] at h3 h5
    have hv : ∃ A2 c2, v' = .slice A2 (n + m) c2 := by
      rcases h2.2 with ⟨h, h'⟩ | ⟨g, cap, cur, h, _⟩
      · exact ⟨none, 0, by rw [h, h']⟩
      · exact ⟨_, _, h⟩
    obtain ⟨A2, c2, rfl⟩ := hv
    rw [hob] at h5
    exact ⟨A2, c2, w', hrun, h2, h3, h5⟩

theorem wpl_append {ops : Array Oper} {rest : List Oper} {o : Oper} {a : Act} {Q : Exit → Act → World → Prop} (hgd : o.guard = none) (s x : Operand) (t : TypeId)
    (ho : o.op = .call { callee := .builtin .append, args := #[s, x], argTypes := #[t, t] })
    (base : Nat) (e : TypeId) (i : TypeInfo) (z : Value) (size bytes : Nat) (ht : P.underlying t = some (.slice e)) (hi : P.info? e = some i) (hz : i.zero = some z)
    (hsize : i.size = size) (hby : i.bytes = bytes) (hzs : z.cells.size = size) (hsz : 0 < size)
    (A : Option Addr) (n c : Nat) (xs : List Value) (hs : a.eval s = .slice A n c) (hown : w.ownsRow base e size (.slice A n c) n xs)
    (A' : Option Addr) (m c' : Nat) (news : List Value) (hx : a.eval x = .slice A' m c') (hr : ∃ B, Reads w B size A' m news) (h1 : ∀ u ∈ news, u.oneCell' = true)
    (h63 : n + m ≤ maxLen) (hbytes : (n + m) * bytes ≤ 140737488355328) (hbase : base ≤ w.heap.size)
    (h : ∀ A2 N2 c2 w2, N2 ≤ c2 → c2 ≤ 9223372036854775807 → w2.ownsRow base e size (.slice A2 N2 c2) N2 (xs ++ news) → Grew w w2 A A2 → wpList P ops Q rest (a.put o.dst (.slice A2 N2 c2)) w2) :
    wpList P ops Q (o :: rest) a w := by
  obtain ⟨B, hr⟩ := hr
  refine wpList_plain hgd fun K hK => ?_
  obtain ⟨A2, c2, w2, hrun, h2, h3, h4⟩ := run_append_reads (P := P) w base t o.type e i z size bytes ht hi hz hsize hby hzs hsz A n c xs hown B A' m c' news hr h1 h63 hbytes hbase
  unfold Oper.wp execOp
  simp only [ho, resolve, invoke, builtin, Sem.run_bind, Sem.run_pure, Result.andThen_ok, List.map_toArray, List.map_cons, List.map_nil, hs, hx, hrun]
  exact hK _ _ (h _ _ _ _ (own_cap h2).1 (own_cap h2).2 h2 ⟨h3, h4.imp id fun h => ⟨_, h, Nat.le_refl _, (h2.lt _ (by cases A2 <;> simp_all [Value.ownBlock])).2⟩⟩)

/-- 'append(s[:cap(s)], make([]T, k)...)': a new row: what was there, noughts behind it. -/
theorem run_append_zeros (w : World) (base : Nat) (t ti ty e : TypeId) (i : TypeInfo) (z : Value) (bytes : Nat) (ht : P.underlying t = some (.slice e)) (hti : ∃ k, P.underlying ti = some (.int k)) (hi : P.info? e = some i) (hz : i.zero = some z)
    (hsize : i.size = 1) (hby : i.bytes = bytes) (hzs : z.cells = #[z])
    (A : Option Addr) (c : Nat) (xs : List Value) (hown : w.ownsRow base e 1 (.slice A c c) c xs)
    (k : Nat) (hk : 0 < k) (h63 : c + k ≤ maxLen) (hbytes : (c + k) * bytes ≤ 140737488355328) (hbase : base ≤ w.heap.size) :
    ∃ A2 c2 w2, (Builtin.append_ #[t, ti] ty #[.slice A c c, .int .i64 (k : Int)]).run P w = .ok (.slice A2 (c + k) c2) w2 ∧ w2.ownsRow base e 1 (.slice A2 (c + k) c2) (c + k) (xs ++ List.replicate k z) ∧
      w.grownBy w2 none ∧ (∃ g, A2.map (·.block) = some g ∧ w.heap.size ≤ g ∧ g < w2.heap.size) := by
  subst hby
  obtain ⟨ki, hti⟩ := hti
  have hsmall : c + k ≤ 9223372036854775807 := by simp only [maxLen] at h63; omega
  have hwk : IntKind.i64.wrap (k : Int) = (k : Int) := IntWalk.i64_in _ (by omega)
  have hkb : (k : Int) * (i.bytes : Int) ≤ 281474976710656 := by
    have : k * i.bytes ≤ (c + k) * i.bytes := Nat.mul_le_mul_right _ (by omega)
    have h2 : ((k * i.bytes : Nat) : Int) ≤ 140737488355328 := by omega
    rw [Int.natCast_mul] at h2; omega
  have hnext : Builtin.nextslicecap (c + k) c * i.bytes ≤ 281474976710656 := growslice_fits (by omega) hbytes
  have hr := Reads.of_own hown
  have hge := grownCap_ge w (c + k) c e
  have hcm : grownCap w (c + k) c e ≤ maxLen := grownCap_le_maxLen w (c + k) c e h63
  have hold : ∀ w' : World, w'.heap = w.heap → (Builtin.firstCells 1 c (.slice A c c)).run P w' = .ok xs.toArray w' := by
    intro w' hw'
    rcases reads_split hr with ⟨rfl, rfl⟩ | ⟨ad, rfl, hc⟩
    · cases A <;> simp [Builtin.firstCells, loadCells, loadCellsFrom]
    · exact run_firstCells_some (P := P) w' 1 c ad c c xs (by simpa using hown.1) (fun j u hu => by rw [← hc j u hu]; simp [World.cell?, hw'])
  have hkz : (Builtin.zeroCells #[z] k).toList = List.replicate k z := by
    refine List.ext_getElem (by simp [Builtin.zeroCells]) ?_
    intro j h1 h2
    simp [Builtin.zeroCells, Nat.mod_one]
  refine ⟨some ⟨w.heap.size, 0, none⟩, grownCap w (c + k) c e, w.drew.alloc (.cells (xs.toArray ++ Builtin.zeroCells #[z] k ++ Builtin.zeroCells #[z] (grownCap w (c + k) c e - (c + k))) e), ?_, ⟨?_, .inr ⟨w.heap.size, _, _, rfl, hbase, _root_.Go.heap_alloc_new w.drew _, hge, hcm, ?_, ?_⟩⟩, ⟨rfl, rfl, rfl, by simp, fun j hj _ => _root_.Go.heap_alloc_old w.drew _ hj⟩, ⟨w.heap.size, rfl, Nat.le_refl _, by simp⟩⟩
  · have hc1 : ¬ (c + k ≤ c) := by omega
    have hkz0 : k ≠ 0 := by omega
    have hh := hold w.drew rfl
    have h63' : ¬ (9223372036854775807 < ((c : Int) + (k : Int))) := by omega
    have h48' : ¬ (281474976710656 < Builtin.nextslicecap (c + k) c * i.bytes) := by omega
    have hneg : ¬ ((k : Int) < 0) := by omega
    have hbig : ¬ (281474976710656 < (k : Int) * (i.bytes : Int)) := by omega
    simp [Builtin.append_, run_underlying ht, run_underlying hti, sizeOf, typeInfo, zeroValue, hi, hz, hsize, asInt, asIntOf, hwk, hneg, hbig, hkz0, h63', h48', Question.forced, hh, newRow, grownCap, hzs]
    intro hcc; omega
  · have := hown.1; simp at this ⊢; omega
  · have := hown.1; simp at this; simp [Builtin.zeroCells]; omega
  · have := hown.1
    simp at this
    rw [Array.toList_append, Array.toList_append, hkz]
    rw [List.take_append_of_le_length (by simp; omega), List.take_of_length_le (by simp; omega)]

theorem wpl_append_zeros {ops : Array Oper} {rest : List Oper} {o : Oper} {a : Act} {Q : Exit → Act → World → Prop} (hgd : o.guard = none) (s x : Operand) (t ti : TypeId)
    (ho : o.op = .call { callee := .builtin .append, args := #[s, x], argTypes := #[t, ti] })
    (base : Nat) (e : TypeId) (i : TypeInfo) (z : Value) (bytes : Nat) (ht : P.underlying t = some (.slice e)) (hti : ∃ k, P.underlying ti = some (.int k)) (hi : P.info? e = some i) (hz : i.zero = some z)
    (hsize : i.size = 1) (hby : i.bytes = bytes) (hzs : z.cells = #[z])
    (A : Option Addr) (c : Nat) (xs : List Value) (hs : a.eval s = .slice A c c) (hown : w.ownsRow base e 1 (.slice A c c) c xs)
    (k : Int) (hx : a.eval x = .int .i64 k) (hk : 0 < k) (h63 : c + k.toNat ≤ maxLen) (hbytes : (c + k.toNat) * bytes ≤ 140737488355328) (hbase : base ≤ w.heap.size)
    (h : ∀ A2 N2 c2 w2, N2 ≤ c2 → c2 ≤ 9223372036854775807 → w2.ownsRow base e 1 (.slice A2 N2 c2) N2 (xs ++ List.replicate k.toNat z) → Grew w w2 none A2 → wpList P ops Q rest (a.put o.dst (.slice A2 N2 c2)) w2) :
    wpList P ops Q (o :: rest) a w := by
  refine wpList_plain hgd fun K hK => ?_
  obtain ⟨A2, c2, w2, hrun, h2, h3, h4⟩ := run_append_zeros (P := P) w base t ti o.type e i z bytes ht hti hi hz hsize hby hzs A c xs hown k.toNat (by omega) h63 hbytes hbase
  rw [Int.toNat_of_nonneg (by omega)] at hrun
  unfold Oper.wp execOp
  simp only [ho, resolve, invoke, builtin, Sem.run_bind, Sem.run_pure, Result.andThen_ok, List.map_toArray, List.map_cons, List.map_nil, hs, hx, hrun]
  obtain ⟨g, hg, hg2⟩ := h4
  refine hK _ _ (h _ _ _ _ (own_cap h2).1 (own_cap h2).2 h2 ⟨h3, .inr ⟨g, hg, hg2⟩⟩)
end

/-- Block g is just these cells, none frozen. -/
def Blk (w : World) (g : Nat) (t : TypeId) (cs : Array Value) : Prop := w.heap[g]? = some (.cells cs t (0, 0))
section
variable {w w' : World} {g : Nat} {t : TypeId} {cs : Array Value}
theorem Blk.lt (h : Blk w g t cs) : g < w.heap.size := by
  rcases Nat.lt_or_ge g w.heap.size with hlt | hge
  · exact hlt
  · unfold Blk at h; rw [Array.getElem?_eq_none hge] at h; cases h
theorem Blk.cell (h : Blk w g t cs) (i : Nat) : w.cell? ⟨g, i, none⟩ = cs[i]? := cell_of_row w g i cs t (0, 0) h
theorem Blk.frozen (h : Blk w g t cs) (i : Nat) : w.frozen? ⟨g, i, none⟩ = false := by
  unfold Blk at h
  simp [World.frozen?, h]
theorem Blk.new (w : World) (t : TypeId) (cs : Array Value) : Blk (w.alloc (.cells cs t)) w.heap.size t cs := _root_.Go.heap_alloc_new w _
theorem Blk.alloc (h : Blk w g t cs) (o : Obj) : Blk (w.alloc o) g t cs := (Below.heap_alloc w o g h.lt).trans h
theorem Blk.set_ (h : Blk w g t cs) (i : Nat) (u : Value) : Blk (w.setCell ⟨g, i, none⟩ u) g t (cs.setIfInBounds i u) := by
  unfold Blk at h ⊢
  simp [World.setCell, Array.getElem?_modify, h]
theorem Blk.far (h : Blk w g t cs) {p : Addr} (hp : g ≠ p.block) (u : Value) : Blk (w.setCell p u) g t cs := (Below.heap_setCell w p u g hp).trans h
theorem Blk.below {B : Nat} (h : Blk w g t cs) (hb : Below B w w') (hg : g < B) : Blk w' g t cs := (hb.block g hg).trans h
theorem Blk.grown {row : Option Nat} (h : Blk w g t cs) (hb : w.grownBy w' row) (hg : some g ≠ row) : Blk w' g t cs := (hb.block g h.lt hg).trans h
/-- Only block g has turned, and new ones have come. -/
theorem grownBy_set (w : World) (g i : Nat) (u : Value) : w.grownBy (w.setCell ⟨g, i, none⟩ u) (some g) :=
  ⟨rfl, rfl, rfl, by simp, fun k _ hne => Below.heap_setCell _ _ _ _ (fun e => hne (by rw [e]))⟩
theorem grown_drew {row : Option Nat} (h : w.drew.grownBy w' row) : w.grownBy w' row := ⟨h.os, h.tape, h.output, h.size, h.block⟩
theorem grown_drewN {row : Option Nat} {k : Nat} (h : (w.drewN k).grownBy w' row) : w.grownBy w' row := ⟨h.os, h.tape, h.output, h.size, h.block⟩
theorem grownBy_of_below (h : Below w.heap.size w w') (row : Option Nat) : w.grownBy w' row := ⟨h.os, h.tape, h.output, h.size, fun k hk _ => h.block k hk⟩
theorem below_of_grownBy {row : Option Nat} {B : Nat} (h : w.grownBy w' row) (hr : ∀ g, row = some g → B ≤ g) (hB : B ≤ w.heap.size) : Below B w w' := (Below.refl B w).grown h hB hr
end
theorem Blk.reads {w : World} {g : Nat} {t : TypeId} {cs : Array Value} (h : Blk w g t cs) (xs : List UInt8) (hx : cs.toList.take xs.length = bvs xs) : RB w (some ⟨g, 0, none⟩) xs.length xs := by
  refine ⟨by simp [bvs_length], fun _ => ⟨_, rfl, h.lt, fun j u hu => ?_⟩⟩
  have hj : j < xs.length := by have := (List.getElem?_eq_some_iff.1 hu).1; rwa [bvs_length] at this
  rw [show (⟨g, 0, none⟩ : Addr).add j = ⟨g, j, none⟩ by unfold Addr.add; split <;> simp_all, h.cell j, ← Array.getElem?_toList]
  rw [← hx, List.getElem?_take] at hu
  simpa [hj] using hu
end Go.Rat
