/- Structs compared. -/
import Derived.Test.YtbbcofpdfkhljaaDoorNg
namespace Go.Rat
open Go Go.RowKit
section
variable {P : Program}
theorem run_eql_bytesD (d : Nat) {t e : TypeId} {n : Nat} {i : TypeInfo} {k' : IntKind} (hu : P.underlying t = some (.array n e)) (hi : P.info? e = some i) (he : P.underlying e = some (.int k')) (hc : P.cellsOf e = 1)
    (xs ys : List UInt8) (hA : xs.length = n) (hB : ys.length = n) (w : World) :
    (Op.equalIn (d + 2) t (.agg (bvs xs).toArray) (.agg (bvs ys).toArray)).run P w = .ok (decide (xs = ys)) w := by
  have h1 : (xs.map fun x => (x.toNat : Int)).length = n := by simpa using hA
  have h2 : (ys.map fun x => (x.toNat : Int)).length = n := by simpa using hB
  rw [bvs_ints, bvs_ints, run_equalIn_array w (d + 1) _ _ hu hi, hc, run_eqItems_ints d he _ _ w (List.range n) (fun j hj => by simp at hj; omega), ← h1, all_range_eq (by omega)]
  congr 1
  exact decide_eq_decide.2 nats_inj
end
end Go.Rat
namespace Go.Proofs.YtbbcofpdfkhljaaDoor
open Go.RowKit Go.Rat
theorem bl_inj {x y : ByteArray} : x.toList = y.toList ↔ x = y := by
  rw [ByteArray.toList_eq, ByteArray.toList_eq]
  obtain ⟨⟨x⟩⟩ := x
  obtain ⟨⟨y⟩⟩ := y
  simp
theorem u8_inj {x y : UInt8} : (x.toNat : Int) = (y.toNat : Int) ↔ x = y := ⟨fun h => UInt8.toNat_inj.1 (by omega), fun h => by rw [h]⟩
theorem u64_inj {x y : UInt64} : (x.toNat : Int) = (y.toNat : Int) ↔ x = y := ⟨fun h => UInt64.toNat_inj.1 (by omega), fun h => by rw [h]⟩
/-- A reply. -/
structure RpV where
  err : Int
  val : ByteArray
/-- What a replica told. -/
structure ToldV where
  cl : Int
  tm : Nat
  rp : RpV
  at_ : Nat
def RpV.c (t : RpV) : List Value := [.int .i64 t.err, .string t.val]
def ToldV.c (t : ToldV) : List Value := [.int .i64 t.cl, .int .u64 (t.tm : Int), .int .i64 t.rp.err, .string t.rp.val, .int .u64 (t.at_ : Int)]
/-- A place for what a replica told. -/
def saidC : Option ToldV → List Value
  | none => [.bool false, .int .i64 0, .int .u64 0, .int .i64 0, .string ⟨#[]⟩, .int .u64 0]
  | some t => .bool true :: t.c
instance : DecidableEq RpV := fun a b => decidable_of_iff (a.err = b.err ∧ a.val = b.val) ⟨fun h => by cases a; cases b; simp_all, fun h => by rw [h]; exact ⟨rfl, rfl⟩⟩
instance : DecidableEq ToldV := fun a b => decidable_of_iff (a.cl = b.cl ∧ a.tm = b.tm ∧ a.rp = b.rp ∧ a.at_ = b.at_) ⟨fun h => by cases a; cases b; simp_all, fun h => by rw [h]; exact ⟨rfl, rfl, rfl, rfl⟩⟩
instance : DecidableEq OpV := fun a b => decidable_of_iff (a.kind = b.kind ∧ a.key = b.key ∧ a.val = b.val ∧ a.old = b.old ∧ a.tow = b.tow ∧ a.amt = b.amt) ⟨fun h => by cases a; cases b; simp_all, fun h => by rw [h]; exact ⟨rfl, rfl, rfl, rfl, rfl, rfl⟩⟩
instance : DecidableEq RqV := fun a b => decidable_of_iff (a.cl = b.cl ∧ a.tm = b.tm ∧ a.op = b.op ∧ a.tag = b.tag) ⟨fun h => by cases a; cases b; simp_all, fun h => by rw [h]; exact ⟨rfl, rfl, rfl, rfl⟩⟩
theorem rp_iff (a b : RpV) : a = b ↔ a.err = b.err ∧ a.val = b.val := ⟨fun h => by rw [h]; exact ⟨rfl, rfl⟩, fun h => by cases a; cases b; simp_all⟩
theorem op_iff (a b : OpV) : a = b ↔ a.kind = b.kind ∧ a.key = b.key ∧ a.val = b.val ∧ a.old = b.old ∧ a.tow = b.tow ∧ a.amt = b.amt := ⟨fun h => by rw [h]; exact ⟨rfl, rfl, rfl, rfl, rfl, rfl⟩, fun h => by cases a; cases b; simp_all⟩
theorem told_iff (a b : ToldV) : a = b ↔ a.cl = b.cl ∧ a.tm = b.tm ∧ a.rp = b.rp ∧ a.at_ = b.at_ := ⟨fun h => by rw [h]; exact ⟨rfl, rfl, rfl, rfl⟩, fun h => by cases a; cases b; simp_all⟩
theorem rq_iff (a b : RqV) : a = b ↔ a.cl = b.cl ∧ a.tm = b.tm ∧ a.op = b.op ∧ a.tag = b.tag := ⟨fun h => by rw [h]; exact ⟨rfl, rfl, rfl, rfl⟩, fun h => by cases a; cases b; simp_all⟩
theorem n_inj {x y : Nat} : (x : Int) = (y : Int) ↔ x = y := ⟨fun h => by omega, fun h => by rw [h]⟩
theorem eq32d (d : Nat) (xs ys : List UInt8) (hA : xs.length = 32) (hB : ys.length = 32) (w : World) : (Op.equalIn (d + 2) 42 (.agg (bvs xs).toArray) (.agg (bvs ys).toArray)).run Tryd.prog w = .ok (decide (xs = ys)) w := by
  obtain ⟨i, hi⟩ := Option.isSome_iff_exists.1 (show (Tryd.prog.info? 5).isSome = true by kernel_rfl)
  exact run_eql_bytesD d Tryd.underlying42 hi Tryd.underlying5 (by kernel_rfl) xs ys hA hB w
theorem nat_dec (p q : Prop) [Decidable p] [Decidable q] (w : World) (h : p ↔ q) : (Result.ok (decide p) w : Result Bool) = .ok (decide q) w := by rw [decide_eq_decide.2 h]
theorem eq_rp (d : Nat) (a b : RpV) (w : World) : (Op.equalIn (d + 2) 36 (.agg a.c.toArray) (.agg b.c.toArray)).run Tryd.prog w = .ok (decide (a = b)) w := by
  rw [show decide (a = b) = decide (a.err = b.err ∧ a.val = b.val) from decide_eq_decide.2 (rp_iff a b)]
  simp only [RpV.c]
  go_simp
  simp only [bl_inj]
  repeat' (split <;> simp_all)
theorem eq_op (d : Nat) (a b : OpV) (w : World) : (Op.equalIn (d + 2) 34 (.agg a.c.toArray) (.agg b.c.toArray)).run Tryd.prog w = .ok (decide (a = b)) w := by
  rw [show decide (a = b) = decide (a.kind = b.kind ∧ a.key = b.key ∧ a.val = b.val ∧ a.old = b.old ∧ a.tow = b.tow ∧ a.amt = b.amt) from decide_eq_decide.2 (op_iff a b)]
  simp only [OpV.c]
  go_simp
  simp only [bl_inj, u8_inj, u64_inj]
  repeat' (split <;> simp_all)
theorem eq_told (d : Nat) (a b : ToldV) (w : World) : (Op.equalIn (d + 3) 38 (.agg a.c.toArray) (.agg b.c.toArray)).run Tryd.prog w = .ok (decide (a = b)) w := by
  rw [show decide (a = b) = decide (a.cl = b.cl ∧ a.tm = b.tm ∧ (a.rp.err = b.rp.err ∧ a.rp.val = b.rp.val) ∧ a.at_ = b.at_) from decide_eq_decide.2 (by rw [told_iff, rp_iff])]
  simp only [ToldV.c]
  go_simp
  simp only [bl_inj, n_inj]
  repeat' (split <;> simp_all)
theorem eq_rtold (d : Nat) (a b : ToldV) (w : World) : (Op.equalIn (d + 3) 52 (.agg a.c.toArray) (.agg b.c.toArray)).run Tryd.prog w = .ok (decide (a = b)) w := by
  rw [show decide (a = b) = decide (a.cl = b.cl ∧ a.tm = b.tm ∧ (a.rp.err = b.rp.err ∧ a.rp.val = b.rp.val) ∧ a.at_ = b.at_) from decide_eq_decide.2 (by rw [told_iff, rp_iff])]
  simp only [ToldV.c]
  go_simp
  simp only [bl_inj, n_inj]
  repeat' (split <;> simp_all)
theorem eq_said (d : Nat) (o : Option ToldV) (b : ToldV) (w : World) : (Op.equalIn (d + 4) 70 (.agg (saidC o).toArray) (.agg (saidC (some b)).toArray)).run Tryd.prog w = .ok (decide (o = some b)) w := by
  cases o with
  | none =>
    simp only [saidC, ToldV.c]
    go_simp
  | some a =>
    rw [show decide (some a = some b) = decide (a.cl = b.cl ∧ a.tm = b.tm ∧ (a.rp.err = b.rp.err ∧ a.rp.val = b.rp.val) ∧ a.at_ = b.at_) from decide_eq_decide.2 (by rw [Option.some.injEq, told_iff, rp_iff])]
    simp only [saidC, ToldV.c]
    go_simp
    simp only [bl_inj, n_inj]
    repeat' (split <;> simp_all)
theorem eq_rq (d : Nat) (a b : RqV) (ha : a.tag.length = 32) (hb : b.tag.length = 32) (w : World) : (Op.equalIn (d + 3) 44 (.agg a.c.toArray) (.agg b.c.toArray)).run Tryd.prog w = .ok (decide (a = b)) w := by
  rw [show decide (a = b) = decide (a.cl = b.cl ∧ a.tm = b.tm ∧ (a.op.kind = b.op.kind ∧ a.op.key = b.op.key ∧ a.op.val = b.op.val ∧ a.op.old = b.op.old ∧ a.op.tow = b.op.tow ∧ a.op.amt = b.op.amt) ∧ a.tag = b.tag) from decide_eq_decide.2 (by rw [rq_iff, op_iff])]
  simp only [RqV.c]
  go_simp
  rw [List.take_of_length_le (by rw [bvs_length, ha]; omega), List.take_of_length_le (by rw [bvs_length, hb]; omega), eq32d d _ _ ha hb]
  simp only [bl_inj, n_inj, UInt8.toNat_inj, UInt64.toNat_inj, Result.andThen_ok]
  repeat' (split <;> simp_all)
end Go.Proofs.YtbbcofpdfkhljaaDoor
