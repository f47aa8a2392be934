/- Two arrays of numbers, compared. -/
import Derived.Test.YtmjdfajdompkeaaArr
import Derived.ChangeKeysEq
import Derived.Laws.StructEq
namespace Go.Rat
open Go Go.RowKit
section
variable {P : Program}
theorem run_eqItems_ints (d : Nat) {e : TypeId} {k k' : IntKind} (he : P.underlying e = some (.int k')) (A B : List Int) (w : World) : ∀ (is : List Nat), (∀ i ∈ is, i < A.length ∧ i < B.length) →
    (Op.eqItems (d + 1) e 1 (A.map (Value.int k)).toArray (B.map (Value.int k)).toArray is).run P w = .ok (is.all fun i => A.getD i 0 == B.getD i 0) w
  | [], _ => by simp [Op.eqItems]
  | i :: is, h => by
    obtain ⟨ha, hb⟩ := h i (by simp)
    have hp : P.plainKey e = true := by simp [Program.plainKey, he]
    have h1 : (part e (A.map (Value.int k)).toArray (i * 1)).run P w = .ok (.int k (A.getD i 0)) w := run_part_plain w hp (by
      rw [Nat.mul_one, List.getElem?_toArray, List.getElem?_map, List.getElem?_eq_getElem ha, List.getD_eq_getElem?_getD, List.getElem?_eq_getElem ha]; rfl)
    have h2 : (part e (B.map (Value.int k)).toArray (i * 1)).run P w = .ok (.int k (B.getD i 0)) w := run_part_plain w hp (by
      rw [Nat.mul_one, List.getElem?_toArray, List.getElem?_map, List.getElem?_eq_getElem hb, List.getD_eq_getElem?_getD, List.getElem?_eq_getElem hb]; rfl)
    have ih := run_eqItems_ints d (k := k) he A B w is (fun j hj => h j (by simp [hj]))
    simp only [Op.eqItems, Sem.run_bind, h1, h2, Result.andThen_ok, run_equalIn_int w d e k k' _ _ he, List.all_cons]
    cases hab : (A.getD i 0 == B.getD i 0)
    · simp
    · simpa using ih
theorem all_range_eq {A B : List Int} (h : A.length = B.length) : ((List.range A.length).all fun i => A.getD i 0 == B.getD i 0) = decide (A = B) := by
  by_cases hab : A = B
  · subst hab
    simp
  · rw [decide_eq_false hab, List.all_eq_false]
    refine Classical.byContradiction fun hc => hab (List.ext_getElem h fun i h1 h2 => ?_)
    have : ¬ (¬ (A.getD i 0 == B.getD i 0) = true) := fun hn => hc ⟨i, by simpa using h1, hn⟩
    have h3 := eq_of_beq (Classical.byContradiction this)
    simpa [List.getD_eq_getElem?_getD, List.getElem?_eq_getElem h1, List.getElem?_eq_getElem h2] using h3
theorem run_eql_ints {t e : TypeId} {n : Nat} {i : TypeInfo} {k k' : IntKind} (hu : P.underlying t = some (.array n e)) (hi : P.info? e = some i) (he : P.underlying e = some (.int k')) (hc : P.cellsOf e = 1)
    (A B : List Int) (hA : A.length = n) (hB : B.length = n) (w : World) :
    (Op.equalIn 10000 t (.agg (A.map (Value.int k)).toArray) (.agg (B.map (Value.int k)).toArray)).run P w = .ok (decide (A = B)) w := by
  rw [show (10000 : Nat) = 9998 + 1 + 1 from rfl, run_equalIn_array w (9998 + 1) _ _ hu hi, hc, run_eqItems_ints 9998 he A B w (List.range n) (fun j hj => by simp at hj; omega), ← hA, all_range_eq (by omega)]
theorem bvs_ints (xs : List UInt8) : bvs xs = (xs.map fun x => (x.toNat : Int)).map (Value.int .u8) := by simp [bvs, bv]
theorem nats_inj {xs ys : List UInt8} : (xs.map fun x => (x.toNat : Int)) = (ys.map fun x => (x.toNat : Int)) ↔ xs = ys := by
  constructor
  · intro h
    refine List.map_inj_right (f := fun x : UInt8 => (x.toNat : Int)) (fun x y h => ?_) |>.1 h
    exact UInt8.toNat_inj.1 (by omega)
  · rintro rfl; rfl
theorem run_eql_bytes {t e : TypeId} {n : Nat} {i : TypeInfo} {k' : IntKind} (hu : P.underlying t = some (.array n e)) (hi : P.info? e = some i) (he : P.underlying e = some (.int k')) (hc : P.cellsOf e = 1)
    (xs ys : List UInt8) (hA : xs.length = n) (hB : ys.length = n) (w : World) :
    (Op.equalIn 10000 t (.agg (bvs xs).toArray) (.agg (bvs ys).toArray)).run P w = .ok (decide (xs = ys)) w := by
  rw [bvs_ints, bvs_ints, run_eql_ints hu hi he hc _ _ (by simpa using hA) (by simpa using hB)]
  congr 1
  exact decide_eq_decide.2 nats_inj
end
end Go.Rat
