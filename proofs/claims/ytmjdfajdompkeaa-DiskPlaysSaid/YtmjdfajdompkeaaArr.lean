/- Whole arrays, by value: a load and a store of all cells of a block, in the walk's form. -/
import Derived.Test.YtmjdfajdompkeaaBase
import Derived.Laws.Tables
namespace Go.Rat
open Go Go.RowKit
section
variable {P : Program} {w : World} {g : Nat} {T : TypeId} {cs cs' : Array Value}
theorem Blk.setRow (h : Blk w g T cs) (cs' : Array Value) : Blk (w.setRow g cs') g T cs' := setRow_heap w g cs cs' T (0, 0) h
theorem grownBy_setRow (w : World) (g : Nat) (cs : Array Value) : w.grownBy (w.setRow g cs) (some g) :=
  ⟨rfl, rfl, rfl, by simp, fun k _ hne => setRow_other w g k cs (fun e => hne (by rw [e]))⟩
theorem Blk.setRow_self (h : Blk w g T cs) : w.setRow g cs = w := by
  have hh : (w.setRow g cs).heap = w.heap := by
    apply Array.ext_getElem?
    intro i
    by_cases hi : i = g
    · subst hi
      rw [setRow_heap w i cs cs T (0, 0) h, h]
    · exact setRow_other w g i cs hi
  show { w with heap := (w.setRow g cs).heap } = w
  rw [hh]
theorem wpl_load {ops : Array Oper} {rest : List Oper} {a : Act} {Q : Exit → Act → World → Prop} {d : Option Tmp} {ty : TypeId} {x : Operand} {t : TypeId} {p : String} {af : Array Edge} (g : Nat) (T : TypeId) (cs : Array Value) {n : Nat} {e : TypeId}
    (hu : P.underlying ty = some (.array n e)) (hi : (P.info? ty).map (·.size) = some n) (hB : Blk w g T cs) (hs : cs.size = n)
    (hx : a.eval x = .pointer (some ⟨g, 0, none⟩)) (h : wpList P ops Q rest (a.put d (.agg cs)) w) :
    wpList P ops Q ({ dst := d, op := .load ty x, type := t, pos := p, after := af, guard := none } :: rest) a w :=
  wpList_load_row rfl ty x rfl g hx T cs (0, 0) _ hB hu rfl (by rw [hs]; exact hi) h
theorem wpl_store {ops : Array Oper} {rest : List Oper} {a : Act} {Q : Exit → Act → World → Prop} {d : Option Tmp} {ty : TypeId} {x y : Operand} {t : TypeId} {p : String} {af : Array Edge} (g : Nat) (T : TypeId) (cs cs' : Array Value) {n : Nat}
    (hi : (P.info? ty).map (·.size) = some n) (hB : Blk w g T cs) (hs : cs.size = n) (hs' : cs'.size = n) (h1 : cs'.all (·.oneCell') = true)
    (hx : a.eval x = .pointer (some ⟨g, 0, none⟩)) (hy : a.eval y = .agg cs') (h : wpList P ops Q rest (a.put d undef) (w.setRow g cs')) :
    wpList P ops Q ({ dst := d, op := .store ty x y, type := t, pos := p, after := af, guard := none } :: rest) a w :=
  wpList_store_row rfl ty x y rfl g cs' hx hy T cs hB (by rw [hs']; exact hi) (by rw [hs, hs']) h1 h
end
def u32s (l : List Int) : List Value := l.map (Value.int .u32)
theorem u32s_one (l : List Int) : (u32s l).toArray.all (·.oneCell') = true := by
  simp only [u32s, List.all_toArray, List.all_map, List.all_eq_true]
  intro x _
  rfl
theorem bvs_all (xs : List UInt8) : (bvs xs).toArray.all (·.oneCell') = true := by
  simp only [bvs, List.all_toArray, List.all_map, List.all_eq_true]
  intro x _
  rfl
theorem u32s_size (l : List Int) : (u32s l).toArray.size = l.length := by simp [u32s]
theorem bvs_size (l : List UInt8) : (bvs l).toArray.size = l.length := by simp [bvs]
theorem u32s_set (l : List Int) (i : Nat) (x : Int) : (u32s l).toArray.setIfInBounds i (.int .u32 x) = (u32s (l.set i x)).toArray := by
  simp [u32s, List.map_set]
theorem u32s_at {w : World} {g : Nat} {t : TypeId} {l : List Int} (h : Blk w g t (u32s l).toArray) {i : Nat} (hi : i < l.length) : w.cell? ⟨g, i, none⟩ = some (.int .u32 (l.getD i 0)) := by
  rw [h.cell i]
  simp [u32s, List.getElem?_eq_getElem hi, List.getD_eq_getElem?_getD]
theorem bytes_at {w : World} {g : Nat} {t : TypeId} {xs : List UInt8} (h : Blk w g t (bvs xs).toArray) {i : Nat} (hi : i < xs.length) : w.cell? ⟨g, i, none⟩ = some (.int .u8 ((xs.getD i 0).toNat : Int)) := by
  rw [h.cell i]
  simp [bvs, bv, List.getElem?_eq_getElem hi, List.getD_eq_getElem?_getD]
end Go.Rat
