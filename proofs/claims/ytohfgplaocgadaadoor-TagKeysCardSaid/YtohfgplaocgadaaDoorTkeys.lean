/- The law TagKeys, walked: what it needs beside. -/
import Derived.Test.YtohfgplaocgadaaDoorTnoughts
import Derived.Deep.QuietTactic
import Derived.BigQuiet
namespace Go.Proofs.YtohfgplaocgadaaDoor
open Go.RowKit Go.Rat
/-- Two rows of the call's own that are not the same block. -/
def Apart (A B : Option Addr) : Prop := ∀ g, A.map (·.block) = some g → B.map (·.block) ≠ some g
theorem Apart.symm {A B : Option Addr} (h : Apart A B) : Apart B A := fun g h1 h2 => h g h2 h1
theorem Apart.none_left (B : Option Addr) : Apart none B := fun g h => by cases h
theorem Apart.grew {w w2 : World} {A A2 B : Option Addr} (h : Apart A B) (hG : Grew w w2 A A2) (hB : ∀ g, B.map (·.block) = some g → g < w.heap.size) : Apart A2 B := by
  intro g hg hb
  rcases hG.lies with h1 | ⟨g', h1, h2, _⟩
  · exact h g (h1 ▸ hg) hb
  · rw [h1] at hg
    cases hg
    have := hB g hb
    omega
theorem Apart.ne {A B : Option Addr} (h : Apart A B) : B.map (·.block) ≠ A.map (·.block) ∨ A.map (·.block) = none := by
  by_cases hA : A.map (·.block) = none
  · exact .inr hA
  · obtain ⟨g, hg⟩ := Option.ne_none_iff_exists'.1 hA
    exact .inl fun e => h g hg (e.trans hg)
theorem xor8c (x : UInt8) (y : UInt8) (k : Int) (hk : (y.toNat : Int) = k) : bits .xor .u8 (x.toNat : Int) k = ((x ^^^ y).toNat : Int) := by rw [← hk, xor8]
theorem padK_get (ks : List UInt8) (j : Nat) : (padK ks).getD j 0 = ks.getD j 0 := by
  rw [padK, List.getD_eq_getElem?_getD, List.getD_eq_getElem?_getD]
  by_cases hj : j < ks.length
  · rw [List.getElem?_append_left hj]
  · rw [List.getElem?_append_right (by omega), List.getElem?_replicate, List.getElem?_eq_none (by omega : ks.length ≤ j)]
    split <;> rfl
theorem map_take_snoc (ps : List UInt8) (y : UInt8) (j : Nat) (hj : j < ps.length) : (ps.map (· ^^^ y)).take j ++ [ps.getD j 0 ^^^ y] = (ps.map (· ^^^ y)).take (j + 1) := by
  rw [List.take_add_one, List.getElem?_map, List.getElem?_eq_getElem hj, List.getD_eq_getElem?_getD, List.getElem?_eq_getElem hj]
  rfl
/-- The keys of replicas and clients, one behind the other. -/
def allK (n : Nat) (tb : List Int) : List (List UInt8) := (List.range 11).map (fun j => repK n tb ((j + 1 : Nat) : Int)) ++ (List.range 8).map (fun j => cliK n tb ((j + 1 : Nat) : Int))
theorem allK_length (n : Nat) (tb : List Int) : (allK n tb).length = 19 := by simp [allK]
def second : List UInt8 := [213, 42, 28, 69, 99, 204, 30, 51, 139, 134, 47, 130, 40, 128, 127, 234, 116, 20, 201]
theorem allK_second : (allK 64 tblL).map (·.getD 1 0) = second := by decide +kernel
theorem second_unlike : ((List.range 19).all fun j => (List.range j).all fun m => (second.getD j 0) != (second.getD m 0)) = true := by decide +kernel
theorem allK_ne (j m : Nat) (hj : j < 19) (hm : m < j) : (allK 64 tblL).getD j [] ≠ (allK 64 tblL).getD m [] := by
  have h := second_unlike
  rw [List.all_eq_true] at h
  have h2 := h j (List.mem_range.2 hj)
  rw [List.all_eq_true] at h2
  have h3 := h2 m (List.mem_range.2 hm)
  have hs : ∀ i, i < 19 → second.getD i 0 = ((allK 64 tblL).getD i []).getD 1 0 := fun i hi => by
    have hl := allK_length 64 tblL
    rw [← allK_second, List.getD_eq_getElem?_getD, List.getElem?_map, List.getElem?_eq_getElem (by omega), List.getD_eq_getElem?_getD (l := allK 64 tblL), List.getElem?_eq_getElem (by omega)]
    rfl
  rw [hs j hj, hs m (by omega)] at h3
  intro e
  rw [e] at h3
  simp at h3
theorem bstr_ne {xs ys : List UInt8} (h : xs ≠ ys) : ((bstr xs).toList == (bstr ys).toList) = false := by
  rw [beq_eq_false_iff_ne, ByteArray.toList_eq, ByteArray.toList_eq, data_bstr, data_bstr]
  exact h
/-- The slices of a row of the call's own, each to be read, none in the row's block. -/
structure Pts (w : World) (A : Option Addr) (ps : List Pt) : Prop where
  ok : ∀ p ∈ ps, PtOk w p
  apart : ∀ p ∈ ps, Apart A p.A
theorem PtOk.lt {w : World} {p : Pt} (h : PtOk w p) (h0 : 0 < p.n) : ∀ g, p.A.map (·.block) = some g → g < w.heap.size := by
  intro g hg
  obtain ⟨ad, e, hb, _⟩ := h.r.2 h0
  rw [e] at hg
  cases hg
  exact hb
theorem PtOk.grew {w w2 : World} {A A2 : Option Addr} {p : Pt} (h : PtOk w p) (ha : Apart A p.A) (hG : Grew w w2 A A2) : PtOk w2 p := ⟨RB.grown h.r hG.grown ha.ne, h.c⟩
end Go.Proofs.YtohfgplaocgadaaDoor
