/- CellPower: in plain words. -/
import Derived.Test.YtekpohchikbnnaaCl
import Derived.Test.YtekpohchikbnnaaRds
namespace Go.Proofs.Ytekpohchikbnnaa
open Go.RowKit Go.Rat
structure PwInv (k : Nat) (has : List UInt8) (d : DS) : Prop where
  calm : Calm d
  st : ∃ which n, CellSt d 0 which n has (2 + k)
theorem pw_start : PwInv 0 [] (fmF ds0 0).1 ∧ (fmF ds0 0).2 = 0 := by
  obtain ⟨h1, h2, h3, h4, h5, _, h7⟩ := format_calm (d := ds0) (p := 0) (by omega) rfl rfl
  exact ⟨⟨⟨h2, h3, h4, h7 (fun _ => .inl rfl)⟩, 0, 2, h5⟩, h1⟩
theorem PwInv.open_ {k : Nat} {has : List UInt8} {d : DS} (h : PwInv k has d) : opE d 0 = 0 ∧ (∃ which, which ≤ 1 ∧ openCell d 0 = ⟨0, has, which, false⟩) ∧ has.length ≤ 1100 := by
  obtain ⟨which, n, hs⟩ := h.st
  obtain ⟨h1, h2⟩ := hs.open_
  exact ⟨h1, ⟨which, hs.wh, by rw [openCell, h2]⟩, hs.len⟩
theorem PwInv.step {k : Nat} {has : List UInt8} {d : DS} (h : PwInv k has d) (hk : k < 1000) (f : Int) {b : List UInt8} (hb : b.length ≤ 1100) (ps : List UInt8) {which : Nat} (hw : openCell d 0 = ⟨0, has, which, false⟩) :
    ((ptF (fuseD d f) 0 which b).2 = 0 ∨ (ptF (fuseD d f) 0 which b).2 = 8) ∧ onE (offD (ptF (fuseD d f) 0 which b).1) = 0 ∧ (fuseD d f).loose = [] ∧
    (PwInv (k + 1) b (onAll (offD (ptF (fuseD d f) 0 which b).1) ps) ∨ ((ptF (fuseD d f) 0 which b).2 = 8 ∧ PwInv (k + 1) has (onAll (offD (ptF (fuseD d f) 0 which b).1) ps))) := by
  obtain ⟨wh, n, hs⟩ := h.st
  obtain ⟨h1, h2⟩ := hs.open_
  have hwe : wh = which := by
    have : openCell d 0 = ⟨0, has, wh, false⟩ := by rw [openCell, h2]
    rw [this] at hw
    cases hw
    rfl
  subst hwe
  have h64 : (2 : Nat) ^ 64 = 18446744073709551616 := by decide
  obtain ⟨k1, k2, k3⟩ := put_power h.calm hs (by omega) f hb ps
  refine ⟨k1, (on_now _ ps 0).2.2.2.2.2, h.calm.loose, ?_⟩
  rcases k3 with k3 | ⟨k4, k3⟩
  · exact .inl ⟨k2, _, _, k3⟩
  · exact .inr ⟨k4, k2, _, _, k3⟩
abbrev Crash := SB × UInt8 × SB
def crashC (x : Crash) : List Value := [x.1.v] ++ ([.int .u8 (x.2.1.toNat : Int)] ++ [x.2.2.v])
theorem crash_at {w : World} {A : Option Addr} {n : Nat} {l : List Crash} (h : Reads w w.heap.size 3 A n (l.flatMap crashC)) {k : Nat} (hk : k < n) :
    ∃ ad x, A = some ad ∧ x ∈ l ∧ (ad.add (k * 3)).block < w.heap.size ∧ w.cell? (ad.add (k * 3)) = some x.1.v ∧ w.cell? ⟨(ad.add (k * 3)).block, (ad.add (k * 3)).off + 1, none⟩ = some (.int .u8 (x.2.1.toNat : Int)) ∧ w.cell? ⟨(ad.add (k * 3)).block, (ad.add (k * 3)).off + 2, none⟩ = some x.2.2.v := by
  obtain ⟨ad, rfl, hb, hc⟩ := h.2 (by omega)
  have hlen := flat_len crashC 3 (fun _ => rfl) l
  have hkl : k < l.length := by have := h.1; omega
  have hg : l[k]? = some l[k] := List.getElem?_eq_getElem hkl
  have F := flat_get crashC 3 (fun _ => rfl) l k
  refine ⟨ad, l[k], rfl, List.getElem_mem hkl, by rw [block_of_add]; exact hb, ?_, ?_, ?_⟩
  · exact hc _ _ (by have := F 0 _ hg (by omega); simpa [crashC] using this)
  · rw [add_field _ _ _ (by omega)]
    exact hc _ _ (by have := F 1 _ hg (by omega); simpa [crashC] using this)
  · rw [add_field _ _ _ (by omega)]
    exact hc _ _ (by have := F 2 _ hg (by omega); simpa [crashC] using this)
theorem str_beq (a b : ByteArray) : (a.toList == b.toList) = decide (a = b) := by
  rw [Bool.eq_iff_iff, _root_.Go.ByteArray.toList_eq, _root_.Go.ByteArray.toList_eq]
  simp only [beq_iff_eq, decide_eq_true_eq]
  constructor
  · intro h; cases a; cases b; simp_all
  · rintro rfl; rfl
theorem bstr_ne {a b : List UInt8} (h : a ≠ b) : ((bstr a).toList == (bstr b).toList) = false ∧ ((bstr a).toList != (bstr b).toList) = true := by
  have h1 : ((bstr a).toList == (bstr b).toList) = false := by
    rw [str_beq, decide_eq_false_iff_not]
    exact fun e => h (bstr_inj e)
  exact ⟨h1, by rw [bne, h1]; rfl⟩
end Go.Proofs.Ytekpohchikbnnaa
