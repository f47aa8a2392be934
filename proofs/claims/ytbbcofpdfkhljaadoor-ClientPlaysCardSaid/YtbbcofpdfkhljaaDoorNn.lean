/- ledger.May: may an operation be? -/
import Derived.Test.YtbbcofpdfkhljaaDoorNm
namespace Go.Proofs.YtbbcofpdfkhljaaDoor
open Go.RowKit Go.Rat
theorem zc6 : (#[.int .u8 0, .string ⟨#[]⟩, .string ⟨#[]⟩, .string ⟨#[]⟩, .string ⟨#[]⟩, .int .u64 0] : Array Value) = (OpV.mk 0 e0 e0 e0 e0 0).c.toArray := rfl
theorem e0_size {s : ByteArray} : s = e0 ↔ s.size = 0 := e0_iff
theorem may_get (k : UInt8) (key val old tow : ByteArray) (amt : UInt64) (hk : k = 1 ∨ k = 3) : (OpV.mk k key val old tow amt).may ↔ OpV.mk k key val old tow amt = OpV.mk k key e0 e0 e0 0 ∧ (1 ≤ key.size ∧ key.size ≤ 32) ∧ val.size ≤ 128 ∧ old.size ≤ 128 := by
  simp only [OpV.may, OpV.mk.injEq, e0_size, true_and]
  rcases hk with rfl | rfl <;> simp <;> grind
theorem may_put (key val old tow : ByteArray) (amt : UInt64) : (OpV.mk 2 key val old tow amt).may ↔ OpV.mk 2 key val old tow amt = OpV.mk 2 key val e0 e0 0 ∧ (1 ≤ key.size ∧ key.size ≤ 32) ∧ val.size ≤ 128 ∧ old.size ≤ 128 := by
  simp only [OpV.may, OpV.mk.injEq, e0_size, true_and]
  simp <;> grind
theorem may_cas (key val old tow : ByteArray) (amt : UInt64) : (OpV.mk 4 key val old tow amt).may ↔ OpV.mk 4 key val old tow amt = OpV.mk 4 key val old e0 0 ∧ (1 ≤ key.size ∧ key.size ≤ 32) ∧ val.size ≤ 128 ∧ old.size ≤ 128 := by
  simp only [OpV.may, OpV.mk.injEq, e0_size, true_and]
  simp <;> grind
theorem may_move (key val old tow : ByteArray) (amt : UInt64) : (OpV.mk 5 key val old tow amt).may ↔ ((1 ≤ tow.size ∧ tow.size ≤ 32) ∧ ¬ tow = key ∧ 1 ≤ amt.toNat ∧ amt.toNat ≤ 1125899906842624) ∧ OpV.mk 5 key val old tow amt = OpV.mk 5 key e0 e0 tow amt ∧ (1 ≤ key.size ∧ key.size ≤ 32) ∧ val.size ≤ 128 ∧ old.size ≤ 128 := by
  simp only [OpV.may, OpV.mk.injEq, e0_size, true_and]
  simp <;> grind
theorem may_none (k : UInt8) (key val old tow : ByteArray) (amt : UInt64) (h : ¬ k = 1 ∧ ¬ k = 2 ∧ ¬ k = 3 ∧ ¬ k = 4 ∧ ¬ k = 5) : ¬ (OpV.mk k key val old tow amt).may := by
  obtain ⟨h1, h2, h3, h4, h5⟩ := h
  simp [OpV.may, h1, h2, h3, h4, h5]
theorem kind_ne {k : UInt8} {n : Nat} (hn : n < 256) (h : ¬ k = UInt8.ofNat n) : ¬ (k.toNat : Int) = (n : Int) := fun e => h (by
  apply UInt8.toNat_inj.1
  simp
  omega)
theorem bl_ne {x y : ByteArray} (h : ¬ x = y) : ¬ x.toList = y.toList := fun e => h (bl_inj.1 e)
end Go.Proofs.YtbbcofpdfkhljaaDoor
