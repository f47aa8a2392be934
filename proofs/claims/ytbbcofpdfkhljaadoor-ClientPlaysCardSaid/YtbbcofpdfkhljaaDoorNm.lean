/- ledger.May and the document's: may an operation be? -/
import Derived.Test.YtbbcofpdfkhljaaDoorNl
namespace Go.Proofs.YtbbcofpdfkhljaaDoor
open Go.RowKit Go.Rat
def e0 : ByteArray := ⟨#[]⟩
theorem e0_iff {s : ByteArray} : s = ⟨#[]⟩ ↔ s.size = 0 := by
  constructor
  · rintro rfl; rfl
  · intro h
    obtain ⟨⟨s⟩⟩ := s
    cases s
    · rfl
    · simp [ByteArray.size] at h
/-- May an operation be? -/
def OpV.may (o : OpV) : Prop :=
  (1 ≤ o.key.size ∧ o.key.size ≤ 32) ∧ o.val.size ≤ 128 ∧ o.old.size ≤ 128 ∧
  (((o.kind = 1 ∨ o.kind = 3) ∧ o.val.size = 0 ∧ o.old.size = 0 ∧ o.tow.size = 0 ∧ o.amt = 0) ∨
   (o.kind = 2 ∧ o.old.size = 0 ∧ o.tow.size = 0 ∧ o.amt = 0) ∨
   (o.kind = 4 ∧ o.tow.size = 0 ∧ o.amt = 0) ∨
   (o.kind = 5 ∧ o.val.size = 0 ∧ o.old.size = 0 ∧ (1 ≤ o.tow.size ∧ o.tow.size ≤ 32) ∧ o.tow ≠ o.key ∧ 1 ≤ o.amt.toNat ∧ o.amt.toNat ≤ 1125899906842624))
instance (o : OpV) : Decidable o.may := by unfold OpV.may; infer_instance
theorem op_cells {w : World} {g : Nat} {T : TypeId} {o : OpV} (h : Blk w g T o.c.toArray) :
    w.cell? ⟨g, 0, none⟩ = some (.int .u8 (o.kind.toNat : Int)) ∧ w.cell? ⟨g, 1, none⟩ = some (.string o.key) ∧ w.cell? ⟨g, 2, none⟩ = some (.string o.val) ∧ w.cell? ⟨g, 3, none⟩ = some (.string o.old) ∧
    w.cell? ⟨g, 4, none⟩ = some (.string o.tow) ∧ w.cell? ⟨g, 5, none⟩ = some (.int .u64 (o.amt.toNat : Int)) :=
  ⟨h.cell 0, h.cell 1, h.cell 2, h.cell 3, h.cell 4, h.cell 5⟩
theorem i34 : (Tryd.prog.info? 34).map (·.size) = some 6 := by kernel_rfl
set_option maxRecDepth 20000 in
set_option maxHeartbeats 4000000 in
theorem keyed_any (w : World) (s : ByteArray) : Calls Tryd.prog 26 #[.string s] w fun e w' => e = .returned (.bool (decide (1 ≤ s.size ∧ s.size ≤ 32))) ∧ w' = w := by
  by_cases h0 : s.size = 0
  · have hd : decide (1 ≤ s.size ∧ s.size ≤ 32) = false := decide_eq_false (by omega)
    rw [hd]
    obtain rfl := e0_iff.2 h0
    go_enter Tryd.func26, Tryd.ntmps26
    go_wp2_with fail
    go_ret
    exact ⟨rfl, rfl⟩
  · have hne : ¬ s.toList = [] := fun h => h0 (e0_iff.1 (bl_inj.1 (h.trans (by simp [ByteArray.toList_eq]))))
    have hne2 : s.toList.isEmpty = false := by
      cases h : s.toList with
      | nil => exact absurd h hne
      | cons _ _ => rfl
    by_cases h1 : s.size ≤ 32
    · have hd : decide (1 ≤ s.size ∧ s.size ≤ 32) = true := decide_eq_true (by omega)
      rw [hd]
      have z1 : (s.size : Int) ≤ 32 := by omega
      go_enter Tryd.func26, Tryd.ntmps26
      go_wp2_with fail
      go_ret
      exact ⟨rfl, rfl⟩
    · have hd : decide (1 ≤ s.size ∧ s.size ≤ 32) = false := decide_eq_false (by omega)
      rw [hd]
      have z1 : ¬ (s.size : Int) ≤ 32 := by omega
      go_enter Tryd.func26, Tryd.ntmps26
      go_wp2_with fail
      go_ret
      exact ⟨rfl, rfl⟩
set_option maxRecDepth 20000 in
set_option maxHeartbeats 4000000 in
theorem valued_any (w : World) (s : ByteArray) : Calls Tryd.prog 27 #[.string s] w fun e w' => e = .returned (.bool (decide (s.size ≤ 128))) ∧ w' = w := by
  by_cases h1 : s.size ≤ 128
  · have z1 : (s.size : Int) ≤ 128 := by omega
    have hd : decide (s.size ≤ 128) = true := decide_eq_true (by omega)
    rw [hd]
    go_enter Tryd.func27, Tryd.ntmps27
    go_wp2_with fail
    go_ret
    exact ⟨rfl, rfl⟩
  · have z1 : ¬ (s.size : Int) ≤ 128 := by omega
    have hd : decide (s.size ≤ 128) = false := decide_eq_false (by omega)
    rw [hd]
    go_enter Tryd.func27, Tryd.ntmps27
    go_wp2_with fail
    go_ret
    exact ⟨rfl, rfl⟩
set_option maxRecDepth 20000 in
set_option maxHeartbeats 4000000 in
theorem rkey_any (w : World) (s : ByteArray) : Calls Tryd.prog 30 #[.string s] w fun e w' => e = .returned (.bool (decide (1 ≤ s.size ∧ s.size ≤ 32))) ∧ w' = w := by
  by_cases h0 : 1 ≤ s.size
  · have z0 : (1 : Int) ≤ (s.size : Int) := by omega
    by_cases h1 : s.size ≤ 32
    · have z1 : (s.size : Int) ≤ 32 := by omega
      have hd : decide (1 ≤ s.size ∧ s.size ≤ 32) = true := decide_eq_true (by omega)
      rw [hd]
      go_enter Tryd.func30, Tryd.ntmps30
      go_wp2_with fail
      go_ret
      exact ⟨rfl, rfl⟩
    · have z1 : ¬ (s.size : Int) ≤ 32 := by omega
      have hd : decide (1 ≤ s.size ∧ s.size ≤ 32) = false := decide_eq_false (by omega)
      rw [hd]
      go_enter Tryd.func30, Tryd.ntmps30
      go_wp2_with fail
      go_ret
      exact ⟨rfl, rfl⟩
  · have z0 : ¬ (1 : Int) ≤ (s.size : Int) := by omega
    have hd : decide (1 ≤ s.size ∧ s.size ≤ 32) = false := decide_eq_false (by omega)
    rw [hd]
    go_enter Tryd.func30, Tryd.ntmps30
    go_wp2_with fail
    go_ret
    exact ⟨rfl, rfl⟩
set_option maxRecDepth 20000 in
set_option maxHeartbeats 4000000 in
theorem rvalue_any (w : World) (s : ByteArray) : Calls Tryd.prog 31 #[.string s] w fun e w' => e = .returned (.bool (decide (s.size ≤ 128))) ∧ w' = w := by
  by_cases h1 : s.size ≤ 128
  · have z1 : (s.size : Int) ≤ 128 := by omega
    have hd : decide (s.size ≤ 128) = true := decide_eq_true (by omega)
    rw [hd]
    go_enter Tryd.func31, Tryd.ntmps31
    go_wp2_with fail
    go_ret
    exact ⟨rfl, rfl⟩
  · have z1 : ¬ (s.size : Int) ≤ 128 := by omega
    have hd : decide (s.size ≤ 128) = false := decide_eq_false (by omega)
    rw [hd]
    go_enter Tryd.func31, Tryd.ntmps31
    go_wp2_with fail
    go_ret
    exact ⟨rfl, rfl⟩
end Go.Proofs.YtbbcofpdfkhljaaDoor
