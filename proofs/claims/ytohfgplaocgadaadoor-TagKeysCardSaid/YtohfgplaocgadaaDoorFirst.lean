/- the anchor of the digests: first. -/
import Derived.Test.YtohfgplaocgadaaDoorHt
namespace Go.Proofs.YtohfgplaocgadaaDoor
open Go.RowKit Go.Rat
/-- The first and the last four bytes of a digest, as a number. -/
def firstF (d : List UInt8) : Nat → Int
  | 0 => 0
  | i + 1 => bits .or .u64 (IntKind.u64.wrap (firstF d i * 256)) ((d.getD (if i < 4 then i else 24 + i) 0).toNat : Int)
set_option maxHeartbeats 1200000 in
theorem first_any (n : Nat) (hn8 : n = 8) (w : World) (d : List UInt8) (hd : d.length = 32) : Calls Tryd.prog 32 #[.agg (bvs d).toArray] w fun e w' => e = .returned (.int .u64 (firstF d n)) ∧ Below w.heap.size w w' := by
  have HN := Lib.hid hn8
  clear hn8
  obtain ⟨t, hT⟩ : ∃ t, firstF d n = t := ⟨_, rfl⟩
  rw [hT]
  have HT := Lib.hid hT
  clear hT
  go_enter Tryd.func32, Tryd.ntmps32
  have hB := Blk.new w 29 (bvs d).toArray
  have hb := below_alloc w (.cells (bvs d).toArray 29)
  go_wp2_with fail
  generalize (w.alloc (.cells (bvs d).toArray 29)) = w1 at *
  go_loopw [3, 4, 5] (fun x i _ wr => wr = w1 ∧ ∃ q : Nat, q ≤ 8 ∧ i = .int .i64 (q : Int) ∧ x = .int .u64 (firstF d q)) (fun _ i _ _ => 8 - (intOf i).toNat)
  case atStart => exact ⟨rfl, 0, by omega, rfl, rfl⟩
  case round =>
    obtain ⟨rfl, q, hq, rfl, rfl⟩ := hrel
    by_cases hq8 : q < 8
    · have hstep : firstF d (q + 1) = bits .or .u64 (IntKind.u64.wrap (firstF d q * 256)) ((d.getD (if q < 4 then q else 24 + q) 0).toNat : Int) := rfl
      by_cases hq4 : q < 4
      · rw [if_pos hq4] at hstep
        have c1 := bytes_at hB (i := q) (by omega)
        have hlt := (d.getD q 0).toNat_lt
        generalize (d.getD q 0).toNat = y at *
        generalize firstF d q = x at *
        have HS := Lib.hid hstep
        clear hstep
        have g1 : (q : Int) < 8 := by omega
        have g2 : ¬ (4 : Int) ≤ (q : Int) := by omega
        have g3 : (q : Int) < 32 := by omega
        have g0 : (0 : Int) ≤ (q : Int) := by omega
        go_wp2_with fail
        exact ⟨⟨trivial, q + 1, by omega, congrArg (Value.int .i64) (by omega), by rw [HS.out]⟩, by simp only [intOf]; omega⟩
      · rw [if_neg hq4] at hstep
        have c1 := bytes_at hB (i := 24 + q) (by omega)
        have hlt := (d.getD (24 + q) 0).toNat_lt
        generalize (d.getD (24 + q) 0).toNat = y at *
        generalize firstF d q = x at *
        have HS := Lib.hid hstep
        clear hstep
        have g1 : (q : Int) < 8 := by omega
        have g2 : (4 : Int) ≤ (q : Int) := by omega
        have g3 : 24 + (q : Int) < 32 := by omega
        have g0 : (0 : Int) ≤ 24 + (q : Int) := by omega
        have g4 : IntKind.i64.wrap (24 + (q : Int)) = 24 + (q : Int) := IntWalk.i64_in _ (by omega)
        have g5 : (24 + (q : Int)).toNat = 24 + q := by omega
        go_wp2_with fail
        exact ⟨⟨trivial, q + 1, by omega, congrArg (Value.int .i64) (by omega), by rw [HS.out]⟩, by simp only [intOf]; omega⟩
    · obtain rfl : q = n := by have := HN.out; omega
      have g1 : ¬ (q : Int) < 8 := by omega
      rw [HT.out]
      go_wp2_with fail
      go_ret
      exact ⟨rfl, hb⟩
def abcB : List UInt8 := [97, 98, 99]
def longB : List UInt8 := [97, 98, 99, 100, 98, 99, 100, 101, 99, 100, 101, 102, 100, 101, 102, 103, 101, 102, 103, 104, 102, 103, 104, 105, 103, 104, 105, 106, 104, 105, 106, 107, 105, 106, 107, 108, 106, 107, 108, 109, 107, 108, 109, 110, 108, 109, 110, 111, 109, 110, 111, 112, 110, 111, 112, 113]
theorem ev0 : firstF (digest 64 tblL []) 8 = 16406829232276289621 := by decide +kernel
theorem ev1 : firstF (digest 64 tblL abcB) 8 = 13436514501914531245 := by decide +kernel
theorem ev2 : firstF (digest 64 tblL longB) 8 = 2633878322359764673 := by decide +kernel
end Go.Proofs.YtohfgplaocgadaaDoor
