/- tag: Same. -/
import Derived.Test.YtmjdfajdompkeaaGreatDoorZh
namespace Go.Proofs.YtmjdfajdompkeaaGreatDoor.H
open Go.RowKit Go.Rat
theorem or8 (x y : UInt8) : bits .or .u8 (x.toNat : Int) (y.toNat : Int) = ((x ||| y).toNat : Int) := by
  have ha := x.toNat_lt
  have hb := y.toNat_lt
  rw [(bits_nat .u8 8 (by decide) wraps_u8 x.toNat y.toNat ha hb).2, UInt8.toNat_or]
def orX (xs ys : List UInt8) : Nat → UInt8
  | 0 => 0
  | k + 1 => orX xs ys k ||| (xs.getD k 0 ^^^ ys.getD k 0)
theorem orX_zero (xs ys : List UInt8) : ∀ k, orX xs ys k = 0 ↔ ∀ i, i < k → xs.getD i 0 = ys.getD i 0
  | 0 => by simp [orX]
  | k + 1 => by
    rw [orX, UInt8.or_eq_zero_iff, orX_zero xs ys k, UInt8.xor_eq_zero_iff]
    constructor
    · rintro ⟨h1, h2⟩ i hi
      rcases Nat.lt_succ_iff_lt_or_eq.1 hi with h | rfl
      · exact h1 i h
      · exact h2
    · intro h
      exact ⟨fun i hi => h i (by omega), h k (by omega)⟩
theorem orX_same {xs ys : List UInt8} (hx : xs.length = 32) (hy : ys.length = 32) : (((orX xs ys 32).toNat : Int) == 0) = decide (xs = ys) := by
  by_cases h : xs = ys
  · subst h
    rw [decide_eq_true rfl, (orX_zero xs xs 32).2 (fun _ _ => rfl)]
    rfl
  · rw [decide_eq_false h]
    rw [beq_eq_false_iff_ne]
    intro h0
    apply h
    have hz : orX xs ys 32 = 0 := UInt8.toNat_inj.1 (by simpa using h0)
    refine List.ext_getElem (by omega) fun i h1 h2 => ?_
    have := (orX_zero xs ys 32).1 hz i (by omega)
    simpa [List.getD_eq_getElem?_getD, List.getElem?_eq_getElem h1, List.getElem?_eq_getElem h2] using this
set_option maxRecDepth 8000 in
set_option maxHeartbeats 4000000 in
theorem same_any (w : World) (xs ys : List UInt8) (hx : xs.length = 32) (hy : ys.length = 32) :
    Calls Tryz.prog 55 #[.agg (bvs xs).toArray, .agg (bvs ys).toArray] w fun e w' => e = .returned (.bool (decide (xs = ys))) ∧ Below w.heap.size w w' := by
  obtain ⟨R, hR⟩ : ∃ R, decide (xs = ys) = R := ⟨_, rfl⟩
  have hOR := orX_same hx hy
  rw [hR] at hOR ⊢
  have HOR := Lib.hid hOR
  clear hOR hR
  go_enter Tryz.func55, Tryz.ntmps55
  have hA := (Blk.new w 44 (bvs xs).toArray).alloc (.cells (bvs ys).toArray 44)
  have hB : Blk ((w.alloc (.cells (bvs xs).toArray 44)).alloc (.cells (bvs ys).toArray 44)) (w.heap.size + 1) 44 (bvs ys).toArray := by simpa using Blk.new (w.alloc (.cells (bvs xs).toArray 44)) 44 (bvs ys).toArray
  have hb : Below w.heap.size w ((w.alloc (.cells (bvs xs).toArray 44)).alloc (.cells (bvs ys).toArray 44)) := below_alloc2 (below_alloc _ _) (by simp) _
  go_wp2_with fail
  generalize ((w.alloc (.cells (bvs xs).toArray 44)).alloc (.cells (bvs ys).toArray 44)) = w1 at *
  go_loopw [5, 6, 7] (fun v _ i wr => ∃ k : Nat, k ≤ 32 ∧ i = .int .i64 (k : Int) ∧ v = .int .u8 ((orX xs ys k).toNat : Int) ∧ Below w1.heap.size w1 wr) (fun _ _ i _ => 32 - (intOf i).toNat)
  case atStart => exact ⟨0, Nat.zero_le _, rfl, rfl, Below.refl _ _⟩
  case round =>
    obtain ⟨k, hk, rfl, rfl, hbk⟩ := hrel
    by_cases hk32 : k < 32
    · have c1 := bytes_at (hA.below hbk hA.lt) (i := k) (by omega)
      have c2 := bytes_at (hB.below hbk hB.lt) (i := k) (by omega)
      have hstep : orX xs ys (k + 1) = orX xs ys k ||| (xs.getD k 0 ^^^ ys.getD k 0) := rfl
      generalize xs.getD k 0 = x at *
      generalize ys.getD k 0 = y at *
      obtain ⟨v, hv⟩ : ∃ v, orX xs ys k = v := ⟨_, rfl⟩
      rw [hv] at hstep ⊢
      have hval : bits .or .u8 (v.toNat : Int) (bits .xor .u8 (x.toNat : Int) (y.toNat : Int)) = ((orX xs ys (k + 1)).toNat : Int) := by rw [xor8, or8, hstep]
      have HV := Lib.hid hval
      clear hval hstep hv
      have g1 : (k : Int) < 32 := by omega
      have g0 : (0 : Int) ≤ (k : Int) := by omega
      go_wp2_with fail
      refine wp_region_plan [(0, true), (1, true), (2, true), (3, true), (4, true), (5, true), (6, true), (7, true), (8, true), (9, true)]
        (fun z => z.cell? ⟨w.heap.size, k, none⟩ = some (.int .u8 (x.toNat : Int)) ∧ z.cell? ⟨w.heap.size + 1, k, none⟩ = some (.int .u8 (y.toNat : Int))) (by kernel_rfl) (by kernel_rfl) (by kernel_rfl) (by kernel_rfl) (fun _ _ d _ _ h => by cases d <;> exact h) ⟨c1, c2⟩ ?_
      simp only [planOps, List.getElem?_toArray, List.getElem?_cons_zero, List.getElem?_cons_succ]
      repeat (first
        | (refine wpS_skip (by rfl) ?_; simp only [Act.put, List.setIfInBounds_toArray, List.set_cons_zero, List.set_cons_succ])
        | (refine wpS_q ?_ (by rfl) ?_ ?_; rotate_left; (focus (intro z hz; (try dsimp only at hz); go_simp; rfl)); simp only [Act.put, List.setIfInBounds_toArray, List.set_cons_zero, List.set_cons_succ]))
      refine wpS_nil ?_
      go_wp2_with fail
      rw [HV.out]
      exact ⟨⟨k + 1, by omega, congrArg (Value.int .i64) (by omega), rfl, hbk.drew⟩, by simp only [intOf]; omega⟩
    · obtain rfl : k = 32 := by omega
      generalize orX xs ys 32 = v at *
      go_wp2_with fail
      go_ret
      exact ⟨congrArg Ending.returned (congrArg Value.bool HOR.out), hb.trans (hbk.mono hb.size)⟩
end Go.Proofs.YtmjdfajdompkeaaGreatDoor.H
