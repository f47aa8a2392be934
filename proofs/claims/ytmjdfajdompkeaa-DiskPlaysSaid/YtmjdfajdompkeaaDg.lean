/- disk: a sector of one byte; of no disk. -/
import Derived.Test.YtmjdfajdompkeaaDf
namespace Go.Proofs.Ytmjdfajdompkeaa
open Go.RowKit Go.Rat
theorem eql128 (xs ys : List UInt8) (hA : xs.length = 128) (hB : ys.length = 128) (w : World) : (Op.equalIn 10000 28 (.agg (bvs xs).toArray) (.agg (bvs ys).toArray)).run Try.prog w = .ok (decide (xs = ys)) w := by
  obtain ⟨i0, hi, _, _, _⟩ := info_parts u8info
  exact run_eql_bytes Try.underlying28 hi Try.underlying5 (by kernel_rfl) xs ys hA hB w
def rep (c : UInt8) : List UInt8 := List.replicate 128 c
theorem rep_length (c : UInt8) : (rep c).length = 128 := by rw [rep, List.length_replicate]
theorem rep_inj {c d : UInt8} : rep c = rep d ↔ c = d := by
  constructor
  · intro h
    have := congrArg (fun l => l.getD 0 0) h
    simpa [rep] using this
  · rintro rfl; rfl
set_option maxRecDepth 20000 in
set_option maxHeartbeats 4000000 in
theorem bytes_any (w : World) (c : UInt8) : Calls Try.prog 22 #[.int .u8 (c.toNat : Int)] w fun e w' => e = .returned (.agg (bvs (rep c)).toArray) ∧ Below w.heap.size w w' := by
  have hZ := Blk.new w 28 (bvs zs).toArray
  have hb1 := below_alloc w (.cells (bvs zs).toArray 28)
  obtain ⟨z, hz⟩ : ∃ z : Array Value, (bvs zs).toArray = z := ⟨_, rfl⟩
  have hzc : Try.zeroCells28 = z := by rw [← hz]; exact zc128
  have hzs : z.size = 128 := by rw [← hz]; exact zsA_size
  rw [hz] at hZ hb1
  have HZ := Lib.hid hz
  clear hz
  have hrl := rep_length c
  have hrs : (bvs (rep c)).toArray.size = 128 := by rw [bvs_size, hrl]
  have hr0 : zs = (rep c).take 0 ++ zs.drop 0 := rfl
  have hst : ∀ k, k < 128 → (bvs ((rep c).take k ++ zs.drop k)).set k (.int .u8 (c.toNat : Int)) = bvs ((rep c).take (k + 1) ++ zs.drop (k + 1)) := fun k hk => by
    have hl : (bvs ((rep c).take k)).length = k := by rw [bvs_length, List.length_take, hrl]; omega
    rw [bvs_append, List.set_append_right _ _ (by omega), hl, Nat.sub_self, List.drop_eq_getElem_cons (by rw [zs_length]; exact hk), List.take_add_one, List.getElem?_eq_getElem (by omega)]
    rw [bvs_append, bvs_append, List.append_assoc, show (rep c)[k]'(by omega) = c from List.getElem_replicate _]
    rfl
  have HST := Lib.hid hst
  have HR0 := Lib.hid hr0
  obtain ⟨R, hR⟩ : ∃ R, rep c = R := ⟨_, rfl⟩
  rw [hR] at hrl hrs HST HR0
  have HRR := Lib.hid hR
  clear hst hr0 hR
  go_enter Try.func22, Try.ntmps22
  go_upto_region 1 with (fail)
  generalize w.alloc (.cells z 28) = w1 at *
  go_upto_region 2 with (fail)
  have hY := Blk.new w1 28 z
  have hZ2 := hZ.alloc (.cells z 28)
  have hb2 := below_next' hb1 (below_alloc w1 (.cells z 28))
  have hGG : w.heap.size < w1.heap.size := hZ.lt
  generalize w1.alloc (.cells z 28) = w2 at *
  generalize w1.heap.size = G at *
  go_wp2_with fail
  go_loopw [4] (fun i wr => ∃ k : Nat, k ≤ 128 ∧ i = .int .i64 (k : Int) ∧ Blk wr G 28 (bvs (R.take k ++ zs.drop k)).toArray ∧ w2.grownBy wr (some G)) (fun i _ => 128 - (intOf i).toNat)
  case atStart => exact ⟨0, Nat.zero_le _, rfl, by rw [← HR0.out, HZ.out]; exact hY, World.grownBy.refl _ _⟩
  case round =>
    obtain ⟨k, hk, rfl, hGk, hgk⟩ := hrel
    by_cases hk128 : k < 128
    · have hset := hGk.set_ k (.int .u8 (c.toNat : Int))
      rw [List.setIfInBounds_toArray, HST.out k hk128] at hset
      have hcx := hGk.cell k
      obtain ⟨u, hu⟩ : ∃ u, (bvs (R.take k ++ zs.drop k))[k]? = some u := ⟨_, List.getElem?_eq_getElem (by rw [bvs_length, List.length_append, List.length_take, List.length_drop, hrl, zs_length]; omega)⟩
      rw [List.getElem?_toArray, hu] at hcx
      have f1 := hGk.frozen k
      have HSET := Lib.hid hset
      clear hset hu hY
      have g1 : (k : Int) < 128 := by omega
      have g0 : (0 : Int) ≤ (k : Int) := by omega
      go_wp2_with fail
      exact ⟨⟨k + 1, by omega, congrArg (Value.int .i64) (by omega), HSET.out, hgk.trans (grownBy_set _ _ _ _)⟩, by simp only [intOf]; omega⟩
    · obtain rfl : k = 128 := by omega
      have hfull : R.take 128 ++ zs.drop 128 = R := by rw [List.take_of_length_le (by omega), List.drop_of_length_le (by rw [zs_length]; omega), List.append_nil]
      rw [hfull] at hGk
      have hZk := hZ2.grown hgk (by intro e; injection e with e; omega)
      have hbk := hb2.grown hgk hb2.size (fun p hp => by cases hp; omega)
      have g1 : ¬ ((128 : Nat) : Int) < 128 := by decide
      clear hY hZ2 hb2
      repeat (first
        | ((with_reducible refine wpl_load G _ _ Try.underlying28 i128 hGk hrs ?_ ?_); (focus rfl); simp only [Act.put, List.setIfInBounds_toArray, List.set_cons_zero, List.set_cons_succ])
        | ((with_reducible refine wpl_store w.heap.size _ _ (bvs R).toArray i128 hZk hzs hrs (bvs_all _) ?_ ?_ ?_); (focus rfl); (focus rfl))
        | go_values | go_skip | go_guarded | go_step | go_upon | go_back)
      refine bodyPost_ret (results_cell_row rfl _ _ w.heap.size _ _ (0, 0) _ rfl (hZk.setRow _) Try.underlying28 rfl (by rw [hrs]; exact i128)) rfl ?_
      exact ⟨by rw [HRR.out], hbk.grown (grownBy_setRow _ _ _) hbk.size (fun p hp => by cases hp; exact Nat.le_refl _)⟩
end Go.Proofs.Ytmjdfajdompkeaa
