/- CellElder: lose, walked. -/
import Derived.Test.YtekpohchikbnnaaCr
namespace Go.Proofs.Ytekpohchikbnnaa
open Go.RowKit Go.Rat
set_option maxRecDepth 20000 in
set_option maxHeartbeats 8000000 in
theorem lose_any (w : World) (base : Nat) (l : DL) (d : DS) (hD : DiskAt w base l d) (g : Nat) (hg : l.g = g) (hbase : base ≤ w.heap.size) (a : Int) (L : LoseIs d a) :
    Calls Try.prog 42 #[.pointer (some ⟨g, 0, none⟩), .int .i64 a] w fun e w' => ∃ l', e = .returned (.bool true) ∧ l'.g = g ∧ DiskAt w' base l' (loseD d a) ∧ Moved w w' l l' := by
  have HL := Lib.hid L
  clear L
  obtain ⟨B8, hB8⟩ : ∃ B, readB (offD (loseW d a)) a = B := ⟨_, rfl⟩
  obtain ⟨B9, hB9⟩ : ∃ B, readB (loseD d a) a = B := ⟨_, rfl⟩
  have HB8 := Lib.hid hB8
  have HB9 := Lib.hid hB9
  clear hB8 hB9
  go_enter Try.func42, Try.ntmps42
  go_wp2_with fail
  refine (gsync w base g l d hD hg).mono ?_
  rw [HL.out.s]
  rintro e w1 ⟨l1, rfl, hlg1, hD1, hm1⟩
  have hbb := Nat.le_trans hbase hm1.chg.size
  simp only []
  clear hD
  go_wp2_with fail
  refine (bytes_lit w1 1 1 rfl).mono ?_
  rintro e w2 ⟨rfl, hb⟩
  simp only []
  have hD2 := hD1.below hb
  have hm2 := hm1.trans (.of_below hb)
  have hbb := Nat.le_trans hbb hb.size
  clear hb hm1 hD1
  go_wp2_with fail
  refine (gwrite w2 base g l1 _ hD2 hlg1 hbb a (rep 1) (rep_length 1) (by rw [HL.out.ll]; decide)).mono ?_
  rw [HL.out.w]
  rintro e w3 ⟨l3, rfl, hlg3, hD3, hm3⟩
  have hD3 : DiskAt w3 base l3 (loseW d a) := hD3
  have hm3 := hm2.trans hm3
  simp only []
  clear hm2 hD2
  go_wp2_with fail
  refine (goff w3 base g l3 _ hD3 hlg3).mono ?_
  rintro e w4 ⟨l4, rfl, hlg4, hD4, hm4⟩
  have hm4 := hm3.trans hm4
  simp only []
  clear hm3 hD3
  go_wp2_with fail
  have h8 := readB_length hD4.ok a
  rw [HB8.out] at h8
  have h8s : (bvs B8).toArray.size = 128 := by rw [bvs_size, h8]
  refine (gread w4 base g l4 _ hD4 hlg4 a).mono ?_
  rw [HB8.out, HL.out.r8]
  rintro e w5 ⟨rfl, hb⟩
  have hD5 := hD4.below hb
  have hm5 := hm4.trans (.of_below hb)
  simp only []
  clear hb hm4 hD4
  repeat (first
    | ((with_reducible refine wpl_store_fresh (bvs B8).toArray i128 ?_ h8s (bvs_all _) ?_ ?_ ?_); (focus kernel_rfl); (focus rfl); (focus rfl); intro w6 hS hl6 hb; simp only [Act.put]; refine Hid.out ?_)
    | go_values | go_skip | go_guarded | go_step | go_upon | go_back)
  refine Lib.hid ?_
  have hD6 := hD5.below hb
  have hm6 := hm5.trans (.of_below hb)
  clear hb hS hl6 hD5 hm5
  go_wp2_with fail
  have hap := one_out hD6
  have hb := below_alloc w6 (.cells #[.int .u8 2] 5)
  have hD7 := hD6.below hb
  have hm7 := hm6.trans (.of_below hb)
  clear hb hm6 hD6
  refine (gon _ base g _ _ hD7 hlg4 (some ⟨w6.heap.size, 0, none⟩) 1 1 [2] (RB.one_ _ _ rfl) hap).mono ?_
  rw [HL.out.on]
  rintro e w8 ⟨l8, rfl, hlg8, hD8, hm8⟩
  have hD8 : DiskAt w8 base l8 (loseD d a) := hD8
  have hm8 := hm7.trans hm8
  simp only []
  clear hm7 hD7 hap
  go_wp2_with fail
  refine (gread w8 base g l8 _ hD8 hlg8 a).mono ?_
  rw [HB9.out, HL.out.r9]
  rintro e w9 ⟨rfl, hb⟩
  have hD9 := hD8.below hb
  have hm9 := hm8.trans (.of_below hb)
  simp only []
  clear hb hm8 hD8
  go_wp2_with fail
  go_ret
  exact ⟨l8, rfl, hlg8, hD9, hm9⟩
end Go.Proofs.Ytekpohchikbnnaa
