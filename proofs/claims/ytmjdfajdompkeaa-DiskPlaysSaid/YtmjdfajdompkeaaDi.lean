/- disk: the anchor holds. -/
import Derived.Test.YtmjdfajdompkeaaDga
namespace Go.Proofs.Ytmjdfajdompkeaa
open Go.RowKit Go.Rat
set_option maxRecDepth 20000 in
set_option maxHeartbeats 8000000 in
theorem works4_any (w : World) : Calls Try.prog 19 #[] w fun e w' => e = .returned (.bool true) ∧ Below w.heap.size w w' := by
  obtain ⟨⟨hw1, ho1, hrb3, hre3⟩, ⟨hw4, hs4, ho5, hrb7, hre7⟩, ⟨hw8, ho8, hre10⟩⟩ := wd_facts
  obtain ⟨hl0, hl3, hl7⟩ := wd_len
  have HW1 := Lib.hid hw1
  have HO1 := Lib.hid ho1
  have HRB3 := Lib.hid hrb3
  have HRE3 := Lib.hid hre3
  have HW4 := Lib.hid hw4
  have HS4 := Lib.hid hs4
  have HO5 := Lib.hid ho5
  have HRB7 := Lib.hid hrb7
  have HRE7 := Lib.hid hre7
  have HW8 := Lib.hid hw8
  have HO8 := Lib.hid ho8
  have HRE10 := Lib.hid hre10
  have HL0 := Lib.hid hl0
  have HL3 := Lib.hid hl3
  have HL7 := Lib.hid hl7
  clear hw1 ho1 hrb3 hre3 hw4 hs4 ho5 hrb7 hre7 hw8 ho8 hre10 hl0 hl3 hl7
  have hzs : (bvs zs).toArray.size = 128 := zsA_size
  have hr1 : (bvs (rep 1)).toArray.size = 128 := by rw [bvs_size, rep_length]
  have hx0 : ∀ w, (Op.equalIn 10000 28 (.agg (bvs zs).toArray) (.agg (bvs (rep 0)).toArray)).run Try.prog w = .ok true w := fun w => by rw [eql128 zs (rep 0) zs_length (rep_length 0) w, decide_eq_true (show zs = rep 0 from rfl)]
  have hx1 : ∀ w, (Op.equalIn 10000 28 (.agg (bvs (rep 1)).toArray) (.agg (bvs (rep 1)).toArray)).run Try.prog w = .ok true w := fun w => by rw [eql128 (rep 1) (rep 1) (rep_length 1) (rep_length 1) w, decide_eq_true rfl]
  obtain ⟨B10, hB10⟩ : ∃ B, readB wd10 3 = B := ⟨_, rfl⟩
  have HB10 := Lib.hid hB10
  have hb10 : B10.length = 128 := by rw [← hB10]; exact readB_length (onAll_ok wd9_ok [2]) 3
  have hb10s : (bvs B10).toArray.size = 128 := by rw [bvs_size, hb10]
  clear hB10
  obtain ⟨base, hbase⟩ : ∃ b, w.heap.size = b := ⟨_, rfl⟩
  have HBASE := Lib.hid hbase
  go_enter Try.func19, Try.ntmps19
  go_wp2_with fail
  refine (dnew_any w).mono ?_
  rintro e w1 ⟨l, rfl, hD, hb⟩
  have hbb : Below w.heap.size w w1 ∧ base ≤ w1.heap.size := ⟨hb, by rw [← hbase]; exact hb.size⟩
  rw [hbase] at hD
  clear hb
  simp only []
  clear hbase
  obtain ⟨g, hlg⟩ : ∃ g, l.g = g := ⟨_, rfl⟩
  rw [hlg]
  have HLG := Lib.hid hlg
  clear hlg
  go_wp2_with fail
  refine (gpower w1 base g l ds0 hD HLG.out).mono ?_
  rintro e w1' ⟨rfl, rfl⟩
  simp only []
  go_wp2_with fail
  refine (bytes_lit _ 1 1 rfl).mono ?_
  rintro e w2 ⟨rfl, hb⟩
  simp only []
  have hbb := below_base hbb hb
  have hD := hD.below hb
  clear hb
  go_wp2_with fail
  refine (gwrite _ base g _ _ hD HLG.out hbb.2 3 (rep 1) (rep_length 1) (by rw [HL0.out]; omega)).mono ?_
  rw [HW1.out]
  rintro e w2 ⟨l', rfl, hlg2, hD2, hm⟩
  simp only []
  have hbb := base_moved hbb (Nat.le_of_eq HBASE.out) hD hm
  have HLG := Lib.hid hlg2
  have hD : DiskAt w2 base l' wd1 := hD2
  clear hD2 hm hlg2
  go_wp2_with fail
  refine (goff _ base g _ _ hD HLG.out).mono ?_
  rintro e w2 ⟨l', rfl, hlg2, hD2, hm⟩
  simp only []
  have hbb := base_moved hbb (Nat.le_of_eq HBASE.out) hD hm
  have HLG := Lib.hid hlg2
  have hD : DiskAt w2 base l' wd2 := hD2
  clear hD2 hm hlg2
  go_wp2_with fail
  refine (gon _ base g _ _ hD HLG.out none 0 0 [] (RB.nil_ _ _) (fun x hx => by cases hx)).mono ?_
  rw [HO1.out]
  rintro e w2 ⟨l', rfl, hlg2, hD2, hm⟩
  simp only []
  have hbb := base_moved hbb (Nat.le_of_eq HBASE.out) hD hm
  have HLG := Lib.hid hlg2
  have hD : DiskAt w2 base l' wd3 := hD2
  clear hD2 hm hlg2
  go_wp2_with fail
  refine (gread _ base g _ _ hD HLG.out 3).mono ?_
  rw [HRB3.out, HRE3.out]
  rintro e w2 ⟨rfl, hb⟩
  simp only []
  have hbb := below_base hbb hb
  have hD := hD.below hb
  clear hb
  repeat (first
    | ((with_reducible refine wpl_store_fresh (bvs zs).toArray i128 ?_ hzs (bvs_all _) ?_ ?_ ?_); (focus kernel_rfl); (focus rfl); (focus rfl); intro w3 hS hl3 hb; simp only [Act.put]; refine Hid.out ?_)
    | go_values | go_skip | go_guarded | go_step | go_upon | go_back)
  refine Lib.hid ?_
  have hX := Out.new hD hS
  have hbb := below_base hbb hb
  have hD := hD.below hb
  clear hb hS hl3
  obtain ⟨ghX, hghX⟩ : ∃ x, w2.heap.size = x := ⟨_, rfl⟩
  rw [hghX] at hX ⊢
  clear hghX
  go_wp2_with fail
  refine (bytes_lit _ 1 1 rfl).mono ?_
  rintro e w2 ⟨rfl, hb⟩
  simp only []
  have hX := hX.below hb
  have hbb := below_base hbb hb
  have hD := hD.below hb
  clear hb
  go_wp2_with fail
  refine (gwrite _ base g _ _ hD HLG.out hbb.2 3 (rep 1) (rep_length 1) (by rw [HL3.out]; omega)).mono ?_
  rw [HW4.out]
  rintro e w2 ⟨l', rfl, hlg2, hD2, hm⟩
  simp only []
  have hX := hX.moved hm
  have hbb := base_moved hbb (Nat.le_of_eq HBASE.out) hD hm
  have HLG := Lib.hid hlg2
  have hD : DiskAt w2 base l' wd4 := hD2
  clear hD2 hm hlg2
  go_wp2_with fail
  refine (gsync _ base g _ _ hD HLG.out).mono ?_
  rw [HS4.out]
  rintro e w2 ⟨l', rfl, hlg2, hD2, hm⟩
  simp only []
  have hX := hX.moved hm
  have hbb := base_moved hbb (Nat.le_of_eq HBASE.out) hD hm
  have HLG := Lib.hid hlg2
  have hD : DiskAt w2 base l' wd5 := hD2
  clear hD2 hm hlg2
  go_wp2_with fail
  refine (goff _ base g _ _ hD HLG.out).mono ?_
  rintro e w2 ⟨l', rfl, hlg2, hD2, hm⟩
  simp only []
  have hX := hX.moved hm
  have hbb := base_moved hbb (Nat.le_of_eq HBASE.out) hD hm
  have HLG := Lib.hid hlg2
  have hD : DiskAt w2 base l' wd6 := hD2
  clear hD2 hm hlg2
  go_wp2_with fail
  have hap := one_out hD
  have hb := below_alloc w2 (.cells #[.int .u8 0] 5)
  have hX := hX.below hb
  have hbb := below_base hbb hb
  have hD := hD.below hb
  clear hb
  refine (gon _ base g _ _ hD HLG.out (some ⟨w2.heap.size, 0, none⟩) 1 1 [0] (RB.one_ _ _ rfl) hap).mono ?_
  rw [HO5.out]
  rintro e w2 ⟨l', rfl, hlg2, hD2, hm⟩
  simp only []
  have hX := hX.moved hm
  have hbb := base_moved hbb (Nat.le_of_eq HBASE.out) hD hm
  have HLG := Lib.hid hlg2
  have hD : DiskAt w2 base l' wd7 := hD2
  clear hD2 hm hlg2
  clear hap
  go_wp2_with fail
  refine (gread _ base g _ _ hD HLG.out 3).mono ?_
  rw [HRB7.out, HRE7.out]
  rintro e w2 ⟨rfl, hb⟩
  simp only []
  have hX := hX.below hb
  have hbb := below_base hbb hb
  have hD := hD.below hb
  clear hb
  repeat (first
    | ((with_reducible refine wpl_store_fresh (bvs (rep 1)).toArray i128 ?_ hr1 (bvs_all _) ?_ ?_ ?_); (focus kernel_rfl); (focus rfl); (focus rfl); intro w3 hS hl3 hb; simp only [Act.put]; refine Hid.out ?_)
    | go_values | go_skip | go_guarded | go_step | go_upon | go_back)
  refine Lib.hid ?_
  have hX := hX.below hb
  have hY := Out.new hD hS
  have hbb := below_base hbb hb
  have hD := hD.below hb
  clear hb hS hl3
  obtain ⟨ghY, hghY⟩ : ∃ x, w2.heap.size = x := ⟨_, rfl⟩
  rw [hghY] at hY ⊢
  clear hghY
  go_wp2_with fail
  refine (bytes_lit _ 2 2 rfl).mono ?_
  rintro e w2 ⟨rfl, hb⟩
  simp only []
  have hX := hX.below hb
  have hY := hY.below hb
  have hbb := below_base hbb hb
  have hD := hD.below hb
  clear hb
  go_wp2_with fail
  refine (gwrite _ base g _ _ hD HLG.out hbb.2 3 (rep 2) (rep_length 2) (by rw [HL7.out]; omega)).mono ?_
  rw [HW8.out]
  rintro e w2 ⟨l', rfl, hlg2, hD2, hm⟩
  simp only []
  have hX := hX.moved hm
  have hY := hY.moved hm
  have hbb := base_moved hbb (Nat.le_of_eq HBASE.out) hD hm
  have HLG := Lib.hid hlg2
  have hD : DiskAt w2 base l' wd8 := hD2
  clear hD2 hm hlg2
  go_wp2_with fail
  refine (goff _ base g _ _ hD HLG.out).mono ?_
  rintro e w2 ⟨l', rfl, hlg2, hD2, hm⟩
  simp only []
  have hX := hX.moved hm
  have hY := hY.moved hm
  have hbb := base_moved hbb (Nat.le_of_eq HBASE.out) hD hm
  have HLG := Lib.hid hlg2
  have hD : DiskAt w2 base l' wd9 := hD2
  clear hD2 hm hlg2
  go_wp2_with fail
  have hap := one_out hD
  have hb := below_alloc w2 (.cells #[.int .u8 2] 5)
  have hX := hX.below hb
  have hY := hY.below hb
  have hbb := below_base hbb hb
  have hD := hD.below hb
  clear hb
  refine (gon _ base g _ _ hD HLG.out (some ⟨w2.heap.size, 0, none⟩) 1 1 [2] (RB.one_ _ _ rfl) hap).mono ?_
  rw [HO8.out]
  rintro e w2 ⟨l', rfl, hlg2, hD2, hm⟩
  simp only []
  have hX := hX.moved hm
  have hY := hY.moved hm
  have hbb := base_moved hbb (Nat.le_of_eq HBASE.out) hD hm
  have HLG := Lib.hid hlg2
  have hD : DiskAt w2 base l' wd10 := hD2
  clear hD2 hm hlg2
  clear hap
  go_wp2_with fail
  refine (gread _ base g _ _ hD HLG.out 3).mono ?_
  rw [HB10.out, HRE10.out]
  rintro e w2 ⟨rfl, hb⟩
  simp only []
  have hX := hX.below hb
  have hY := hY.below hb
  have hbb := below_base hbb hb
  have hD := hD.below hb
  clear hb
  repeat (first
    | ((with_reducible refine wpl_store_fresh (bvs B10).toArray i128 ?_ hb10s (bvs_all _) ?_ ?_ ?_); (focus kernel_rfl); (focus rfl); (focus rfl); intro w3 hS hl3 hb; simp only [Act.put]; refine Hid.out ?_)
    | go_values | go_skip | go_guarded | go_step | go_upon | go_back)
  refine Lib.hid ?_
  have hX := hX.below hb
  have hY := hY.below hb
  have hZ := Out.new hD hS
  have hbb := below_base hbb hb
  have hD := hD.below hb
  clear hb hS hl3
  obtain ⟨ghZ, hghZ⟩ : ∃ x, w2.heap.size = x := ⟨_, rfl⟩
  rw [hghZ] at hZ ⊢
  clear hghZ
  go_wp2_with fail
  refine wp_region_plan [(0, true), (1, true), (2, true), (3, true), (4, true), (5, true), (6, true), (7, true), (8, false), (9, true), (10, true), (11, true), (12, true), (13, true), (14, true), (15, true), (16, true), (17, true), (18, true), (19, true), (20, true), (21, true), (22, true), (23, true), (24, true), (25, true), (26, true), (27, true), (28, true), (29, false), (30, true), (31, true), (32, true), (33, true), (34, true), (35, true), (36, true), (37, true), (38, true), (39, true), (40, true), (41, true), (42, true), (43, true), (44, true), (45, true), (46, true)]
    (fun z => Blk z ghX 28 (bvs zs).toArray ∧ Blk z ghY 28 (bvs (rep 1)).toArray) (by kernel_rfl) (by kernel_rfl) (by kernel_rfl) (by kernel_rfl) (fun _ _ d _ _ h => by cases d <;> exact h) ⟨hX.1, hY.1⟩ ?_
  simp only [planOps, List.getElem?_toArray, List.getElem?_cons_zero, List.getElem?_cons_succ]
  iterate 7 (refine wpS_q ?_ (by rfl) ?_ ?_; rotate_left; (focus (intro z hz; (try dsimp only at hz); go_simp; rfl)); simp only [Act.put, List.setIfInBounds_toArray, List.set_cons_zero, List.set_cons_succ])
  refine wpS_q (.agg (bvs zs).toArray) (by rfl) (fun z hz => load_row_run rfl ghX (bvs zs).toArray Try.underlying28 rfl i128 hz.1 hzs rfl) ?_
  simp only [Act.put, List.setIfInBounds_toArray, List.set_cons_zero, List.set_cons_succ]
  refine wpS_l (by rfl) (fun K hK => ?_)
  go_wp2_with fail
  refine (bytes_lit _ 0 0 rfl).mono ?_
  rintro e w4 ⟨rfl, hb⟩
  have hb3 : Below w3.heap.size w3 w4 := drew_below.trans hb
  have hX := hX.below hb3
  have hY := hY.below hb3
  have hbb := below_base hbb hb3
  refine hK _ _ _ ⟨hX.1, hY.1⟩ (fun _ h => h) ?_
  clear hK hb hb3
  iterate 19 (refine wpS_q ?_ (by rfl) ?_ ?_; rotate_left; (focus (intro z hz; (try dsimp only at hz); go_simp; rfl)); simp only [Act.put, List.setIfInBounds_toArray, List.set_cons_zero, List.set_cons_succ])
  refine wpS_q (.agg (bvs (rep 1)).toArray) (by rfl) (fun z hz => load_row_run rfl ghY (bvs (rep 1)).toArray Try.underlying28 rfl i128 hz.2 hr1 rfl) ?_
  simp only [Act.put, List.setIfInBounds_toArray, List.set_cons_zero, List.set_cons_succ]
  refine wpS_l (by rfl) (fun K hK => ?_)
  go_wp2_with fail
  refine (bytes_lit _ 1 1 rfl).mono ?_
  rintro e w5 ⟨rfl, hb⟩
  have hX := hX.below hb
  have hY := hY.below hb
  have hbb := below_base hbb hb
  refine hK _ _ _ ⟨hX.1, hY.1⟩ (fun _ h => h) ?_
  clear hK hb
  iterate 17 (refine wpS_q ?_ (by rfl) ?_ ?_; rotate_left; (focus (intro z hz; (try dsimp only at hz); go_simp; rfl)); simp only [Act.put, List.setIfInBounds_toArray, List.set_cons_zero, List.set_cons_succ])
  refine wpS_nil ?_
  go_wp2_with fail
  go_ret
  exact ⟨rfl, hbb.1⟩
end Go.Proofs.Ytmjdfajdompkeaa
