/- The law ShaBlocks, walked. -/
import Derived.Test.YtohfgplaocgadaaDoorWorks
import Derived.Test.YtohfgplaocgadaaDoorRb
namespace Go.Proofs.YtohfgplaocgadaaDoor
open Go.RowKit Go.Rat
set_option maxHeartbeats 1200000 in
theorem shaBlocks_any (n : Nat) (hn64 : n = 64) (w : World) (tb : List Int) (htb : tblL = tb) (hT : Tab w tb) (sl : List Int) (hs8 : sl.length = 8) (xs : List UInt8) (hl : xs.length = 64) :
    Calls Tryd.prog 3 #[.agg (u32s sl).toArray, .agg (bvs xs).toArray] w fun e w' => e = .returned (.bool true) ∧ Below w.heap.size w w' := by
  obtain ⟨R, hR⟩ : ∃ R, blockF n tb sl xs = R := ⟨_, rfl⟩
  have hRl : R.length = 8 := by rw [← hR, blockF_length, hs8]
  have keq : ∀ w, (Op.equalIn 10000 23 (.agg (u32s R).toArray) (.agg (u32s R).toArray)).run Tryd.prog w = .ok true w := fun w => by rw [eql8 R R hRl hRl w, decide_eq_true rfl]
  have HR := Lib.hid hR
  have HN := Lib.hid hn64
  have HTB := Lib.hid htb
  clear hR hn64 htb
  have hw0 : 0 < w.heap.size := block_lt_of_cell (hT 0 (by omega))
  go_enter Tryd.func3, Tryd.ntmps3
  have hS := (Blk.new w 23 (u32s sl).toArray).alloc (.cells (bvs xs).toArray 24)
  have hI : Blk ((w.alloc (.cells (u32s sl).toArray 23)).alloc (.cells (bvs xs).toArray 24)) (w.heap.size + 1) 24 (bvs xs).toArray := by simpa using Blk.new (w.alloc (.cells (u32s sl).toArray 23)) 24 (bvs xs).toArray
  have hb : Below w.heap.size w ((w.alloc (.cells (u32s sl).toArray 23)).alloc (.cells (bvs xs).toArray 24)) := below_alloc2 (below_alloc _ _) (by simp) _
  go_wp2_with fail
  generalize ((w.alloc (.cells (u32s sl).toArray 23)).alloc (.cells (bvs xs).toArray 24)) = w1 at *
  have hsw : ((u32s sl).drop 0).take 8 = u32s sl := by rw [List.drop_zero, List.take_of_length_le (by rw [u32s_length, hs8]; exact Nat.le_refl _)]
  have hxw : ((bvs xs).drop 0).take 64 = bvs xs := by rw [List.drop_zero, List.take_of_length_le (by rw [bvs_length, hl]; exact Nat.le_refl _)]
  have HSW := Lib.hid hsw
  have HXW := Lib.hid hxw
  have hlt1 := hI.lt
  have hlt0 := hS.lt
  have hT1 := Tab.below hT hb
  clear hsw hxw
  refine wp_region_plan [(0, true), (1, true), (3, true), (4, true), (2, false), (5, false), (6, true), (7, true), (8, false), (9, true), (10, true)]
    (fun z => Blk z w.heap.size 23 (u32s sl).toArray ∧ Blk z (w.heap.size + 1) 24 (bvs xs).toArray) (by kernel_rfl) (by kernel_rfl) (by kernel_rfl) (by kernel_rfl) (fun _ _ d _ _ h => by cases d <;> exact h) ⟨hS, hI⟩ ?_
  simp only [planOps, List.getElem?_toArray, List.getElem?_cons_zero, List.getElem?_cons_succ]
  refine wpS_q (.agg (u32s sl).toArray) (by rfl) (fun z hz => load_mid_run rfl w.heap.size 0 (u32s sl) (u32s sl) Tryd.underlying23 rfl i8x32 hz.1 HSW.out ((u32s_length _).trans hs8) rfl) ?_
  simp only [Act.put, List.setIfInBounds_toArray, List.set_cons_zero, List.set_cons_succ]
  refine wpS_q (.agg (bvs xs).toArray) (by rfl) (fun z hz => load_mid_run rfl (w.heap.size + 1) 0 (bvs xs) (bvs xs) Tryd.underlying24 rfl i64x8 hz.2 HXW.out ((bvs_length _).trans hl) rfl) ?_
  simp only [Act.put, List.setIfInBounds_toArray, List.set_cons_zero, List.set_cons_succ]
  refine wpS_q (.agg (u32s sl).toArray) (by rfl) (fun z hz => load_mid_run rfl w.heap.size 0 (u32s sl) (u32s sl) Tryd.underlying23 rfl i8x32 hz.1 HSW.out ((u32s_length _).trans hs8) rfl) ?_
  simp only [Act.put, List.setIfInBounds_toArray, List.set_cons_zero, List.set_cons_succ]
  refine wpS_q (.agg (bvs xs).toArray) (by rfl) (fun z hz => load_mid_run rfl (w.heap.size + 1) 0 (bvs xs) (bvs xs) Tryd.underlying24 rfl i64x8 hz.2 HXW.out ((bvs_length _).trans hl) rfl) ?_
  simp only [Act.put, List.setIfInBounds_toArray, List.set_cons_zero, List.set_cons_succ]
  refine wpS_l (by rfl) (fun Kq hK => ?_)
  go_wp2_with fail
  refine (block_any n HN.out w1.drew sl hs8 xs hl tb hT1).mono ?_
  rw [HR.out]
  rintro e w2 ⟨rfl, hb2⟩
  have hT2 := Tab.below (show Tab w1.drew tb from hT1) hb2
  refine hK _ _ (fun z => Blk z w.heap.size 23 (u32s sl).toArray ∧ Blk z (w.heap.size + 1) 24 (bvs xs).toArray) ⟨Blk.below (w := w1.drew) hS hb2 hlt0, Blk.below (w := w1.drew) hI hb2 hlt1⟩ (fun _ h => h) ?_
  clear hK
  refine wpS_l (by rfl) (fun Kq hK => ?_)
  go_wp2_with fail
  refine (rblock_any n HN.out w2 sl hs8 xs hl tb HTB.out).mono ?_
  rw [HR.out]
  rintro e w3 ⟨rfl, hb3⟩
  have hT3 := Tab.below hT2 hb3
  have hb23 : Below w1.heap.size w1.drew w3 := Below.trans hb2 (hb3.mono hb2.size)
  refine hK _ _ (fun z => Blk z w.heap.size 23 (u32s sl).toArray ∧ Blk z (w.heap.size + 1) 24 (bvs xs).toArray) ⟨Blk.below (w := w1.drew) hS hb23 hlt0, Blk.below (w := w1.drew) hI hb23 hlt1⟩ (fun _ h => h) ?_
  clear hK
  repeat (first
    | (refine wpS_skip (by rfl) ?_; simp only [Act.put, List.setIfInBounds_toArray, List.set_cons_zero, List.set_cons_succ])
    | (refine wpS_q ?_ (by rfl) ?_ ?_; rotate_left; (focus (intro z hz; (try dsimp only at hz); go_simp; rfl)); simp only [Act.put, List.setIfInBounds_toArray, List.set_cons_zero, List.set_cons_succ]))
  refine wpS_l (by rfl) (fun Kq hK => ?_)
  go_wp2_with fail
  refine (works_any n HN.out w3 tb HTB.out hT3).mono ?_
  rintro e w4 ⟨rfl, hb4⟩
  have hb24 : Below w1.heap.size w1.drew w4 := hb23.trans (hb4.mono hb23.size)
  refine hK _ _ (fun z => Blk z w.heap.size 23 (u32s sl).toArray ∧ Blk z (w.heap.size + 1) 24 (bvs xs).toArray) ⟨Blk.below (w := w1.drew) hS hb24 hlt0, Blk.below (w := w1.drew) hI hb24 hlt1⟩ (fun _ h => h) ?_
  clear hK
  repeat (first
    | (refine wpS_skip (by rfl) ?_; simp only [Act.put, List.setIfInBounds_toArray, List.set_cons_zero, List.set_cons_succ])
    | (refine wpS_q ?_ (by rfl) ?_ ?_; rotate_left; (focus (intro z hz; (try dsimp only at hz); go_simp; rfl)); simp only [Act.put, List.setIfInBounds_toArray, List.set_cons_zero, List.set_cons_succ]))
  refine wpS_nil ?_
  go_wp2_with fail
  go_ret
  exact ⟨rfl, hb.trans ((drew_below.trans hb24).mono hb.size)⟩
theorem shaBlocks_walk (W : World) (hT : Tab W tblL) (l : List Int) (hl : l.length = 8) (xs : List UInt8) (hx : xs.length = 64) :
    Calls Tryd.prog 3 #[.agg (u32s l).toArray, .agg (bvs xs).toArray] W fun e w' => e = .returned (.bool true) ∧ Below W.heap.size W w' := shaBlocks_any 64 rfl W tblL rfl hT l hl xs hx
end Go.Proofs.YtohfgplaocgadaaDoor
