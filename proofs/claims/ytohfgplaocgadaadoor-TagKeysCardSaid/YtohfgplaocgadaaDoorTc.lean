/- tag: Of. -/
import Derived.Test.YtohfgplaocgadaaDoorTb
namespace Go.Proofs.YtohfgplaocgadaaDoor
open Go.RowKit Go.Rat
def ofF (n : Nat) (tb : List Int) (key b : List UInt8) : List UInt8 := digest n tb (turnF n tb key 92 ++ digest n tb (turnF n tb key 54 ++ b))
theorem ofF_length (n : Nat) (tb : List Int) (key b : List UInt8) : (ofF n tb key b).length = 32 := digest_length _ _ _
theorem cat2 (p q : Pt) : catP [p, q] = p.xs ++ q.xs := by simp [catP]
theorem rb_row {w : World} {g : Nat} {T : TypeId} {xs : List UInt8} (h : Blk w g T (bvs xs).toArray) (k : Nat) (hk : xs.length = k) : RB w (some ⟨g, 0, none⟩) k xs := by
  have := h.reads xs (by rw [List.take_of_length_le (by rw [bvs_length]; exact Nat.le_refl _)])
  rwa [hk] at this
set_option maxRecDepth 8000 in
set_option maxHeartbeats 4000000 in
theorem of_any (n : Nat) (hn64 : n = 64) (w : World) (A : Option Addr) (m c : Nat) (key : List UInt8) (hr : RB w A m key) (hmc : m ≤ c) (hm : m < 1099511627776) (A' : Option Addr) (m' c' : Nat) (b : List UInt8) (hr' : RB w A' m' b) (hmc' : m' ≤ c') (hm' : m' < 1099511627776) (tb : List Int) (hT : Tab w tb) :
    Calls Tryd.prog 18 #[.slice A m c, .slice A' m' c'] w fun e w' => e = .returned (.agg (bvs (ofF n tb key b)).toArray) ∧ Below w.heap.size w w' := by
  have HN := Lib.hid hn64
  clear hn64
  have hl := hr.len
  have hl' := hr'.len
  have hol := ofF_length n tb key b
  have htl1 := turnF_length n tb key 54
  have htl2 := turnF_length n tb key 92
  have hdl1 := digest_length n tb (turnF n tb key 54 ++ b)
  obtain ⟨F, hF⟩ : ∃ F, ofF n tb key b = F := ⟨_, rfl⟩
  unfold ofF at hF
  obtain ⟨T1, hT1⟩ : ∃ T1, turnF n tb key 54 = T1 := ⟨_, rfl⟩
  obtain ⟨T2, hT2⟩ : ∃ T2, turnF n tb key 92 = T2 := ⟨_, rfl⟩
  rw [show ofF n tb key b = F from hF] at hol ⊢
  rw [hT1, hT2] at hF
  rw [hT1] at htl1 hdl1
  rw [hT2] at htl2
  obtain ⟨D1, hD1⟩ : ∃ D1, digest n tb (T1 ++ b) = D1 := ⟨_, rfl⟩
  rw [hD1] at hF hdl1
  have HF := Lib.hid hF
  have HT1 := Lib.hid hT1
  have HT2 := Lib.hid hT2
  have HD1 := Lib.hid hD1
  have hd1s : (bvs D1).toArray.size = 32 := by rw [bvs_size, hdl1]
  have hfs : (bvs F).toArray.size = 32 := by rw [bvs_size, hol]
  clear hF hT1 hT2 hD1
  go_enter Tryd.func18, Tryd.ntmps18
  have hZ := Blk.new w 29 (bvs (List.replicate 32 0)).toArray
  have hb1 := below_alloc w (.cells (bvs (List.replicate 32 0)).toArray 29)
  obtain ⟨z32, hz32⟩ : ∃ z : Array Value, (bvs (List.replicate 32 0)).toArray = z := ⟨_, rfl⟩
  have hzs : z32.size = 32 := by rw [← hz32]; rfl
  rw [hz32] at hZ hb1
  have hzz : (#[.int .u8 0, .int .u8 0, .int .u8 0, .int .u8 0, .int .u8 0, .int .u8 0, .int .u8 0, .int .u8 0, .int .u8 0, .int .u8 0, .int .u8 0, .int .u8 0, .int .u8 0, .int .u8 0, .int .u8 0, .int .u8 0, .int .u8 0, .int .u8 0, .int .u8 0, .int .u8 0, .int .u8 0, .int .u8 0, .int .u8 0, .int .u8 0, .int .u8 0, .int .u8 0, .int .u8 0, .int .u8 0, .int .u8 0, .int .u8 0, .int .u8 0, .int .u8 0] : Array Value) = z32 := by rw [← hz32]; rfl
  clear hz32
  repeat (first
    | (go_at_call 39; refine (turned_any n HN.out _ A m c key 54 (hr.below hb1) hmc (by omega) tb (Tab.below hT hb1)).mono ?_; rw [HT1.out]; rintro e w2 ⟨g1, rfl, hg1, hK2, hb2⟩; simp only []; have hbb2 := hb1.trans (hb2.mono hb1.size); have hrT := rb_row hK2 64 htl1)
    | (go_at_call 38; refine (tdigest_any n HN.out _ w2.heap.size 28 [⟨some ⟨g1, 0, none⟩, 64, 64, T1⟩, ⟨A', m', c', b⟩] 2 2 rfl (Blk.new w2 28 #[.slice (some ⟨g1, 0, none⟩) 64 64, .slice A' m' c']) (by intro p hp; simp only [List.mem_cons, List.not_mem_nil, or_false] at hp; rcases hp with rfl | rfl; (exact ⟨hrT.alloc _, Nat.le_refl _⟩); (exact ⟨(hr'.below hbb2).alloc _, hmc'⟩)) (by rw [cat2, List.length_append]; simp only []; omega) (by omega) tb (Tab.below (Tab.below hT hbb2) (below_alloc _ _))).mono ?_; rw [cat2, HD1.out]; rintro e w3 ⟨rfl, hb3⟩; simp only []; have hbb3 := hbb2.trans (((below_alloc w2 (.cells #[.slice (some ⟨g1, 0, none⟩) 64 64, .slice A' m' c'] 28)).trans (hb3.mono (by simp))).mono hbb2.size))
    | ((with_reducible refine wpl_store_fresh (bvs D1).toArray i32x8 ?_ hd1s (bvs_all _) ?_ ?_ ?_); (focus exact hzs); (focus rfl); (focus rfl); intro w4 hD4 hl4 hb4; have hbb4 := hbb3.trans (hb4.mono hbb3.size))
    | go_values | go_skip | go_guarded | go_step | go_upon | go_back)
  have hr4 : RB w4.drew A m key := hr.below hbb4.drew
  have hT4 : Tab w4.drew tb := Tab.below hT hbb4.drew
  have hD4' : Blk w4.drew w3.heap.size 29 (bvs D1).toArray := hD4
  have hZ4 : Blk w4 w.heap.size 29 z32 := by
    have h2 := hZ.below hb2 (by simp)
    have h3 := (h2.alloc (.cells #[.slice (some ⟨g1, 0, none⟩) 64 64, .slice A' m' c'] 28)).below hb3 (Blk.lt (h2.alloc _))
    exact h3.below hb4 h3.lt
  have hlw3 : w.heap.size ≤ w3.heap.size := hbb3.size
  clear hzz hZ hb1 hb2 hb3 hb4 hbb2 hbb3 hK2 hrT hD4
  generalize w3.heap.size = GD at *
  refine wp_region_plan [(0, true), (2, true), (1, false), (3, false), (4, false), (5, false)]
    (fun _ => True) (by kernel_rfl) (by kernel_rfl) (by kernel_rfl) (by kernel_rfl) (fun _ _ d _ _ h => by cases d <;> exact h) trivial ?_
  simp only [planOps, List.getElem?_toArray, List.getElem?_cons_zero, List.getElem?_cons_succ]
  repeat (first
    | (refine wpS_skip (by rfl) ?_; simp only [Act.put, List.setIfInBounds_toArray, List.set_cons_zero, List.set_cons_succ])
    | (refine wpS_q ?_ (by rfl) ?_ ?_; rotate_left; (focus (intro z hz; (try dsimp only at hz); go_simp; rfl)); simp only [Act.put, List.setIfInBounds_toArray, List.set_cons_zero, List.set_cons_succ]))
  refine wpS_l (by rfl) (fun Kq hK => ?_)
  go_wp2_with fail
  refine (turned_any n HN.out w4.drew A m c key 92 hr4 hmc (by omega) tb hT4).mono ?_
  rw [HT2.out]
  rintro e w5 ⟨g2, rfl, hg2, hK5, hb5⟩
  have hD5 := hD4'.below hb5 hD4'.lt
  have hT5 := Tab.below hT4 hb5
  have hbb5 : Below w.heap.size w w5 := hbb4.trans ((drew_below (w := w4)).trans hb5 |>.mono hbb4.size)
  have hrT2 := rb_row hK5 64 htl2
  have hrD := rb_row hD5 32 hdl1
  have hZ5 : Blk w5 w.heap.size 29 z32 := Blk.below (w := w4.drew) hZ4 hb5 hZ4.lt
  refine hK _ _ (fun _ => True) trivial (fun _ _ => trivial) ?_
  clear hK
  repeat (first
    | (refine wpS_skip (by rfl) ?_; simp only [Act.put, List.setIfInBounds_toArray, List.set_cons_zero, List.set_cons_succ])
    | (refine wpS_q ?_ (by rfl) ?_ ?_; rotate_left; (focus (intro z hz; (try dsimp only at hz); go_simp; rfl)); simp only [Act.put, List.setIfInBounds_toArray, List.set_cons_zero, List.set_cons_succ]))
  refine wpS_l (by rfl) (fun Kq hK => ?_)
  go_wp2_with fail
  refine hK _ _ (fun _ => True) trivial (fun _ _ => trivial) ?_
  clear hK
  refine wpS_l (by rfl) (fun Kq hK => ?_)
  go_wp2_with fail
  refine (tdigest_any n HN.out _ w5.heap.size 28 [⟨some ⟨g2, 0, none⟩, 64, 64, T2⟩, ⟨some ⟨GD, 0, none⟩, 32, 32, D1⟩] 2 2 rfl (Blk.new w5 28 #[.slice (some ⟨g2, 0, none⟩) 64 64, .slice (some ⟨GD, 0, none⟩) 32 32]) (by intro p hp; simp only [List.mem_cons, List.not_mem_nil, or_false] at hp; rcases hp with rfl | rfl; (exact ⟨hrT2.alloc _, Nat.le_refl _⟩); (exact ⟨hrD.alloc _, Nat.le_refl _⟩)) (by rw [cat2, List.length_append]; simp only []; omega) (by omega) tb (Tab.below hT5 (below_alloc _ _))).mono ?_
  rw [cat2, HF.out]
  rintro e w6 ⟨rfl, hb6⟩
  have hZ6 := (hZ5.alloc (.cells #[.slice (some ⟨g2, 0, none⟩) 64 64, .slice (some ⟨GD, 0, none⟩) 32 32] 28)).below hb6 (Blk.lt (hZ5.alloc _))
  have hbb6 : Below w.heap.size w w6 := hbb5.trans (((below_alloc w5 (.cells #[.slice (some ⟨g2, 0, none⟩) 64 64, .slice (some ⟨GD, 0, none⟩) 32 32] 28)).trans (hb6.mono (by simp))).mono hbb5.size)
  refine hK _ _ (fun _ => True) trivial (fun _ _ => trivial) ?_
  clear hK
  refine wpS_l (by rfl) (fun Kq hK => ?_)
  have hz32l : z32.toList.length = 32 := by simpa using hzs
  have hZ6' : Blk w6 w.heap.size 29 z32.toList.toArray := by simpa using hZ6
  refine wp_store_midR rfl w.heap.size 0 z32.toList (bvs F) (by rw [bvs_length, hol]; exact i32x8) hZ6' (by rw [bvs_length, hol, hz32l]; omega) (bvs_one _) rfl rfl ?_
  have hsp : Go.splice z32.toList 0 (bvs F) = bvs F := by rw [Go.splice, List.take_zero, List.nil_append, bvs_length, hol, List.drop_of_length_le (by omega), List.append_nil]
  rw [hsp]
  have hZ7 := hZ6.setRow (bvs F).toArray
  have hbb7 := hbb6.grown (grownBy_setRow w6 w.heap.size (bvs F).toArray) hbb6.size (fun p hp => by cases hp; exact Nat.le_refl _)
  simp only [Act.put]
  refine hK _ _ (fun _ => True) trivial (fun _ _ => trivial) ?_
  clear hK
  refine wpS_nil ?_
  go_wp2_with fail
  refine bodyPost_ret (results_cell_row rfl _ _ w.heap.size _ _ (0, 0) _ rfl hZ7 Tryd.underlying29 rfl (by rw [hfs]; exact i32x8)) rfl ?_
  exact ⟨rfl, hbb7⟩
end Go.Proofs.YtohfgplaocgadaaDoor
