/- tag: Numbered. -/
import Derived.Test.YtohfgplaocgadaaDoorTi
namespace Go.Proofs.YtohfgplaocgadaaDoor
open Go.RowKit Go.Rat
set_option maxRecDepth 8000 in
set_option maxHeartbeats 4000000 in
theorem numbered_any (n : Nat) (hn64 : n = 64) (w : World) (i : Int) (x : Nat) (hx : x < 2 ^ 64) (A' : Option Addr) (m' c' : Nat) (b : List UInt8) (hr' : RB w A' m' b) (hmc' : m' ≤ c') (hm' : m' < 549755813888) (tb : List Int) (hT : Tab w tb) :
    Calls Tryd.prog 25 #[.int .i64 i, .int .u64 (x : Int), .slice A' m' c'] w fun e w' => e = .returned (.agg (bvs (numF n tb i x b)).toArray) ∧ Below w.heap.size w w' := by
  have HN := Lib.hid hn64
  clear hn64
  have hl' := hr'.len
  have hol := numF_length n tb i x b
  obtain ⟨F, hF⟩ : ∃ F, numF n tb i x b = F := ⟨_, rfl⟩
  rw [hF] at hol ⊢
  unfold numF at hF
  have HF := Lib.hid hF
  have HX := Lib.hid hx
  have hfs : (bvs F).toArray.size = 32 := by rw [bvs_size, hol]
  clear hF hx
  go_enter Tryd.func25, Tryd.ntmps25
  have hZ := Blk.new w 29 (bvs (List.replicate 32 0)).toArray
  have hb1 := below_alloc w (.cells (bvs (List.replicate 32 0)).toArray 29)
  obtain ⟨z32, hz32⟩ : ∃ z : Array Value, (bvs (List.replicate 32 0)).toArray = z := ⟨_, rfl⟩
  have hzs : z32.size = 32 := by rw [← hz32]; rfl
  rw [hz32] at hZ hb1
  have hzz : (#[.int .u8 0, .int .u8 0, .int .u8 0, .int .u8 0, .int .u8 0, .int .u8 0, .int .u8 0, .int .u8 0, .int .u8 0, .int .u8 0, .int .u8 0, .int .u8 0, .int .u8 0, .int .u8 0, .int .u8 0, .int .u8 0, .int .u8 0, .int .u8 0, .int .u8 0, .int .u8 0, .int .u8 0, .int .u8 0, .int .u8 0, .int .u8 0, .int .u8 0, .int .u8 0, .int .u8 0, .int .u8 0, .int .u8 0, .int .u8 0, .int .u8 0, .int .u8 0] : Array Value) = z32 := by rw [← hz32]; rfl
  clear hz32
  repeat (first
    | (go_at_call 21; refine (replica_any n HN.out _ i tb (Tab.below hT hb1)).mono ?_; rintro e w2 ⟨A2, m2, c2, rfl, hmc2, hm2, _, hO2, hb2⟩; simp only []; have hbb2 := hb1.trans (hb2.mono hb1.size); have hZ2 := hZ.below hb2 hZ.lt)
    | (go_at_call 27; refine (word_any w2 none 0 0 [] x (RB.nil_ _ _) (by omega) HX.out).mono ?_; rintro e w3 ⟨A3, N3, c3, rfl, hO3, hb3⟩; simp only []; have hbb3 := hbb2.trans (hb3.mono hbb2.size); have hZ3 := hZ2.below hb3 hZ2.lt; rw [List.nil_append] at hO3; obtain rfl : N3 = 8 := (hO3.len.symm.trans (be_length 8 x)); have hr2 := hO2.reads.below hb3; have hr3 := hO3.reads; have hc3 := hO3.cap.1)
    | (go_at_call 43; refine (concat_any _ w3.heap.size 28 [⟨A3, 8, c3, be 8 x⟩, ⟨A', m', c', b⟩] 2 2 rfl (Blk.new w3 28 #[.slice A3 8 c3, .slice A' m' c']) (by intro p hp; simp only [List.mem_cons, List.not_mem_nil, or_false] at hp; rcases hp with rfl | rfl; (exact ⟨hr3.alloc _, hc3⟩); (exact ⟨(hr'.below hbb3).alloc _, hmc'⟩)) (by rw [cat2, List.length_append, be_length]; simp only []; omega) (by omega)).mono ?_; rw [cat2]; rintro e w4 ⟨A4, N4, c4, rfl, hO4, hb4⟩; simp only []; have hbb4 := hbb3.trans (((below_alloc w3 (.cells #[.slice A3 8 c3, .slice A' m' c'] 28)).trans (hb4.mono (by simp))).mono hbb3.size); have hZ4 := (hZ3.alloc (.cells #[.slice A3 8 c3, .slice A' m' c'] 28)).below hb4 (Blk.lt (hZ3.alloc _)); have hr4 := hO4.reads; have hl4 : N4 ≤ m' + 8 := (by have := hr4.len; rw [List.length_append, be_length] at this; simp only [] at this; omega); have hr24 := (hr2.alloc (.cells #[.slice A3 8 c3, .slice A' m' c'] 28)).below hb4; have hc4 := hO4.cap.1)
    | (go_at_call 18; refine (of_any n HN.out w4 A2 m2 c2 _ hr24 hmc2 (by omega) A4 N4 c4 _ hr4 hc4 (by omega) tb (Tab.below hT hbb4)).mono ?_; simp only []; rw [HF.out]; rintro e w5 ⟨rfl, hb5⟩; simp only []; have hbb5 := hbb4.trans (hb5.mono hbb4.size); have hZ5 := hZ4.below hb5 hZ4.lt)
    | ((with_reducible refine wpl_store w.heap.size _ _ (bvs F).toArray i32x8 hZ5 hzs hfs (bvs_all _) ?_ ?_ ?_); (focus rfl); (focus rfl))
    | go_values | go_skip | go_guarded | go_step | go_upon | go_back)
  refine bodyPost_ret (results_cell_row rfl _ _ w.heap.size _ _ (0, 0) _ rfl (hZ5.setRow _) Tryd.underlying29 rfl (by rw [hfs]; exact i32x8)) rfl ?_
  exact ⟨rfl, hbb5.grown (grownBy_setRow _ _ _) hbb5.size (fun p hp => by cases hp; exact Nat.le_refl _)⟩
end Go.Proofs.YtohfgplaocgadaaDoor
