/- sha: Sum. -/
import Derived.Test.YtohfgplaocgadaaDoorHs
namespace Go.Proofs.YtohfgplaocgadaaDoor
open Go.RowKit Go.Rat
theorem digest_length (n : Nat) (tb : List Int) (xs : List UInt8) : (digest n tb xs).length = 32 := by
  rw [digest, outB_length, (feed_ok n tb _ h0 h0_ok).1.s]
set_option maxRecDepth 8000 in
set_option maxHeartbeats 1200000 in
theorem sum_any (n : Nat) (hn64 : n = 64) (w : World) (A : Option Addr) (m c : Nat) (xs : List UInt8) (tb : List Int) (hT : Tab w tb) (hr : RB w A m xs) (hmc : m ≤ c) (hm : m < 288230376151711744) :
    Calls Tryd.prog 14 #[.slice A m c] w fun e w' => e = .returned (.agg (bvs (digest n tb xs)).toArray) ∧ Below w.heap.size w w' := by
  have HN := Lib.hid hn64
  clear hn64
  have hl := hr.len
  have hdl := digest_length n tb xs
  obtain ⟨hok, hk⟩ := feed_ok n tb xs h0 h0_ok
  have hkm : (feed n tb h0 xs).k = m % 64 := by rw [hk, hl]; simp [h0]
  obtain ⟨D, hD⟩ : ∃ D, digest n tb xs = D := ⟨_, rfl⟩
  have hDF : outB (feed n tb (feed n tb h0 xs) (padding m)).s = D := by rw [← hD, digest, feed_append, hl]
  rw [hD] at hdl ⊢
  have HD := Lib.hid hDF
  clear hD hDF hk
  have hw0 : 0 < w.heap.size := block_lt_of_cell (hT 0 (by omega))
  go_enter Tryd.func14, Tryd.ntmps14
  have hZ := Blk.new w 29 (bvs (List.replicate 32 0)).toArray
  have hb1 := below_alloc w (.cells (bvs (List.replicate 32 0)).toArray 29)
  have hl1 : w.heap.size < (w.alloc (.cells (bvs (List.replicate 32 0)).toArray 29)).heap.size := by simp
  obtain ⟨z32, hz32⟩ : ∃ z : Array Value, (bvs (List.replicate 32 0)).toArray = z := ⟨_, rfl⟩
  have hzs : z32.size = 32 := by rw [← hz32]; rfl
  rw [hz32] at hZ hb1 hl1
  have hzz : (#[.int .u8 0, .int .u8 0, .int .u8 0, .int .u8 0, .int .u8 0, .int .u8 0, .int .u8 0, .int .u8 0, .int .u8 0, .int .u8 0, .int .u8 0, .int .u8 0, .int .u8 0, .int .u8 0, .int .u8 0, .int .u8 0, .int .u8 0, .int .u8 0, .int .u8 0, .int .u8 0, .int .u8 0, .int .u8 0, .int .u8 0, .int .u8 0, .int .u8 0, .int .u8 0, .int .u8 0, .int .u8 0, .int .u8 0, .int .u8 0, .int .u8 0, .int .u8 0] : Array Value) = z32 := by rw [← hz32]; rfl
  clear hz32
  have hT1 := Tab.below hT hb1
  have hr1 := hr.below hb1
  have hd32 : (bvs D).toArray.size = 32 := by rw [bvs_size, hdl]
  repeat (first
    | (go_at_call 35; generalize (w.alloc (.cells z32 29)) = w1 at *; refine (new_any _).mono ?_; rintro e w2 ⟨ge, rfl, hge, hE, hb2⟩; simp only []; have hT2 := Tab.below hT1 hb2; have hr2 := hr1.below hb2; have hZ2 := hZ.below hb2 hl1; have hb02 := hb1.trans (hb2.mono hb1.size))
    | (go_at_call 36; refine (write_any n HN.out _ ge h0 h0_ok 0 A m c xs tb hT2 (by omega) hE hr2 hmc (by rcases Nat.eq_zero_or_pos m with h | h; (exact .inl h); (obtain ⟨ad, rfl, hlt, _⟩ := hr1.2 h; exact .inr (by simp; omega))) (by omega)).mono ?_; rw [Nat.zero_add]; rintro e w3 ⟨rfl, hE3, hg3⟩; simp only []; have hT3 := Tab_grown hT2 hg3 (by omega); have hZ3 := hZ2.grown hg3 (by intro e; injection e with e; omega); have hb03 := hb02.grown hg3 hb02.size (fun q hq => by cases hq; omega))
    | (go_at_call 37; refine (hsum_any n HN.out _ ge _ hok m hkm tb hT3 hE3 (by omega)).mono ?_; rw [HD.out]; rintro e w4 ⟨rfl, hb4⟩; simp only []; have hZ4 := hZ3.below hb4 hZ3.lt; have hb04 := hb03.trans (hb4.mono hb03.size))
    | ((with_reducible refine wpl_store w.heap.size _ _ (bvs D).toArray i32x8 hZ4 hzs hd32 (bvs_all _) ?_ ?_ ?_); (focus rfl); (focus rfl))
    | go_values | go_skip | go_guarded | go_step | go_upon | go_back)
  refine bodyPost_ret (results_cell_row rfl _ _ w.heap.size _ _ (0, 0) _ rfl (hZ4.setRow _) Tryd.underlying29 rfl (by rw [hd32]; exact i32x8)) rfl ?_
  exact ⟨rfl, hb04.grown (grownBy_setRow _ _ _) hb04.size (fun p hp => by cases hp; exact Nat.le_refl _)⟩
end Go.Proofs.YtohfgplaocgadaaDoor
