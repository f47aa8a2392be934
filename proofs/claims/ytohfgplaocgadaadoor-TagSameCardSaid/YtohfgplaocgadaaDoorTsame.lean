/- The law TagSame, walked. -/
import Derived.Test.YtohfgplaocgadaaDoorTg
import Derived.Test.YtohfgplaocgadaaDoorTf
import Derived.Test.YtohfgplaocgadaaDoorGuard
namespace Go.Proofs.YtohfgplaocgadaaDoor
open Go.RowKit Go.Rat
theorem set_same (xs : List UInt8) (k : Nat) (y : UInt8) (hk : k < xs.length) : decide (xs = xs.set k (xs.getD k 0 ^^^ y)) = ((y.toNat : Int) == 0) := by
  rw [List.getD_eq_getElem?_getD, List.getElem?_eq_getElem hk, Option.getD_some]
  by_cases h : y = 0
  · subst h
    simp
  · have h1 : ((y.toNat : Int) == 0) = false := by
      rw [beq_eq_false_iff_ne]
      intro h0
      exact h (UInt8.toNat_inj.1 (by simpa using h0))
    rw [h1, decide_eq_false_iff_not]
    intro he
    have := congrArg (fun l => l[k]?) he
    simp only [List.getElem?_eq_getElem hk, List.getElem?_set_self hk, Option.some.injEq] at this
    apply h
    have h2 : xs[k] ^^^ xs[k] = xs[k] ^^^ (xs[k] ^^^ y) := congrArg (xs[k] ^^^ ·) this
    rw [← UInt8.xor_assoc, UInt8.xor_self, UInt8.zero_xor] at h2
    exact h2.symm
set_option maxRecDepth 8000 in
set_option maxHeartbeats 4000000 in
theorem tagSame_any (n : Nat) (hn64 : n = 64) (w : World) (tb : List Int) (htb : tblL = tb) (hT : Tab w tb) (xs : List UInt8) (hx : xs.length = 32) (x y : UInt8) :
    Calls Tryd.prog 7 #[.agg (bvs xs).toArray, .int .u8 (x.toNat : Int), .int .u8 (y.toNat : Int)] w fun e w' => e = .returned (.bool true) ∧ Below w.heap.size w w' := by
  have HN := Lib.hid hn64
  have HTB := Lib.hid htb
  clear hn64 htb
  obtain ⟨k, hk⟩ : ∃ k, x.toNat % 32 = k := ⟨_, rfl⟩
  have hk32 : k < 32 := by omega
  have hkx : ((x.toNat : Int) % 32) = (k : Int) := by omega
  obtain ⟨X, hX⟩ : ∃ X : Int, (x.toNat : Int) = X := ⟨_, rfl⟩
  have hX0 : 0 ≤ X := by omega
  have hX1 : X < 256 := by have := x.toNat_lt; omega
  rw [hX] at hkx ⊢
  clear hX hk
  obtain ⟨ys, hys⟩ : ∃ ys, xs.set k (xs.getD k 0 ^^^ y) = ys := ⟨_, rfl⟩
  have hyl : ys.length = 32 := by rw [← hys, List.length_set, hx]
  have hd1 := set_same xs k y (by omega)
  have hd2 : decide (ys = xs) = ((y.toNat : Int) == 0) := by rw [← hd1, hys]; exact decide_eq_decide.2 eq_comm
  rw [hys] at hd1
  have hsx : (bvs xs).toArray.size = 32 := by rw [bvs_size, hx]
  have hsy : (bvs ys).toArray.size = 32 := by rw [bvs_size, hyl]
  have hxor := xor8 (xs.getD k 0) y
  have HXOR := Lib.hid hxor
  clear hxor
  go_enter Tryd.func7, Tryd.ntmps7
  have hX := Blk.new w 29 (bvs xs).toArray
  have hb1 := below_alloc w (.cells (bvs xs).toArray 29)
  obtain ⟨b, hb⟩ : ∃ b, ((y.toNat : Int) == 0) = b := ⟨_, rfl⟩
  rw [hb] at hd1 hd2
  have Hd1 := Lib.hid hd1
  have Hd3 := Lib.hid (decide_eq_true (rfl : xs = xs))
  have Hd2 := Lib.hid hd2
  have Hys := Lib.hid hys
  clear hd1 hd2 hys
  repeat (first
    | ((with_reducible refine wpl_load w.heap.size _ _ Tryd.underlying29 i32x8 hX hsx ?_ ?_); (focus rfl); simp only [Act.put, List.setIfInBounds_toArray, List.set_cons_zero, List.set_cons_succ]; refine Hid.out ?_)
    | go_values | go_skip | go_guarded | go_step | go_upon | go_back)
  refine Lib.hid ?_
  have hT1 := Tab.below hT hb1
  generalize w.alloc (.cells (bvs xs).toArray 29) = w1 at *
  obtain ⟨g, hg⟩ : ∃ g, w.heap.size = g := ⟨_, rfl⟩
  have hgl := hX.lt
  rw [hg] at hX hgl ⊢
  rw [hg] at hb1
  have HG := Lib.hid hg
  clear hg hT
  repeat (first
    | ((with_reducible refine wpl_store_fresh (bvs xs).toArray i32x8 ?_ hsx (bvs_all _) ?_ ?_ ?_); (focus kernel_rfl); (focus rfl); (focus rfl); intro w3 hY3 hl3 hb3; have hX3 := hX.below hb3 hX.lt; have hbb3 := hb1.trans (hb3.mono (Nat.le_of_lt hgl)); have hT3 := Tab.below hT1 hb3; simp only [Act.put]; refine Hid.out ?_)
    | go_values | go_skip | go_guarded | go_step | go_upon | go_back)
  refine Lib.hid ?_
  have hG : g < w1.heap.size := hX.lt
  clear hX hT1 hb1 hb3
  generalize w1.heap.size = G at *
  have c1 : w3.cell? ⟨G, k, none⟩ = some (.int .u8 ((xs.getD k 0).toNat : Int)) := bytes_at hY3 (by omega)
  have f1 := hY3.frozen k
  have hset := hY3.set_ k (.int .u8 ((xs.getD k 0 ^^^ y).toNat : Int))
  rw [show (bvs xs).toArray.setIfInBounds k (.int .u8 ((xs.getD k 0 ^^^ y).toNat : Int)) = (bvs ys).toArray by rw [← Hys.out, List.setIfInBounds_toArray, bvs, bvs, List.map_set]; rfl] at hset
  have hX4 := hX3.far (p := ⟨G, k, none⟩) (by simp; omega) (.int .u8 ((xs.getD k 0 ^^^ y).toNat : Int))
  have hb4 := hbb3.setCell (p := ⟨G, k, none⟩) (by simp; omega) (.int .u8 ((xs.getD k 0 ^^^ y).toNat : Int))
  have hT4 : Tab (w3.setCell ⟨G, k, none⟩ (.int .u8 ((xs.getD k 0 ^^^ y).toNat : Int))) tb := Tab_grown hT3 (grownBy_set _ _ _ _) (by omega)
  generalize xs.getD k 0 = x0 at *
  rw [← HXOR.out] at hset hX4 hb4 hT4
  have g1 : (X % 32).toNat = k := by omega
  have g0 : (0 : Int) ≤ X % 32 := by omega
  have g2 : X % 32 < 32 := by omega
  repeat (first
    | ((with_reducible refine wpl_load g _ _ Tryd.underlying29 i32x8 hX4 hsx ?_ ?_); (focus rfl); simp only [Act.put, List.setIfInBounds_toArray, List.set_cons_zero, List.set_cons_succ]; refine Hid.out ?_)
    | go_values | go_skip | go_guarded | go_step | go_upon | go_back)
  refine Lib.hid ?_
  clear hX3 hbb3 hT3 hY3 hl3 f1 c1 g1 g0 g2 Hys
  generalize w3.setCell ⟨G, k, none⟩ (.int .u8 (bits BinOp.xor IntKind.u8 ↑x0.toNat ↑y.toNat)) = w4 at *
  repeat (first
    | ((with_reducible refine wpl_loadG G _ _ Tryd.underlying29 i32x8 hset hsy ?_ ?_ ?_); (focus rfl); (focus rfl); simp only [Act.put, List.setIfInBounds_toArray, List.set_cons_zero, List.set_cons_succ])
    | (go_at_call 19; ((with_reducible refine (same_any _ xs ys hx hyl).mono ?_); rw [Hd1.out]; rintro e w5 ⟨rfl, hb5⟩; simp only []; have hX5 := hX4.below hb5 hX4.lt; have hY5 := hset.below hb5 hset.lt; have hT5 := Tab.below hT4 hb5; have hbb5 := hb4.trans (hb5.mono (Nat.le_of_lt hX4.lt)); clear hset))
    | ((with_reducible refine wpl_loadG G _ _ Tryd.underlying29 i32x8 hY5 hsy ?_ ?_ ?_); (focus rfl); (focus rfl); simp only [Act.put, List.setIfInBounds_toArray, List.set_cons_zero, List.set_cons_succ])
    | ((with_reducible refine wpl_loadG g _ _ Tryd.underlying29 i32x8 hX5 hsx ?_ ?_ ?_); (focus rfl); (focus rfl); simp only [Act.put, List.setIfInBounds_toArray, List.set_cons_zero, List.set_cons_succ])
    | (go_at_call 19; ((with_reducible refine (same_any w5 ys xs hyl hx).mono ?_); rw [Hd2.out]; rintro e w6 ⟨rfl, hb6⟩; simp only []; have hX6 := hX5.below hb6 hX5.lt; have hT6 := Tab.below hT5 hb6; have hbb6 := hbb5.trans (hb6.mono (Nat.le_of_lt hX5.lt)); clear hX5))
    | ((with_reducible refine wpl_loadG g _ _ Tryd.underlying29 i32x8 hX6 hsx ?_ ?_ ?_); (focus rfl); (focus rfl); simp only [Act.put, List.setIfInBounds_toArray, List.set_cons_zero, List.set_cons_succ])
    | (go_at_call 19; ((with_reducible refine (same_any w6 xs xs hx hx).mono ?_); rw [Hd3.out]; rintro e w7 ⟨rfl, hb7⟩; simp only []; have hT7 := Tab.below hT6 hb7; have hbb7 := hbb6.trans (hb7.mono (Nat.le_of_lt hX6.lt)); have hg7 := Nat.le_trans (Nat.le_of_lt hX6.lt) hb7.size; clear hX6))
    | (go_at_call 17; refine (works3_any n HN.out w7 tb HTB.out hT7).mono ?_; rintro e w8 ⟨rfl, hb8⟩; simp only []; have hbb8 := hbb7.trans (hb8.mono hg7))
    | go_values | go_skip | go_guarded | go_step | go_upon | go_back)
  go_ret
  exact ⟨rfl, by rw [HG.out]; exact hbb8⟩
theorem tagSame_walk (W : World) (hT : Tab W tblL) (xs : List UInt8) (hx : xs.length = 32) (x y : UInt8) :
    Calls Tryd.prog 7 #[.agg (bvs xs).toArray, .int .u8 (x.toNat : Int), .int .u8 (y.toNat : Int)] W fun e w' => e = .returned (.bool true) ∧ Below W.heap.size W w' := tagSame_any 64 rfl W tblL rfl hT xs hx x y
end Go.Proofs.YtohfgplaocgadaaDoor
