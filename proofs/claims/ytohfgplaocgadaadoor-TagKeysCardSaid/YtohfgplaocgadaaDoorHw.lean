/- sha: Write. -/
import Derived.Test.YtohfgplaocgadaaDoorHn
import Derived.Test.YtohfgplaocgadaaDoorBarrier
namespace Go.Proofs.YtohfgplaocgadaaDoor
open Go.RowKit Go.Rat
theorem row_hk {w : World} {g : Nat} {T : TypeId} {h : HS} {all : Nat} (hB : Blk w g T (hashL h all).toArray) (ho : h.wide) (k : Nat) : Blk (w.setCell ⟨g, 72, none⟩ (.int .i64 (k : Int))) g T (hashL ⟨h.s, h.p, k⟩ all).toArray := by
  have := hB.set_ 72 (.int .i64 (k : Int))
  rw [List.setIfInBounds_toArray, hashL_set_k ho] at this
  exact this
theorem row_hall {w : World} {g : Nat} {T : TypeId} {h : HS} {all : Nat} (hB : Blk w g T (hashL h all).toArray) (ho : h.wide) (n : Nat) : Blk (w.setCell ⟨g, 73, none⟩ (.int .u64 (n : Int))) g T (hashL h n).toArray := by
  have := hB.set_ 73 (.int .u64 (n : Int))
  rw [List.setIfInBounds_toArray, hashL_set_all ho] at this
  exact this
theorem row_ck {w : World} {g : Nat} {T : TypeId} {h : HS} {all : Nat} (hB : Blk w g T (hashL h all).toArray) (ho : h.wide) : w.cell? ⟨g, 72, none⟩ = some (.int .i64 (h.k : Int)) := by
  rw [hB.cell 72, List.getElem?_toArray, hashL_k ho]
theorem row_call {w : World} {g : Nat} {T : TypeId} {h : HS} {all : Nat} (hB : Blk w g T (hashL h all).toArray) (ho : h.wide) : w.cell? ⟨g, 73, none⟩ = some (.int .u64 (all : Int)) := by
  rw [hB.cell 73, List.getElem?_toArray, hashL_all ho]
theorem keepG {w w' : World} {A : Option Addr} {m g : Nat} {xs : List UInt8} (hr : RB w A m xs) (hg : w.grownBy w' (some g)) (hA : m = 0 ∨ A.map (·.block) ≠ some g) : RB w' A m xs := by
  rcases hA with rfl | hA
  · obtain rfl : xs = [] := List.eq_nil_of_length_eq_zero hr.len
    exact RB.nil_ _ _
  · exact hr.grown hg (.inl hA)
def lenV : Value → Nat
  | .slice _ m _ => m
  | _ => 0
theorem Tab_grown {w w' : World} {tb : List Int} {g : Nat} (h : Tab w tb) (hg : w.grownBy w' (some g)) (h0 : g ≠ 0) : Tab w' tb := fun i hi =>
  (World.cell?_of_block (hg.block 0 (block_lt_of_cell (h i hi)) (fun e => h0 (Option.some.inj e).symm))).trans (h i hi)
set_option maxRecDepth 8000 in
set_option maxHeartbeats 1200000 in
theorem write_any (n : Nat) (hn64 : n = 64) (w : World) (g : Nat) (h : HS) (ho : h.ok) (all : Nat) (A : Option Addr) (m c : Nat) (xs : List UInt8) (tb : List Int) (hT : Tab w tb) (hg0 : g ≠ 0)
    (hB : Blk w g 65 (hashL h all).toArray) (hr : RB w A m xs) (hmc : m ≤ c) (hA : m = 0 ∨ A.map (·.block) ≠ some g) (hall : all + m < 1152921504606846976) :
    Calls Tryd.prog 36 #[.pointer (some ⟨g, 0, none⟩), .slice A m c] w fun e w' => e = .returned (.tuple #[]) ∧ Blk w' g 65 (hashL (feed n tb h xs) (all + m)).toArray ∧ w.grownBy w' (some g) := by
  have HN := Lib.hid hn64
  clear hn64
  obtain ⟨F, hF⟩ : ∃ F, feed n tb h xs = F := ⟨_, rfl⟩
  rw [hF]
  have HF := Lib.hid hF
  clear hF
  go_enter Tryd.func36, Tryd.ntmps36
  have c73 := row_call hB ho.towide
  have f73 := hB.frozen 73
  have r1 : IntKind.u64.wrap ((all : Int) + (m : Int)) = ((all + m : Nat) : Int) := by simp [IntKind.wrap, IntKind.bits, IntKind.signed]; omega
  have r2 : IntKind.u64.wrap (m : Int) = (m : Int) := by simp [IntKind.wrap, IntKind.bits, IntKind.signed]; omega
  go_wp2_with fail
  have hB1 := row_hall hB ho.towide (all + m)
  rw [Int.natCast_add] at hB1
  go_loopw [1] (fun b wr => ∃ A' m' c' ys h', b = .slice A' m' c' ∧ m' ≤ c' ∧ RB wr A' m' ys ∧ (m' = 0 ∨ A'.map (·.block) ≠ some g) ∧ h'.ok ∧ feed n tb h' ys = F ∧ Blk wr g 65 (hashL h' (all + m)).toArray ∧ w.grownBy wr (some g)) (fun b _ => lenV b)
  case atStart => exact ⟨A, m, c, xs, h, rfl, hmc, keepG hr (grownBy_set _ _ _ _) hA, hA, ho, HF.out, hB1, grownBy_set _ _ _ _⟩
  case round =>
    obtain ⟨A', m', c', ys, h', rfl, hmc', hr', hA', ho', hF', hB', hg'⟩ := hrel
    by_cases hm : 0 < m'
    · have hA' := hA'.resolve_left (by omega)
      have hk := ho'.k
      have hm1 : (0 : Int) < (m' : Int) := by omega
      have c72 := row_ck hB' ho'.towide
      have f72 := hB'.frozen 72
      have g1 : (0 : Int) ≤ (h'.k : Int) := by omega
      have g2 : (h'.k : Int) ≤ 64 := by omega
      go_wp2_with fail
      refine wp_region_plan [(0, true), (1, true), (2, true), (3, true), (4, true), (5, true), (6, true), (7, true), (8, true), (9, false), (10, true)]
        (fun z => z.cell? ⟨g, 72, none⟩ = some (.int .i64 (h'.k : Int))) (by kernel_rfl) (by kernel_rfl) (by kernel_rfl) (by kernel_rfl) (fun _ _ d _ _ h => by cases d <;> exact h) c72 ?_
      simp only [planOps, List.getElem?_toArray, List.getElem?_cons_zero, List.getElem?_cons_succ]
      repeat (first
        | (refine wpS_skip (by rfl) ?_; simp only [Act.put, List.setIfInBounds_toArray, List.set_cons_zero, List.set_cons_succ])
        | (refine wpS_q ?_ (by rfl) ?_ ?_; rotate_left; (focus (intro z hz; (try dsimp only at hz); go_simp; rfl)); simp only [Act.put, List.setIfInBounds_toArray, List.set_cons_zero, List.set_cons_succ]))
      refine wpS_l (by rfl) (fun Kq hK => ?_)
      rw [if_neg (show ¬ 64 = h'.k by omega)]
      obtain ⟨k, hkd⟩ : ∃ k, k = Nat.min m' (64 - h'.k) := ⟨_, rfl⟩
      have hk1 : k ≤ m' := by rw [hkd]; exact Nat.min_le_left _ _
      have hk2 : h'.k + k ≤ 64 := by have : k ≤ 64 - h'.k := by { rw [hkd]; exact Nat.min_le_right _ _ }
                                     omega
      have hk0 : 0 < k := by rw [hkd]; exact Nat.lt_min.2 ⟨hm, by omega⟩
      refine wp_copy_mid (.tmp 27) (.tmp 28) rfl g (8 + h'.k) (64 - h'.k) (64 - h'.k) A' m' c' rfl rfl 65 (hashL h' (all + m)) (show Blk wr.drew g _ _ from hB') ys hr' k hkd hk0 (by rw [hashL_length ho'.towide]; omega) ?_
      clear hkd
      have hyl := hr'.len
      have htl : (ys.take k).length = k := by rw [List.length_take, hyl]; omega
      rw [hashL_put_p ho'.towide h'.k (ys.take k) (by rw [htl]; exact hk2)]
      have ho2 : (HS.mk h'.s (splice h'.p h'.k (ys.take k)) h'.k).ok := ⟨⟨ho'.s, (Go.length_splice _ _ _ (by rw [htl, ho'.p]; exact hk2)).trans ho'.p⟩, ho'.k⟩
      have hB2 : Blk (wr.drew.setRow g (hashL (HS.mk h'.s (splice h'.p h'.k (ys.take k)) h'.k) (all + m)).toArray) g 65 (hashL (HS.mk h'.s (splice h'.p h'.k (ys.take k)) h'.k) (all + m)).toArray := Blk.setRow (show Blk wr.drew g _ _ from hB') _
      have hg2 : wr.grownBy (wr.drew.setRow g (hashL (HS.mk h'.s (splice h'.p h'.k (ys.take k)) h'.k) (all + m)).toArray) (some g) := World.grownBy.trans (b := wr.drew) ⟨rfl, rfl, rfl, Nat.le_refl _, fun _ _ _ => rfl⟩ (grownBy_setRow _ _ _)
      have hr2 := hr'.grown hg2 (.inl hA')
      have hg3 := hg'.trans hg2
      have hf1 := feed_chunk n tb (ys.take k) h' ho' (by rw [htl]; exact hk2)
      rw [htl] at hf1
      have hf2 : feed n tb (feed n tb h' (ys.take k)) (ys.drop k) = F := by rw [← feed_append, List.take_append_drop]; exact hF'
      have hok := (feed_ok n tb (ys.take k) h' ho').1
      rw [hf1] at hf2 hok
      clear hf1
      clear hF' hg2 hr' hB' c72 f72 hg'
      generalize hp2 : splice h'.p h'.k (ys.take k) = p2 at *
      generalize (wr.drew.setRow g (hashL (HS.mk h'.s p2 h'.k) (all + m)).toArray) = w2 at *
      have c72 : w2.cell? ⟨g, 72, none⟩ = some (.int .i64 (h'.k : Int)) := by have := row_ck hB2 ho2.towide; exact this
      have f72 := hB2.frozen 72
      simp only [Act.put, List.setIfInBounds_toArray, List.set_cons_zero, List.set_cons_succ]
      refine hK _ _ (fun z => z.cell? ⟨g, 72, none⟩ = some (.int .i64 (h'.k : Int))) c72 (fun _ h => h) ?_
      clear hK
      repeat (first
        | (refine wpS_skip (by rfl) ?_; simp only [Act.put, List.setIfInBounds_toArray, List.set_cons_zero, List.set_cons_succ])
        | (refine wpS_q ?_ (by rfl) ?_ ?_; rotate_left; (focus (intro z hz; (try dsimp only at hz); go_simp; rfl)); simp only [Act.put, List.setIfInBounds_toArray, List.set_cons_zero, List.set_cons_succ]))
      refine wpS_nil ?_
      have hcutF : ∀ z, RB z A' m' ys → RB z (if c' = k then A' else A'.map (·.add k)) (m' - k) (ys.drop k) := fun z h => by
        have := Reads.cut h hk1 hmc'
        rw [Nat.mul_one, show (bvs ys).drop k = bvs (ys.drop k) by simp [bvs, List.map_drop]] at this
        exact this
      have hA2 : (A'.map (·.add k)).map (·.block) ≠ some g := by
        intro h
        apply hA'
        rw [← h]
        cases A' <;> simp [block_of_add]
      have gk1 : (0 : Int) ≤ (k : Int) := by omega
      have gk2 : (k : Int) ≤ (m' : Int) := by omega
      have gk3 : (k : Int) ≤ (c' : Int) := by omega
      have rk : IntKind.i64.wrap ((h'.k : Int) + (k : Int)) = (h'.k : Int) + (k : Int) := IntWalk.i64_in _ (by omega)
      have hB3 := row_hk hB2 ho2.towide (h'.k + k)
      rw [Int.natCast_add] at hB3
      by_cases h64 : h'.k + k = 64
      · have h64i : (h'.k : Int) + (k : Int) = 64 := by omega
        rw [if_pos h64] at hf2 hok
        have ho3 : (HS.mk h'.s p2 64).wide := ⟨ho2.s, ho2.p⟩
        have hB4 : Blk (w2.setCell ⟨g, 72, none⟩ (.int .i64 64)) g 65 (hashL (HS.mk h'.s p2 64) (all + m)).toArray := by have h9 := hB3; rw [h64i, h64] at h9; exact h9
        have hg4 : w.grownBy (w2.setCell ⟨g, 72, none⟩ (.int .i64 64)) (some g) := hg3.trans (grownBy_set _ _ _ _)
        have hT4 : Tab (w2.setCell ⟨g, 72, none⟩ (.int .i64 64)).drew tb := fun i hi => Tab_grown hT hg4 hg0 i hi
        go_wp2_with fail
        all_goals (
          refine wp_region_barrier [(0, false), (1, false), (2, false), (3, false), (4, false), (5, true), (6, false), (7, false), (8, false), (9, true)] 10 [(11, true), (12, true), (13, false), (14, true), (15, true), (16, false)]
            (fun z => Blk z g 65 (hashL (HS.mk h'.s p2 64) (all + m)).toArray) _ rfl (by kernel_rfl) (by kernel_rfl) (by kernel_rfl) (by kernel_rfl) (fun _ _ d _ _ h => by cases d <;> exact h) hB4 ?_
          simp only [planOps, List.getElem?_toArray, List.getElem?_cons_zero, List.getElem?_cons_succ]
          iterate 5 (refine wpQ_q ?_ (by rfl) ?_ ?_; rotate_left; (focus (intro z hz; (try dsimp only at hz); go_simp; rfl)); simp only [Act.put, List.setIfInBounds_toArray, List.set_cons_zero, List.set_cons_succ])
          refine wpQ_q (.agg (u32s h'.s).toArray) (by rfl) (fun z hz => load_mid_run rfl g 0 _ _ Tryd.underlying23 rfl i8x32 (hz rfl) (hashL_s ho3) ((u32s_length _).trans ho3.s) rfl) ?_
          simp only [Act.put, List.setIfInBounds_toArray, List.set_cons_zero, List.set_cons_succ]
          iterate 3 (refine wpQ_q ?_ (by rfl) ?_ ?_; rotate_left; (focus (intro z hz; (try dsimp only at hz); go_simp; rfl)); simp only [Act.put, List.setIfInBounds_toArray, List.set_cons_zero, List.set_cons_succ])
          refine wpQ_q (.agg (bvs p2).toArray) (by rfl) (fun z hz => load_mid_run rfl g 8 _ _ Tryd.underlying24 rfl i64x8 (hz rfl) (hashL_p ho3) ((bvs_length _).trans ho3.p) rfl) ?_
          simp only [Act.put, List.setIfInBounds_toArray, List.set_cons_zero, List.set_cons_succ]
          refine wpQ_nil ⟨by rfl, ?_⟩
          go_wp2_with fail
          refine (block_any n HN.out _ h'.s ho3.s p2 ho3.p tb hT4).mono ?_
          rintro e w5 ⟨rfl, hb5⟩
          refine ⟨fun _ => True, trivial, ?_⟩
          repeat (first
            | (refine wpS_skip (by rfl) ?_; simp only [Act.put, List.setIfInBounds_toArray, List.set_cons_zero, List.set_cons_succ])
            | (refine wpS_q ?_ (by rfl) ?_ ?_; rotate_left; (focus (intro z hz; (try dsimp only at hz); go_simp; rfl)); simp only [Act.put, List.setIfInBounds_toArray, List.set_cons_zero, List.set_cons_succ]))
          obtain ⟨s5, hs5⟩ : ∃ s5, blockF n tb h'.s p2 = s5 := ⟨_, rfl⟩
          have hs5l : s5.length = 8 := by rw [← hs5, blockF_length]; exact ho3.s
          rw [hs5] at hf2 hok ⊢
          clear hs5
          have hB5 := Blk.below (show Blk (w2.setCell ⟨g, 72, none⟩ (.int .i64 64)).drew g _ _ from hB4) hb5 (Blk.lt hB4)
          have hg5 : w.grownBy w5 (some g) := hg4.trans (World.grownBy.trans (b := (w2.setCell ⟨g, 72, none⟩ (.int .i64 64)).drew) ⟨rfl, rfl, rfl, Nat.le_refl _, fun _ _ _ => rfl⟩ (grownBy_of_below hb5 _))
          have hr5 : RB w5 A' m' ys := by
            have h0 : RB (w2.setCell ⟨g, 72, none⟩ (.int .i64 64)) A' m' ys := hr2.grown (grownBy_set w2 g 72 _) (.inl hA')
            have h1 : RB (w2.setCell ⟨g, 72, none⟩ (.int .i64 64)).drew A' m' ys := h0
            exact h1.below hb5
          refine wpS_l (by rfl) (fun Kq hK => ?_)
          refine wp_store_midR rfl g 0 _ (u32s s5) (by rw [u32s_length, hs5l]; exact i8x32) hB5 (by rw [u32s_length, hs5l, hashL_length ho3]; omega) (u32s_ones _) rfl rfl ?_
          rw [hashL_put_s ho3 s5 hs5l]
          have hB6 := Blk.setRow hB5 (hashL (HS.mk s5 p2 64) (all + m)).toArray
          have ho6 : (HS.mk s5 p2 64).wide := ⟨hs5l, ho2.p⟩
          have hg6 := hg5.trans (grownBy_setRow w5 g (hashL (HS.mk s5 p2 64) (all + m)).toArray)
          have hr6 := hr5.grown (grownBy_setRow w5 g (hashL (HS.mk s5 p2 64) (all + m)).toArray) (.inl hA')
          simp only [Act.put]
          refine hK _ _ (fun _ => True) trivial (fun _ _ => trivial) ?_
          clear hK
          repeat (first
            | (refine wpS_skip (by rfl) ?_; simp only [Act.put, List.setIfInBounds_toArray, List.set_cons_zero, List.set_cons_succ])
            | (refine wpS_q ?_ (by rfl) ?_ ?_; rotate_left; (focus (intro z hz; (try dsimp only at hz); go_simp; rfl)); simp only [Act.put, List.setIfInBounds_toArray, List.set_cons_zero, List.set_cons_succ]))
          refine wpS_l (by rfl) (fun Kq hK => ?_)
          have c76 := row_ck hB6 ho6
          have f76 := hB6.frozen 72
          have hB7 := row_hk hB6 ho6 0
          go_wp2_with fail
          refine hK _ _ (fun _ => True) trivial (fun _ _ => trivial) ?_
          clear hK
          refine wpS_nil ?_
          go_wp2_with fail
          have hg7 := hg6.trans (grownBy_set (w5.setRow g (hashL (HS.mk s5 p2 64) (all + m)).toArray) g 72 (.int .i64 0))
          have hr7 := hr6.grown (grownBy_set (w5.setRow g (hashL (HS.mk s5 p2 64) (all + m)).toArray) g 72 (.int .i64 0)) (.inl hA')
          refine ⟨⟨_, _, _, ys.drop k, HS.mk s5 p2 0, rfl, by omega, ?_, .inr (by assumption), hok, hf2, hB7, hg7⟩, by simp only [lenV]; omega⟩
          have h8 := hcutF _ hr7
          first
            | (rw [if_neg (by assumption)] at h8; exact h8)
            | (rw [if_pos (by omega)] at h8; exact h8))
      · have h64i : ¬ (h'.k : Int) + (k : Int) = 64 := by omega
        rw [if_neg h64] at hf2 hok
        go_wp2_with fail
        have hg4 := hg3.trans (grownBy_set w2 g 72 (.int .i64 ((h'.k : Int) + (k : Int))))
        have hr4 := hr2.grown (grownBy_set w2 g 72 (.int .i64 ((h'.k : Int) + (k : Int)))) (.inl hA')
        refine ⟨⟨_, _, _, ys.drop k, HS.mk h'.s p2 (h'.k + k), rfl, by omega, hcutF _ hr4, .inr ?_, hok, hf2, hB3, hg4⟩, by simp only [lenV]; omega⟩
        split
        · exact hA'
        · exact hA2
    · have hm1 : ¬ (0 : Int) < (m' : Int) := by omega
      obtain rfl : m' = 0 := by omega
      obtain rfl : ys = [] := List.eq_nil_of_length_eq_zero hr'.len
      obtain rfl : h' = F := hF'
      go_wp2_with fail
      go_end0
      exact ⟨rfl, hB', hg'⟩
end Go.Proofs.YtohfgplaocgadaaDoor
