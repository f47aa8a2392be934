/- OctetPuts: the walk. -/
import Derived.Test.YtohfgplaocgadaaOrder
import Derived.Test.YtohfgplaocgadaaRegion

namespace Go.Proofs.Ytohfgplaocgadaa
open Go.RowKit Go.Rat
/-- What Text answers, too long a text or not. -/
def textZ (xs : List UInt8) (s : ByteArray) : List UInt8 := if s.size ≤ 65535 then xs ++ textB s else []
def textE (s : ByteArray) : Int := if s.size ≤ 65535 then 0 else 6
theorem text_all (w : World) (A : Option Addr) (n c : Nat) (xs : List UInt8) (s : ByteArray) (hr : RB w A n xs) (hn : n ≤ 140737480000000) :
    Calls Try.prog 10 #[.slice A n c, .string s] w fun e w' => ∃ A' N' c', e = .returned (.tuple #[.slice A' N' c', .int .i64 (textE s)]) ∧ RB w' A' N' (textZ xs s) ∧ Below w.heap.size w w' := by
  unfold textZ textE
  by_cases h : s.size ≤ 65535
  · rw [if_pos h, if_pos h]
    exact (text_any w A n c xs s hr hn h).mono fun _ _ ⟨A', N', c', h1, h2, h3⟩ => ⟨A', N', c', h1, h2.reads, h3⟩
  · rw [if_neg h, if_neg h]
    exact (text_long w A n c s (by omega)).mono fun e w' ⟨h1, h2⟩ => by subst h1 h2; exact ⟨none, 0, 0, rfl, RB.nil_ _ _, Below.refl _ _⟩
theorem rtext_all (w : World) (A : Option Addr) (n c : Nat) (xs : List UInt8) (s : ByteArray) (hr : RB w A n xs) (hn : n ≤ 140737480000000) :
    Calls Try.prog 11 #[.slice A n c, .string s] w fun e w' => ∃ A' N' c', e = .returned (.tuple #[.slice A' N' c', .int .i64 (textE s)]) ∧ RB w' A' N' (textZ xs s) ∧ Below w.heap.size w w' := by
  unfold textZ textE
  by_cases h : s.size ≤ 65535
  · rw [if_pos h, if_pos h]
    exact (rtext_any w A n c xs s hr hn h).mono fun _ _ ⟨A', N', c', h1, h2, h3⟩ => ⟨A', N', c', h1, h2.reads, h3⟩
  · rw [if_neg h, if_neg h]
    exact (rtext_long w A n c s (by omega)).mono fun e w' ⟨h1, h2⟩ => by subst h1 h2; exact ⟨none, 0, 0, rfl, RB.nil_ _ _, Below.refl _ _⟩
theorem puts_cells (n : Nat) (xs : List UInt8) : (List.take 0 (List.replicate ((n : Int) + 32).toNat (Value.int .u8 0)) ++ bvs xs ++ List.drop (0 + n) (List.replicate ((n : Int) + 32).toNat (Value.int .u8 0))).toArray = (bvs xs ++ List.replicate 32 (Value.int .u8 0)).toArray := by
  simp only [List.take_zero, List.nil_append, Nat.zero_add, List.drop_replicate]
  rw [show ((n : Int) + 32).toNat - n = 32 by omega]
theorem below_drewN {w : World} {k : Nat} : Below w.heap.size w (w.drewN k) := ⟨rfl, rfl, rfl, Nat.le_refl _, fun _ _ => rfl⟩
theorem add_at (g k : Nat) : (⟨g, 0, none⟩ : Addr).add k = ⟨g, k, none⟩ := by unfold Addr.add; split <;> simp_all
set_option maxHeartbeats 400000 in
theorem octetPuts_walk (w : World) (A : Option Addr) (n c : Nat) (xs : List UInt8) (_hl : xs.length = n) (hr : RB w A n xs) (hnc : n ≤ c) (hc : c ≤ 140737488351232) (x : UInt64) (y : UInt16) (s : ByteArray) (hs : s.size ≤ 140737488351232) :
    Calls Try.prog 3 #[.slice A n c, .int .u64 (x.toNat : Int), .int .u16 (y.toNat : Int), .string s] w fun e w' => e = .returned (.bool true) ∧ Below w.heap.size w w' := by
  by_cases hbig : 131072 < n + s.size
  · have hd : decide ((131072 : Int) < (n : Int) + (s.size : Int)) = true := by simp; omega
    have HS := Lib.hid hbig
    clear hbig
    go_enter Try.func3, Try.ntmps3
    go_wp2_with fail
    refine (works_any _).mono ?_
    rintro e w6 ⟨rfl, hb6⟩
    go_wp2_with fail
    go_ret
    exact ⟨rfl, hb6⟩
  · have hd : decide ((131072 : Int) < (n : Int) + (s.size : Int)) = false := by simp; omega
    have hx64 := x.toNat_lt
    have hy16 := y.toNat_lt
    generalize x.toNat = x at *
    generalize y.toNat = y at *
    have hl := hr.len
    have hn1 : n ≤ 131072 := by omega
    have HN := Lib.hid hn1
    clear hbig hn1
    go_enter Try.func3, Try.ntmps3
    go_wp2_with (first
      | (at_make; refine make_bytes rfl _ _ rfl _ _ rfl rfl (by omega) (by omega) (by have := HN.out; omega) ?_; intro w1 hB1 hb1 hs1; have hs1' : w.heap.size < w1.heap.size := (by omega); clear hs1)
      | (at_builtin; refine app_room rfl _ _ rfl w.heap.size _ _ _ rfl hB1 (by simp <;> omega) _ _ _ xs rfl (hr.below hb1) (by omega) ?_; intro w2 hB2 hg2))
    rw [puts_cells] at hB2
    have hr2 := hB2.reads xs (by simp [bvs_length])
    rw [hl] at hr2
    have hb2 : Below w.heap.size w w2 := hb1.trans (below_of_grownBy hg2 (fun k hk => by cases hk; omega) (by omega))
    have hlt := hB2.lt
    refine (text_all w2 _ n _ xs s hr2 (by have := HN.out; omega)).mono ?_
    rintro e w3 ⟨A3, N3, c3, rfl, hr3, hb3⟩
    have hb3' := hb2.trans (hb3.mono hb2.size)
    have hr0 := hr.below hb3'
    have hB3 := hB2.below hb3 hlt
    have hO3 := hr2.below hb3
    clear hB1 hb1 hs1' hB2 hg2 hr2 hb2 hb3
    go_wp2_with fail
    refine (rtext_all w3 A n c xs s hr0 (by have := HN.out; omega)).mono ?_
    rintro e w4 ⟨A4, N4, c4, rfl, hr4, hb4⟩
    have hb4' := hb3'.trans (hb4.mono hb3'.size)
    have hlt3 := hB3.lt
    have hB4 := hB3.below hb4 hlt3
    have hO4 := hO3.below hb4
    have hX4 := hr3.below hb4
    have hA4 := hr0.below hb4
    clear hr3 hb3' hb4 hr hB3 hO3 hr0 hlt hlt3
    go_wp2_with fail
    refine wp_region_plan [(0, true), (1, true), (4, true), (5, true), (2, false), (3, true), (6, false), (7, true), (8, true), (9, true), (10, true), (11, true), (14, true), (15, true), (12, false), (13, true), (16, false), (17, true), (18, true), (19, true), (20, true), (21, true), (22, true), (23, true), (24, true), (25, true), (26, true), (27, true), (28, true), (29, true), (30, true), (31, true), (32, true)]
      (fun x => Below w4.heap.size w4 x) (by kernel_rfl) (by kernel_rfl) (by kernel_rfl) (by kernel_rfl) (fun _ _ d _ _ h => by cases d <;> exact h) ((Below.refl _ _).drew) ?_
    simp only [planOps, List.getElem?_toArray, List.getElem?_cons_zero, List.getElem?_cons_succ]
    repeat (first
      | (refine wpS_skip (by rfl) ?_; simp only [Act.put, List.setIfInBounds_toArray, List.set_cons_zero, List.set_cons_succ])
      | (refine wpS_q ?_ (by rfl) ?_ ?_; rotate_left; (focus (intro z hz; go_simp; rfl)); simp only [Act.put, List.setIfInBounds_toArray, List.set_cons_zero, List.set_cons_succ]))
    refine wpS_l (by rfl) (fun K hK => ?_)
    go_wp2_with fail
    refine (word_any w4.drew _ n _ xs x (by exact hO4) (by have := HN.out; omega) hx64).mono ?_
    rintro e w5 ⟨A5, N5, c5, rfl, hO5, hb5⟩
    have hs5 : Below w4.heap.size w4 w5 := drew_below.trans hb5
    refine hK _ _ (fun z => Below w5.heap.size w5 z) (Below.refl _ _) (below_step hs5) ?_
    clear hK
    have q5 : ∀ z, Below w5.heap.size w5 z → (convert 22 9 (.slice A5 N5 c5)).run Try.prog z = .ok (.string (bstr (xs ++ be 8 x))) z := fun z hx => conv_str (hO5.reads.below hx) _
    repeat (first
      | (refine wpS_skip (by rfl) ?_; simp only [Act.put, List.setIfInBounds_toArray, List.set_cons_zero, List.set_cons_succ])
      | (refine wpS_q ?_ (by rfl) ?_ ?_; rotate_left; (focus (intro z hz; go_simp; rfl)); simp only [Act.put, List.setIfInBounds_toArray, List.set_cons_zero, List.set_cons_succ]))
    clear q5
    refine wpS_l (by rfl) (fun K hK => ?_)
    go_wp2_with fail
    refine (rword_any w5 _ n _ xs x (hA4.below hs5) (by have := HN.out; omega) hx64).mono ?_
    rintro e w6 ⟨A6, N6, c6, rfl, hO6, hb6⟩
    have hs6 := hs5.trans (hb6.mono hs5.size)
    refine hK _ _ (fun z => Below w6.heap.size w6 z) (Below.refl _ _) (below_step hb6) ?_
    clear hK
    have q6 : ∀ z, Below w6.heap.size w6 z → (convert 22 9 (.slice A6 N6 c6)).run Try.prog z = .ok (.string (bstr (xs ++ be 8 x))) z := fun z hx => conv_str (hO6.reads.below hx) _
    have hq := beq_self_eq_true (bstr (xs ++ be 8 x)).toList
    repeat (first
      | (refine wpS_skip (by rfl) ?_; simp only [Act.put, List.setIfInBounds_toArray, List.set_cons_zero, List.set_cons_succ])
      | (refine wpS_q ?_ (by rfl) ?_ ?_; rotate_left; (focus (intro z hz; go_simp; rfl)); simp only [Act.put, List.setIfInBounds_toArray, List.set_cons_zero, List.set_cons_succ]))
    clear q6 hq
    refine wpS_l (by rfl) (fun K hK => ?_)
    go_wp2_with fail
    refine (half_any w6 _ n _ xs y (hO4.below hs6) (by have := HN.out; omega) hy16).mono ?_
    rintro e w7 ⟨A7, N7, c7, rfl, hO7, hb7⟩
    have hs7 := hs6.trans (hb7.mono hs6.size)
    refine hK _ _ (fun z => Below w7.heap.size w7 z) (Below.refl _ _) (below_step hb7) ?_
    clear hK
    have q7 : ∀ z, Below w7.heap.size w7 z → (convert 22 9 (.slice A7 N7 c7)).run Try.prog z = .ok (.string (bstr (xs ++ be 2 y))) z := fun z hx => conv_str (hO7.reads.below hx) _
    repeat (first
      | (refine wpS_skip (by rfl) ?_; simp only [Act.put, List.setIfInBounds_toArray, List.set_cons_zero, List.set_cons_succ])
      | (refine wpS_q ?_ (by rfl) ?_ ?_; rotate_left; (focus (intro z hz; go_simp; rfl)); simp only [Act.put, List.setIfInBounds_toArray, List.set_cons_zero, List.set_cons_succ]))
    clear q7
    refine wpS_l (by rfl) (fun K hK => ?_)
    go_wp2_with fail
    refine (rhalf_any w7 _ n _ xs y (hA4.below hs7) (by have := HN.out; omega) hy16).mono ?_
    rintro e w8 ⟨A8, N8, c8, rfl, hO8, hb8⟩
    have hs8 := hs7.trans (hb8.mono hs7.size)
    refine hK _ _ (fun z => Below w8.heap.size w8 z) (Below.refl _ _) (below_step hb8) ?_
    clear hK
    have q8 : ∀ z, Below w8.heap.size w8 z → (convert 22 9 (.slice A8 N8 c8)).run Try.prog z = .ok (.string (bstr (xs ++ be 2 y))) z := fun z hx => conv_str (hO8.reads.below hx) _
    have q9 : ∀ z, Below w8.heap.size w8 z → (convert 22 9 (.slice A3 N3 c3)).run Try.prog z = .ok (.string (bstr (textZ xs s))) z := fun z hx => conv_str ((hX4.below hs8).below hx) _
    have q10 : ∀ z, Below w8.heap.size w8 z → (convert 22 9 (.slice A4 N4 c4)).run Try.prog z = .ok (.string (bstr (textZ xs s))) z := fun z hx => conv_str ((hr4.below hs8).below hx) _
    have hq1 := beq_self_eq_true (bstr (xs ++ be 2 y)).toList
    have hq2 := beq_self_eq_true (bstr (textZ xs s)).toList
    have hq3 := beq_self_eq_true (textE s)
    repeat (first
      | (refine wpS_skip (by rfl) ?_; simp only [Act.put, List.setIfInBounds_toArray, List.set_cons_zero, List.set_cons_succ])
      | (refine wpS_q ?_ (by rfl) ?_ ?_; rotate_left; (focus (intro z hz; go_simp; rfl)); simp only [Act.put, List.setIfInBounds_toArray, List.set_cons_zero, List.set_cons_succ]))
    clear q8 q9 q10 hq1 hq2 hq3
    have hb8' := hb4'.trans (hs8.mono hb4'.size)
    have hB8 := hB4.below hs8 hB4.lt
    have hA8 := hA4.below hs8
    clear hs5 hs6 hs7 hs8 hb5 hb6 hb7 hb8 hO5 hO6 hO7 hO8 hO4 hX4 hr4 hb4' hB4 hA4
    refine wpS_nil ?_
    go_wp2_with fail
    have hz := hB8.reads (xs ++ List.replicate 32 0) (by simp [bvs, bv, -List.reduceReplicate]; rw [List.take_of_length_le (by simp)])
    rw [show (xs ++ List.replicate 32 (0 : UInt8)).length = n + 32 by simp [hl]] at hz
    clear hB8
    go_loopw [16] (fun i wr => ∃ k q : Nat, k ≤ n + 32 ∧ i = .int .i64 k ∧ wr = w8.drewN q) (fun i _ => n + 32 - (intOf i).toNat)
    case atStart => exact ⟨0, 0, by omega, rfl, rfl⟩
    case round =>
      obtain ⟨k, q, hkn, rfl, rfl⟩ := hrel
      by_cases h1 : k < n + 32
      · obtain ⟨ad, he, hb, hc⟩ := hz.at_ h1
        cases he
        rw [add_at] at hc
        by_cases h2 : k < n
        · obtain ⟨ad, rfl, hb2, hc2⟩ := hA8.at_ h2
          have e0 : (xs ++ List.replicate 32 (0 : UInt8)).getD k 0 = xs.getD k 0 := by simp [List.getD_eq_getElem?_getD, List.getElem?_append, hl, h2]
          rw [e0] at hc
          generalize xs.getD k 0 = x at *
          have hq := bne_self_eq_false ((x.toNat : Int))
          have g1 : (0 : Int) ≤ (k : Int) := by omega
          have g2 : (k : Int) < (n : Int) := by omega
          have g3 : (k : Int) < (n : Int) + 32 := by omega
          have g4 : (n ≤ k) = False := by simp; omega
          go_wp2_with fail
          go_quiet (fail)
          go_wp2_with fail
          exact ⟨⟨k + 1, q + nq, by omega, by go_num, by first | rfl | rw [World.drewN_drewN]⟩, by simp [intOf]; omega⟩
        · have e0 : (xs ++ List.replicate 32 (0 : UInt8)).getD k 0 = 0 := by
            rw [List.getD_eq_getElem?_getD, List.getElem?_append_right (by omega), List.getElem?_replicate]
            split <;> rfl
          rw [e0] at hc
          have hc : w8.cell? ⟨w.heap.size, k, none⟩ = some (.int .u8 0) := hc
          have g1 : (0 : Int) ≤ (k : Int) := by omega
          have g2 : ¬ (k : Int) < (n : Int) := by omega
          have g3 : (k : Int) < (n : Int) + 32 := by omega
          have g4 : (n : Int) ≤ (k : Int) := by omega
          go_wp2_with fail
          go_quiet (fail)
          go_wp2_with fail
          exact ⟨⟨k + 1, q + nq, by omega, by go_num, by first | rfl | rw [World.drewN_drewN]⟩, by simp [intOf]; omega⟩
      · have g3 : ¬ (k : Int) < (n : Int) + 32 := by omega
        go_wp2_with (go_at_call 9; refine (works_any _).mono ?_; rintro e w9 ⟨rfl, hb9⟩)
        go_ret
        exact ⟨rfl, hb8'.trans (Below.mono (Below.trans (Below.mono below_drewN (Nat.le_refl _)) hb9) hb8'.size)⟩
end Go.Proofs.Ytohfgplaocgadaa
