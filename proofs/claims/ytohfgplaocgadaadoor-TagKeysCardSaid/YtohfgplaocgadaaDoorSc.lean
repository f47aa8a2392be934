/- sha: Block. -/
import Derived.Test.YtohfgplaocgadaaDoorSb
namespace Go.Proofs.YtohfgplaocgadaaDoor
open Go.RowKit Go.Rat
theorem idx64 (L : List Int) (hL : L.length = 64) (k : Nat) (hk : k < 64) (z : World) : (Instr.index 46 (.agg (u32s L).toArray) (.int .i64 (k : Int))).run Tryd.prog z = .ok (.int .u32 (L.getD k 0)) z := by
  have g1 : (0 : Int) ≤ (k : Int) := by omega
  have g2 : (k : Int) < 64 := by omega
  have hc : (u32s L)[k]? = some (.int .u32 (L.getD k 0)) := by
    simp [u32s, List.getElem?_eq_getElem (show k < L.length by omega), List.getD_eq_getElem?_getD]
  obtain ⟨x, hx⟩ : ∃ x, L.getD k 0 = x := ⟨_, rfl⟩
  rw [hx] at hc ⊢
  unfold Instr.index
  go_simp
theorem idx8 (L : List Int) (hL : L.length = 8) (k : Nat) (hk : k < 8) (z : World) : (Instr.index 23 (.agg (u32s L).toArray) (.int .i64 (k : Int))).run Tryd.prog z = .ok (.int .u32 (L.getD k 0)) z := by
  have g1 : (0 : Int) ≤ (k : Int) := by omega
  have g2 : (k : Int) < 8 := by omega
  have hc : (u32s L)[k]? = some (.int .u32 (L.getD k 0)) := by
    simp [u32s, List.getElem?_eq_getElem (show k < L.length by omega), List.getD_eq_getElem?_getD]
  obtain ⟨x, hx⟩ : ∃ x, L.getD k 0 = x := ⟨_, rfl⟩
  rw [hx] at hc ⊢
  unfold Instr.index
  go_simp
/-- The sums of a state and what came of it, number by number. -/
def adds (s f : List Int) : Nat → List Int
  | 0 => s
  | k + 1 => (adds s f k).set k (((adds s f k).getD k 0 + f.getD k 0) % 4294967296)
theorem adds_length (s f : List Int) (k : Nat) : (adds s f k).length = s.length := by induction k <;> simp_all [adds]
structure S8 where
  (a b c d e f g h : Int)
/-- The table of the standard lies at the variable. -/
def Tab (w : World) (tb : List Int) : Prop := ∀ i, i < 64 → w.cell? ⟨0, i, none⟩ = some (.int .u32 (tb.getD i 0))
theorem Tab.below {w w' : World} {tb : List Int} (h : Tab w tb) (hb : Below w.heap.size w w') : Tab w' tb := fun i hi => (hb.cell (p := ⟨0, i, none⟩) (block_lt_of_cell (h i hi))).trans (h i hi)
def rndT (s : S8) (k w : Int) : Int :=
  ((((s.h + bits .xor .u32 (bits .xor .u32 (rotF s.e 6) (rotF s.e 11)) (rotF s.e 25)) % 4294967296 + bits .xor .u32 (bits .and .u32 s.e s.f) (bits .and .u32 (bits .xor .u32 IntKind.u32.max s.e) s.g)) % 4294967296 + k) % 4294967296 + w) % 4294967296
def rndU (s : S8) : Int :=
  (bits .xor .u32 (bits .xor .u32 (rotF s.a 2) (rotF s.a 13)) (rotF s.a 22) + bits .xor .u32 (bits .xor .u32 (bits .and .u32 s.a s.b) (bits .and .u32 s.a s.c)) (bits .and .u32 s.b s.c)) % 4294967296
/-- One round. -/
def rnd (s : S8) (k w : Int) : S8 := ⟨(rndT s k w + rndU s) % 4294967296, s.a, s.b, s.c, (s.d + rndT s k w) % 4294967296, s.e, s.f, s.g⟩
def rnds (tb ws : List Int) (s : S8) : Nat → S8
  | 0 => s
  | k + 1 => rnd (rnds tb ws s k) (tb.getD k 0) (ws.getD k 0)
def s8 (l : List Int) : S8 := ⟨l.getD 0 0, l.getD 1 0, l.getD 2 0, l.getD 3 0, l.getD 4 0, l.getD 5 0, l.getD 6 0, l.getD 7 0⟩
theorem list8 {l : List Int} (h : l.length = 8) : ∃ s0 s1 s2 s3 s4 s5 s6 s7, l = [s0, s1, s2, s3, s4, s5, s6, s7] := by
  match l, h with
  | [s0, s1, s2, s3, s4, s5, s6, s7], _ => exact ⟨s0, s1, s2, s3, s4, s5, s6, s7, rfl⟩
def outF (R : S8) : List Int := [R.a, R.b, R.c, R.d, R.e, R.f, R.g, R.h]
/-- What a block makes of a state (n: 64, the rounds). -/
def blockF (n : Nat) (tb sl : List Int) (xs : List UInt8) : List Int := adds sl (outF (rnds tb (ws2 xs n) (s8 sl) n)) 8
set_option maxRecDepth 8000 in
set_option maxHeartbeats 1200000 in
theorem block_any (n : Nat) (hn64 : n = 64) (w : World) (sl : List Int) (hs8 : sl.length = 8) (xs : List UInt8) (hl : xs.length = 64) (tb : List Int) (hT : Tab w tb) : Calls Tryd.prog 11 #[.agg (u32s sl).toArray, .agg (bvs xs).toArray] w fun e w' => e = .returned (.agg (u32s (blockF n tb sl xs)).toArray) ∧ Below w.heap.size w w' := by
  obtain ⟨tt, hTT⟩ : ∃ tt, blockF n tb sl xs = tt := ⟨_, rfl⟩
  rw [hTT]
  have HT := Lib.hid hTT
  clear hTT
  go_enter Tryd.func11, Tryd.ntmps11
  go_wp2_with fail
  obtain ⟨z8, hz8⟩ : ∃ z8 : Array Value, #[.int .u32 0, .int .u32 0, .int .u32 0, .int .u32 0, .int .u32 0, .int .u32 0, .int .u32 0, .int .u32 0] = z8 := ⟨_, rfl⟩
  rw [hz8]
  have hz8' : z8 = (u32s (List.replicate 8 0)).toArray := hz8 ▸ rfl
  clear hz8
  subst hz8'
  have hS := ((Blk.new w 23 (u32s sl).toArray).alloc (.cells (bvs xs).toArray 24)).alloc (.cells (u32s (List.replicate 8 0)).toArray 23)
  have hI := (Blk.new (w.alloc (.cells (u32s sl).toArray 23)) 24 (bvs xs).toArray).alloc (.cells (u32s (List.replicate 8 0)).toArray 23)
  have hR := Blk.new ((w.alloc (.cells (u32s sl).toArray 23)).alloc (.cells (bvs xs).toArray 24)) 23 (u32s (List.replicate 8 0)).toArray
  have hb : Below w.heap.size w (((w.alloc (.cells (u32s sl).toArray 23)).alloc (.cells (bvs xs).toArray 24)).alloc (.cells (u32s (List.replicate 8 0)).toArray 23)) := below_alloc2 (below_alloc2 (below_alloc _ _) (by simp) _) (by simp) _
  have hsz : (((w.alloc (.cells (u32s sl).toArray 23)).alloc (.cells (bvs xs).toArray 24)).alloc (.cells (u32s (List.replicate 8 0)).toArray 23)).heap.size = w.heap.size + 1 + 1 + 1 := by simp
  have hI2 : Blk (((w.alloc (.cells (u32s sl).toArray 23)).alloc (.cells (bvs xs).toArray 24)).alloc (.cells (u32s (List.replicate 8 0)).toArray 23)) (w.heap.size + 1) 24 (bvs xs).toArray := by simpa using hI
  have hR2 : Blk (((w.alloc (.cells (u32s sl).toArray 23)).alloc (.cells (bvs xs).toArray 24)).alloc (.cells (u32s (List.replicate 8 0)).toArray 23)) (w.heap.size + 1 + 1) 23 (u32s (List.replicate 8 0)).toArray := by simpa using hR
  clear hI hR
  generalize (((w.alloc (.cells (u32s sl).toArray 23)).alloc (.cells (bvs xs).toArray 24)).alloc (.cells (u32s (List.replicate 8 0)).toArray 23)) = w1 at *
  obtain ⟨s0, s1, s2, s3, s4, s5, s6, s7, rfl⟩ : ∃ s0 s1 s2 s3 s4 s5 s6 s7, sl = [s0, s1, s2, s3, s4, s5, s6, s7] := list8 hs8
  have hlt : w.heap.size < w1.heap.size := by omega
  have HSZ := Lib.hid hsz
  clear hsz
  have q0 : ∀ z, Below w1.heap.size w1 z → z.cell? ⟨w.heap.size, 0, none⟩ = some (.int .u32 s0) := fun z hz => (hz.cell (p := ⟨w.heap.size, 0, none⟩) hlt).trans (hS.cell 0)
  have q1 : ∀ z, Below w1.heap.size w1 z → z.cell? ⟨w.heap.size, 1, none⟩ = some (.int .u32 s1) := fun z hz => (hz.cell (p := ⟨w.heap.size, 1, none⟩) hlt).trans (hS.cell 1)
  have q2 : ∀ z, Below w1.heap.size w1 z → z.cell? ⟨w.heap.size, 2, none⟩ = some (.int .u32 s2) := fun z hz => (hz.cell (p := ⟨w.heap.size, 2, none⟩) hlt).trans (hS.cell 2)
  have q3 : ∀ z, Below w1.heap.size w1 z → z.cell? ⟨w.heap.size, 3, none⟩ = some (.int .u32 s3) := fun z hz => (hz.cell (p := ⟨w.heap.size, 3, none⟩) hlt).trans (hS.cell 3)
  have q4 : ∀ z, Below w1.heap.size w1 z → z.cell? ⟨w.heap.size, 4, none⟩ = some (.int .u32 s4) := fun z hz => (hz.cell (p := ⟨w.heap.size, 4, none⟩) hlt).trans (hS.cell 4)
  have q5 : ∀ z, Below w1.heap.size w1 z → z.cell? ⟨w.heap.size, 5, none⟩ = some (.int .u32 s5) := fun z hz => (hz.cell (p := ⟨w.heap.size, 5, none⟩) hlt).trans (hS.cell 5)
  have q6 : ∀ z, Below w1.heap.size w1 z → z.cell? ⟨w.heap.size, 6, none⟩ = some (.int .u32 s6) := fun z hz => (hz.cell (p := ⟨w.heap.size, 6, none⟩) hlt).trans (hS.cell 6)
  have q7 : ∀ z, Below w1.heap.size w1 z → z.cell? ⟨w.heap.size, 7, none⟩ = some (.int .u32 s7) := fun z hz => (hz.cell (p := ⟨w.heap.size, 7, none⟩) hlt).trans (hS.cell 7)
  have HN := Lib.hid hn64
  clear hn64
  refine wp_region_plan [(0, true), (1, true), (2, true), (3, true), (4, true), (5, true), (6, true), (7, true), (8, true), (9, true), (10, true), (11, true), (12, true), (13, true), (14, true), (15, true), (16, true), (17, true), (18, true), (19, true), (20, true), (21, true), (22, true), (23, true)]
    (fun z => Below w1.heap.size w1 z) (by kernel_rfl) (by kernel_rfl) (by kernel_rfl) (by kernel_rfl) (fun _ _ d _ _ h => by cases d <;> exact h) ((Below.refl _ _).drew) ?_
  simp only [planOps, List.getElem?_toArray, List.getElem?_cons_zero, List.getElem?_cons_succ]
  repeat (first
    | (refine wpS_skip (by rfl) ?_; simp only [Act.put, List.setIfInBounds_toArray, List.set_cons_zero, List.set_cons_succ])
    | (refine wpS_q ?_ (by rfl) ?_ ?_; rotate_left; (focus (intro z hz; (try dsimp only at hz); go_simp; rfl)); simp only [Act.put, List.setIfInBounds_toArray, List.set_cons_zero, List.set_cons_succ]))
  clear q0 q1 q2 q3 q4 q5 q6 q7
  refine wpS_nil ?_
  obtain ⟨L, hL⟩ : ∃ L, ws2 xs n = L := ⟨_, rfl⟩
  have hLl : L.length = 64 := hL ▸ ws2_length xs n
  have HL := Lib.hid hL
  clear hL
  go_wp2_with (go_at_call 28; refine (words_any n HN.out w1.drew (w.heap.size + 1) 24 xs (by exact hI2) hl).mono ?_; rw [HL.out]; rintro e w2 ⟨rfl, hb2⟩)
  go_loopw [5, 6, 7, 8, 9, 10, 11, 12, 36] (fun a b c d e f g h i wr => ∃ k : Nat, k ≤ 64 ∧ i = .int .i64 k ∧ a = .int .u32 (rnds tb L (s8 [s0, s1, s2, s3, s4, s5, s6, s7]) k).a ∧ b = .int .u32 (rnds tb L (s8 [s0, s1, s2, s3, s4, s5, s6, s7]) k).b ∧ c = .int .u32 (rnds tb L (s8 [s0, s1, s2, s3, s4, s5, s6, s7]) k).c ∧ d = .int .u32 (rnds tb L (s8 [s0, s1, s2, s3, s4, s5, s6, s7]) k).d ∧ e = .int .u32 (rnds tb L (s8 [s0, s1, s2, s3, s4, s5, s6, s7]) k).e ∧ f = .int .u32 (rnds tb L (s8 [s0, s1, s2, s3, s4, s5, s6, s7]) k).f ∧ g = .int .u32 (rnds tb L (s8 [s0, s1, s2, s3, s4, s5, s6, s7]) k).g ∧ h = .int .u32 (rnds tb L (s8 [s0, s1, s2, s3, s4, s5, s6, s7]) k).h ∧ Below w1.heap.size w1 wr) (fun _ _ _ _ _ _ _ _ i _ => 64 - (intOf i).toNat)
  case atStart => exact ⟨0, by omega, rfl, rfl, rfl, rfl, rfl, rfl, rfl, rfl, rfl, drew_below.trans hb2⟩
  case round =>
    obtain ⟨k, hk, rfl, rfl, rfl, rfl, rfl, rfl, rfl, rfl, rfl, hb3⟩ := hrel
    obtain ⟨R, hR8⟩ : ∃ R, rnds tb L (s8 [s0, s1, s2, s3, s4, s5, s6, s7]) k = R := ⟨_, rfl⟩
    rw [hR8]
    obtain ⟨a, b, c, d, e, f, g, hh⟩ := R
    dsimp only
    have HR8 := Lib.hid hR8
    clear hR8
    by_cases hlt64 : k < 64
    · have qi := idx64 L hLl k hlt64
      have qt := (hT.below (hb.trans (hb3.mono hb.size))) k hlt64
      obtain ⟨wk, hwk⟩ : ∃ x, L.getD k 0 = x := ⟨_, rfl⟩
      obtain ⟨tk, htk⟩ : ∃ x, tb.getD k 0 = x := ⟨_, rfl⟩
      rw [hwk] at qi
      rw [htk] at qt
      have HW := Lib.hid hwk
      have HTK := Lib.hid htk
      clear hwk htk
      have g1 : (0 : Int) ≤ (k : Int) := by omega
      have g2 : (k : Int) < 64 := by omega
      go_wp2_with fail
      have hlt0 := block_lt_of_cell qt
      have qz : ∀ z, Below wr.heap.size wr z → z.cell? ⟨0, k, none⟩ = some (.int .u32 tk) := fun z hz => (hz.cell (p := ⟨0, k, none⟩) hlt0).trans qt
      refine wp_region_plan [(0, true), (1, true), (3, true), (6, true), (10, true), (11, true), (12, true), (13, true), (14, true), (15, true), (16, true), (17, true), (19, true), (20, true), (21, true), (23, true), (2, false), (4, false), (5, true), (7, false), (8, true), (9, true), (18, true), (22, true), (24, true), (25, true)]
        (fun z => Below wr.heap.size wr z) (by kernel_rfl) (by kernel_rfl) (by kernel_rfl) (by kernel_rfl) (fun _ _ d _ _ h => by cases d <;> exact h) ((Below.refl _ _).drew) ?_
      simp only [planOps, List.getElem?_toArray, List.getElem?_cons_zero, List.getElem?_cons_succ]
      repeat (first
        | (refine wpS_skip (by rfl) ?_; simp only [Act.put, List.setIfInBounds_toArray, List.set_cons_zero, List.set_cons_succ])
        | (refine wpS_q ?_ (by rfl) ?_ ?_; rotate_left; (focus (intro z hz; (try dsimp only at hz); go_simp; rfl)); simp only [Act.put, List.setIfInBounds_toArray, List.set_cons_zero, List.set_cons_succ]))
      refine wpS_l (by rfl) (fun Kq hK => ?_)
      go_wp2_with fail
      refine (turn_any _ e 6 (by omega) (by omega)).mono ?_
      rintro e' w' ⟨rfl, rfl⟩
      refine hK _ _ (fun z => Below wr.heap.size wr z) ((Below.refl _ _).drew) (fun _ h => h) ?_
      clear hK
      repeat (first
        | (refine wpS_skip (by rfl) ?_; simp only [Act.put, List.setIfInBounds_toArray, List.set_cons_zero, List.set_cons_succ])
        | (refine wpS_q ?_ (by rfl) ?_ ?_; rotate_left; (focus (intro z hz; (try dsimp only at hz); go_simp; rfl)); simp only [Act.put, List.setIfInBounds_toArray, List.set_cons_zero, List.set_cons_succ]))
      refine wpS_l (by rfl) (fun Kq hK => ?_)
      go_wp2_with fail
      refine (turn_any _ e 11 (by omega) (by omega)).mono ?_
      rintro e' w' ⟨rfl, rfl⟩
      refine hK _ _ (fun z => Below wr.heap.size wr z) ((Below.refl _ _).drew) (fun _ h => h) ?_
      clear hK
      repeat (first
        | (refine wpS_skip (by rfl) ?_; simp only [Act.put, List.setIfInBounds_toArray, List.set_cons_zero, List.set_cons_succ])
        | (refine wpS_q ?_ (by rfl) ?_ ?_; rotate_left; (focus (intro z hz; (try dsimp only at hz); go_simp; rfl)); simp only [Act.put, List.setIfInBounds_toArray, List.set_cons_zero, List.set_cons_succ]))
      refine wpS_l (by rfl) (fun Kq hK => ?_)
      go_wp2_with fail
      refine (turn_any _ e 25 (by omega) (by omega)).mono ?_
      rintro e' w' ⟨rfl, rfl⟩
      refine hK _ _ (fun z => Below wr.heap.size wr z) ((Below.refl _ _).drew) (fun _ h => h) ?_
      clear hK
      repeat (first
        | (refine wpS_skip (by rfl) ?_; simp only [Act.put, List.setIfInBounds_toArray, List.set_cons_zero, List.set_cons_succ])
        | (refine wpS_q ?_ (by rfl) ?_ ?_; rotate_left; (focus (intro z hz; (try dsimp only at hz); go_simp; rfl)); simp only [Act.put, List.setIfInBounds_toArray, List.set_cons_zero, List.set_cons_succ]))
      refine wpS_nil ?_
      go_wp2_with fail
      refine (turn_any _ a 2 (by omega) (by omega)).mono ?_
      rintro e' w' ⟨rfl, rfl⟩
      go_wp2_with fail
      refine (turn_any _ a 13 (by omega) (by omega)).mono ?_
      rintro e' w' ⟨rfl, rfl⟩
      go_wp2_with fail
      refine (turn_any _ a 22 (by omega) (by omega)).mono ?_
      rintro e' w' ⟨rfl, rfl⟩
      go_wp2_with fail
      have hN : rnds tb L (s8 [s0, s1, s2, s3, s4, s5, s6, s7]) (k + 1) = rnd ⟨a, b, c, d, e, f, g, hh⟩ tk wk := by rw [rnds, HR8.out, HTK.out, HW.out]
      exact ⟨⟨k + 1, by omega, by go_num, by rw [hN]; rfl, by rw [hN]; rfl, by rw [hN]; rfl, by rw [hN]; rfl, by rw [hN]; rfl, by rw [hN]; rfl, by rw [hN]; rfl, by rw [hN]; rfl, hb3.drew⟩, by simp [intOf]; omega⟩
    · obtain rfl : k = n := by have := HN.out; omega
      have g2 : ¬ (k : Int) < 64 := by omega
      go_wp2_with fail
      obtain ⟨F, hF⟩ : ∃ F, [a, b, c, d, e, f, g, hh] = F := ⟨_, rfl⟩
      have hFl : F.length = 8 := hF ▸ rfl
      have hFa : (#[.int .u32 a, .int .u32 b, .int .u32 c, .int .u32 d, .int .u32 e, .int .u32 f, .int .u32 g, .int .u32 hh] : Array Value) = (u32s F).toArray := hF ▸ rfl
      rw [hFa]
      have HF := Lib.hid hF
      clear hF hFa
      have hb0 := hb.trans (hb3.mono hb.size)
      have hS3 := hS.below hb3 hlt
      go_loopw [107] (fun i wq => ∃ k : Nat, k ≤ 8 ∧ i = .int .i64 k ∧ Blk wq w.heap.size 23 (u32s (adds [s0, s1, s2, s3, s4, s5, s6, s7] F k)).toArray ∧ wr.grownBy wq (some w.heap.size)) (fun i _ => 8 - (intOf i).toNat)
      case atStart => exact ⟨0, by omega, rfl, hS3, World.grownBy.refl _ _⟩
      case round =>
        obtain ⟨j, hj, rfl, hS4, hg4⟩ := hrel
        have hal := adds_length [s0, s1, s2, s3, s4, s5, s6, s7] F j
        by_cases hj8 : j < 8
        · have qi := idx8 F hFl j hj8
          have c1 := u32s_at hS4 (i := j) (by rw [hal]; exact hj8)
          have f1 := hS4.frozen j
          have h5 := hS4.set_ j (.int .u32 (((adds [s0, s1, s2, s3, s4, s5, s6, s7] F j).getD j 0 + F.getD j 0) % 4294967296))
          rw [u32s_set] at h5
          have H5 : Hid (Blk _ w.heap.size 23 (u32s (adds [s0, s1, s2, s3, s4, s5, s6, s7] F (j + 1))).toArray) := Lib.hid h5
          clear h5
          generalize (adds [s0, s1, s2, s3, s4, s5, s6, s7] F j).getD j 0 = y at *
          generalize F.getD j 0 = x at *
          have g1 : (0 : Int) ≤ (j : Int) := by omega
          have g3 : (j : Int) < 8 := by omega
          go_wp2_with fail
          exact ⟨⟨j + 1, by omega, by go_num, H5.out, hg4.trans (grownBy_set _ w.heap.size j _)⟩, by simp [intOf]; omega⟩
        · obtain ⟨G, hG⟩ : ∃ G, adds [s0, s1, s2, s3, s4, s5, s6, s7] F j = G := ⟨_, rfl⟩
          rw [hG] at hS4
          have hGl : G.length = 8 := by rw [← hG, hal]; rfl
          have HG := Lib.hid hG
          clear hG hal
          have g3 : ¬ (j : Int) < 8 := by omega
          have hR4 := (hR2.below hb3 (by have := HSZ.out; omega)).grown hg4 (by intro h; injection h with h; omega)
          have hb4 : Below w.heap.size w _ := hb0.grown hg4 hb0.size (fun q hq => by cases hq; exact Nat.le_refl _)
          repeat (first
            | ((with_reducible refine wpl_load w.heap.size _ _ Tryd.underlying23 i8x32 hS4 ((u32s_size _).trans hGl) ?_ ?_); (focus rfl); simp only [Act.put, List.setIfInBounds_toArray, List.set_cons_zero, List.set_cons_succ])
            | ((with_reducible refine wpl_store (w.heap.size + 1 + 1) _ _ _ i8x32 hR4 (by rw [u32s_size, List.length_replicate]) ((u32s_size _).trans hGl) (u32s_one _) ?_ ?_ ?_); (focus rfl); (focus rfl))
            | go_values | go_skip | go_guarded | go_step | go_upon | go_back | (simp only [Int.not_lt] at *; go_simp))
          have hj8' : j = 8 := by omega
          have hGt : G = tt := by
            rw [← HT.out, ← HG.out, ← HF.out, hj8']
            unfold blockF
            rw [HL.out, HR8.out]
            rfl
          refine bodyPost_ret (results_cell_row rfl _ _ (w.heap.size + 1 + 1) _ _ (0, 0) _ rfl (hR4.setRow _) Tryd.underlying23 rfl (by rw [u32s_size, hGl]; exact i8x32)) rfl ?_
          exact ⟨by rw [hGt], hb4.grown (grownBy_setRow _ _ _) hb4.size (fun q hq => by cases hq; omega)⟩
end Go.Proofs.YtohfgplaocgadaaDoor
