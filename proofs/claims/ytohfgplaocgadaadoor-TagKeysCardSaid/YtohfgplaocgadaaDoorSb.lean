/- sha: the words of a block. -/
import Derived.Test.YtohfgplaocgadaaDoorSa
import Derived.Test.YtohfgplaocgadaaDoorArr
import Derived.Laws.BitsLemmas
namespace Go.Proofs.YtohfgplaocgadaaDoor
open Go.RowKit Go.Rat
theorem i64x32 : (Tryd.prog.info? 46).map (·.size) = some 64 := by kernel_rfl
theorem i8x32 : (Tryd.prog.info? 23).map (·.size) = some 8 := by kernel_rfl
theorem i64x8 : (Tryd.prog.info? 24).map (·.size) = some 64 := by kernel_rfl
/-- The first j bytes of word i, as a number. -/
def part (xs : List UInt8) (i : Nat) : Nat → Nat
  | 0 => 0
  | j + 1 => part xs i j * 256 + (xs.getD (4 * i + j) 0).toNat
theorem part_lt (xs : List UInt8) (i : Nat) : ∀ j, part xs i j < 256 ^ j
  | 0 => by simp [part]
  | j + 1 => by
    have := part_lt xs i j
    have := (xs.getD (4 * i + j) 0).toNat_lt
    rw [part, Nat.pow_succ]
    omega
theorem or_snoc32 (a b : Nat) (ha : a < 16777216) (hb : b < 256) : bits .or .u32 ((a : Int) * 256 % 4294967296) (b : Int) = ((a * 256 + b : Nat) : Int) := by
  rw [Int.emod_eq_of_lt (by omega) (by omega), show (a : Int) * 256 = ((a * 256 : Nat) : Int) from by omega]
  have hw : ∀ n : Int, 0 ≤ n → n < 2 ^ 32 → IntKind.u32.wrap n = n := fun n h0 h1 => by simp [IntKind.wrap, IntKind.bits, IntKind.signed]; omega
  rw [(bits_nat .u32 32 (by decide) hw (a * 256) b (by omega) (by omega)).2]
  have := Nat.shiftLeft_add_eq_or_of_lt (i := 8) (b := b) (by omega) a
  rw [Nat.shiftLeft_eq] at this
  rw [← this]
def ws1 (xs : List UInt8) : Nat → List Int
  | 0 => List.replicate 64 0
  | i + 1 => (ws1 xs i).set i (part xs i 4 : Int)
theorem ws1_length (xs : List UInt8) (i : Nat) : (ws1 xs i).length = 64 := by induction i <;> simp_all [ws1]
theorem ws1_far (xs : List UInt8) : ∀ (i j : Nat), i ≤ j → j < 64 → (ws1 xs i).getD j 0 = 0
  | 0, j, _, hj => by
    rw [List.getD_eq_getElem?_getD, ws1, List.getElem?_replicate]
    split <;> rfl
  | i + 1, j, h, hj => by
    have := ws1_far xs i j (by omega) hj
    rw [List.getD_eq_getElem?_getD] at this ⊢
    rw [ws1, List.getElem?_set_ne (by omega)]
    exact this
theorem set_get (l : List Int) (k : Nat) (x : Int) (hk : k < l.length) : (l.set k x).getD k 0 = x := by
  rw [List.getD_eq_getElem?_getD, List.getElem?_set_self hk]
  rfl
theorem ws1_self (xs : List UInt8) (k : Nat) (hk : k < 64) : (ws1 xs k).set k ((part xs k 0 : Nat) : Int) = ws1 xs k := by
  have h1 := ws1_length xs k
  have := ws1_far xs k k (Nat.le_refl _) hk
  rw [List.getD_eq_getElem?_getD, List.getElem?_eq_getElem (by omega), Option.getD_some] at this
  show (ws1 xs k).set k (0 : Int) = _
  exact this ▸ List.set_getElem_self _
/-- The word that comes of four others. -/
def sched (x16 x15 x7 x2 : Int) : Int := (x16 + bits .xor .u32 (bits .xor .u32 (rotF x15 7) (rotF x15 18)) (x15 / 8) + x7 + bits .xor .u32 (bits .xor .u32 (rotF x2 17) (rotF x2 19)) (x2 / 1024)) % 4294967296
def ws2 (xs : List UInt8) : Nat → List Int
  | 0 => ws1 xs 16
  | k + 1 => if k < 16 then ws1 xs 16 else (ws2 xs k).set k (sched ((ws2 xs k).getD (k - 16) 0) ((ws2 xs k).getD (k - 15) 0) ((ws2 xs k).getD (k - 7) 0) ((ws2 xs k).getD (k - 2) 0))
theorem ws2_length (xs : List UInt8) (i : Nat) : (ws2 xs i).length = 64 := by
  induction i with
  | zero => exact ws1_length xs 16
  | succ k ih =>
    rw [ws2]
    split
    · exact ws1_length xs 16
    · rw [List.length_set, ih]
theorem ws2_succ (xs : List UInt8) (k : Nat) (hk : 16 ≤ k) : ws2 xs (k + 1) = (ws2 xs k).set k (sched ((ws2 xs k).getD (k - 16) 0) ((ws2 xs k).getD (k - 15) 0) ((ws2 xs k).getD (k - 7) 0) ((ws2 xs k).getD (k - 2) 0)) := by
  rw [ws2, if_neg (by omega)]
theorem cell_set_ne (w : World) (g i j : Nat) (v : Value) (h : i ≠ j) : (w.setCell ⟨g, i, none⟩ v).cell? ⟨g, j, none⟩ = w.cell? ⟨g, j, none⟩ := by
  simp only [World.cell?, World.setCell, Array.getElem?_modify]
  by_cases hg : g < w.heap.size
  · rw [Array.getElem?_eq_getElem hg]
    simp only [if_true, Option.map_some]
    cases w.heap[g] <;> simp [h]
  · rw [Array.getElem?_eq_none (by omega)]
    rfl
theorem ws2_16 (xs : List UInt8) : ws2 xs 16 = ws1 xs 16 := rfl
set_option maxRecDepth 8000 in
set_option maxHeartbeats 800000 in
theorem words_any (n : Nat) (hn64 : n = 64) (w : World) (g : Nat) (t : TypeId) (xs : List UInt8) (hB : Blk w g t (bvs xs).toArray) (hl : xs.length = 64) : Calls Tryd.prog 28 #[.pointer (some ⟨g, 0, none⟩)] w fun e w' => e = .returned (.agg (u32s (ws2 xs n)).toArray) ∧ Below w.heap.size w w' := by
  obtain ⟨tt, hT⟩ : ∃ tt, ws2 xs n = tt := ⟨_, rfl⟩
  rw [hT]
  have HT := Lib.hid hT
  have HN := Lib.hid hn64
  clear hT hn64
  go_enter Tryd.func28, Tryd.ntmps28
  go_wp2_with fail
  have hz := Blk.new w 46 (u32s (List.replicate 64 0)).toArray
  have hb0 := below_alloc w (.cells (u32s (List.replicate 64 0)).toArray 46)
  go_loopw [11] (fun i wr => ∃ k : Nat, k ≤ 16 ∧ i = .int .i64 k ∧ Blk wr w.heap.size 46 (u32s (ws1 xs k)).toArray ∧ Below w.heap.size w wr) (fun i _ => 16 - (intOf i).toNat)
  case atStart => exact ⟨0, by omega, rfl, hz, hb0⟩
  case round =>
    obtain ⟨k, hk, rfl, hW, hb⟩ := hrel
    by_cases hlt : k < 16
    · have g1 : (0 : Int) ≤ (k : Int) := by omega
      have g2 : (k : Int) < 16 := by omega
      have g3 : (4 : Int) * (k : Int) ≤ 4 * (k : Int) + 4 := by omega
      have g4 : (4 : Int) * (k : Int) + 4 ≤ 64 := by omega
      have g5 : (0 : Int) ≤ 4 * (k : Int) := by omega
      have hl1 := ws1_length xs k
      go_wp2_with fail
      go_loopw [23] (fun i wq => ∃ j : Nat, j ≤ 4 ∧ i = .int .i64 j ∧ Blk wq w.heap.size 46 (u32s ((ws1 xs k).set k (part xs k j : Int))).toArray ∧ Below w.heap.size w wq) (fun i _ => 4 - (intOf i).toNat)
      case atStart => exact ⟨0, by omega, rfl, by rw [ws1_self xs k (by omega)]; exact hW, hb⟩
      case round =>
        obtain ⟨j, hj, rfl, hW2, hb2⟩ := hrel
        by_cases hlj : j < 4
        · have c1 := u32s_at hW2 (i := k) (by simp [hl1]; omega)
          rw [set_get _ _ _ (by omega)] at c1
          have f1 := hW2.frozen k
          have c2 := bytes_at (hB.below hb2 hB.lt) (i := 4 * k + j) (by omega)
          have g6 : (0 : Int) ≤ (j : Int) := by omega
          have g7 : (j : Int) < 4 := by omega
          have hp := part_lt xs k j
          have hp2 : part xs k j < 16777216 := Nat.lt_of_lt_of_le hp (Nat.le_trans (Nat.pow_le_pow_right (by omega) (show j ≤ 3 by omega)) (by decide))
          have hor := or_snoc32 (part xs k j) (xs.getD (4 * k + j) 0).toNat hp2 (xs.getD (4 * k + j) 0).toNat_lt
          rw [show part xs k j * 256 + (xs.getD (4 * k + j) 0).toNat = part xs k (j + 1) from rfl] at hor
          have hy := (xs.getD (4 * k + j) 0).toNat_lt
          generalize (xs.getD (4 * k + j) 0).toNat = y at *
          rw [← Int.emod_eq_of_lt (show (0 : Int) ≤ (y : Int) by omega) (show (y : Int) < 4294967296 by omega)] at hor
          have HO := Lib.hid hor
          clear hor hp hp2 hy
          go_wp2_with fail
          rw [HO.out]
          have h5 := hW2.set_ k (.int .u32 (part xs k (j + 1) : Int))
          rw [u32s_set, List.set_set] at h5
          exact ⟨⟨j + 1, by omega, by go_num, h5, hb2.grown (grownBy_set wr w.heap.size k _) hb2.size (fun q hq => by cases hq; exact Nat.le_refl _)⟩, by simp [intOf]; omega⟩
        · obtain rfl : j = 4 := by omega
          go_wp2_with fail
          exact ⟨⟨k + 1, by omega, by go_num, hW2, hb2⟩, by simp [intOf]; omega⟩
    · obtain rfl : k = 16 := by omega
      go_wp2_with fail
      go_loopw [6] (fun i wr => ∃ k : Nat, 16 ≤ k ∧ k ≤ 64 ∧ i = .int .i64 k ∧ Blk wr w.heap.size 46 (u32s (ws2 xs k)).toArray ∧ Below w.heap.size w wr) (fun i _ => 64 - (intOf i).toNat)
      case atStart => exact ⟨16, by omega, by omega, rfl, hW, hb⟩
      case round =>
        obtain ⟨k, hk16, hk, rfl, hW, hb⟩ := hrel
        by_cases hlt : k < 64
        · have hl1 := ws2_length xs k
          have c1 := u32s_at hW (i := k - 15) (by omega)
          have c2 := u32s_at hW (i := k - 2) (by omega)
          have c3 := u32s_at hW (i := k - 16) (by omega)
          have c4 := u32s_at hW (i := k - 7) (by omega)
          have f1 := hW.frozen k
          have c5 := u32s_at hW (i := k) (by omega)
          obtain ⟨x0, e0⟩ : ∃ x, (ws2 xs k).getD k 0 = x := ⟨_, rfl⟩
          rw [e0] at c5
          clear e0
          obtain ⟨x15, e15⟩ : ∃ x, (ws2 xs k).getD (k - 15) 0 = x := ⟨_, rfl⟩
          obtain ⟨x2, e2⟩ : ∃ x, (ws2 xs k).getD (k - 2) 0 = x := ⟨_, rfl⟩
          obtain ⟨x16, e16⟩ : ∃ x, (ws2 xs k).getD (k - 16) 0 = x := ⟨_, rfl⟩
          obtain ⟨x7, e7⟩ : ∃ x, (ws2 xs k).getD (k - 7) 0 = x := ⟨_, rfl⟩
          rw [e15] at c1
          rw [e2] at c2
          rw [e16] at c3
          rw [e7] at c4
          have n1 : ((k : Int) - 15).toNat = k - 15 := by omega
          have n2 : ((k : Int) - 2).toNat = k - 2 := by omega
          have n3 : ((k : Int) - 16).toNat = k - 16 := by omega
          have n4 : ((k : Int) - 7).toNat = k - 7 := by omega
          have r1 : IntKind.i64.wrap ((k : Int) - 15) = (k : Int) - 15 := IntWalk.i64_in _ (by omega)
          have r2 : IntKind.i64.wrap ((k : Int) - 2) = (k : Int) - 2 := IntWalk.i64_in _ (by omega)
          have r3 : IntKind.i64.wrap ((k : Int) - 16) = (k : Int) - 16 := IntWalk.i64_in _ (by omega)
          have r4 : IntKind.i64.wrap ((k : Int) - 7) = (k : Int) - 7 := IntWalk.i64_in _ (by omega)
          have d15 : (15 : Int) ≤ (k : Int) := by omega
          have d2 : (2 : Int) ≤ (k : Int) := by omega
          have d16 : (16 : Int) ≤ (k : Int) := by omega
          have d7 : (7 : Int) ≤ (k : Int) := by omega
          have m15 : (k : Int) - 15 < 64 := by omega
          have m2 : (k : Int) - 2 < 64 := by omega
          have m16 : (k : Int) - 16 < 64 := by omega
          have m7 : (k : Int) - 7 < 64 := by omega
          have HK := Lib.hid e15
          have HK2 := Lib.hid e2
          have HK16 := Lib.hid e16
          have HK7 := Lib.hid e7
          clear e15 e2 e16 e7
          go_wp2_with fail
          refine wp_region_plan [(0, true), (1, true), (2, true), (3, true), (4, true), (5, true), (6, true), (7, true), (8, true), (9, true)]
            (fun z => Below wr.heap.size wr z) (by kernel_rfl) (by kernel_rfl) (by kernel_rfl) (by kernel_rfl) (fun _ _ d _ _ h => by cases d <;> exact h) ((Below.refl _ _).drew) ?_
          simp only [planOps, List.getElem?_toArray, List.getElem?_cons_zero, List.getElem?_cons_succ]
          have q1 : ∀ z, Below wr.heap.size wr z → z.cell? ⟨w.heap.size, k - 15, none⟩ = some (.int .u32 x15) := fun z hz => (hz.cell (p := ⟨w.heap.size, k - 15, none⟩) hW.lt).trans c1
          have q2 : ∀ z, Below wr.heap.size wr z → z.cell? ⟨w.heap.size, k - 2, none⟩ = some (.int .u32 x2) := fun z hz => (hz.cell (p := ⟨w.heap.size, k - 2, none⟩) hW.lt).trans c2
          have q3 : ∀ z, Below wr.heap.size wr z → z.cell? ⟨w.heap.size, k - 16, none⟩ = some (.int .u32 x16) := fun z hz => (hz.cell (p := ⟨w.heap.size, k - 16, none⟩) hW.lt).trans c3
          have q4 : ∀ z, Below wr.heap.size wr z → z.cell? ⟨w.heap.size, k - 7, none⟩ = some (.int .u32 x7) := fun z hz => (hz.cell (p := ⟨w.heap.size, k - 7, none⟩) hW.lt).trans c4
          repeat (first
            | (refine wpS_skip (by rfl) ?_; simp only [Act.put, List.setIfInBounds_toArray, List.set_cons_zero, List.set_cons_succ])
            | (refine wpS_q ?_ (by rfl) ?_ ?_; rotate_left; (focus (intro z hz; (try dsimp only at hz); go_simp; rfl)); simp only [Act.put, List.setIfInBounds_toArray, List.set_cons_zero, List.set_cons_succ]))
          clear q1 q2 q3 q4
          refine wpS_nil ?_
          go_wp2_with fail
          refine wp_region_plan [(0, true), (1, true), (2, true), (3, true), (4, true), (5, true), (7, true), (10, true), (11, true), (14, true), (15, true), (16, true), (17, true), (19, true), (21, true), (24, true), (25, true), (6, false), (8, false), (9, true), (12, true), (13, true), (18, true), (20, false), (22, false), (23, true), (26, true), (27, true), (28, true), (29, false)]
            (fun z => z.cell? ⟨w.heap.size, k - 16, none⟩ = some (.int .u32 x16) ∧ z.cell? ⟨w.heap.size, k - 7, none⟩ = some (.int .u32 x7)) (by kernel_rfl) (by kernel_rfl) (by kernel_rfl) (by kernel_rfl) (fun _ _ d _ _ h => by cases d <;> exact h) ⟨c3, c4⟩ ?_
          simp only [planOps, List.getElem?_toArray, List.getElem?_cons_zero, List.getElem?_cons_succ]
          repeat (first
            | (refine wpS_skip (by rfl) ?_; simp only [Act.put, List.setIfInBounds_toArray, List.set_cons_zero, List.set_cons_succ])
            | (refine wpS_q ?_ (by rfl) ?_ ?_; rotate_left; (focus (intro z hz; (try dsimp only at hz); go_simp; rfl)); simp only [Act.put, List.setIfInBounds_toArray, List.set_cons_zero, List.set_cons_succ]))
          refine wpS_l (by rfl) (fun Kq hK => ?_)
          go_wp2_with fail
          refine (turn_any _ x15 7 (by omega) (by omega)).mono ?_
          rintro e w' ⟨rfl, rfl⟩
          refine hK _ _ (fun z => z.cell? ⟨w.heap.size, k - 16, none⟩ = some (.int .u32 x16) ∧ z.cell? ⟨w.heap.size, k - 7, none⟩ = some (.int .u32 x7)) ⟨c3, c4⟩ (fun _ h => h) ?_
          clear hK
          repeat (first
            | (refine wpS_skip (by rfl) ?_; simp only [Act.put, List.setIfInBounds_toArray, List.set_cons_zero, List.set_cons_succ])
            | (refine wpS_q ?_ (by rfl) ?_ ?_; rotate_left; (focus (intro z hz; (try dsimp only at hz); go_simp; rfl)); simp only [Act.put, List.setIfInBounds_toArray, List.set_cons_zero, List.set_cons_succ]))
          refine wpS_l (by rfl) (fun Kq hK => ?_)
          go_wp2_with fail
          refine (turn_any _ x15 18 (by omega) (by omega)).mono ?_
          rintro e w' ⟨rfl, rfl⟩
          refine hK _ _ (fun z => z.cell? ⟨w.heap.size, k - 16, none⟩ = some (.int .u32 x16) ∧ z.cell? ⟨w.heap.size, k - 7, none⟩ = some (.int .u32 x7)) ⟨c3, c4⟩ (fun _ h => h) ?_
          clear hK
          repeat (first
            | (refine wpS_skip (by rfl) ?_; simp only [Act.put, List.setIfInBounds_toArray, List.set_cons_zero, List.set_cons_succ])
            | (refine wpS_q ?_ (by rfl) ?_ ?_; rotate_left; (focus (intro z hz; (try dsimp only at hz); go_simp; rfl)); simp only [Act.put, List.setIfInBounds_toArray, List.set_cons_zero, List.set_cons_succ]))
          refine wpS_l (by rfl) (fun Kq hK => ?_)
          go_wp2_with fail
          refine (turn_any _ x2 17 (by omega) (by omega)).mono ?_
          rintro e w' ⟨rfl, rfl⟩
          refine hK _ _ (fun z => z.cell? ⟨w.heap.size, k - 16, none⟩ = some (.int .u32 x16) ∧ z.cell? ⟨w.heap.size, k - 7, none⟩ = some (.int .u32 x7)) ⟨c3, c4⟩ (fun _ h => h) ?_
          clear hK
          repeat (first
            | (refine wpS_skip (by rfl) ?_; simp only [Act.put, List.setIfInBounds_toArray, List.set_cons_zero, List.set_cons_succ])
            | (refine wpS_q ?_ (by rfl) ?_ ?_; rotate_left; (focus (intro z hz; (try dsimp only at hz); go_simp; rfl)); simp only [Act.put, List.setIfInBounds_toArray, List.set_cons_zero, List.set_cons_succ]))
          refine wpS_l (by rfl) (fun Kq hK => ?_)
          go_wp2_with fail
          refine (turn_any _ x2 19 (by omega) (by omega)).mono ?_
          rintro e w' ⟨rfl, rfl⟩
          refine hK _ _ (fun z => z.cell? ⟨w.heap.size, k - 16, none⟩ = some (.int .u32 x16) ∧ z.cell? ⟨w.heap.size, k - 7, none⟩ = some (.int .u32 x7)) ⟨c3, c4⟩ (fun _ h => h) ?_
          clear hK
          repeat (first
            | (refine wpS_skip (by rfl) ?_; simp only [Act.put, List.setIfInBounds_toArray, List.set_cons_zero, List.set_cons_succ])
            | (refine wpS_q ?_ (by rfl) ?_ ?_; rotate_left; (focus (intro z hz; (try dsimp only at hz); go_simp; rfl)); simp only [Act.put, List.setIfInBounds_toArray, List.set_cons_zero, List.set_cons_succ]))
          refine wpS_l (by rfl) (fun Kq hK => ?_)
          go_wp2_with fail
          refine hK _ _ (fun z => z.cell? ⟨w.heap.size, k - 16, none⟩ = some (.int .u32 x16) ∧ z.cell? ⟨w.heap.size, k - 7, none⟩ = some (.int .u32 x7)) ⟨(cell_set_ne wr w.heap.size k (k - 16) _ (by omega)).trans c3, (cell_set_ne wr w.heap.size k (k - 7) _ (by omega)).trans c4⟩ (fun _ h => h) ?_
          clear hK
          refine wpS_nil ?_
          go_wp2_with fail
          have h5 := hW.set_ k (.int .u32 (sched x16 x15 x7 x2))
          rw [u32s_set, ← HK16.out, ← HK.out, ← HK7.out, ← HK2.out, ← ws2_succ xs k hk16, HK16.out, HK.out, HK7.out, HK2.out] at h5
          exact ⟨⟨k + 1, by omega, by omega, by go_num, by exact h5, (hb.grown (grownBy_set wr w.heap.size k _) hb.size (fun q hq => by cases hq; exact Nat.le_refl _)).drew.drew⟩, by simp [intOf]; omega⟩
        · have hl1 := ws2_length xs k
          generalize hL : ws2 xs k = L at *
          have HL := Lib.hid hL
          clear hL
          obtain rfl : k = 64 := by omega
          iterate 21 (first | go_values | go_skip | go_guarded | go_step | go_upon | go_back | (simp only [Int.not_lt, Int.not_le] at *; go_simp))
          with_reducible refine wpl_load w.heap.size _ _ Tryd.underlying46 i64x32 hW ((u32s_size _).trans hl1) ?_ ?_
          · rfl
          simp only [Act.put, List.setIfInBounds_toArray, List.set_cons_zero, List.set_cons_succ]
          with_reducible refine wpl_store w.heap.size _ _ _ i64x32 hW ((u32s_size _).trans hl1) ((u32s_size _).trans hl1) (u32s_one _) ?_ ?_ ?_
          · rfl
          · rfl
          rw [hW.setRow_self]
          go_wp2_with fail
          refine bodyPost_ret (results_cell_row rfl _ _ w.heap.size _ _ (0, 0) _ rfl hW Tryd.underlying46 rfl (by rw [u32s_size, hl1]; exact i64x32)) rfl ?_
          have hLt : L = tt := HL.out.symm.trans (by rw [← HN.out]; exact HT.out)
          exact ⟨by rw [hLt], hb⟩
end Go.Proofs.YtohfgplaocgadaaDoor
