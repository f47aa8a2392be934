/- sha: the turns. -/
import Derived.Test.YtbbcofpdfkhljaaDoorNa
import Derived.Laws.BitsLemmas
import Derived.Laws.CopyOwn
import Derived.Deep.MidRow
import Derived.Lib.SlBytesConst
import Derived.Laws.IdiomStrings
namespace Go.Proofs.YtbbcofpdfkhljaaDoor.H
open Go.RowKit Go.Rat
/-- A turn to the right, as the document's code has it. -/
def rotF (x : Int) (k : Nat) : Int := bits .or .u32 (x / 2 ^ k) (x * 2 ^ (32 - k) % 4294967296)
theorem or_comm32 (a b : Int) : bits .or .u32 a b = bits .or .u32 b a := by simp only [bits, BitVec.or_comm]
theorem and31 : ∀ k : Fin 32, 0 < k.val → bits .and .u64 (IntKind.u64.wrap (-(k.val : Int))) 31 = 32 - (k.val : Int) := by decide +kernel
set_option maxHeartbeats 400000 in
theorem rl_any (w : World) (x : Int) (k : Nat) (hk : k < 32) (hk0 : 0 < k) : Calls Tryd.prog 66 #[.int .u32 x, .int .i64 (-(k : Int))] w fun e w' => e = .returned (.int .u32 (rotF x k)) ∧ w = w' := by
  have hq := and31 ⟨k, hk⟩ hk0
  dsimp only at hq
  have h1 : (0 : Int) ≤ 32 - (k : Int) := by omega
  have h2 : (32 : Int) - (32 - (k : Int)) = (k : Int) := by omega
  have h3 : (32 - (k : Int)).toNat = 32 - k := by omega
  obtain ⟨t, hT⟩ : ∃ t, rotF x k = t := ⟨_, rfl⟩
  rw [hT]
  have HT := Lib.hid hT
  clear hT
  go_enter Tryd.func66, Tryd.ntmps66
  go_wp2_with fail
  go_ret
  exact ⟨by rw [← HT.out]; unfold rotF; rw [or_comm32]; rfl, rfl⟩
set_option maxHeartbeats 400000 in
theorem turn_any (w : World) (x : Int) (k : Nat) (hk : k < 32) (hk0 : 0 < k) : Calls Tryd.prog 65 #[.int .u32 x, .int .i64 (k : Int)] w fun e w' => e = .returned (.int .u32 (rotF x k)) ∧ w = w' := by
  obtain ⟨t, hT⟩ : ∃ t, rotF x k = t := ⟨_, rfl⟩
  rw [hT]
  have HT := Lib.hid hT
  clear hT
  go_enter Tryd.func65, Tryd.ntmps65
  go_wp2_with (go_at_call 66; refine (rl_any _ x k hk hk0).mono ?_; rw [HT.out]; rintro e w1 ⟨rfl, rfl⟩)
  go_ret
  exact ⟨rfl, rfl⟩
set_option maxHeartbeats 400000 in
theorem rot_any (w : World) (x : Int) (k : Nat) (hk : k < 32) (hk0 : 0 < k) : Calls Tryd.prog 58 #[.int .u32 x, .int .u64 (k : Int)] w fun e w' => e = .returned (.int .u32 (rotF x k)) ∧ w = w' := by
  obtain ⟨t, hT⟩ : ∃ t, rotF x k = t := ⟨_, rfl⟩
  rw [hT]
  have HT := Lib.hid hT
  clear hT
  go_enter Tryd.func58, Tryd.ntmps58
  go_wp2_with fail
  go_ret
  exact ⟨by rw [← HT.out]; rfl, rfl⟩
end Go.Proofs.YtbbcofpdfkhljaaDoor.H
namespace Go.Proofs.YtbbcofpdfkhljaaDoor.H
open Go.RowKit Go.Rat
theorem i64x32 : (Tryd.prog.info? 105).map (·.size) = some 64 := by kernel_rfl
theorem i8x32 : (Tryd.prog.info? 92).map (·.size) = some 8 := by kernel_rfl
theorem i64x8 : (Tryd.prog.info? 94).map (·.size) = some 64 := by kernel_rfl
/-- The first j bytes of word i, as a number. -/
def part (xs : List UInt8) (i : Nat) : Nat → Nat
  | 0 => 0
  | j + 1 => part xs i j * 256 + (xs.getD (4 * i + j) 0).toNat
theorem part_lt (xs : List UInt8) (i : Nat) : ∀ j, part xs i j < 256 ^ j
  | 0 => by simp [part]
  | j + 1 => by
    have := part_lt xs i j
    have := (xs.getD (4 * i + j) 0).toNat_lt
    rw [part, Nat.pow_succ]
    omega
theorem or_snoc32 (a b : Nat) (ha : a < 16777216) (hb : b < 256) : bits .or .u32 ((a : Int) * 256 % 4294967296) (b : Int) = ((a * 256 + b : Nat) : Int) := by
  rw [Int.emod_eq_of_lt (by omega) (by omega), show (a : Int) * 256 = ((a * 256 : Nat) : Int) from by omega]
  have hw : ∀ n : Int, 0 ≤ n → n < 2 ^ 32 → IntKind.u32.wrap n = n := fun n h0 h1 => by simp [IntKind.wrap, IntKind.bits, IntKind.signed]; omega
  rw [(bits_nat .u32 32 (by decide) hw (a * 256) b (by omega) (by omega)).2]
  have := Nat.shiftLeft_add_eq_or_of_lt (i := 8) (b := b) (by omega) a
  rw [Nat.shiftLeft_eq] at this
  rw [← this]
def ws1 (xs : List UInt8) : Nat → List Int
  | 0 => List.replicate 64 0
  | i + 1 => (ws1 xs i).set i (part xs i 4 : Int)
theorem ws1_length (xs : List UInt8) (i : Nat) : (ws1 xs i).length = 64 := by induction i <;> simp_all [ws1]
theorem ws1_far (xs : List UInt8) : ∀ (i j : Nat), i ≤ j → j < 64 → (ws1 xs i).getD j 0 = 0
  | 0, j, _, hj => by
    rw [List.getD_eq_getElem?_getD, ws1, List.getElem?_replicate]
    split <;> rfl
  | i + 1, j, h, hj => by
    have := ws1_far xs i j (by omega) hj
    rw [List.getD_eq_getElem?_getD] at this ⊢
    rw [ws1, List.getElem?_set_ne (by omega)]
    exact this
theorem set_get (l : List Int) (k : Nat) (x : Int) (hk : k < l.length) : (l.set k x).getD k 0 = x := by
  rw [List.getD_eq_getElem?_getD, List.getElem?_set_self hk]
  rfl
theorem ws1_self (xs : List UInt8) (k : Nat) (hk : k < 64) : (ws1 xs k).set k ((part xs k 0 : Nat) : Int) = ws1 xs k := by
  have h1 := ws1_length xs k
  have := ws1_far xs k k (Nat.le_refl _) hk
  rw [List.getD_eq_getElem?_getD, List.getElem?_eq_getElem (by omega), Option.getD_some] at this
  show (ws1 xs k).set k (0 : Int) = _
  exact this ▸ List.set_getElem_self _
/-- The word that comes of four others. -/
def sched (x16 x15 x7 x2 : Int) : Int := (x16 + bits .xor .u32 (bits .xor .u32 (rotF x15 7) (rotF x15 18)) (x15 / 8) + x7 + bits .xor .u32 (bits .xor .u32 (rotF x2 17) (rotF x2 19)) (x2 / 1024)) % 4294967296
def ws2 (xs : List UInt8) : Nat → List Int
  | 0 => ws1 xs 16
  | k + 1 => if k < 16 then ws1 xs 16 else (ws2 xs k).set k (sched ((ws2 xs k).getD (k - 16) 0) ((ws2 xs k).getD (k - 15) 0) ((ws2 xs k).getD (k - 7) 0) ((ws2 xs k).getD (k - 2) 0))
theorem ws2_length (xs : List UInt8) (i : Nat) : (ws2 xs i).length = 64 := by
  induction i with
  | zero => exact ws1_length xs 16
  | succ k ih =>
    rw [ws2]
    split
    · exact ws1_length xs 16
    · rw [List.length_set, ih]
theorem ws2_succ (xs : List UInt8) (k : Nat) (hk : 16 ≤ k) : ws2 xs (k + 1) = (ws2 xs k).set k (sched ((ws2 xs k).getD (k - 16) 0) ((ws2 xs k).getD (k - 15) 0) ((ws2 xs k).getD (k - 7) 0) ((ws2 xs k).getD (k - 2) 0)) := by
  rw [ws2, if_neg (by omega)]
theorem cell_set_ne (w : World) (g i j : Nat) (v : Value) (h : i ≠ j) : (w.setCell ⟨g, i, none⟩ v).cell? ⟨g, j, none⟩ = w.cell? ⟨g, j, none⟩ := by
  simp only [World.cell?, World.setCell, Array.getElem?_modify]
  by_cases hg : g < w.heap.size
  · rw [Array.getElem?_eq_getElem hg]
    simp only [if_true, Option.map_some]
    cases w.heap[g] <;> simp [h]
  · rw [Array.getElem?_eq_none (by omega)]
    rfl
theorem ws2_16 (xs : List UInt8) : ws2 xs 16 = ws1 xs 16 := rfl
set_option maxRecDepth 8000 in
set_option maxHeartbeats 800000 in
theorem words_any (n : Nat) (hn64 : n = 64) (w : World) (g : Nat) (t : TypeId) (xs : List UInt8) (hB : Blk w g t (bvs xs).toArray) (hl : xs.length = 64) : Calls Tryd.prog 64 #[.pointer (some ⟨g, 0, none⟩)] w fun e w' => e = .returned (.agg (u32s (ws2 xs n)).toArray) ∧ Below w.heap.size w w' := by
  obtain ⟨tt, hT⟩ : ∃ tt, ws2 xs n = tt := ⟨_, rfl⟩
  rw [hT]
  have HT := Lib.hid hT
  have HN := Lib.hid hn64
  clear hT hn64
  go_enter Tryd.func64, Tryd.ntmps64
  go_wp2_with fail
  have hz := Blk.new w 105 (u32s (List.replicate 64 0)).toArray
  have hb0 := below_alloc w (.cells (u32s (List.replicate 64 0)).toArray 105)
  go_loopw [11] (fun i wr => ∃ k : Nat, k ≤ 16 ∧ i = .int .i64 k ∧ Blk wr w.heap.size 105 (u32s (ws1 xs k)).toArray ∧ Below w.heap.size w wr) (fun i _ => 16 - (intOf i).toNat)
  case atStart => exact ⟨0, by omega, rfl, hz, hb0⟩
  case round =>
    obtain ⟨k, hk, rfl, hW, hb⟩ := hrel
    by_cases hlt : k < 16
    · have g1 : (0 : Int) ≤ (k : Int) := by omega
      have g2 : (k : Int) < 16 := by omega
      have g3 : (4 : Int) * (k : Int) ≤ 4 * (k : Int) + 4 := by omega
      have g4 : (4 : Int) * (k : Int) + 4 ≤ 64 := by omega
      have g5 : (0 : Int) ≤ 4 * (k : Int) := by omega
      have hl1 := ws1_length xs k
      go_wp2_with fail
      go_loopw [23] (fun i wq => ∃ j : Nat, j ≤ 4 ∧ i = .int .i64 j ∧ Blk wq w.heap.size 105 (u32s ((ws1 xs k).set k (part xs k j : Int))).toArray ∧ Below w.heap.size w wq) (fun i _ => 4 - (intOf i).toNat)
      case atStart => exact ⟨0, by omega, rfl, by rw [ws1_self xs k (by omega)]; exact hW, hb⟩
      case round =>
        obtain ⟨j, hj, rfl, hW2, hb2⟩ := hrel
        by_cases hlj : j < 4
        · have c1 := u32s_at hW2 (i := k) (by simp [hl1]; omega)
          rw [set_get _ _ _ (by omega)] at c1
          have f1 := hW2.frozen k
          have c2 := bytes_at (hB.below hb2 hB.lt) (i := 4 * k + j) (by omega)
          have g6 : (0 : Int) ≤ (j : Int) := by omega
          have g7 : (j : Int) < 4 := by omega
          have hp := part_lt xs k j
          have hp2 : part xs k j < 16777216 := Nat.lt_of_lt_of_le hp (Nat.le_trans (Nat.pow_le_pow_right (by omega) (show j ≤ 3 by omega)) (by decide))
          have hor := or_snoc32 (part xs k j) (xs.getD (4 * k + j) 0).toNat hp2 (xs.getD (4 * k + j) 0).toNat_lt
          rw [show part xs k j * 256 + (xs.getD (4 * k + j) 0).toNat = part xs k (j + 1) from rfl] at hor
          have hy := (xs.getD (4 * k + j) 0).toNat_lt
          generalize (xs.getD (4 * k + j) 0).toNat = y at *
          rw [← Int.emod_eq_of_lt (show (0 : Int) ≤ (y : Int) by omega) (show (y : Int) < 4294967296 by omega)] at hor
          have HO := Lib.hid hor
          clear hor hp hp2 hy
          go_wp2_with fail
          rw [HO.out]
          have h5 := hW2.set_ k (.int .u32 (part xs k (j + 1) : Int))
          rw [u32s_set, List.set_set] at h5
          exact ⟨⟨j + 1, by omega, by go_num, h5, hb2.grown (grownBy_set wr w.heap.size k _) hb2.size (fun q hq => by cases hq; exact Nat.le_refl _)⟩, by simp [intOf]; omega⟩
        · obtain rfl : j = 4 := by omega
          go_wp2_with fail
          exact ⟨⟨k + 1, by omega, by go_num, hW2, hb2⟩, by simp [intOf]; omega⟩
    · obtain rfl : k = 16 := by omega
      go_wp2_with fail
      go_loopw [6] (fun i wr => ∃ k : Nat, 16 ≤ k ∧ k ≤ 64 ∧ i = .int .i64 k ∧ Blk wr w.heap.size 105 (u32s (ws2 xs k)).toArray ∧ Below w.heap.size w wr) (fun i _ => 64 - (intOf i).toNat)
      case atStart => exact ⟨16, by omega, by omega, rfl, hW, hb⟩
      case round =>
        obtain ⟨k, hk16, hk, rfl, hW, hb⟩ := hrel
        by_cases hlt : k < 64
        · have hl1 := ws2_length xs k
          have c1 := u32s_at hW (i := k - 15) (by omega)
          have c2 := u32s_at hW (i := k - 2) (by omega)
          have c3 := u32s_at hW (i := k - 16) (by omega)
          have c4 := u32s_at hW (i := k - 7) (by omega)
          have f1 := hW.frozen k
          have c5 := u32s_at hW (i := k) (by omega)
          obtain ⟨x0, e0⟩ : ∃ x, (ws2 xs k).getD k 0 = x := ⟨_, rfl⟩
          rw [e0] at c5
          clear e0
          obtain ⟨x15, e15⟩ : ∃ x, (ws2 xs k).getD (k - 15) 0 = x := ⟨_, rfl⟩
          obtain ⟨x2, e2⟩ : ∃ x, (ws2 xs k).getD (k - 2) 0 = x := ⟨_, rfl⟩
          obtain ⟨x16, e16⟩ : ∃ x, (ws2 xs k).getD (k - 16) 0 = x := ⟨_, rfl⟩
          obtain ⟨x7, e7⟩ : ∃ x, (ws2 xs k).getD (k - 7) 0 = x := ⟨_, rfl⟩
          rw [e15] at c1
          rw [e2] at c2
          rw [e16] at c3
          rw [e7] at c4
          have n1 : ((k : Int) - 15).toNat = k - 15 := by omega
          have n2 : ((k : Int) - 2).toNat = k - 2 := by omega
          have n3 : ((k : Int) - 16).toNat = k - 16 := by omega
          have n4 : ((k : Int) - 7).toNat = k - 7 := by omega
          have r1 : IntKind.i64.wrap ((k : Int) - 15) = (k : Int) - 15 := IntWalk.i64_in _ (by omega)
          have r2 : IntKind.i64.wrap ((k : Int) - 2) = (k : Int) - 2 := IntWalk.i64_in _ (by omega)
          have r3 : IntKind.i64.wrap ((k : Int) - 16) = (k : Int) - 16 := IntWalk.i64_in _ (by omega)
          have r4 : IntKind.i64.wrap ((k : Int) - 7) = (k : Int) - 7 := IntWalk.i64_in _ (by omega)
          have d15 : (15 : Int) ≤ (k : Int) := by omega
          have d2 : (2 : Int) ≤ (k : Int) := by omega
          have d16 : (16 : Int) ≤ (k : Int) := by omega
          have d7 : (7 : Int) ≤ (k : Int) := by omega
          have m15 : (k : Int) - 15 < 64 := by omega
          have m2 : (k : Int) - 2 < 64 := by omega
          have m16 : (k : Int) - 16 < 64 := by omega
          have m7 : (k : Int) - 7 < 64 := by omega
          have HK := Lib.hid e15
          have HK2 := Lib.hid e2
          have HK16 := Lib.hid e16
          have HK7 := Lib.hid e7
          clear e15 e2 e16 e7
          go_wp2_with fail
          refine wp_region_plan [(0, true), (1, true), (2, true), (3, true), (4, true), (5, true), (6, true), (7, true), (8, true), (9, true)]
            (fun z => Below wr.heap.size wr z) (by kernel_rfl) (by kernel_rfl) (by kernel_rfl) (by kernel_rfl) (fun _ _ d _ _ h => by cases d <;> exact h) ((Below.refl _ _).drew) ?_
          simp only [planOps, List.getElem?_toArray, List.getElem?_cons_zero, List.getElem?_cons_succ]
          have q1 : ∀ z, Below wr.heap.size wr z → z.cell? ⟨w.heap.size, k - 15, none⟩ = some (.int .u32 x15) := fun z hz => (hz.cell (p := ⟨w.heap.size, k - 15, none⟩) hW.lt).trans c1
          have q2 : ∀ z, Below wr.heap.size wr z → z.cell? ⟨w.heap.size, k - 2, none⟩ = some (.int .u32 x2) := fun z hz => (hz.cell (p := ⟨w.heap.size, k - 2, none⟩) hW.lt).trans c2
          have q3 : ∀ z, Below wr.heap.size wr z → z.cell? ⟨w.heap.size, k - 16, none⟩ = some (.int .u32 x16) := fun z hz => (hz.cell (p := ⟨w.heap.size, k - 16, none⟩) hW.lt).trans c3
          have q4 : ∀ z, Below wr.heap.size wr z → z.cell? ⟨w.heap.size, k - 7, none⟩ = some (.int .u32 x7) := fun z hz => (hz.cell (p := ⟨w.heap.size, k - 7, none⟩) hW.lt).trans c4
          repeat (first
            | (refine wpS_skip (by rfl) ?_; simp only [Act.put, List.setIfInBounds_toArray, List.set_cons_zero, List.set_cons_succ])
            | (refine wpS_q ?_ (by rfl) ?_ ?_; rotate_left; (focus (intro z hz; (try dsimp only at hz); go_simp; rfl)); simp only [Act.put, List.setIfInBounds_toArray, List.set_cons_zero, List.set_cons_succ]))
          clear q1 q2 q3 q4
          refine wpS_nil ?_
          go_wp2_with fail
          refine wp_region_plan [(0, true), (1, true), (2, true), (3, true), (4, true), (5, true), (7, true), (10, true), (11, true), (14, true), (15, true), (16, true), (17, true), (19, true), (21, true), (24, true), (25, true), (6, false), (8, false), (9, true), (12, true), (13, true), (18, true), (20, false), (22, false), (23, true), (26, true), (27, true), (28, true), (29, false)]
            (fun z => z.cell? ⟨w.heap.size, k - 16, none⟩ = some (.int .u32 x16) ∧ z.cell? ⟨w.heap.size, k - 7, none⟩ = some (.int .u32 x7)) (by kernel_rfl) (by kernel_rfl) (by kernel_rfl) (by kernel_rfl) (fun _ _ d _ _ h => by cases d <;> exact h) ⟨c3, c4⟩ ?_
          simp only [planOps, List.getElem?_toArray, List.getElem?_cons_zero, List.getElem?_cons_succ]
          repeat (first
            | (refine wpS_skip (by rfl) ?_; simp only [Act.put, List.setIfInBounds_toArray, List.set_cons_zero, List.set_cons_succ])
            | (refine wpS_q ?_ (by rfl) ?_ ?_; rotate_left; (focus (intro z hz; (try dsimp only at hz); go_simp; rfl)); simp only [Act.put, List.setIfInBounds_toArray, List.set_cons_zero, List.set_cons_succ]))
          refine wpS_l (by rfl) (fun Kq hK => ?_)
          go_wp2_with fail
          refine (turn_any _ x15 7 (by omega) (by omega)).mono ?_
          rintro e w' ⟨rfl, rfl⟩
          refine hK _ _ (fun z => z.cell? ⟨w.heap.size, k - 16, none⟩ = some (.int .u32 x16) ∧ z.cell? ⟨w.heap.size, k - 7, none⟩ = some (.int .u32 x7)) ⟨c3, c4⟩ (fun _ h => h) ?_
          clear hK
          repeat (first
            | (refine wpS_skip (by rfl) ?_; simp only [Act.put, List.setIfInBounds_toArray, List.set_cons_zero, List.set_cons_succ])
            | (refine wpS_q ?_ (by rfl) ?_ ?_; rotate_left; (focus (intro z hz; (try dsimp only at hz); go_simp; rfl)); simp only [Act.put, List.setIfInBounds_toArray, List.set_cons_zero, List.set_cons_succ]))
          refine wpS_l (by rfl) (fun Kq hK => ?_)
          go_wp2_with fail
          refine (turn_any _ x15 18 (by omega) (by omega)).mono ?_
          rintro e w' ⟨rfl, rfl⟩
          refine hK _ _ (fun z => z.cell? ⟨w.heap.size, k - 16, none⟩ = some (.int .u32 x16) ∧ z.cell? ⟨w.heap.size, k - 7, none⟩ = some (.int .u32 x7)) ⟨c3, c4⟩ (fun _ h => h) ?_
          clear hK
          repeat (first
            | (refine wpS_skip (by rfl) ?_; simp only [Act.put, List.setIfInBounds_toArray, List.set_cons_zero, List.set_cons_succ])
            | (refine wpS_q ?_ (by rfl) ?_ ?_; rotate_left; (focus (intro z hz; (try dsimp only at hz); go_simp; rfl)); simp only [Act.put, List.setIfInBounds_toArray, List.set_cons_zero, List.set_cons_succ]))
          refine wpS_l (by rfl) (fun Kq hK => ?_)
          go_wp2_with fail
          refine (turn_any _ x2 17 (by omega) (by omega)).mono ?_
          rintro e w' ⟨rfl, rfl⟩
          refine hK _ _ (fun z => z.cell? ⟨w.heap.size, k - 16, none⟩ = some (.int .u32 x16) ∧ z.cell? ⟨w.heap.size, k - 7, none⟩ = some (.int .u32 x7)) ⟨c3, c4⟩ (fun _ h => h) ?_
          clear hK
          repeat (first
            | (refine wpS_skip (by rfl) ?_; simp only [Act.put, List.setIfInBounds_toArray, List.set_cons_zero, List.set_cons_succ])
            | (refine wpS_q ?_ (by rfl) ?_ ?_; rotate_left; (focus (intro z hz; (try dsimp only at hz); go_simp; rfl)); simp only [Act.put, List.setIfInBounds_toArray, List.set_cons_zero, List.set_cons_succ]))
          refine wpS_l (by rfl) (fun Kq hK => ?_)
          go_wp2_with fail
          refine (turn_any _ x2 19 (by omega) (by omega)).mono ?_
          rintro e w' ⟨rfl, rfl⟩
          refine hK _ _ (fun z => z.cell? ⟨w.heap.size, k - 16, none⟩ = some (.int .u32 x16) ∧ z.cell? ⟨w.heap.size, k - 7, none⟩ = some (.int .u32 x7)) ⟨c3, c4⟩ (fun _ h => h) ?_
          clear hK
          repeat (first
            | (refine wpS_skip (by rfl) ?_; simp only [Act.put, List.setIfInBounds_toArray, List.set_cons_zero, List.set_cons_succ])
            | (refine wpS_q ?_ (by rfl) ?_ ?_; rotate_left; (focus (intro z hz; (try dsimp only at hz); go_simp; rfl)); simp only [Act.put, List.setIfInBounds_toArray, List.set_cons_zero, List.set_cons_succ]))
          refine wpS_l (by rfl) (fun Kq hK => ?_)
          go_wp2_with fail
          refine hK _ _ (fun z => z.cell? ⟨w.heap.size, k - 16, none⟩ = some (.int .u32 x16) ∧ z.cell? ⟨w.heap.size, k - 7, none⟩ = some (.int .u32 x7)) ⟨(cell_set_ne wr w.heap.size k (k - 16) _ (by omega)).trans c3, (cell_set_ne wr w.heap.size k (k - 7) _ (by omega)).trans c4⟩ (fun _ h => h) ?_
          clear hK
          refine wpS_nil ?_
          go_wp2_with fail
          have h5 := hW.set_ k (.int .u32 (sched x16 x15 x7 x2))
          rw [u32s_set, ← HK16.out, ← HK.out, ← HK7.out, ← HK2.out, ← ws2_succ xs k hk16, HK16.out, HK.out, HK7.out, HK2.out] at h5
          exact ⟨⟨k + 1, by omega, by omega, by go_num, by exact h5, (hb.grown (grownBy_set wr w.heap.size k _) hb.size (fun q hq => by cases hq; exact Nat.le_refl _)).drew.drew⟩, by simp [intOf]; omega⟩
        · have hl1 := ws2_length xs k
          generalize hL : ws2 xs k = L at *
          have HL := Lib.hid hL
          clear hL
          obtain rfl : k = 64 := by omega
          iterate 21 (first | go_values | go_skip | go_guarded | go_step | go_upon | go_back | (simp only [Int.not_lt, Int.not_le] at *; go_simp))
          with_reducible refine wpl_load w.heap.size _ _ Tryd.underlying105 i64x32 hW ((u32s_size _).trans hl1) ?_ ?_
          · rfl
          simp only [Act.put, List.setIfInBounds_toArray, List.set_cons_zero, List.set_cons_succ]
          with_reducible refine wpl_store w.heap.size _ _ _ i64x32 hW ((u32s_size _).trans hl1) ((u32s_size _).trans hl1) (u32s_one _) ?_ ?_ ?_
          · rfl
          · rfl
          rw [hW.setRow_self]
          go_wp2_with fail
          refine bodyPost_ret (results_cell_row rfl _ _ w.heap.size _ _ (0, 0) _ rfl hW Tryd.underlying105 rfl (by rw [u32s_size, hl1]; exact i64x32)) rfl ?_
          have hLt : L = tt := HL.out.symm.trans (by rw [← HN.out]; exact HT.out)
          exact ⟨by rw [hLt], hb⟩
end Go.Proofs.YtbbcofpdfkhljaaDoor.H
namespace Go.Proofs.YtbbcofpdfkhljaaDoor.H
open Go.RowKit Go.Rat
theorem idx64 (L : List Int) (hL : L.length = 64) (k : Nat) (hk : k < 64) (z : World) : (Instr.index 105 (.agg (u32s L).toArray) (.int .i64 (k : Int))).run Tryd.prog z = .ok (.int .u32 (L.getD k 0)) z := by
  have g1 : (0 : Int) ≤ (k : Int) := by omega
  have g2 : (k : Int) < 64 := by omega
  have hc : (u32s L)[k]? = some (.int .u32 (L.getD k 0)) := by
    simp [u32s, List.getElem?_eq_getElem (show k < L.length by omega), List.getD_eq_getElem?_getD]
  obtain ⟨x, hx⟩ : ∃ x, L.getD k 0 = x := ⟨_, rfl⟩
  rw [hx] at hc ⊢
  unfold Instr.index
  go_simp
theorem idx8 (L : List Int) (hL : L.length = 8) (k : Nat) (hk : k < 8) (z : World) : (Instr.index 92 (.agg (u32s L).toArray) (.int .i64 (k : Int))).run Tryd.prog z = .ok (.int .u32 (L.getD k 0)) z := by
  have g1 : (0 : Int) ≤ (k : Int) := by omega
  have g2 : (k : Int) < 8 := by omega
  have hc : (u32s L)[k]? = some (.int .u32 (L.getD k 0)) := by
    simp [u32s, List.getElem?_eq_getElem (show k < L.length by omega), List.getD_eq_getElem?_getD]
  obtain ⟨x, hx⟩ : ∃ x, L.getD k 0 = x := ⟨_, rfl⟩
  rw [hx] at hc ⊢
  unfold Instr.index
  go_simp
/-- The sums of a state and what came of it, number by number. -/
def adds (s f : List Int) : Nat → List Int
  | 0 => s
  | k + 1 => (adds s f k).set k (((adds s f k).getD k 0 + f.getD k 0) % 4294967296)
theorem adds_length (s f : List Int) (k : Nat) : (adds s f k).length = s.length := by induction k <;> simp_all [adds]
structure S8 where
  (a b c d e f g h : Int)
/-- The table of the standard lies at the variable. -/
def Tab (w : World) (tb : List Int) : Prop := ∀ i, i < 64 → w.cell? ⟨0, i, none⟩ = some (.int .u32 (tb.getD i 0))
theorem Tab.below {w w' : World} {tb : List Int} (h : Tab w tb) (hb : Below w.heap.size w w') : Tab w' tb := fun i hi => (hb.cell (p := ⟨0, i, none⟩) (block_lt_of_cell (h i hi))).trans (h i hi)
def rndT (s : S8) (k w : Int) : Int :=
  ((((s.h + bits .xor .u32 (bits .xor .u32 (rotF s.e 6) (rotF s.e 11)) (rotF s.e 25)) % 4294967296 + bits .xor .u32 (bits .and .u32 s.e s.f) (bits .and .u32 (bits .xor .u32 IntKind.u32.max s.e) s.g)) % 4294967296 + k) % 4294967296 + w) % 4294967296
def rndU (s : S8) : Int :=
  (bits .xor .u32 (bits .xor .u32 (rotF s.a 2) (rotF s.a 13)) (rotF s.a 22) + bits .xor .u32 (bits .xor .u32 (bits .and .u32 s.a s.b) (bits .and .u32 s.a s.c)) (bits .and .u32 s.b s.c)) % 4294967296
/-- One round. -/
def rnd (s : S8) (k w : Int) : S8 := ⟨(rndT s k w + rndU s) % 4294967296, s.a, s.b, s.c, (s.d + rndT s k w) % 4294967296, s.e, s.f, s.g⟩
def rnds (tb ws : List Int) (s : S8) : Nat → S8
  | 0 => s
  | k + 1 => rnd (rnds tb ws s k) (tb.getD k 0) (ws.getD k 0)
def s8 (l : List Int) : S8 := ⟨l.getD 0 0, l.getD 1 0, l.getD 2 0, l.getD 3 0, l.getD 4 0, l.getD 5 0, l.getD 6 0, l.getD 7 0⟩
theorem list8 {l : List Int} (h : l.length = 8) : ∃ s0 s1 s2 s3 s4 s5 s6 s7, l = [s0, s1, s2, s3, s4, s5, s6, s7] := by
  match l, h with
  | [s0, s1, s2, s3, s4, s5, s6, s7], _ => exact ⟨s0, s1, s2, s3, s4, s5, s6, s7, rfl⟩
def outF (R : S8) : List Int := [R.a, R.b, R.c, R.d, R.e, R.f, R.g, R.h]
/-- What a block makes of a state (n: 64, the rounds). -/
def blockF (n : Nat) (tb sl : List Int) (xs : List UInt8) : List Int := adds sl (outF (rnds tb (ws2 xs n) (s8 sl) n)) 8
set_option maxRecDepth 8000 in
set_option maxHeartbeats 1200000 in
theorem block_any (n : Nat) (hn64 : n = 64) (w : World) (sl : List Int) (hs8 : sl.length = 8) (xs : List UInt8) (hl : xs.length = 64) (tb : List Int) (hT : Tab w tb) : Calls Tryd.prog 61 #[.agg (u32s sl).toArray, .agg (bvs xs).toArray] w fun e w' => e = .returned (.agg (u32s (blockF n tb sl xs)).toArray) ∧ Below w.heap.size w w' := by
  obtain ⟨tt, hTT⟩ : ∃ tt, blockF n tb sl xs = tt := ⟨_, rfl⟩
  rw [hTT]
  have HT := Lib.hid hTT
  clear hTT
  go_enter Tryd.func61, Tryd.ntmps61
  go_wp2_with fail
  obtain ⟨z8, hz8⟩ : ∃ z8 : Array Value, #[.int .u32 0, .int .u32 0, .int .u32 0, .int .u32 0, .int .u32 0, .int .u32 0, .int .u32 0, .int .u32 0] = z8 := ⟨_, rfl⟩
  rw [hz8]
  have hz8' : z8 = (u32s (List.replicate 8 0)).toArray := hz8 ▸ rfl
  clear hz8
  subst hz8'
  have hS := ((Blk.new w 92 (u32s sl).toArray).alloc (.cells (bvs xs).toArray 94)).alloc (.cells (u32s (List.replicate 8 0)).toArray 92)
  have hI := (Blk.new (w.alloc (.cells (u32s sl).toArray 92)) 94 (bvs xs).toArray).alloc (.cells (u32s (List.replicate 8 0)).toArray 92)
  have hR := Blk.new ((w.alloc (.cells (u32s sl).toArray 92)).alloc (.cells (bvs xs).toArray 94)) 92 (u32s (List.replicate 8 0)).toArray
  have hb : Below w.heap.size w (((w.alloc (.cells (u32s sl).toArray 92)).alloc (.cells (bvs xs).toArray 94)).alloc (.cells (u32s (List.replicate 8 0)).toArray 92)) := below_alloc2 (below_alloc2 (below_alloc _ _) (by simp) _) (by simp) _
  have hsz : (((w.alloc (.cells (u32s sl).toArray 92)).alloc (.cells (bvs xs).toArray 94)).alloc (.cells (u32s (List.replicate 8 0)).toArray 92)).heap.size = w.heap.size + 1 + 1 + 1 := by simp
  have hI2 : Blk (((w.alloc (.cells (u32s sl).toArray 92)).alloc (.cells (bvs xs).toArray 94)).alloc (.cells (u32s (List.replicate 8 0)).toArray 92)) (w.heap.size + 1) 94 (bvs xs).toArray := by simpa using hI
  have hR2 : Blk (((w.alloc (.cells (u32s sl).toArray 92)).alloc (.cells (bvs xs).toArray 94)).alloc (.cells (u32s (List.replicate 8 0)).toArray 92)) (w.heap.size + 1 + 1) 92 (u32s (List.replicate 8 0)).toArray := by simpa using hR
  clear hI hR
  generalize (((w.alloc (.cells (u32s sl).toArray 92)).alloc (.cells (bvs xs).toArray 94)).alloc (.cells (u32s (List.replicate 8 0)).toArray 92)) = w1 at *
  obtain ⟨s0, s1, s2, s3, s4, s5, s6, s7, rfl⟩ : ∃ s0 s1 s2 s3 s4 s5 s6 s7, sl = [s0, s1, s2, s3, s4, s5, s6, s7] := list8 hs8
  have hlt : w.heap.size < w1.heap.size := by omega
  have HSZ := Lib.hid hsz
  clear hsz
  have q0 : ∀ z, Below w1.heap.size w1 z → z.cell? ⟨w.heap.size, 0, none⟩ = some (.int .u32 s0) := fun z hz => (hz.cell (p := ⟨w.heap.size, 0, none⟩) hlt).trans (hS.cell 0)
  have q1 : ∀ z, Below w1.heap.size w1 z → z.cell? ⟨w.heap.size, 1, none⟩ = some (.int .u32 s1) := fun z hz => (hz.cell (p := ⟨w.heap.size, 1, none⟩) hlt).trans (hS.cell 1)
  have q2 : ∀ z, Below w1.heap.size w1 z → z.cell? ⟨w.heap.size, 2, none⟩ = some (.int .u32 s2) := fun z hz => (hz.cell (p := ⟨w.heap.size, 2, none⟩) hlt).trans (hS.cell 2)
  have q3 : ∀ z, Below w1.heap.size w1 z → z.cell? ⟨w.heap.size, 3, none⟩ = some (.int .u32 s3) := fun z hz => (hz.cell (p := ⟨w.heap.size, 3, none⟩) hlt).trans (hS.cell 3)
  have q4 : ∀ z, Below w1.heap.size w1 z → z.cell? ⟨w.heap.size, 4, none⟩ = some (.int .u32 s4) := fun z hz => (hz.cell (p := ⟨w.heap.size, 4, none⟩) hlt).trans (hS.cell 4)
  have q5 : ∀ z, Below w1.heap.size w1 z → z.cell? ⟨w.heap.size, 5, none⟩ = some (.int .u32 s5) := fun z hz => (hz.cell (p := ⟨w.heap.size, 5, none⟩) hlt).trans (hS.cell 5)
  have q6 : ∀ z, Below w1.heap.size w1 z → z.cell? ⟨w.heap.size, 6, none⟩ = some (.int .u32 s6) := fun z hz => (hz.cell (p := ⟨w.heap.size, 6, none⟩) hlt).trans (hS.cell 6)
  have q7 : ∀ z, Below w1.heap.size w1 z → z.cell? ⟨w.heap.size, 7, none⟩ = some (.int .u32 s7) := fun z hz => (hz.cell (p := ⟨w.heap.size, 7, none⟩) hlt).trans (hS.cell 7)
  have HN := Lib.hid hn64
  clear hn64
  refine wp_region_plan [(0, true), (1, true), (2, true), (3, true), (4, true), (5, true), (6, true), (7, true), (8, true), (9, true), (10, true), (11, true), (12, true), (13, true), (14, true), (15, true), (16, true), (17, true), (18, true), (19, true), (20, true), (21, true), (22, true), (23, true)]
    (fun z => Below w1.heap.size w1 z) (by kernel_rfl) (by kernel_rfl) (by kernel_rfl) (by kernel_rfl) (fun _ _ d _ _ h => by cases d <;> exact h) ((Below.refl _ _).drew) ?_
  simp only [planOps, List.getElem?_toArray, List.getElem?_cons_zero, List.getElem?_cons_succ]
  repeat (first
    | (refine wpS_skip (by rfl) ?_; simp only [Act.put, List.setIfInBounds_toArray, List.set_cons_zero, List.set_cons_succ])
    | (refine wpS_q ?_ (by rfl) ?_ ?_; rotate_left; (focus (intro z hz; (try dsimp only at hz); go_simp; rfl)); simp only [Act.put, List.setIfInBounds_toArray, List.set_cons_zero, List.set_cons_succ]))
  clear q0 q1 q2 q3 q4 q5 q6 q7
  refine wpS_nil ?_
  obtain ⟨L, hL⟩ : ∃ L, ws2 xs n = L := ⟨_, rfl⟩
  have hLl : L.length = 64 := hL ▸ ws2_length xs n
  have HL := Lib.hid hL
  clear hL
  go_wp2_with (go_at_call 64; refine (words_any n HN.out w1.drew (w.heap.size + 1) 94 xs (by exact hI2) hl).mono ?_; rw [HL.out]; rintro e w2 ⟨rfl, hb2⟩)
  go_loopw [5, 6, 7, 8, 9, 10, 11, 12, 36] (fun a b c d e f g h i wr => ∃ k : Nat, k ≤ 64 ∧ i = .int .i64 k ∧ a = .int .u32 (rnds tb L (s8 [s0, s1, s2, s3, s4, s5, s6, s7]) k).a ∧ b = .int .u32 (rnds tb L (s8 [s0, s1, s2, s3, s4, s5, s6, s7]) k).b ∧ c = .int .u32 (rnds tb L (s8 [s0, s1, s2, s3, s4, s5, s6, s7]) k).c ∧ d = .int .u32 (rnds tb L (s8 [s0, s1, s2, s3, s4, s5, s6, s7]) k).d ∧ e = .int .u32 (rnds tb L (s8 [s0, s1, s2, s3, s4, s5, s6, s7]) k).e ∧ f = .int .u32 (rnds tb L (s8 [s0, s1, s2, s3, s4, s5, s6, s7]) k).f ∧ g = .int .u32 (rnds tb L (s8 [s0, s1, s2, s3, s4, s5, s6, s7]) k).g ∧ h = .int .u32 (rnds tb L (s8 [s0, s1, s2, s3, s4, s5, s6, s7]) k).h ∧ Below w1.heap.size w1 wr) (fun _ _ _ _ _ _ _ _ i _ => 64 - (intOf i).toNat)
  case atStart => exact ⟨0, by omega, rfl, rfl, rfl, rfl, rfl, rfl, rfl, rfl, rfl, drew_below.trans hb2⟩
  case round =>
    obtain ⟨k, hk, rfl, rfl, rfl, rfl, rfl, rfl, rfl, rfl, rfl, hb3⟩ := hrel
    obtain ⟨R, hR8⟩ : ∃ R, rnds tb L (s8 [s0, s1, s2, s3, s4, s5, s6, s7]) k = R := ⟨_, rfl⟩
    rw [hR8]
    obtain ⟨a, b, c, d, e, f, g, hh⟩ := R
    dsimp only
    have HR8 := Lib.hid hR8
    clear hR8
    by_cases hlt64 : k < 64
    · have qi := idx64 L hLl k hlt64
      have qt := (hT.below (hb.trans (hb3.mono hb.size))) k hlt64
      obtain ⟨wk, hwk⟩ : ∃ x, L.getD k 0 = x := ⟨_, rfl⟩
      obtain ⟨tk, htk⟩ : ∃ x, tb.getD k 0 = x := ⟨_, rfl⟩
      rw [hwk] at qi
      rw [htk] at qt
      have HW := Lib.hid hwk
      have HTK := Lib.hid htk
      clear hwk htk
      have g1 : (0 : Int) ≤ (k : Int) := by omega
      have g2 : (k : Int) < 64 := by omega
      go_wp2_with fail
      have hlt0 := block_lt_of_cell qt
      have qz : ∀ z, Below wr.heap.size wr z → z.cell? ⟨0, k, none⟩ = some (.int .u32 tk) := fun z hz => (hz.cell (p := ⟨0, k, none⟩) hlt0).trans qt
      refine wp_region_plan [(0, true), (1, true), (3, true), (6, true), (10, true), (11, true), (12, true), (13, true), (14, true), (15, true), (16, true), (17, true), (19, true), (20, true), (21, true), (23, true), (2, false), (4, false), (5, true), (7, false), (8, true), (9, true), (18, true), (22, true), (24, true), (25, true)]
        (fun z => Below wr.heap.size wr z) (by kernel_rfl) (by kernel_rfl) (by kernel_rfl) (by kernel_rfl) (fun _ _ d _ _ h => by cases d <;> exact h) ((Below.refl _ _).drew) ?_
      simp only [planOps, List.getElem?_toArray, List.getElem?_cons_zero, List.getElem?_cons_succ]
      repeat (first
        | (refine wpS_skip (by rfl) ?_; simp only [Act.put, List.setIfInBounds_toArray, List.set_cons_zero, List.set_cons_succ])
        | (refine wpS_q ?_ (by rfl) ?_ ?_; rotate_left; (focus (intro z hz; (try dsimp only at hz); go_simp; rfl)); simp only [Act.put, List.setIfInBounds_toArray, List.set_cons_zero, List.set_cons_succ]))
      refine wpS_l (by rfl) (fun Kq hK => ?_)
      go_wp2_with fail
      refine (turn_any _ e 6 (by omega) (by omega)).mono ?_
      rintro e' w' ⟨rfl, rfl⟩
      refine hK _ _ (fun z => Below wr.heap.size wr z) ((Below.refl _ _).drew) (fun _ h => h) ?_
      clear hK
      repeat (first
        | (refine wpS_skip (by rfl) ?_; simp only [Act.put, List.setIfInBounds_toArray, List.set_cons_zero, List.set_cons_succ])
        | (refine wpS_q ?_ (by rfl) ?_ ?_; rotate_left; (focus (intro z hz; (try dsimp only at hz); go_simp; rfl)); simp only [Act.put, List.setIfInBounds_toArray, List.set_cons_zero, List.set_cons_succ]))
      refine wpS_l (by rfl) (fun Kq hK => ?_)
      go_wp2_with fail
      refine (turn_any _ e 11 (by omega) (by omega)).mono ?_
      rintro e' w' ⟨rfl, rfl⟩
      refine hK _ _ (fun z => Below wr.heap.size wr z) ((Below.refl _ _).drew) (fun _ h => h) ?_
      clear hK
      repeat (first
        | (refine wpS_skip (by rfl) ?_; simp only [Act.put, List.setIfInBounds_toArray, List.set_cons_zero, List.set_cons_succ])
        | (refine wpS_q ?_ (by rfl) ?_ ?_; rotate_left; (focus (intro z hz; (try dsimp only at hz); go_simp; rfl)); simp only [Act.put, List.setIfInBounds_toArray, List.set_cons_zero, List.set_cons_succ]))
      refine wpS_l (by rfl) (fun Kq hK => ?_)
      go_wp2_with fail
      refine (turn_any _ e 25 (by omega) (by omega)).mono ?_
      rintro e' w' ⟨rfl, rfl⟩
      refine hK _ _ (fun z => Below wr.heap.size wr z) ((Below.refl _ _).drew) (fun _ h => h) ?_
      clear hK
      repeat (first
        | (refine wpS_skip (by rfl) ?_; simp only [Act.put, List.setIfInBounds_toArray, List.set_cons_zero, List.set_cons_succ])
        | (refine wpS_q ?_ (by rfl) ?_ ?_; rotate_left; (focus (intro z hz; (try dsimp only at hz); go_simp; rfl)); simp only [Act.put, List.setIfInBounds_toArray, List.set_cons_zero, List.set_cons_succ]))
      refine wpS_nil ?_
      go_wp2_with fail
      refine (turn_any _ a 2 (by omega) (by omega)).mono ?_
      rintro e' w' ⟨rfl, rfl⟩
      go_wp2_with fail
      refine (turn_any _ a 13 (by omega) (by omega)).mono ?_
      rintro e' w' ⟨rfl, rfl⟩
      go_wp2_with fail
      refine (turn_any _ a 22 (by omega) (by omega)).mono ?_
      rintro e' w' ⟨rfl, rfl⟩
      go_wp2_with fail
      have hN : rnds tb L (s8 [s0, s1, s2, s3, s4, s5, s6, s7]) (k + 1) = rnd ⟨a, b, c, d, e, f, g, hh⟩ tk wk := by rw [rnds, HR8.out, HTK.out, HW.out]
      exact ⟨⟨k + 1, by omega, by go_num, by rw [hN]; rfl, by rw [hN]; rfl, by rw [hN]; rfl, by rw [hN]; rfl, by rw [hN]; rfl, by rw [hN]; rfl, by rw [hN]; rfl, by rw [hN]; rfl, hb3.drew⟩, by simp [intOf]; omega⟩
    · obtain rfl : k = n := by have := HN.out; omega
      have g2 : ¬ (k : Int) < 64 := by omega
      go_wp2_with fail
      obtain ⟨F, hF⟩ : ∃ F, [a, b, c, d, e, f, g, hh] = F := ⟨_, rfl⟩
      have hFl : F.length = 8 := hF ▸ rfl
      have hFa : (#[.int .u32 a, .int .u32 b, .int .u32 c, .int .u32 d, .int .u32 e, .int .u32 f, .int .u32 g, .int .u32 hh] : Array Value) = (u32s F).toArray := hF ▸ rfl
      rw [hFa]
      have HF := Lib.hid hF
      clear hF hFa
      have hb0 := hb.trans (hb3.mono hb.size)
      have hS3 := hS.below hb3 hlt
      go_loopw [107] (fun i wq => ∃ k : Nat, k ≤ 8 ∧ i = .int .i64 k ∧ Blk wq w.heap.size 92 (u32s (adds [s0, s1, s2, s3, s4, s5, s6, s7] F k)).toArray ∧ wr.grownBy wq (some w.heap.size)) (fun i _ => 8 - (intOf i).toNat)
      case atStart => exact ⟨0, by omega, rfl, hS3, World.grownBy.refl _ _⟩
      case round =>
        obtain ⟨j, hj, rfl, hS4, hg4⟩ := hrel
        have hal := adds_length [s0, s1, s2, s3, s4, s5, s6, s7] F j
        by_cases hj8 : j < 8
        · have qi := idx8 F hFl j hj8
          have c1 := u32s_at hS4 (i := j) (by rw [hal]; exact hj8)
          have f1 := hS4.frozen j
          have h5 := hS4.set_ j (.int .u32 (((adds [s0, s1, s2, s3, s4, s5, s6, s7] F j).getD j 0 + F.getD j 0) % 4294967296))
          rw [u32s_set] at h5
          have H5 : Hid (Blk _ w.heap.size 92 (u32s (adds [s0, s1, s2, s3, s4, s5, s6, s7] F (j + 1))).toArray) := Lib.hid h5
          clear h5
          generalize (adds [s0, s1, s2, s3, s4, s5, s6, s7] F j).getD j 0 = y at *
          generalize F.getD j 0 = x at *
          have g1 : (0 : Int) ≤ (j : Int) := by omega
          have g3 : (j : Int) < 8 := by omega
          go_wp2_with fail
          exact ⟨⟨j + 1, by omega, by go_num, H5.out, hg4.trans (grownBy_set _ w.heap.size j _)⟩, by simp [intOf]; omega⟩
        · obtain ⟨G, hG⟩ : ∃ G, adds [s0, s1, s2, s3, s4, s5, s6, s7] F j = G := ⟨_, rfl⟩
          rw [hG] at hS4
          have hGl : G.length = 8 := by rw [← hG, hal]; rfl
          have HG := Lib.hid hG
          clear hG hal
          have g3 : ¬ (j : Int) < 8 := by omega
          have hR4 := (hR2.below hb3 (by have := HSZ.out; omega)).grown hg4 (by intro h; injection h with h; omega)
          have hb4 : Below w.heap.size w _ := hb0.grown hg4 hb0.size (fun q hq => by cases hq; exact Nat.le_refl _)
          repeat (first
            | ((with_reducible refine wpl_load w.heap.size _ _ Tryd.underlying92 i8x32 hS4 ((u32s_size _).trans hGl) ?_ ?_); (focus rfl); simp only [Act.put, List.setIfInBounds_toArray, List.set_cons_zero, List.set_cons_succ])
            | ((with_reducible refine wpl_store (w.heap.size + 1 + 1) _ _ _ i8x32 hR4 (by rw [u32s_size, List.length_replicate]) ((u32s_size _).trans hGl) (u32s_one _) ?_ ?_ ?_); (focus rfl); (focus rfl))
            | go_values | go_skip | go_guarded | go_step | go_upon | go_back | (simp only [Int.not_lt] at *; go_simp))
          have hj8' : j = 8 := by omega
          have hGt : G = tt := by
            rw [← HT.out, ← HG.out, ← HF.out, hj8']
            unfold blockF
            rw [HL.out, HR8.out]
            rfl
          refine bodyPost_ret (results_cell_row rfl _ _ (w.heap.size + 1 + 1) _ _ (0, 0) _ rfl (hR4.setRow _) Tryd.underlying92 rfl (by rw [u32s_size, hGl]; exact i8x32)) rfl ?_
          exact ⟨by rw [hGt], hb4.grown (grownBy_setRow _ _ _) hb4.size (fun q hq => by cases hq; omega)⟩
end Go.Proofs.YtbbcofpdfkhljaaDoor.H
namespace Go.Proofs.YtbbcofpdfkhljaaDoor.H
open Go.RowKit Go.Rat
def tblL : List Int := [
  0x428a2f98, 0x71374491, 0xb5c0fbcf, 0xe9b5dba5, 0x3956c25b, 0x59f111f1, 0x923f82a4, 0xab1c5ed5,
  0xd807aa98, 0x12835b01, 0x243185be, 0x550c7dc3, 0x72be5d74, 0x80deb1fe, 0x9bdc06a7, 0xc19bf174,
  0xe49b69c1, 0xefbe4786, 0x0fc19dc6, 0x240ca1cc, 0x2de92c6f, 0x4a7484aa, 0x5cb0a9dc, 0x76f988da,
  0x983e5152, 0xa831c66d, 0xb00327c8, 0xbf597fc7, 0xc6e00bf3, 0xd5a79147, 0x06ca6351, 0x14292967,
  0x27b70a85, 0x2e1b2138, 0x4d2c6dfc, 0x53380d13, 0x650a7354, 0x766a0abb, 0x81c2c92e, 0x92722c85,
  0xa2bfe8a1, 0xa81a664b, 0xc24b8b70, 0xc76c51a3, 0xd192e819, 0xd6990624, 0xf40e3585, 0x106aa070,
  0x19a4c116, 0x1e376c08, 0x2748774c, 0x34b0bcb5, 0x391c0cb3, 0x4ed8aa4a, 0x5b9cca4f, 0x682e6ff3,
  0x748f82ee, 0x78a5636f, 0x84c87814, 0x8cc70208, 0x90befffa, 0xa4506ceb, 0xbef9a3f7, 0xc67178f2]
theorem tblL_length : tblL.length = 64 := by decide +kernel
theorem wpl_build {P : Program} {w : World} {ops : Array Oper} {rest : List Oper} {a : Act} {Q : Exit → Act → World → Prop} {d : Option Tmp} {ty : TypeId} {parts : Array (Nat × Operand)} {t : TypeId} {p : String} {af : Array Edge} (cells : Array Value)
    (hb : P.built ty (parts.map fun (i, x) => (i, a.eval x)).toList = some cells) (h : wpList P ops Q rest (a.put d (.agg cells)) w) :
    wpList P ops Q ({ dst := d, op := .build ty parts, type := t, pos := p, after := af, guard := none } :: rest) a w :=
  wpList_build rfl ty parts rfl (by rw [hb]; rfl) (by rw [hb]; exact h)
theorem wpl_store_fresh {P : Program} {w : World} {ops : Array Oper} {rest : List Oper} {a : Act} {Q : Exit → Act → World → Prop} {d : Option Tmp} {ty : TypeId} {x y : Operand} {t : TypeId} {p : String} {af : Array Edge} {Z : Array Value} {T : TypeId} (cs' : Array Value) {n : Nat}
    (hi : (P.info? ty).map (·.size) = some n) (hZ : Z.size = n) (hs' : cs'.size = n) (h1 : cs'.all (·.oneCell') = true)
    (hx : a.eval x = .pointer (some ⟨w.heap.size, 0, none⟩)) (hy : a.eval y = .agg cs') (h : ∀ z, Blk z w.heap.size T cs' → w.heap.size < z.heap.size → Below w.heap.size w z → wpList P ops Q rest (a.put d undef) z) :
    wpList P ops Q ({ dst := d, op := .store ty x y, type := t, pos := p, after := af, guard := none } :: rest) a (w.alloc (.cells Z T)) :=
  wpl_store w.heap.size T Z cs' hi (Blk.new w T Z) hZ hs' h1 hx hy (h _ ((Blk.new w T Z).setRow _) (by simp) ((below_alloc _ _).grown (grownBy_setRow _ _ _) (by simp) (fun q hq => by cases hq; exact Nat.le_refl _)))
theorem adds_comm8 {s f : List Int} (hs : s.length = 8) (hf : f.length = 8) : adds s f 8 = adds f s 8 := by
  obtain ⟨s0, s1, s2, s3, s4, s5, s6, s7, rfl⟩ := list8 hs
  obtain ⟨f0, f1, f2, f3, f4, f5, f6, f7, rfl⟩ := list8 hf
  simp only [adds, List.getD_cons_zero, List.getD_cons_succ, List.set_cons_zero, List.set_cons_succ, Int.add_comm]
theorem outF_length (R : S8) : (outF R).length = 8 := rfl
set_option maxRecDepth 8000 in
set_option maxHeartbeats 1200000 in
theorem k_any (w : World) : Calls Tryd.prog 59 #[] w fun e w' => e = .returned (.agg (u32s tblL).toArray) ∧ Below w.heap.size w w' := by
  obtain ⟨t, hT⟩ : ∃ t, (u32s tblL).toArray = t := ⟨_, rfl⟩
  have hts : t.size = 64 := by rw [← hT, u32s_size, tblL_length]
  have ht1 : t.all (·.oneCell') = true := by rw [← hT]; exact u32s_one _
  rw [hT]
  have HT := Lib.hid hT
  clear hT
  go_enter Tryd.func59, Tryd.ntmps59
  repeat (first
            | ((with_reducible refine wpl_build t ?_ ?_); (focus rw [← HT.out]; kernel_rfl); simp only [Act.put, List.setIfInBounds_toArray, List.set_cons_zero, List.set_cons_succ])
            | ((with_reducible refine wpl_store w.heap.size _ _ t i64x32 (Blk.new w _ _) ?_ hts ht1 ?_ ?_ ?_); (focus kernel_rfl); (focus rfl); (focus rfl))
            | go_values | go_skip | go_guarded | go_step | go_upon | go_back | (simp only [Int.not_lt] at *; go_simp))
  refine bodyPost_ret (results_cell_row rfl _ _ w.heap.size _ _ (0, 0) _ rfl ((Blk.new w _ _).setRow _) Tryd.underlying105 rfl (by rw [hts]; exact i64x32)) rfl ?_
  exact ⟨rfl, (below_alloc _ _).grown (grownBy_setRow _ _ _) (by simp) (fun q hq => by cases hq; exact Nat.le_refl _)⟩
end Go.Proofs.YtbbcofpdfkhljaaDoor.H
namespace Go.Proofs.YtbbcofpdfkhljaaDoor.H
open Go.RowKit Go.Rat
theorem or4 (a b c d : Nat) (ha : a < 256) (hb : b < 256) (hc : c < 256) (hd : d < 256) :
    bits .or .u32 (bits .or .u32 (bits .or .u32 ((a : Int) * 16777216 % 4294967296) ((b : Int) * 65536 % 4294967296)) ((c : Int) * 256 % 4294967296)) (d : Int) = ((((a * 256 + b) * 256 + c) * 256 + d : Nat) : Int) := by
  have hw : ∀ n : Int, 0 ≤ n → n < 2 ^ 32 → IntKind.u32.wrap n = n := fun n h0 h1 => by simp [IntKind.wrap, IntKind.bits, IntKind.signed]; omega
  have join : ∀ (x y i : Nat), y < 2 ^ i → x * 2 ^ i + y < 4294967296 → bits .or .u32 ((x * 2 ^ i : Nat) : Int) (y : Int) = ((x * 2 ^ i + y : Nat) : Int) := by
    intro x y i hy hxy
    rw [(bits_nat .u32 32 (by decide) hw (x * 2 ^ i) y (by omega) (by omega)).2]
    have := Nat.shiftLeft_add_eq_or_of_lt (i := i) (b := y) hy x
    rw [Nat.shiftLeft_eq] at this
    rw [← this]
  rw [Int.emod_eq_of_lt (by omega) (by omega), Int.emod_eq_of_lt (by omega) (by omega), Int.emod_eq_of_lt (by omega) (by omega)]
  have h1 := join a (b * 65536) 24 (by omega) (by omega)
  have h2 := join (a * 256 + b) (c * 256) 16 (by omega) (by omega)
  have h3 := join ((a * 256 + b) * 256 + c) d 8 (by omega) (by omega)
  rw [show (a : Int) * 16777216 = ((a * 2 ^ 24 : Nat) : Int) by omega, show (b : Int) * 65536 = ((b * 65536 : Nat) : Int) by omega, h1,
    show ((a * 2 ^ 24 + b * 65536 : Nat) : Int) = (((a * 256 + b) * 2 ^ 16 : Nat) : Int) by omega, show (c : Int) * 256 = ((c * 256 : Nat) : Int) by omega, h2,
    show (((a * 256 + b) * 2 ^ 16 + c * 256 : Nat) : Int) = ((((a * 256 + b) * 256 + c) * 2 ^ 8 : Nat) : Int) by omega, h3]
/-- The blocks of the document's Block: the state, the bytes, what is answered, the words. -/
structure RI (w : World) (sl : List Int) (xs : List UInt8) (wr : World) (cs : List Int) : Prop where
  s : Blk wr w.heap.size 92 (u32s sl).toArray
  i : Blk wr (w.heap.size + 1) 94 (bvs xs).toArray
  r : Blk wr (w.heap.size + 1 + 1) 92 (u32s (List.replicate 8 0)).toArray
  w_ : Blk wr (w.heap.size + 1 + 1 + 1) 105 (u32s cs).toArray
  b : Below w.heap.size w wr
theorem cell_kept' {w : World} {g i b j : Nat} {v : Value} (h : g ≠ b) : (w.setCell ⟨g, i, none⟩ v).cell? ⟨b, j, none⟩ = w.cell? ⟨b, j, none⟩ :=
  World.cell?_of_block (Below.heap_setCell w ⟨g, i, none⟩ v b (fun e => h e.symm))
theorem RI.step {w wr : World} {sl cs : List Int} {xs : List UInt8} (h : RI w sl xs wr cs) (k : Nat) (v : Int) : RI w sl xs (wr.setCell ⟨w.heap.size + 1 + 1 + 1, k, none⟩ (.int .u32 v)).drew (cs.set k v) := by
  refine ⟨h.s.far (by simp; omega) _, h.i.far (by simp) _, h.r.far (by simp) _, ?_, (h.b.grown (grownBy_set wr _ k _) h.b.size (fun q hq => by cases hq; omega)).drew⟩
  have := h.w_.set_ k (.int .u32 v)
  rw [u32s_set] at this
  exact this
theorem RI.drew {w wr : World} {sl cs : List Int} {xs : List UInt8} (h : RI w sl xs wr cs) : RI w sl xs wr.drew cs := ⟨h.s, h.i, h.r, h.w_, h.b.drew⟩
set_option maxRecDepth 20000 in
set_option maxHeartbeats 4000000 in
theorem rblock_any (n : Nat) (hn64 : n = 64) (w : World) (sl : List Int) (hs8 : sl.length = 8) (xs : List UInt8) (hl : xs.length = 64) (tb : List Int) (htb : tblL = tb) : Calls Tryd.prog 49 #[.agg (u32s sl).toArray, .agg (bvs xs).toArray] w fun e w' => e = .returned (.agg (u32s (blockF n tb sl xs)).toArray) ∧ Below w.heap.size w w' := by
  obtain ⟨tt, hTT⟩ : ∃ tt, blockF n tb sl xs = tt := ⟨_, rfl⟩
  rw [hTT]
  have HT := Lib.hid hTT
  clear hTT
  have HN := Lib.hid hn64
  clear hn64
  have htl : tb.length = 64 := htb ▸ tblL_length
  have HTB := Lib.hid htb
  clear htb
  go_enter Tryd.func49, Tryd.ntmps49
  go_wp2_with fail
  have hS := (((Blk.new w 92 (u32s sl).toArray).alloc (.cells (bvs xs).toArray 94)).alloc (.cells (u32s (List.replicate 8 0)).toArray 92)).alloc (.cells (u32s (List.replicate 64 0)).toArray 105)
  have hI : Blk ((((w.alloc (.cells (u32s sl).toArray 92)).alloc (.cells (bvs xs).toArray 94)).alloc (.cells (u32s (List.replicate 8 0)).toArray 92)).alloc (.cells (u32s (List.replicate 64 0)).toArray 105)) (w.heap.size + 1) 94 (bvs xs).toArray := by simpa using ((Blk.new (w.alloc (.cells (u32s sl).toArray 92)) 94 (bvs xs).toArray).alloc (.cells (u32s (List.replicate 8 0)).toArray 92)).alloc (.cells (u32s (List.replicate 64 0)).toArray 105)
  have hR : Blk ((((w.alloc (.cells (u32s sl).toArray 92)).alloc (.cells (bvs xs).toArray 94)).alloc (.cells (u32s (List.replicate 8 0)).toArray 92)).alloc (.cells (u32s (List.replicate 64 0)).toArray 105)) (w.heap.size + 1 + 1) 92 (u32s (List.replicate 8 0)).toArray := by simpa using (Blk.new ((w.alloc (.cells (u32s sl).toArray 92)).alloc (.cells (bvs xs).toArray 94)) 92 (u32s (List.replicate 8 0)).toArray).alloc (.cells (u32s (List.replicate 64 0)).toArray 105)
  have hW : Blk ((((w.alloc (.cells (u32s sl).toArray 92)).alloc (.cells (bvs xs).toArray 94)).alloc (.cells (u32s (List.replicate 8 0)).toArray 92)).alloc (.cells (u32s (List.replicate 64 0)).toArray 105)) (w.heap.size + 1 + 1 + 1) 105 (u32s (List.replicate 64 0)).toArray := by simpa using Blk.new (((w.alloc (.cells (u32s sl).toArray 92)).alloc (.cells (bvs xs).toArray 94)).alloc (.cells (u32s (List.replicate 8 0)).toArray 92)) 105 (u32s (List.replicate 64 0)).toArray
  have hsz : ((((w.alloc (.cells (u32s sl).toArray 92)).alloc (.cells (bvs xs).toArray 94)).alloc (.cells (u32s (List.replicate 8 0)).toArray 92)).alloc (.cells (u32s (List.replicate 64 0)).toArray 105)).heap.size = w.heap.size + 1 + 1 + 1 + 1 := by simp
  have hb : Below w.heap.size w ((((w.alloc (.cells (u32s sl).toArray 92)).alloc (.cells (bvs xs).toArray 94)).alloc (.cells (u32s (List.replicate 8 0)).toArray 92)).alloc (.cells (u32s (List.replicate 64 0)).toArray 105)) := below_alloc2 (below_alloc2 (below_alloc2 (below_alloc _ _) (by simp) _) (by simp) _) (by simp) _
  go_loopw [6] (fun i wr => ∃ k : Nat, k ≤ 16 ∧ i = .int .i64 k ∧ RI w sl xs wr (ws1 xs k)) (fun i _ => 16 - (intOf i).toNat)
  case atStart => exact ⟨0, by omega, rfl, hS, hI, hR, hW, hb⟩
  case round =>
    obtain ⟨k, hk, rfl, hRI⟩ := hrel
    by_cases hlt : k < 16
    · have g1 : (0 : Int) ≤ (k : Int) := by omega
      have g2 : (k : Int) < 16 := by omega
      have g3 : (4 : Int) * (k : Int) < 64 := by omega
      have g4 : (4 : Int) * (k : Int) + 1 < 64 := by omega
      have g5 : (4 : Int) * (k : Int) + 2 < 64 := by omega
      have g6 : (4 : Int) * (k : Int) + 3 < 64 := by omega
      have g7 : (0 : Int) ≤ 4 * (k : Int) := by omega
      have g8 : (k : Int) < 64 := by omega
      have r0 : IntKind.i64.wrap (4 * (k : Int)) = 4 * (k : Int) := IntWalk.i64_in _ (by omega)
      have r1 : IntKind.i64.wrap (4 * (k : Int) + 1) = 4 * (k : Int) + 1 := IntWalk.i64_in _ (by omega)
      have r2 : IntKind.i64.wrap (4 * (k : Int) + 2) = 4 * (k : Int) + 2 := IntWalk.i64_in _ (by omega)
      have r3 : IntKind.i64.wrap (4 * (k : Int) + 3) = 4 * (k : Int) + 3 := IntWalk.i64_in _ (by omega)
      have t0 : (4 * (k : Int)).toNat = 4 * k := by omega
      have t1 : (4 * (k : Int) + 1).toNat = 4 * k + 1 := by omega
      have t2 : (4 * (k : Int) + 2).toNat = 4 * k + 2 := by omega
      have t3 : (4 * (k : Int) + 3).toNat = 4 * k + 3 := by omega
      have u1 : (0 : Int) ≤ 4 * (k : Int) + 1 := by omega
      have u2 : (0 : Int) ≤ 4 * (k : Int) + 2 := by omega
      have u3 : (0 : Int) ≤ 4 * (k : Int) + 3 := by omega
      have qb : ∀ j, j < 4 → wr.cell? ⟨w.heap.size + 1, 4 * k + j, none⟩ = some (.int .u8 ((xs.getD (4 * k + j) 0).toNat : Int)) := fun j hj => bytes_at hRI.i (by omega)
      have q0 := qb 0 (by omega)
      have q1 := qb 1 (by omega)
      have q2 := qb 2 (by omega)
      have q3 := qb 3 (by omega)
      clear qb
      have hp : (((xs.getD (4 * k + 0) 0).toNat * 256 + (xs.getD (4 * k + 1) 0).toNat) * 256 + (xs.getD (4 * k + 2) 0).toNat) * 256 + (xs.getD (4 * k + 3) 0).toNat = part xs k 4 := by simp [part]
      have HP := Lib.hid hp
      clear hp
      have hy0 := (xs.getD (4 * k + 0) 0).toNat_lt
      have hy1 := (xs.getD (4 * k + 1) 0).toNat_lt
      have hy2 := (xs.getD (4 * k + 2) 0).toNat_lt
      have hy3 := (xs.getD (4 * k + 3) 0).toNat_lt
      generalize (xs.getD (4 * k + 0) 0).toNat = y0 at *
      generalize (xs.getD (4 * k + 1) 0).toNat = y1 at *
      generalize (xs.getD (4 * k + 2) 0).toNat = y2 at *
      generalize (xs.getD (4 * k + 3) 0).toNat = y3 at *
      rw [Nat.add_zero] at q0
      have hv : bits .or .u32 (bits .or .u32 (bits .or .u32 ((y0 : Int) % 4294967296 * 16777216 % 4294967296) ((y1 : Int) % 4294967296 * 65536 % 4294967296)) ((y2 : Int) % 4294967296 * 256 % 4294967296)) ((y3 : Int) % 4294967296) = (part xs k 4 : Int) := by
        rw [Int.emod_eq_of_lt (show (0 : Int) ≤ (y0 : Int) by omega) (by omega), Int.emod_eq_of_lt (show (0 : Int) ≤ (y1 : Int) by omega) (by omega), Int.emod_eq_of_lt (show (0 : Int) ≤ (y2 : Int) by omega) (by omega), Int.emod_eq_of_lt (show (0 : Int) ≤ (y3 : Int) by omega) (by omega), or4 y0 y1 y2 y3 (by omega) (by omega) (by omega) (by omega), HP.out]
      have HV := Lib.hid hv
      clear hv hy0 hy1 hy2 hy3
      go_wp2_with fail
      refine wp_region_plan [(0, true), (1, true), (2, true), (3, true), (4, true), (5, true), (6, true), (7, true), (8, true), (9, true), (10, true), (11, true), (12, true), (13, true), (14, true), (15, true), (16, true), (17, true), (18, true), (19, true), (20, true), (21, true), (22, true), (23, true), (24, true), (25, true), (26, true), (27, true), (28, true), (29, true), (30, true), (31, false)]
        (fun z => z.cell? ⟨w.heap.size + 1, 4 * k, none⟩ = some (.int .u8 (y0 : Int)) ∧ z.cell? ⟨w.heap.size + 1, 4 * k + 1, none⟩ = some (.int .u8 (y1 : Int)) ∧ z.cell? ⟨w.heap.size + 1, 4 * k + 2, none⟩ = some (.int .u8 (y2 : Int)) ∧ z.cell? ⟨w.heap.size + 1, 4 * k + 3, none⟩ = some (.int .u8 (y3 : Int))) (by kernel_rfl) (by kernel_rfl) (by kernel_rfl) (by kernel_rfl) (fun _ _ d _ _ h => by cases d <;> exact h) ⟨q0, q1, q2, q3⟩ ?_
      simp only [planOps, List.getElem?_toArray, List.getElem?_cons_zero, List.getElem?_cons_succ]
      repeat (first
        | (refine wpS_skip (by rfl) ?_; simp only [Act.put, List.setIfInBounds_toArray, List.set_cons_zero, List.set_cons_succ])
        | (refine wpS_q ?_ (by rfl) ?_ ?_; rotate_left; (focus (intro z hz; (try dsimp only at hz); go_simp; rfl)); simp only [Act.put, List.setIfInBounds_toArray, List.set_cons_zero, List.set_cons_succ]))
      have c5 := u32s_at hRI.w_ (i := k) (by rw [ws1_length]; omega)
      have f5 := hRI.w_.frozen k
      refine wpS_l (by rfl) (fun Kq hK => ?_)
      go_wp2_with fail
      rw [HV.out]
      have hlt1 := hRI.i.lt
      have hk1 := fun (j : Nat) (v : Value) => cell_kept' (w := wr) (g := w.heap.size + 1 + 1 + 1) (i := k) (v := v) (b := w.heap.size + 1) (j := j) (by omega)
      refine hK _ _ (fun z => z.cell? ⟨w.heap.size + 1, 4 * k, none⟩ = some (.int .u8 (y0 : Int)) ∧ z.cell? ⟨w.heap.size + 1, 4 * k + 1, none⟩ = some (.int .u8 (y1 : Int)) ∧ z.cell? ⟨w.heap.size + 1, 4 * k + 2, none⟩ = some (.int .u8 (y2 : Int)) ∧ z.cell? ⟨w.heap.size + 1, 4 * k + 3, none⟩ = some (.int .u8 (y3 : Int))) ⟨(hk1 _ _).trans q0, (hk1 _ _).trans q1, (hk1 _ _).trans q2, (hk1 _ _).trans q3⟩ (fun _ h => h) ?_
      clear hK
      refine wpS_nil ?_
      go_wp2_with fail
      exact ⟨⟨k + 1, by omega, by go_num, hRI.step k (part xs k 4 : Int)⟩, by simp [intOf]; omega⟩
    · obtain rfl : k = 16 := by omega
      have hRI2 : RI w sl xs wr (ws2 xs 16) := hRI
      go_wp2_with fail
      clear hRI
      go_loopw [7] (fun i wr => ∃ k : Nat, 16 ≤ k ∧ k ≤ 64 ∧ i = .int .i64 k ∧ RI w sl xs wr (ws2 xs k)) (fun i _ => 64 - (intOf i).toNat)
      case atStart => exact ⟨16, by omega, by omega, rfl, hRI2⟩
      case round =>
        obtain ⟨k, hk16, hk, rfl, hRI⟩ := hrel
        by_cases hlt : k < 64
        · have hl1 := ws2_length xs k
          have hW := hRI.w_
          have c1 := u32s_at hW (i := k - 15) (by omega)
          have c2 := u32s_at hW (i := k - 2) (by omega)
          have c3 := u32s_at hW (i := k - 16) (by omega)
          have c4 := u32s_at hW (i := k - 7) (by omega)
          have f1 := hW.frozen k
          have c5 := u32s_at hW (i := k) (by omega)
          obtain ⟨x0, e0⟩ : ∃ x, (ws2 xs k).getD k 0 = x := ⟨_, rfl⟩
          rw [e0] at c5
          clear e0
          obtain ⟨x15, e15⟩ : ∃ x, (ws2 xs k).getD (k - 15) 0 = x := ⟨_, rfl⟩
          obtain ⟨x2, e2⟩ : ∃ x, (ws2 xs k).getD (k - 2) 0 = x := ⟨_, rfl⟩
          obtain ⟨x16, e16⟩ : ∃ x, (ws2 xs k).getD (k - 16) 0 = x := ⟨_, rfl⟩
          obtain ⟨x7, e7⟩ : ∃ x, (ws2 xs k).getD (k - 7) 0 = x := ⟨_, rfl⟩
          rw [e15] at c1
          rw [e2] at c2
          rw [e16] at c3
          rw [e7] at c4
          have n1 : ((k : Int) - 15).toNat = k - 15 := by omega
          have n2 : ((k : Int) - 2).toNat = k - 2 := by omega
          have n3 : ((k : Int) - 16).toNat = k - 16 := by omega
          have n4 : ((k : Int) - 7).toNat = k - 7 := by omega
          have r1 : IntKind.i64.wrap ((k : Int) - 15) = (k : Int) - 15 := IntWalk.i64_in _ (by omega)
          have r2 : IntKind.i64.wrap ((k : Int) - 2) = (k : Int) - 2 := IntWalk.i64_in _ (by omega)
          have r3 : IntKind.i64.wrap ((k : Int) - 16) = (k : Int) - 16 := IntWalk.i64_in _ (by omega)
          have r4 : IntKind.i64.wrap ((k : Int) - 7) = (k : Int) - 7 := IntWalk.i64_in _ (by omega)
          have d15 : (15 : Int) ≤ (k : Int) := by omega
          have d2 : (2 : Int) ≤ (k : Int) := by omega
          have d16 : (16 : Int) ≤ (k : Int) := by omega
          have d7 : (7 : Int) ≤ (k : Int) := by omega
          have m15 : (k : Int) - 15 < 64 := by omega
          have m2 : (k : Int) - 2 < 64 := by omega
          have m16 : (k : Int) - 16 < 64 := by omega
          have m7 : (k : Int) - 7 < 64 := by omega
          have HK := Lib.hid e15
          have HK2 := Lib.hid e2
          have HK16 := Lib.hid e16
          have HK7 := Lib.hid e7
          clear e15 e2 e16 e7
          go_wp2_with fail
          refine wp_region_plan [(0, true), (1, true), (2, true), (3, true), (5, true), (6, true), (7, true), (8, true), (11, true), (12, true), (13, true), (14, true), (15, true), (4, false), (9, false), (10, true), (16, true), (17, true)]
            (fun z => z.cell? ⟨w.heap.size + 1 + 1 + 1, k - 15, none⟩ = some (.int .u32 x15)) (by kernel_rfl) (by kernel_rfl) (by kernel_rfl) (by kernel_rfl) (fun _ _ d _ _ h => by cases d <;> exact h) c1 ?_
          simp only [planOps, List.getElem?_toArray, List.getElem?_cons_zero, List.getElem?_cons_succ]
          repeat (first
            | (refine wpS_skip (by rfl) ?_; simp only [Act.put, List.setIfInBounds_toArray, List.set_cons_zero, List.set_cons_succ])
            | (refine wpS_q ?_ (by rfl) ?_ ?_; rotate_left; (focus (intro z hz; (try dsimp only at hz); go_simp; rfl)); simp only [Act.put, List.setIfInBounds_toArray, List.set_cons_zero, List.set_cons_succ]))
          refine wpS_l (by rfl) (fun Kq hK => ?_)
          go_wp2_with fail
          refine (rot_any _ x15 7 (by omega) (by omega)).mono ?_
          rintro e w' ⟨rfl, rfl⟩
          refine hK _ _ (fun z => z.cell? ⟨w.heap.size + 1 + 1 + 1, k - 15, none⟩ = some (.int .u32 x15)) c1 (fun _ h => h) ?_
          clear hK
          repeat (first
            | (refine wpS_skip (by rfl) ?_; simp only [Act.put, List.setIfInBounds_toArray, List.set_cons_zero, List.set_cons_succ])
            | (refine wpS_q ?_ (by rfl) ?_ ?_; rotate_left; (focus (intro z hz; (try dsimp only at hz); go_simp; rfl)); simp only [Act.put, List.setIfInBounds_toArray, List.set_cons_zero, List.set_cons_succ]))
          refine wpS_l (by rfl) (fun Kq hK => ?_)
          go_wp2_with fail
          refine (rot_any _ x15 18 (by omega) (by omega)).mono ?_
          rintro e w' ⟨rfl, rfl⟩
          refine hK _ _ (fun z => z.cell? ⟨w.heap.size + 1 + 1 + 1, k - 15, none⟩ = some (.int .u32 x15)) c1 (fun _ h => h) ?_
          clear hK
          repeat (first
            | (refine wpS_skip (by rfl) ?_; simp only [Act.put, List.setIfInBounds_toArray, List.set_cons_zero, List.set_cons_succ])
            | (refine wpS_q ?_ (by rfl) ?_ ?_; rotate_left; (focus (intro z hz; (try dsimp only at hz); go_simp; rfl)); simp only [Act.put, List.setIfInBounds_toArray, List.set_cons_zero, List.set_cons_succ]))
          refine wpS_nil ?_
          go_wp2_with fail
          refine wp_region_plan [(0, true), (1, true), (2, true), (3, true), (5, true), (6, true), (7, true), (8, true), (11, true), (12, true), (13, true), (14, true), (15, true), (4, false), (9, false), (10, true), (16, true), (17, true)]
            (fun z => z.cell? ⟨w.heap.size + 1 + 1 + 1, k - 2, none⟩ = some (.int .u32 x2)) (by kernel_rfl) (by kernel_rfl) (by kernel_rfl) (by kernel_rfl) (fun _ _ d _ _ h => by cases d <;> exact h) c2 ?_
          simp only [planOps, List.getElem?_toArray, List.getElem?_cons_zero, List.getElem?_cons_succ]
          repeat (first
            | (refine wpS_skip (by rfl) ?_; simp only [Act.put, List.setIfInBounds_toArray, List.set_cons_zero, List.set_cons_succ])
            | (refine wpS_q ?_ (by rfl) ?_ ?_; rotate_left; (focus (intro z hz; (try dsimp only at hz); go_simp; rfl)); simp only [Act.put, List.setIfInBounds_toArray, List.set_cons_zero, List.set_cons_succ]))
          refine wpS_l (by rfl) (fun Kq hK => ?_)
          go_wp2_with fail
          refine (rot_any _ x2 17 (by omega) (by omega)).mono ?_
          rintro e w' ⟨rfl, rfl⟩
          refine hK _ _ (fun z => z.cell? ⟨w.heap.size + 1 + 1 + 1, k - 2, none⟩ = some (.int .u32 x2)) c2 (fun _ h => h) ?_
          clear hK
          repeat (first
            | (refine wpS_skip (by rfl) ?_; simp only [Act.put, List.setIfInBounds_toArray, List.set_cons_zero, List.set_cons_succ])
            | (refine wpS_q ?_ (by rfl) ?_ ?_; rotate_left; (focus (intro z hz; (try dsimp only at hz); go_simp; rfl)); simp only [Act.put, List.setIfInBounds_toArray, List.set_cons_zero, List.set_cons_succ]))
          refine wpS_l (by rfl) (fun Kq hK => ?_)
          go_wp2_with fail
          refine (rot_any _ x2 19 (by omega) (by omega)).mono ?_
          rintro e w' ⟨rfl, rfl⟩
          refine hK _ _ (fun z => z.cell? ⟨w.heap.size + 1 + 1 + 1, k - 2, none⟩ = some (.int .u32 x2)) c2 (fun _ h => h) ?_
          clear hK
          repeat (first
            | (refine wpS_skip (by rfl) ?_; simp only [Act.put, List.setIfInBounds_toArray, List.set_cons_zero, List.set_cons_succ])
            | (refine wpS_q ?_ (by rfl) ?_ ?_; rotate_left; (focus (intro z hz; (try dsimp only at hz); go_simp; rfl)); simp only [Act.put, List.setIfInBounds_toArray, List.set_cons_zero, List.set_cons_succ]))
          refine wpS_nil ?_
          go_wp2_with fail
          have hk1 := fun (j : Nat) (hj : j ≠ k) (v : Value) => cell_set_ne wr (w.heap.size + 1 + 1 + 1) k j v (fun e => hj e.symm)
          refine wp_region_plan [(0, true), (1, true), (2, true), (3, true), (4, true), (5, true), (6, true), (7, true), (8, true), (9, true), (10, true), (11, true), (12, true), (13, true), (14, true), (15, false)]
            (fun z => z.cell? ⟨w.heap.size + 1 + 1 + 1, k - 16, none⟩ = some (.int .u32 x16) ∧ z.cell? ⟨w.heap.size + 1 + 1 + 1, k - 7, none⟩ = some (.int .u32 x7)) (by kernel_rfl) (by kernel_rfl) (by kernel_rfl) (by kernel_rfl) (fun _ _ d _ _ h => by cases d <;> exact h) ⟨c3, c4⟩ ?_
          simp only [planOps, List.getElem?_toArray, List.getElem?_cons_zero, List.getElem?_cons_succ]
          repeat (first
            | (refine wpS_skip (by rfl) ?_; simp only [Act.put, List.setIfInBounds_toArray, List.set_cons_zero, List.set_cons_succ])
            | (refine wpS_q ?_ (by rfl) ?_ ?_; rotate_left; (focus (intro z hz; (try dsimp only at hz); go_simp; rfl)); simp only [Act.put, List.setIfInBounds_toArray, List.set_cons_zero, List.set_cons_succ]))
          refine wpS_l (by rfl) (fun Kq hK => ?_)
          go_wp2_with fail
          refine hK _ _ (fun z => z.cell? ⟨w.heap.size + 1 + 1 + 1, k - 16, none⟩ = some (.int .u32 x16) ∧ z.cell? ⟨w.heap.size + 1 + 1 + 1, k - 7, none⟩ = some (.int .u32 x7)) ⟨(hk1 _ (by omega) _).trans c3, (hk1 _ (by omega) _).trans c4⟩ (fun _ h => h) ?_
          clear hK
          refine wpS_nil ?_
          go_wp2_with fail
          have hN : ws2 xs (k + 1) = (ws2 xs k).set k ((x16 + bits .xor .u32 (bits .xor .u32 (rotF x15 7) (rotF x15 18)) (x15 / 8) + x7 + bits .xor .u32 (bits .xor .u32 (rotF x2 17) (rotF x2 19)) (x2 / 1024)) % 4294967296) := by
            rw [ws2_succ xs k hk16, HK16.out, HK.out, HK7.out, HK2.out]
            rfl
          refine ⟨⟨k + 1, by omega, by omega, by go_num, ?_⟩, by simp [intOf]; omega⟩
          rw [hN]
          exact (hRI.step k _).drew.drew
        · obtain rfl : k = n := by have := HN.out; omega
          have hl1 := ws2_length xs k
          obtain ⟨L, hL⟩ : ∃ L, ws2 xs k = L := ⟨_, rfl⟩
          rw [hL] at hRI hl1
          have HL := Lib.hid hL
          clear hL hRI2
          have hlt2 : ¬ (k : Int) < 64 := by omega
          repeat (first
            | ((with_reducible refine wpl_load w.heap.size _ _ Tryd.underlying92 i8x32 hRI.s ((u32s_size _).trans hs8) ?_ ?_); (focus rfl); simp only [Act.put, List.setIfInBounds_toArray, List.set_cons_zero, List.set_cons_succ])
            | ((with_reducible refine wpl_store_fresh (u32s sl).toArray i8x32 ?_ ((u32s_size _).trans hs8) (u32s_one _) ?_ ?_ ?_); (focus kernel_rfl); (focus rfl); (focus rfl); intro z1 hV1 hl1 hb1)
            | (go_at_call 59; refine (k_any _).mono ?_; rw [HTB.out]; rintro e w2 ⟨rfl, hb2⟩)
            | ((with_reducible refine wpl_store_fresh (u32s tb).toArray i64x32 ?_ ((u32s_size _).trans htl) (u32s_one _) ?_ ?_ ?_); (focus kernel_rfl); (focus rfl); (focus rfl); intro z3 hT3 hl3 hb3)
            | go_values | go_skip | go_guarded | go_step | go_upon | go_back | (simp only [Int.not_lt] at *; go_simp))
          have hb13 : Below z1.heap.size z1 z3 := hb2.trans (hb3.mono hb2.size)
          have hbw : Below wr.heap.size wr z3 := hb1.trans (hb13.mono (Nat.le_of_lt hl1))
          have hV3 := hV1.below hb13 hl1
          have hW3 := hRI.w_.below hbw hRI.w_.lt
          have hS3 := hRI.s.below hbw hRI.s.lt
          have hR3 := hRI.r.below hbw hRI.r.lt
          have hlr := hRI.r.lt
          have hls := hRI.s.lt
          have hlw := hRI.w_.lt
          have hbz : Below w.heap.size w z3 := hRI.b.trans (hbw.mono (by omega))
          have hVT : wr.heap.size ≠ w2.heap.size := by have := hb2.size; omega
          have hVW : wr.heap.size ≠ w.heap.size + 1 + 1 + 1 := by omega
          have hVS : wr.heap.size ≠ w.heap.size := by omega
          have hVR : wr.heap.size ≠ w.heap.size + 1 + 1 := by omega
          have hVb : w.heap.size ≤ wr.heap.size := by omega
          clear hV1 hb1 hb2 hb3 hb13 hbw hlr hls hlw hRI hl1 hl3
          generalize wr.heap.size = V at *
          generalize w2.heap.size = T at *
          generalize k = kn at *
          have HV3 := Lib.hid (show u32s (outF (rnds tb L (s8 sl) 0)) = u32s sl from by obtain ⟨s0, s1, s2, s3, s4, s5, s6, s7, rfl⟩ := list8 hs8; rfl)
          go_loopw [12] (fun i wz => ∃ k : Nat, k ≤ 64 ∧ i = .int .i64 k ∧ Blk wz V 92 (u32s (outF (rnds tb L (s8 sl) k))).toArray ∧ z3.grownBy wz (some V)) (fun i _ => 64 - (intOf i).toNat)
          case atStart => exact ⟨0, by omega, rfl, by rw [HV3.out]; exact hV3, World.grownBy.refl _ _⟩
          case round =>
            obtain ⟨k, hk, rfl, hV4, hg4⟩ := hrel
            obtain ⟨R, hR8⟩ : ∃ R, rnds tb L (s8 sl) k = R := ⟨_, rfl⟩
            rw [hR8] at hV4
            have hT4 := hT3.grown hg4 (by intro h; injection h with h; omega)
            have hW4 := hW3.grown hg4 (by intro h; injection h with h; omega)
            by_cases hlt64 : k < 64
            · obtain ⟨a, b, c, d, e, f, g, hh⟩ := R
              have HR8 := Lib.hid hR8
              clear hR8
              have qi := u32s_at hW4 (i := k) (by omega)
              have qt := u32s_at hT4 (i := k) (by omega)
              obtain ⟨wk, hwk⟩ : ∃ x, L.getD k 0 = x := ⟨_, rfl⟩
              obtain ⟨tk, htk⟩ : ∃ x, tb.getD k 0 = x := ⟨_, rfl⟩
              rw [hwk] at qi
              rw [htk] at qt
              have HW := Lib.hid hwk
              have HTK := Lib.hid htk
              clear hwk htk
              have g1 : (0 : Int) ≤ (k : Int) := by omega
              have g2 : (k : Int) < 64 := by omega
              have c0 : wr.cell? ⟨V, 0, none⟩ = some (.int .u32 a) := hV4.cell 0
              have c1 : wr.cell? ⟨V, 1, none⟩ = some (.int .u32 b) := hV4.cell 1
              have c2 : wr.cell? ⟨V, 2, none⟩ = some (.int .u32 c) := hV4.cell 2
              have c3 : wr.cell? ⟨V, 3, none⟩ = some (.int .u32 d) := hV4.cell 3
              have c4 : wr.cell? ⟨V, 4, none⟩ = some (.int .u32 e) := hV4.cell 4
              have c5 : wr.cell? ⟨V, 5, none⟩ = some (.int .u32 f) := hV4.cell 5
              have c6 : wr.cell? ⟨V, 6, none⟩ = some (.int .u32 g) := hV4.cell 6
              have c7 : wr.cell? ⟨V, 7, none⟩ = some (.int .u32 hh) := hV4.cell 7
              go_wp2_with fail
              refine wp_region_plan [(0, true), (1, true), (2, true), (4, true), (7, true), (11, true), (12, true), (13, true), (14, true), (15, true), (16, true), (17, true), (18, true), (19, true), (20, true), (22, true), (23, true), (24, true), (26, true), (27, true), (28, true), (3, false), (5, false), (6, true), (8, false), (9, true), (10, true), (21, true), (25, true), (29, true), (30, true)]
                (fun z => z.cell? ⟨V, 7, none⟩ = some (.int .u32 hh) ∧ z.cell? ⟨V, 5, none⟩ = some (.int .u32 f) ∧ z.cell? ⟨V, 6, none⟩ = some (.int .u32 g) ∧ z.cell? ⟨T, k, none⟩ = some (.int .u32 tk) ∧ z.cell? ⟨w.heap.size + 1 + 1 + 1, k, none⟩ = some (.int .u32 wk)) (by kernel_rfl) (by kernel_rfl) (by kernel_rfl) (by kernel_rfl) (fun _ _ d _ _ h => by cases d <;> exact h) ⟨c7, c5, c6, qt, qi⟩ ?_
              simp only [planOps, List.getElem?_toArray, List.getElem?_cons_zero, List.getElem?_cons_succ]
              repeat (first
                | (refine wpS_skip (by rfl) ?_; simp only [Act.put, List.setIfInBounds_toArray, List.set_cons_zero, List.set_cons_succ])
                | (refine wpS_q ?_ (by rfl) ?_ ?_; rotate_left; (focus (intro z hz; (try dsimp only at hz); go_simp; rfl)); simp only [Act.put, List.setIfInBounds_toArray, List.set_cons_zero, List.set_cons_succ]))
              refine wpS_l (by rfl) (fun Kq hK => ?_)
              go_wp2_with fail
              refine (rot_any _ e 6 (by omega) (by omega)).mono ?_
              rintro e' w' ⟨rfl, rfl⟩
              refine hK _ _ (fun z => z.cell? ⟨V, 7, none⟩ = some (.int .u32 hh) ∧ z.cell? ⟨V, 5, none⟩ = some (.int .u32 f) ∧ z.cell? ⟨V, 6, none⟩ = some (.int .u32 g) ∧ z.cell? ⟨T, k, none⟩ = some (.int .u32 tk) ∧ z.cell? ⟨w.heap.size + 1 + 1 + 1, k, none⟩ = some (.int .u32 wk)) ⟨c7, c5, c6, qt, qi⟩ (fun _ h => h) ?_
              clear hK
              repeat (first
                | (refine wpS_skip (by rfl) ?_; simp only [Act.put, List.setIfInBounds_toArray, List.set_cons_zero, List.set_cons_succ])
                | (refine wpS_q ?_ (by rfl) ?_ ?_; rotate_left; (focus (intro z hz; (try dsimp only at hz); go_simp; rfl)); simp only [Act.put, List.setIfInBounds_toArray, List.set_cons_zero, List.set_cons_succ]))
              refine wpS_l (by rfl) (fun Kq hK => ?_)
              go_wp2_with fail
              refine (rot_any _ e 11 (by omega) (by omega)).mono ?_
              rintro e' w' ⟨rfl, rfl⟩
              refine hK _ _ (fun z => z.cell? ⟨V, 7, none⟩ = some (.int .u32 hh) ∧ z.cell? ⟨V, 5, none⟩ = some (.int .u32 f) ∧ z.cell? ⟨V, 6, none⟩ = some (.int .u32 g) ∧ z.cell? ⟨T, k, none⟩ = some (.int .u32 tk) ∧ z.cell? ⟨w.heap.size + 1 + 1 + 1, k, none⟩ = some (.int .u32 wk)) ⟨c7, c5, c6, qt, qi⟩ (fun _ h => h) ?_
              clear hK
              repeat (first
                | (refine wpS_skip (by rfl) ?_; simp only [Act.put, List.setIfInBounds_toArray, List.set_cons_zero, List.set_cons_succ])
                | (refine wpS_q ?_ (by rfl) ?_ ?_; rotate_left; (focus (intro z hz; (try dsimp only at hz); go_simp; rfl)); simp only [Act.put, List.setIfInBounds_toArray, List.set_cons_zero, List.set_cons_succ]))
              refine wpS_l (by rfl) (fun Kq hK => ?_)
              go_wp2_with fail
              refine (rot_any _ e 25 (by omega) (by omega)).mono ?_
              rintro e' w' ⟨rfl, rfl⟩
              refine hK _ _ (fun z => z.cell? ⟨V, 7, none⟩ = some (.int .u32 hh) ∧ z.cell? ⟨V, 5, none⟩ = some (.int .u32 f) ∧ z.cell? ⟨V, 6, none⟩ = some (.int .u32 g) ∧ z.cell? ⟨T, k, none⟩ = some (.int .u32 tk) ∧ z.cell? ⟨w.heap.size + 1 + 1 + 1, k, none⟩ = some (.int .u32 wk)) ⟨c7, c5, c6, qt, qi⟩ (fun _ h => h) ?_
              clear hK
              repeat (first
                | (refine wpS_skip (by rfl) ?_; simp only [Act.put, List.setIfInBounds_toArray, List.set_cons_zero, List.set_cons_succ])
                | (refine wpS_q ?_ (by rfl) ?_ ?_; rotate_left; (focus (intro z hz; (try dsimp only at hz); go_simp; rfl)); simp only [Act.put, List.setIfInBounds_toArray, List.set_cons_zero, List.set_cons_succ]))
              refine wpS_nil ?_
              go_wp2_with fail
              refine wp_region_plan [(0, true), (2, true), (5, true), (8, true), (9, true), (10, true), (11, true), (12, true), (13, true), (14, true), (15, true), (16, true), (17, true), (18, true), (19, true), (20, true), (21, true), (22, true), (1, false), (3, false), (4, true), (6, false), (7, true), (23, true), (24, true)]
                (fun z => z.cell? ⟨V, 1, none⟩ = some (.int .u32 b) ∧ z.cell? ⟨V, 2, none⟩ = some (.int .u32 c)) (by kernel_rfl) (by kernel_rfl) (by kernel_rfl) (by kernel_rfl) (fun _ _ d _ _ h => by cases d <;> exact h) ⟨c1, c2⟩ ?_
              simp only [planOps, List.getElem?_toArray, List.getElem?_cons_zero, List.getElem?_cons_succ]
              repeat (first
                | (refine wpS_skip (by rfl) ?_; simp only [Act.put, List.setIfInBounds_toArray, List.set_cons_zero, List.set_cons_succ])
                | (refine wpS_q ?_ (by rfl) ?_ ?_; rotate_left; (focus (intro z hz; (try dsimp only at hz); go_simp; rfl)); simp only [Act.put, List.setIfInBounds_toArray, List.set_cons_zero, List.set_cons_succ]))
              refine wpS_l (by rfl) (fun Kq hK => ?_)
              go_wp2_with fail
              refine (rot_any _ a 2 (by omega) (by omega)).mono ?_
              rintro e' w' ⟨rfl, rfl⟩
              refine hK _ _ (fun z => z.cell? ⟨V, 1, none⟩ = some (.int .u32 b) ∧ z.cell? ⟨V, 2, none⟩ = some (.int .u32 c)) ⟨c1, c2⟩ (fun _ h => h) ?_
              clear hK
              repeat (first
                | (refine wpS_skip (by rfl) ?_; simp only [Act.put, List.setIfInBounds_toArray, List.set_cons_zero, List.set_cons_succ])
                | (refine wpS_q ?_ (by rfl) ?_ ?_; rotate_left; (focus (intro z hz; (try dsimp only at hz); go_simp; rfl)); simp only [Act.put, List.setIfInBounds_toArray, List.set_cons_zero, List.set_cons_succ]))
              refine wpS_l (by rfl) (fun Kq hK => ?_)
              go_wp2_with fail
              refine (rot_any _ a 13 (by omega) (by omega)).mono ?_
              rintro e' w' ⟨rfl, rfl⟩
              refine hK _ _ (fun z => z.cell? ⟨V, 1, none⟩ = some (.int .u32 b) ∧ z.cell? ⟨V, 2, none⟩ = some (.int .u32 c)) ⟨c1, c2⟩ (fun _ h => h) ?_
              clear hK
              repeat (first
                | (refine wpS_skip (by rfl) ?_; simp only [Act.put, List.setIfInBounds_toArray, List.set_cons_zero, List.set_cons_succ])
                | (refine wpS_q ?_ (by rfl) ?_ ?_; rotate_left; (focus (intro z hz; (try dsimp only at hz); go_simp; rfl)); simp only [Act.put, List.setIfInBounds_toArray, List.set_cons_zero, List.set_cons_succ]))
              refine wpS_l (by rfl) (fun Kq hK => ?_)
              go_wp2_with fail
              refine (rot_any _ a 22 (by omega) (by omega)).mono ?_
              rintro e' w' ⟨rfl, rfl⟩
              refine hK _ _ (fun z => z.cell? ⟨V, 1, none⟩ = some (.int .u32 b) ∧ z.cell? ⟨V, 2, none⟩ = some (.int .u32 c)) ⟨c1, c2⟩ (fun _ h => h) ?_
              clear hK
              repeat (first
                | (refine wpS_skip (by rfl) ?_; simp only [Act.put, List.setIfInBounds_toArray, List.set_cons_zero, List.set_cons_succ])
                | (refine wpS_q ?_ (by rfl) ?_ ?_; rotate_left; (focus (intro z hz; (try dsimp only at hz); go_simp; rfl)); simp only [Act.put, List.setIfInBounds_toArray, List.set_cons_zero, List.set_cons_succ]))
              have hV5 : Blk wr.drew.drew V 92 (u32s (outF ⟨a, b, c, d, e, f, g, hh⟩)).toArray := hV4
              refine wpS_nil ?_
              repeat (first
                | ((with_reducible refine wpl_build (u32s (outF (rnd ⟨a, b, c, d, e, f, g, hh⟩ tk wk))).toArray ?_ ?_); (focus kernel_rfl); simp only [Act.put, List.setIfInBounds_toArray, List.set_cons_zero, List.set_cons_succ])
                | ((with_reducible refine wpl_store V _ _ (u32s (outF (rnd ⟨a, b, c, d, e, f, g, hh⟩ tk wk))).toArray i8x32 hV5 ((u32s_size _).trans (outF_length _)) ((u32s_size _).trans (outF_length _)) (u32s_one _) ?_ ?_ ?_); (focus rfl); (focus rfl))
                | go_values | go_skip | go_guarded | go_step | go_upon | go_back | (simp only [Int.not_lt] at *; go_simp))
              have hN : rnds tb L (s8 sl) (k + 1) = rnd ⟨a, b, c, d, e, f, g, hh⟩ tk wk := by rw [rnds, HR8.out, HTK.out, HW.out]
              exact ⟨⟨k + 1, by omega, by go_num, by rw [hN]; exact hV5.setRow _, hg4.trans (World.grownBy.trans (b := wr.drew.drew) ⟨rfl, rfl, rfl, Nat.le_refl _, fun _ _ _ => rfl⟩ (grownBy_setRow _ _ _))⟩, by simp [intOf]; omega⟩
            · obtain ⟨F, hF⟩ : ∃ F, outF R = F := ⟨_, rfl⟩
              rw [hF] at hV4
              have hFl : F.length = 8 := hF ▸ rfl
              have HF := Lib.hid hF
              clear hF
              have g2 : ¬ (k : Int) < 64 := by omega
              have hS4 := hS3.grown hg4 (by intro h; injection h with h; omega)
              have hR4 := hR3.grown hg4 (by intro h; injection h with h; omega)
              have hb4 : Below w.heap.size w wr := hbz.grown hg4 hbz.size (fun q hq => by cases hq; exact hVb)
              go_wp2_with fail
              go_loopw [17] (fun i wq => ∃ k : Nat, k ≤ 8 ∧ i = .int .i64 k ∧ Blk wq V 92 (u32s (adds F sl k)).toArray ∧ wr.grownBy wq (some V)) (fun i _ => 8 - (intOf i).toNat)
              case atStart => exact ⟨0, by omega, rfl, hV4, World.grownBy.refl _ _⟩
              case round =>
                obtain ⟨j, hj, rfl, hV6, hg6⟩ := hrel
                have hal := adds_length F sl j
                rw [hFl] at hal
                have hS6 := hS4.grown hg6 (by intro h; injection h with h; omega)
                by_cases hj8 : j < 8
                · have c1 := u32s_at hV6 (i := j) (by omega)
                  have c2 := u32s_at hS6 (i := j) (by omega)
                  have f1 := hV6.frozen j
                  have h5 := hV6.set_ j (.int .u32 (((adds F sl j).getD j 0 + sl.getD j 0) % 4294967296))
                  rw [u32s_set] at h5
                  have H5 : Hid (Blk _ V 92 (u32s (adds F sl (j + 1))).toArray) := Lib.hid h5
                  clear h5
                  generalize (adds F sl j).getD j 0 = y at *
                  generalize sl.getD j 0 = x at *
                  have g1 : (0 : Int) ≤ (j : Int) := by omega
                  have g3 : (j : Int) < 8 := by omega
                  go_wp2_with fail
                  have hk1 := fun (v : Value) => cell_kept' (w := wr) (g := V) (i := j) (v := v) (b := w.heap.size) (j := j) hVS
                  refine wp_region_plan [(0, true), (1, true), (2, true), (4, true), (5, true), (6, true), (3, false), (7, true), (8, true), (9, false)]
                    (fun z => z.cell? ⟨w.heap.size, j, none⟩ = some (.int .u32 x)) (by kernel_rfl) (by kernel_rfl) (by kernel_rfl) (by kernel_rfl) (fun _ _ d _ _ h => by cases d <;> exact h) c2 ?_
                  simp only [planOps, List.getElem?_toArray, List.getElem?_cons_zero, List.getElem?_cons_succ]
                  repeat (first
                    | (refine wpS_skip (by rfl) ?_; simp only [Act.put, List.setIfInBounds_toArray, List.set_cons_zero, List.set_cons_succ])
                    | (refine wpS_q ?_ (by rfl) ?_ ?_; rotate_left; (focus (intro z hz; (try dsimp only at hz); go_simp; rfl)); simp only [Act.put, List.setIfInBounds_toArray, List.set_cons_zero, List.set_cons_succ]))
                  refine wpS_l (by rfl) (fun Kq hK => ?_)
                  go_wp2_with fail
                  refine hK _ _ (fun z => z.cell? ⟨w.heap.size, j, none⟩ = some (.int .u32 x)) c2 (fun _ h => h) ?_
                  clear hK
                  repeat (first
                    | (refine wpS_skip (by rfl) ?_; simp only [Act.put, List.setIfInBounds_toArray, List.set_cons_zero, List.set_cons_succ])
                    | (refine wpS_q ?_ (by rfl) ?_ ?_; rotate_left; (focus (intro z hz; (try dsimp only at hz); go_simp; rfl)); simp only [Act.put, List.setIfInBounds_toArray, List.set_cons_zero, List.set_cons_succ]))
                  refine wpS_l (by rfl) (fun Kq hK => ?_)
                  go_wp2_with fail
                  refine hK _ _ (fun z => z.cell? ⟨w.heap.size, j, none⟩ = some (.int .u32 x)) ((hk1 _).trans c2) (fun _ h => h) ?_
                  clear hK
                  refine wpS_nil ?_
                  go_wp2_with fail
                  exact ⟨⟨j + 1, by omega, by go_num, H5.out, hg6.trans (World.grownBy.trans (b := wr.drew) ⟨rfl, rfl, rfl, Nat.le_refl _, fun _ _ _ => rfl⟩ (grownBy_set _ V j _))⟩, by simp [intOf]; omega⟩
                · obtain ⟨G, hG⟩ : ∃ G, adds F sl j = G := ⟨_, rfl⟩
                  rw [hG] at hV6 hal
                  have HG := Lib.hid hG
                  clear hG
                  have g3 : ¬ (j : Int) < 8 := by omega
                  have hR6 := hR4.grown hg6 (by intro h; injection h with h; omega)
                  have hb6 : Below w.heap.size w _ := hb4.grown hg6 hb4.size (fun q hq => by cases hq; exact hVb)
                  repeat (first
                    | ((with_reducible refine wpl_load V _ _ Tryd.underlying92 i8x32 hV6 ((u32s_size _).trans hal) ?_ ?_); (focus rfl); simp only [Act.put, List.setIfInBounds_toArray, List.set_cons_zero, List.set_cons_succ])
                    | ((with_reducible refine wpl_store (w.heap.size + 1 + 1) _ _ _ i8x32 hR6 (by rw [u32s_size, List.length_replicate]) ((u32s_size _).trans hal) (u32s_one _) ?_ ?_ ?_); (focus rfl); (focus rfl))
                    | go_values | go_skip | go_guarded | go_step | go_upon | go_back | (simp only [Int.not_lt] at *; go_simp))
                  have hj8' : j = 8 := by omega
                  have hGt : G = tt := by
                    have := HN.out
                    have h64 : k = kn := by omega
                    rw [← HT.out, ← HG.out, hj8', blockF, HL.out, adds_comm8 hFl hs8, ← HF.out, ← hR8, h64]
                  refine bodyPost_ret (results_cell_row rfl _ _ (w.heap.size + 1 + 1) _ _ (0, 0) _ rfl (hR6.setRow _) Tryd.underlying92 rfl (by rw [u32s_size, hal]; exact i8x32)) rfl ?_
                  exact ⟨by rw [hGt], hb6.grown (grownBy_setRow _ _ _) hb6.size (fun q hq => by cases hq; omega)⟩
end Go.Proofs.YtbbcofpdfkhljaaDoor.H
namespace Go.Proofs.YtbbcofpdfkhljaaDoor.H
open Go.RowKit Go.Rat
theorem blockF_length (n : Nat) (tb sl : List Int) (xs : List UInt8) : (blockF n tb sl xs).length = sl.length := adds_length _ _ _
/-- A hash: its state, the part, how much of it. -/
structure HS where
  s : List Int
  p : List UInt8
  k : Nat
structure HS.wide (h : HS) : Prop where
  s : h.s.length = 8
  p : h.p.length = 64
structure HS.ok (h : HS) : Prop extends HS.wide h where
  k : h.k < 64
def feed1 (n : Nat) (tb : List Int) (h : HS) (x : UInt8) : HS :=
  if h.k + 1 = 64 then ⟨blockF n tb h.s (h.p.set h.k x), h.p.set h.k x, 0⟩ else ⟨h.s, h.p.set h.k x, h.k + 1⟩
def feed (n : Nat) (tb : List Int) (h : HS) (xs : List UInt8) : HS := xs.foldl (feed1 n tb) h
theorem feed_append (n : Nat) (tb : List Int) (h : HS) (xs ys : List UInt8) : feed n tb h (xs ++ ys) = feed n tb (feed n tb h xs) ys := List.foldl_append
theorem feed_cons (n : Nat) (tb : List Int) (h : HS) (x : UInt8) (xs : List UInt8) : feed n tb h (x :: xs) = feed n tb (feed1 n tb h x) xs := rfl
theorem feed_nil (n : Nat) (tb : List Int) (h : HS) : feed n tb h [] = h := rfl
theorem feed1_ok (n : Nat) (tb : List Int) (h : HS) (x : UInt8) (ho : h.ok) : (feed1 n tb h x).ok ∧ (feed1 n tb h x).k = (h.k + 1) % 64 := by
  obtain ⟨⟨a, b⟩, c⟩ := ho
  unfold feed1
  split
  · rename_i e
    exact ⟨⟨⟨by simpa [blockF_length] using a, by simpa using b⟩, by simp⟩, by simp [e]⟩
  · exact ⟨⟨⟨a, by simpa using b⟩, by simp; omega⟩, by simp; omega⟩
theorem feed_ok (n : Nat) (tb : List Int) : ∀ (xs : List UInt8) (h : HS), h.ok → (feed n tb h xs).ok ∧ (feed n tb h xs).k = (h.k + xs.length) % 64
  | [], h, ho => ⟨ho, by have := ho.k; simp [feed_nil]; omega⟩
  | x :: xs, h, ho => by
    obtain ⟨h1, h2⟩ := feed1_ok n tb h x ho
    obtain ⟨h3, h4⟩ := feed_ok n tb xs _ h1
    rw [feed_cons]
    refine ⟨h3, ?_⟩
    rw [h4, h2, List.length_cons]
    omega
theorem splice_nil (p : List UInt8) (k : Nat) : splice p k [] = p := by simp [splice]
theorem splice_cons (p : List UInt8) (k : Nat) (x : UInt8) (c : List UInt8) (hk : k < p.length) : splice p k (x :: c) = splice (p.set k x) (k + 1) c := by
  have h1 : (p.set k x).take (k + 1) = p.take k ++ [x] := by
    rw [List.set_eq_take_append_cons_drop, if_pos hk, List.take_append, List.length_take, Nat.min_eq_left (by omega), List.take_take, Nat.min_eq_right (by omega), show k + 1 - k = 1 by omega]
    rfl
  have h2 : (p.set k x).drop (k + 1 + c.length) = p.drop (k + (c.length + 1)) := by
    rw [List.drop_set_of_lt (by omega), show k + 1 + c.length = k + (c.length + 1) by omega]
  simp only [splice, h1, h2, List.length_cons, List.append_assoc, List.cons_append, List.nil_append]
/-- Bytes that fit into the part come into it all at once. -/
theorem feed_chunk (n : Nat) (tb : List Int) : ∀ (c : List UInt8) (h : HS), h.ok → h.k + c.length ≤ 64 →
    feed n tb h c = if h.k + c.length = 64 then ⟨blockF n tb h.s (splice h.p h.k c), splice h.p h.k c, 0⟩ else ⟨h.s, splice h.p h.k c, h.k + c.length⟩
  | [], h, ho, hc => by
    have := ho.k
    rw [feed_nil, splice_nil, if_neg (by simp; omega)]
    rfl
  | x :: c, h, ho, hc => by
    have hk := ho.k
    rw [List.length_cons] at hc
    rw [feed_cons, splice_cons _ _ _ _ (by rw [ho.p]; exact hk), List.length_cons]
    by_cases he : h.k + 1 = 64
    · obtain rfl : c = [] := List.eq_nil_of_length_eq_zero (by omega)
      rw [feed_nil, splice_nil, feed1, if_pos he, if_pos (by simpa using he)]
    · have h1 : feed1 n tb h x = ⟨h.s, h.p.set h.k x, h.k + 1⟩ := by rw [feed1, if_neg he]
      rw [feed_chunk n tb c _ (feed1_ok n tb h x ho).1 (by rw [h1]; simp; omega), h1]
      simp only [Nat.add_assoc, Nat.add_comm 1]
/-- Whole blocks. -/
theorem feed_block (n : Nat) (tb : List Int) (h : HS) (ho : h.ok) (h0 : h.k = 0) (c : List UInt8) (hc : c.length = 64) :
    feed n tb h c = ⟨blockF n tb h.s c, c, 0⟩ := by
  have hs : splice h.p h.k c = c := by
    rw [splice, h0, hc, Nat.zero_add, List.take_zero, List.drop_eq_nil_of_le (by rw [ho.p]; exact Nat.le_refl _), List.append_nil, List.nil_append]
  rw [feed_chunk n tb c h ho (by omega), if_pos (by omega), hs]
def be8 (m : Int) : List UInt8 := [ub (m / 72057594037927936 % 256), ub (m / 281474976710656 % 256), ub (m / 1099511627776 % 256), ub (m / 4294967296 % 256), ub (m / 16777216 % 256), ub (m / 65536 % 256), ub (m / 256 % 256), ub (m % 256)]
def zs (len : Nat) : Nat := (119 - len % 64) % 64
def padding (len : Nat) : List UInt8 := 128 :: (List.replicate (zs len) 0 ++ be8 ((len : Int) * 8))
theorem padding_length (len : Nat) : (len + (padding len).length) % 64 = 0 := by
  simp [padding, be8, zs]
  omega
def start : List Int := [0x6a09e667, 0xbb67ae85, 0x3c6ef372, 0xa54ff53a, 0x510e527f, 0x9b05688c, 0x1f83d9ab, 0x5be0cd19]
def h0 : HS := ⟨start, List.replicate 64 0, 0⟩
theorem h0_ok : h0.ok := ⟨⟨rfl, List.length_replicate⟩, by decide⟩
/-- The four bytes of a word. -/
def w4 (x : Int) : List UInt8 := [ub (x / 16777216 % 256), ub (x / 65536 % 256), ub (x / 256 % 256), ub (x % 256)]
def outB (s : List Int) : List UInt8 := s.flatMap w4
theorem outB_cons (x : Int) (s : List Int) : outB (x :: s) = w4 x ++ outB s := rfl
theorem outB_length (s : List Int) : (outB s).length = 4 * s.length := by
  induction s with
  | nil => rfl
  | cons x s ih => rw [outB_cons, List.length_append, ih, List.length_cons]; simp [w4]; omega
theorem outB_append (s t : List Int) : outB (s ++ t) = outB s ++ outB t := List.flatMap_append
def digest (n : Nat) (tb : List Int) (xs : List UInt8) : List UInt8 := outB (feed n tb h0 (xs ++ padding xs.length)).s
end Go.Proofs.YtbbcofpdfkhljaaDoor.H
namespace Go.Proofs.YtbbcofpdfkhljaaDoor.H
open Go.RowKit Go.Rat
/-- One block more of what is cut into blocks. -/
theorem blk_step (n : Nat) (tb : List Int) (P : List UInt8) (nb j : Nat) (hP : P.length = 64 * nb) (hj : j < nb) :
    (feed n tb h0 (P.take (64 * (j + 1)))).s = blockF n tb (feed n tb h0 (P.take (64 * j))).s ((P.drop (64 * j)).take 64) ∧ (feed n tb h0 (P.take (64 * j))).s.length = 8 ∧ ((P.drop (64 * j)).take 64).length = 64 := by
  have hc : ((P.drop (64 * j)).take 64).length = 64 := by rw [List.length_take, List.length_drop]; omega
  obtain ⟨ho, hk⟩ := feed_ok n tb (P.take (64 * j)) h0 h0_ok
  have hk0 : (feed n tb h0 (P.take (64 * j))).k = 0 := by
    rw [hk, List.length_take, Nat.min_eq_left (by omega)]
    simp [h0]
  have ht : P.take (64 * (j + 1)) = P.take (64 * j) ++ (P.drop (64 * j)).take 64 := by
    rw [show 64 * (j + 1) = 64 * j + 64 by omega, List.take_add]
  exact ⟨by rw [ht, feed_append, feed_block n tb _ ho hk0 _ hc], ho.s, hc⟩
theorem chunk_get (P : List UInt8) (a k : Nat) (hk : k < 64) (h : a + k < P.length) : ((P.drop a).take 64)[k]? = some (P.getD (a + k) 0) := by
  rw [List.getElem?_take_of_lt hk, List.getElem?_drop, List.getElem?_eq_getElem h, List.getD_eq_getElem?_getD, List.getElem?_eq_getElem h]
  rfl
/-- A row that is filled from the head. -/
theorem fill_step (L : List UInt8) (N k : Nat) (y : UInt8) (hN : k < N) (hy : L[k]? = some y) : (bvs (L.take k ++ List.replicate (N - k) 0)).toArray.setIfInBounds k (.int .u8 (y.toNat : Int)) = (bvs (L.take (k + 1) ++ List.replicate (N - (k + 1)) 0)).toArray := by
  have hl : k < L.length := (List.getElem?_eq_some_iff.1 hy).1
  have h1 : (bvs (L.take k)).length = k := by rw [bvs_length, List.length_take]; omega
  rw [List.setIfInBounds_toArray, bvs_append, List.set_append_right _ _ (by omega), h1, Nat.sub_self, show N - k = (N - (k + 1)) + 1 by omega, List.replicate_succ, List.take_add_one, hy]
  simp [bvs, bv]
theorem outB_at : ∀ (F : List Int) (q r : Nat), q < F.length → r < 4 → (outB F)[4 * q + r]? = (w4 (F.getD q 0))[r]?
  | [], q, r, h, _ => by simp at h
  | x :: F, 0, r, _, hr => by
    rw [outB_cons, List.getElem?_append_left (by show 4 * 0 + r < 4; omega), Nat.mul_zero, Nat.zero_add]
    rfl
  | x :: F, q + 1, r, h, hr => by
    have hw : (w4 x).length = 4 := rfl
    rw [outB_cons, List.getElem?_append_right (by rw [hw]; omega), hw, show 4 * (q + 1) + r - 4 = 4 * q + r by omega, outB_at F q r (by simpa using h) hr]
    rfl
theorem fill_ub (L : List UInt8) (N k : Nat) (v : Int) (h0 : 0 ≤ v) (h1 : v < 256) (hN : k < N) (hy : L[k]? = some (ub v)) : (bvs (L.take k ++ List.replicate (N - k) 0)).toArray.setIfInBounds k (.int .u8 v) = (bvs (L.take (k + 1) ++ List.replicate (N - (k + 1)) 0)).toArray := by
  rw [← bv_ub h0 h1]
  exact fill_step L N k (ub v) hN hy
end Go.Proofs.YtbbcofpdfkhljaaDoor.H
namespace Go.Proofs.YtbbcofpdfkhljaaDoor.H
open Go.RowKit Go.Rat
section
variable {P : Program} {w : World} {ops : Array Oper} {rest : List Oper} {a : Act} {Q : Exit → Act → World → Prop} {d : Option Tmp} {ty : TypeId} {x y : Operand} {t : TypeId} {p : String} {af : Array Edge} {T : TypeId}
theorem range_of_row {g o n : Nat} {L cs : List Value} (hB : Blk w g T L.toArray) (hcs : (L.drop o).take n = cs) : w.rangeAt g o cs := by
  intro j v hv
  rw [hB.cell (o + j), List.getElem?_toArray]
  rw [← hcs, List.getElem?_take, List.getElem?_drop] at hv
  split at hv
  · exact hv
  · cases hv
theorem wpl_load_mid (g o : Nat) (L cs : List Value) {n : Nat} {D : TypeDesc}
    (hu : P.underlying ty = some D) (hd : D.isRow = true) (hi : (P.info? ty).map (·.size) = some n) (hB : Blk w g T L.toArray) (hcs : (L.drop o).take n = cs) (hl : cs.length = n)
    (hx : a.eval x = .pointer (some ⟨g, o, none⟩)) (h : wpList P ops Q rest (a.put d (.agg cs.toArray)) w) :
    wpList P ops Q ({ dst := d, op := .load ty x, type := t, pos := p, after := af, guard := none } :: rest) a w :=
  wpList_load_mid rfl ty x rfl g o hx cs D (range_of_row hB hcs) hu hd (by rw [hl]; exact hi) h
theorem wpl_value {o' : Oper} (hg : o'.guard = none) (v : Value) (hv : (execOp a.eval o').run P w = .ok (.value v) w) (h : wpList P ops Q rest (a.put o'.dst v) w) : wpList P ops Q (o' :: rest) a w :=
  wpList_plain hg fun _ hK => by
    unfold Oper.wp
    rw [hv]
    exact hK _ _ h
theorem wpl_nilCheck (b i : Nat) (hx : a.eval x = .pointer (some ⟨b, i, none⟩)) (h : wpList P ops Q rest (a.put d (.pointer (some ⟨b, i, none⟩))) w) :
    wpList P ops Q ({ dst := d, op := .nilCheck x, type := t, pos := p, after := af, guard := none } :: rest) a w :=
  wpl_value rfl _ (by simp [execOp, hx]) h
theorem wpl_fieldAddr (b n k : Nat) (hv : ∀ w : World, (execOp a.eval { dst := d, op := .fieldAddr ty x k, type := t, pos := p, after := af, guard := none }).run P w = .ok (.value (.pointer (some ⟨b, n, none⟩))) w)
    (h : wpList P ops Q rest (a.put d (.pointer (some ⟨b, n, none⟩))) w) :
    wpList P ops Q ({ dst := d, op := .fieldAddr ty x k, type := t, pos := p, after := af, guard := none } :: rest) a w :=
  wpl_value rfl _ (hv w) h
theorem run_store_mid (g o : Nat) (L cs : List Value) (hi : (P.info? ty).map (·.size) = some cs.length) (hB : Blk w g T L.toArray) (hfit : o + cs.length ≤ L.length) (h1 : ∀ v ∈ cs, v.oneCell' = true) :
    (storeVar ty ⟨g, o, none⟩ (.agg cs.toArray)).run P w = .ok () (w.setRow g (Go.splice L o cs).toArray) := by
  have := run_storeCells_at P g o T cs 0 L.toArray w hB (by simpa using hfit) h1
  cases hq : P.info? ty with
  | none => simp [hq] at hi
  | some i =>
    have hs : cs.length = i.size := by simp [hq] at hi; omega
    simp only [Nat.add_zero] at this
    simp [storeVar, sizeOf, typeInfo, hq, Value.cells, hs, this, Go.splice]
theorem wp_store_midR {o' : Oper} {K : Act → World → Prop} (ho : o'.op = .store ty x y) (g o : Nat) (L cs : List Value) (hi : (P.info? ty).map (·.size) = some cs.length) (hB : Blk w g T L.toArray) (hfit : o + cs.length ≤ L.length) (h1 : ∀ v ∈ cs, v.oneCell' = true)
    (hx : a.eval x = .pointer (some ⟨g, o, none⟩)) (hy : a.eval y = .agg cs.toArray) (h : K (a.put o'.dst undef) (w.setRow g (Go.splice L o cs).toArray)) : o'.wp P a w K Q := by
  unfold Oper.wp execOp
  simp only [ho, hx, hy, Instr.storeAt, Instr.sureAddr, Sem.run_bind, Sem.run_pure, Result.andThen_ok, run_store_mid g o L cs hi hB hfit h1]
  exact h
theorem wpl_store_mid (g o : Nat) (L cs : List Value) (hi : (P.info? ty).map (·.size) = some cs.length) (hB : Blk w g T L.toArray) (hfit : o + cs.length ≤ L.length) (h1 : ∀ v ∈ cs, v.oneCell' = true)
    (hx : a.eval x = .pointer (some ⟨g, o, none⟩)) (hy : a.eval y = .agg cs.toArray) (h : wpList P ops Q rest (a.put d undef) (w.setRow g (Go.splice L o cs).toArray)) :
    wpList P ops Q ({ dst := d, op := .store ty x y, type := t, pos := p, after := af, guard := none } :: rest) a w :=
  wpList_plain rfl fun _ hK => wp_store_midR rfl g o L cs hi hB hfit h1 hx hy (hK _ _ h)
end
theorem load_mid_run {P : Program} {w : World} {o : Oper} {a : Act} {ty : TypeId} {x : Operand} {T : TypeId} (ho : o.op = .load ty x) (g off : Nat) (L cs : List Value) {n : Nat} {D : TypeDesc}
    (hu : P.underlying ty = some D) (hd : D.isRow = true) (hi : (P.info? ty).map (·.size) = some n) (hB : Blk w g T L.toArray) (hcs : (L.drop off).take n = cs) (hl : cs.length = n)
    (hx : a.eval x = .pointer (some ⟨g, off, none⟩)) : (execOp a.eval o).run P w = .ok (.value (.agg cs.toArray)) w := by
  unfold execOp
  simp only [ho, hx, Instr.loadAt, Instr.sureAddr, Sem.run_bind, Sem.run_pure, Result.andThen_ok, run_loadVar_mid w g off ty cs D (range_of_row hB hcs) hu hd (by rw [hl]; exact hi)]
/-- The cells of a hash. -/
def hashL (h : HS) (all : Nat) : List Value := u32s h.s ++ (bvs h.p ++ [.int .i64 (h.k : Int), .int .u64 (all : Int)])
section
variable {h : HS} {all : Nat}
theorem u32s_length (l : List Int) : (u32s l).length = l.length := by simp [u32s]
theorem u32s_ones (l : List Int) : ∀ v ∈ u32s l, v.oneCell' = true := by
  intro v hv
  simp only [u32s, List.mem_map] at hv
  obtain ⟨x, _, rfl⟩ := hv
  rfl
theorem hashL_length (ho : h.wide) : (hashL h all).length = 74 := by simp [hashL, u32s_length, bvs_length, ho.s, ho.p]
theorem hashL_s (ho : h.wide) : ((hashL h all).drop 0).take 8 = u32s h.s := by
  rw [List.drop_zero, hashL, List.take_append_of_le_length (by rw [u32s_length, ho.s]; exact Nat.le_refl _), List.take_of_length_le (by rw [u32s_length, ho.s]; exact Nat.le_refl _)]
theorem hashL_p (ho : h.wide) : ((hashL h all).drop 8).take 64 = bvs h.p := by
  rw [hashL, List.drop_append_of_le_length (by rw [u32s_length, ho.s]; exact Nat.le_refl _), List.drop_of_length_le (by rw [u32s_length, ho.s]; exact Nat.le_refl _), List.nil_append,
    List.take_append_of_le_length (by rw [bvs_length, ho.p]; exact Nat.le_refl _), List.take_of_length_le (by rw [bvs_length, ho.p]; exact Nat.le_refl _)]
theorem hashL_k (ho : h.wide) : (hashL h all)[72]? = some (.int .i64 (h.k : Int)) := by
  rw [hashL, List.getElem?_append_right (by rw [u32s_length, ho.s]; omega), List.getElem?_append_right (by rw [u32s_length, ho.s, bvs_length, ho.p]; omega), u32s_length, ho.s, bvs_length, ho.p]
  rfl
theorem hashL_all (ho : h.wide) : (hashL h all)[73]? = some (.int .u64 (all : Int)) := by
  rw [hashL, List.getElem?_append_right (by rw [u32s_length, ho.s]; omega), List.getElem?_append_right (by rw [u32s_length, ho.s, bvs_length, ho.p]; omega), u32s_length, ho.s, bvs_length, ho.p]
  rfl
theorem hashL_set_k (ho : h.wide) (k : Nat) : (hashL h all).set 72 (.int .i64 (k : Int)) = hashL ⟨h.s, h.p, k⟩ all := by
  rw [hashL, List.set_append_right _ _ (by rw [u32s_length, ho.s]; omega), List.set_append_right _ _ (by rw [u32s_length, ho.s, bvs_length, ho.p]; omega), u32s_length, ho.s, bvs_length, ho.p]
  rfl
theorem hashL_set_all (ho : h.wide) (n : Nat) : (hashL h all).set 73 (.int .u64 (n : Int)) = hashL h n := by
  rw [hashL, List.set_append_right _ _ (by rw [u32s_length, ho.s]; omega), List.set_append_right _ _ (by rw [u32s_length, ho.s, bvs_length, ho.p]; omega), u32s_length, ho.s, bvs_length, ho.p]
  rfl
theorem hashL_put_s (ho : h.wide) (s : List Int) (hs : s.length = 8) : Go.splice (hashL h all) 0 (u32s s) = hashL ⟨s, h.p, h.k⟩ all := by
  have h8 : (u32s h.s).length = 8 := by rw [u32s_length, ho.s]
  rw [Go.splice, List.take_zero, List.nil_append, u32s_length, hs, hashL, Nat.zero_add, ← h8, List.drop_left]
  rfl
theorem hashL_put_p (ho : h.wide) (k : Nat) (c : List UInt8) (hc : k + c.length ≤ 64) : Go.splice (hashL h all) (8 + k) (bvs c) = hashL ⟨h.s, splice h.p k c, h.k⟩ all := by
  have h8 : (u32s h.s).length = 8 := by rw [u32s_length, ho.s]
  have h64 : (bvs h.p).length = 64 := by rw [bvs_length, ho.p]
  have hm : ∀ j, (bvs h.p).take j = bvs (h.p.take j) := fun j => by simp [bvs, List.map_take]
  have hd : ∀ j, (bvs h.p).drop j = bvs (h.p.drop j) := fun j => by simp [bvs, List.map_drop]
  rw [Go.splice, hashL, hashL, List.take_append, List.drop_append, h8, List.take_of_length_le (by omega), Nat.add_sub_cancel_left, List.drop_of_length_le (by omega), List.nil_append, bvs_length,
    show 8 + k + c.length - 8 = k + c.length by omega, List.take_append_of_le_length (by omega), List.drop_append_of_le_length (by omega), hm, hd, Go.splice, bvs_append, bvs_append]
  simp only [List.append_assoc]
end
theorem reads_take {w : World} {A : Option Addr} {m : Nat} {ys : List UInt8} (hr : RB w A m ys) (k : Nat) (hk : k ≤ m) (h0 : 0 < k) : ∃ ad, A = some ad ∧ ∀ j v, (bvs (ys.take k))[j]? = some v → w.cell? (ad.add j) = some v := by
  obtain ⟨ad, e, _, hc⟩ := hr.2 (by omega)
  refine ⟨ad, e, fun j v hv => hc j v ?_⟩
  rw [show bvs (ys.take k) = (bvs ys).take k by simp [bvs, List.map_take], List.getElem?_take] at hv
  split at hv
  · exact hv
  · cases hv
theorem wp_copy_mid {w : World} {o : Oper} {a : Act} {K : Act → World → Prop} {Q : Exit → Act → World → Prop} (d s : Operand)
    (ho : o.op = .call { callee := .builtin .copy, args := #[d, s], argTypes := #[64, 64] })
    (g off dLen dCap : Nat) (A : Option Addr) (m c : Nat) (hd : a.eval d = .slice (some ⟨g, off, none⟩) dLen dCap) (hs : a.eval s = .slice A m c)
    (T : TypeId) (L : List Value) (hB : Blk w g T L.toArray) (ys : List UInt8) (hr : RB w A m ys) (k : Nat) (hk : k = Nat.min m dLen) (h0 : 0 < k) (hfit : off + k ≤ L.length)
    (h : K (a.put o.dst (.int .i64 (k : Int))) (w.setRow g (Go.splice L off (bvs (ys.take k))).toArray)) : o.wp Tryd.prog a w K Q := by
  have hkm : k ≤ m := by rw [hk]; exact Nat.min_le_left _ _
  obtain ⟨ad, rfl, hsrc⟩ := reads_take hr k hkm h0
  have hl : (bvs (ys.take k)).length = k := by rw [bvs_length, List.length_take, hr.len]; omega
  have hrun := run_copy_row (P := Tryd.prog) w 64 64 o.type 5 g off dLen dCap ad m c L.toArray T (bvs (ys.take k)) Tryd.underlying64 (by kernel_rfl) hB (by rw [hl, hk]) hsrc (by rw [hl]; simpa using hfit) (bvs_one _)
  unfold Oper.wp
  simp only [execOp, ho, resolve, invoke, builtin, Sem.run_bind, Sem.run_pure, Result.andThen_ok, List.map_toArray, List.map_cons, List.map_nil, hd, hs, hrun, hl]
  rw [Go.splice, hl] at h
  rw [List.append_assoc]
  exact h
theorem wpl_copy_mid {w : World} {ops : Array Oper} {rest : List Oper} {a : Act} {Q : Exit → Act → World → Prop} {d : Option Tmp} {x y : Operand} {t : TypeId} {p : String} {af : Array Edge}
    (g off dLen dCap : Nat) (A : Option Addr) (m c : Nat) (T : TypeId) (L : List Value) (hB : Blk w g T L.toArray) (ys : List UInt8) (hr : RB w A m ys) (k : Nat) (hk : k = Nat.min m dLen) (h0 : 0 < k) (hfit : off + k ≤ L.length)
    (hd : a.eval x = .slice (some ⟨g, off, none⟩) dLen dCap) (hs : a.eval y = .slice A m c)
    (h : wpList Tryd.prog ops Q rest (a.put d (.int .i64 (k : Int))) (w.setRow g (Go.splice L off (bvs (ys.take k))).toArray)) :
    wpList Tryd.prog ops Q ({ dst := d, op := .call { callee := .builtin .copy, args := #[x, y], argTypes := #[64, 64] }, type := t, pos := p, after := af, guard := none } :: rest) a w :=
  wpList_plain rfl fun _ hK => wp_copy_mid x y rfl g off dLen dCap A m c hd hs T L hB ys hr k hk h0 hfit (hK _ _ h)
end Go.Proofs.YtbbcofpdfkhljaaDoor.H
namespace Go.Proofs.YtbbcofpdfkhljaaDoor.H
open Go.RowKit Go.Rat
set_option maxHeartbeats 1200000 in
theorem start_any (w : World) : Calls Tryd.prog 60 #[] w fun e w' => e = .returned (.agg (u32s start).toArray) ∧ Below w.heap.size w w' := by
  obtain ⟨t, hT⟩ : ∃ t, (u32s start).toArray = t := ⟨_, rfl⟩
  have hts : t.size = 8 := by rw [← hT, u32s_size]; rfl
  have ht1 : t.all (·.oneCell') = true := by rw [← hT]; exact u32s_one _
  rw [hT]
  have HT := Lib.hid hT
  clear hT
  go_enter Tryd.func60, Tryd.ntmps60
  repeat (first
            | ((with_reducible refine wpl_build t ?_ ?_); (focus rw [← HT.out]; kernel_rfl); simp only [Act.put, List.setIfInBounds_toArray, List.set_cons_zero, List.set_cons_succ])
            | ((with_reducible refine wpl_store w.heap.size _ _ t i8x32 (Blk.new w _ _) ?_ hts ht1 ?_ ?_ ?_); (focus kernel_rfl); (focus rfl); (focus rfl))
            | go_values | go_skip | go_guarded | go_step | go_upon | go_back | (simp only [Int.not_lt] at *; go_simp))
  refine bodyPost_ret (results_cell_row rfl _ _ w.heap.size _ _ (0, 0) _ rfl ((Blk.new w _ _).setRow _) Tryd.underlying92 rfl (by rw [hts]; exact i8x32)) rfl ?_
  exact ⟨rfl, (below_alloc _ _).grown (grownBy_setRow _ _ _) (by simp) (fun q hq => by cases hq; exact Nat.le_refl _)⟩
set_option maxRecDepth 8000 in
set_option maxHeartbeats 1200000 in
theorem new_any (w : World) : Calls Tryd.prog 52 #[] w fun e w' => ∃ g, e = .returned (.pointer (some ⟨g, 0, none⟩)) ∧ w.heap.size ≤ g ∧ Blk w' g 109 (hashL h0 0).toArray ∧ Below w.heap.size w w' := by
  obtain ⟨s, hS⟩ : ∃ s, (u32s start).toArray = s := ⟨_, rfl⟩
  obtain ⟨t, hT⟩ : ∃ t, (hashL h0 0).toArray = t := ⟨_, rfl⟩
  rw [hT]
  have HT := Lib.hid hT
  have HS := Lib.hid hS
  clear hT hS
  go_enter Tryd.func52, Tryd.ntmps52
  repeat (first
            | ((with_reducible refine wpl_build t ?_ ?_); (focus rw [← HT.out, ← HS.out]; kernel_rfl); simp only [Act.put, List.setIfInBounds_toArray, List.set_cons_zero, List.set_cons_succ])
            | (go_at_call 60; refine (start_any _).mono ?_; rw [HS.out]; rintro e w2 ⟨rfl, hb2⟩; simp only [])
            | go_values | go_skip | go_guarded | go_step | go_upon | go_back)
  go_ret
  exact ⟨w2.heap.size, rfl, hb2.size, Blk.new _ _ _, below_alloc2 hb2 (Nat.le_refl _) _⟩
end Go.Proofs.YtbbcofpdfkhljaaDoor.H
namespace Go.Proofs.YtbbcofpdfkhljaaDoor.H
open Go.RowKit Go.Rat
theorem row_hk {w : World} {g : Nat} {T : TypeId} {h : HS} {all : Nat} (hB : Blk w g T (hashL h all).toArray) (ho : h.wide) (k : Nat) : Blk (w.setCell ⟨g, 72, none⟩ (.int .i64 (k : Int))) g T (hashL ⟨h.s, h.p, k⟩ all).toArray := by
  have := hB.set_ 72 (.int .i64 (k : Int))
  rw [List.setIfInBounds_toArray, hashL_set_k ho] at this
  exact this
theorem row_hall {w : World} {g : Nat} {T : TypeId} {h : HS} {all : Nat} (hB : Blk w g T (hashL h all).toArray) (ho : h.wide) (n : Nat) : Blk (w.setCell ⟨g, 73, none⟩ (.int .u64 (n : Int))) g T (hashL h n).toArray := by
  have := hB.set_ 73 (.int .u64 (n : Int))
  rw [List.setIfInBounds_toArray, hashL_set_all ho] at this
  exact this
theorem row_ck {w : World} {g : Nat} {T : TypeId} {h : HS} {all : Nat} (hB : Blk w g T (hashL h all).toArray) (ho : h.wide) : w.cell? ⟨g, 72, none⟩ = some (.int .i64 (h.k : Int)) := by
  rw [hB.cell 72, List.getElem?_toArray, hashL_k ho]
theorem row_call {w : World} {g : Nat} {T : TypeId} {h : HS} {all : Nat} (hB : Blk w g T (hashL h all).toArray) (ho : h.wide) : w.cell? ⟨g, 73, none⟩ = some (.int .u64 (all : Int)) := by
  rw [hB.cell 73, List.getElem?_toArray, hashL_all ho]
theorem keepG {w w' : World} {A : Option Addr} {m g : Nat} {xs : List UInt8} (hr : RB w A m xs) (hg : w.grownBy w' (some g)) (hA : m = 0 ∨ A.map (·.block) ≠ some g) : RB w' A m xs := by
  rcases hA with rfl | hA
  · obtain rfl : xs = [] := List.eq_nil_of_length_eq_zero hr.len
    exact RB.nil_ _ _
  · exact hr.grown hg (.inl hA)
def lenV : Value → Nat
  | .slice _ m _ => m
  | _ => 0
theorem Tab_grown {w w' : World} {tb : List Int} {g : Nat} (h : Tab w tb) (hg : w.grownBy w' (some g)) (h0 : g ≠ 0) : Tab w' tb := fun i hi =>
  (World.cell?_of_block (hg.block 0 (block_lt_of_cell (h i hi)) (fun e => h0 (Option.some.inj e).symm))).trans (h i hi)
set_option maxRecDepth 8000 in
set_option maxHeartbeats 1200000 in
theorem write_any (n : Nat) (hn64 : n = 64) (w : World) (g : Nat) (h : HS) (ho : h.ok) (all : Nat) (A : Option Addr) (m c : Nat) (xs : List UInt8) (tb : List Int) (hT : Tab w tb) (hg0 : g ≠ 0)
    (hB : Blk w g 109 (hashL h all).toArray) (hr : RB w A m xs) (hmc : m ≤ c) (hA : m = 0 ∨ A.map (·.block) ≠ some g) (hall : all + m < 1152921504606846976) :
    Calls Tryd.prog 53 #[.pointer (some ⟨g, 0, none⟩), .slice A m c] w fun e w' => e = .returned (.tuple #[]) ∧ Blk w' g 109 (hashL (feed n tb h xs) (all + m)).toArray ∧ w.grownBy w' (some g) := by
  have HN := Lib.hid hn64
  clear hn64
  obtain ⟨F, hF⟩ : ∃ F, feed n tb h xs = F := ⟨_, rfl⟩
  rw [hF]
  have HF := Lib.hid hF
  clear hF
  go_enter Tryd.func53, Tryd.ntmps53
  have c73 := row_call hB ho.towide
  have f73 := hB.frozen 73
  have r1 : IntKind.u64.wrap ((all : Int) + (m : Int)) = ((all + m : Nat) : Int) := by simp [IntKind.wrap, IntKind.bits, IntKind.signed]; omega
  have r2 : IntKind.u64.wrap (m : Int) = (m : Int) := by simp [IntKind.wrap, IntKind.bits, IntKind.signed]; omega
  go_wp2_with fail
  have hB1 := row_hall hB ho.towide (all + m)
  rw [Int.natCast_add] at hB1
  go_loopw [1] (fun b wr => ∃ A' m' c' ys h', b = .slice A' m' c' ∧ m' ≤ c' ∧ RB wr A' m' ys ∧ (m' = 0 ∨ A'.map (·.block) ≠ some g) ∧ h'.ok ∧ feed n tb h' ys = F ∧ Blk wr g 109 (hashL h' (all + m)).toArray ∧ w.grownBy wr (some g)) (fun b _ => lenV b)
  case atStart => exact ⟨A, m, c, xs, h, rfl, hmc, keepG hr (grownBy_set _ _ _ _) hA, hA, ho, HF.out, hB1, grownBy_set _ _ _ _⟩
  case round =>
    obtain ⟨A', m', c', ys, h', rfl, hmc', hr', hA', ho', hF', hB', hg'⟩ := hrel
    by_cases hm : 0 < m'
    · have hA' := hA'.resolve_left (by omega)
      have hk := ho'.k
      have hm1 : (0 : Int) < (m' : Int) := by omega
      have c72 := row_ck hB' ho'.towide
      have f72 := hB'.frozen 72
      have g1 : (0 : Int) ≤ (h'.k : Int) := by omega
      have g2 : (h'.k : Int) ≤ 64 := by omega
      go_wp2_with fail
      refine wp_region_plan [(0, true), (1, true), (2, true), (3, true), (4, true), (5, true), (6, true), (7, true), (8, true), (9, false), (10, true)]
        (fun z => z.cell? ⟨g, 72, none⟩ = some (.int .i64 (h'.k : Int))) (by kernel_rfl) (by kernel_rfl) (by kernel_rfl) (by kernel_rfl) (fun _ _ d _ _ h => by cases d <;> exact h) c72 ?_
      simp only [planOps, List.getElem?_toArray, List.getElem?_cons_zero, List.getElem?_cons_succ]
      repeat (first
        | (refine wpS_skip (by rfl) ?_; simp only [Act.put, List.setIfInBounds_toArray, List.set_cons_zero, List.set_cons_succ])
        | (refine wpS_q ?_ (by rfl) ?_ ?_; rotate_left; (focus (intro z hz; (try dsimp only at hz); go_simp; rfl)); simp only [Act.put, List.setIfInBounds_toArray, List.set_cons_zero, List.set_cons_succ]))
      refine wpS_l (by rfl) (fun Kq hK => ?_)
      rw [if_neg (show ¬ 64 = h'.k by omega)]
      obtain ⟨k, hkd⟩ : ∃ k, k = Nat.min m' (64 - h'.k) := ⟨_, rfl⟩
      have hk1 : k ≤ m' := by rw [hkd]; exact Nat.min_le_left _ _
      have hk2 : h'.k + k ≤ 64 := by have : k ≤ 64 - h'.k := by { rw [hkd]; exact Nat.min_le_right _ _ }
                                     omega
      have hk0 : 0 < k := by rw [hkd]; exact Nat.lt_min.2 ⟨hm, by omega⟩
      refine wp_copy_mid (.tmp 27) (.tmp 28) rfl g (8 + h'.k) (64 - h'.k) (64 - h'.k) A' m' c' rfl rfl 109 (hashL h' (all + m)) (show Blk wr.drew g _ _ from hB') ys hr' k hkd hk0 (by rw [hashL_length ho'.towide]; omega) ?_
      clear hkd
      have hyl := hr'.len
      have htl : (ys.take k).length = k := by rw [List.length_take, hyl]; omega
      rw [hashL_put_p ho'.towide h'.k (ys.take k) (by rw [htl]; exact hk2)]
      have ho2 : (HS.mk h'.s (splice h'.p h'.k (ys.take k)) h'.k).ok := ⟨⟨ho'.s, (Go.length_splice _ _ _ (by rw [htl, ho'.p]; exact hk2)).trans ho'.p⟩, ho'.k⟩
      have hB2 : Blk (wr.drew.setRow g (hashL (HS.mk h'.s (splice h'.p h'.k (ys.take k)) h'.k) (all + m)).toArray) g 109 (hashL (HS.mk h'.s (splice h'.p h'.k (ys.take k)) h'.k) (all + m)).toArray := Blk.setRow (show Blk wr.drew g _ _ from hB') _
      have hg2 : wr.grownBy (wr.drew.setRow g (hashL (HS.mk h'.s (splice h'.p h'.k (ys.take k)) h'.k) (all + m)).toArray) (some g) := World.grownBy.trans (b := wr.drew) ⟨rfl, rfl, rfl, Nat.le_refl _, fun _ _ _ => rfl⟩ (grownBy_setRow _ _ _)
      have hr2 := hr'.grown hg2 (.inl hA')
      have hg3 := hg'.trans hg2
      have hf1 := feed_chunk n tb (ys.take k) h' ho' (by rw [htl]; exact hk2)
      rw [htl] at hf1
      have hf2 : feed n tb (feed n tb h' (ys.take k)) (ys.drop k) = F := by rw [← feed_append, List.take_append_drop]; exact hF'
      have hok := (feed_ok n tb (ys.take k) h' ho').1
      rw [hf1] at hf2 hok
      clear hf1
      clear hF' hg2 hr' hB' c72 f72 hg'
      generalize hp2 : splice h'.p h'.k (ys.take k) = p2 at *
      generalize (wr.drew.setRow g (hashL (HS.mk h'.s p2 h'.k) (all + m)).toArray) = w2 at *
      have c72 : w2.cell? ⟨g, 72, none⟩ = some (.int .i64 (h'.k : Int)) := by have := row_ck hB2 ho2.towide; exact this
      have f72 := hB2.frozen 72
      simp only [Act.put, List.setIfInBounds_toArray, List.set_cons_zero, List.set_cons_succ]
      refine hK _ _ (fun z => z.cell? ⟨g, 72, none⟩ = some (.int .i64 (h'.k : Int))) c72 (fun _ h => h) ?_
      clear hK
      repeat (first
        | (refine wpS_skip (by rfl) ?_; simp only [Act.put, List.setIfInBounds_toArray, List.set_cons_zero, List.set_cons_succ])
        | (refine wpS_q ?_ (by rfl) ?_ ?_; rotate_left; (focus (intro z hz; (try dsimp only at hz); go_simp; rfl)); simp only [Act.put, List.setIfInBounds_toArray, List.set_cons_zero, List.set_cons_succ]))
      refine wpS_nil ?_
      have hcutF : ∀ z, RB z A' m' ys → RB z (if c' = k then A' else A'.map (·.add k)) (m' - k) (ys.drop k) := fun z h => by
        have := Reads.cut h hk1 hmc'
        rw [Nat.mul_one, show (bvs ys).drop k = bvs (ys.drop k) by simp [bvs, List.map_drop]] at this
        exact this
      have hA2 : (A'.map (·.add k)).map (·.block) ≠ some g := by
        intro h
        apply hA'
        rw [← h]
        cases A' <;> simp [block_of_add]
      have gk1 : (0 : Int) ≤ (k : Int) := by omega
      have gk2 : (k : Int) ≤ (m' : Int) := by omega
      have gk3 : (k : Int) ≤ (c' : Int) := by omega
      have rk : IntKind.i64.wrap ((h'.k : Int) + (k : Int)) = (h'.k : Int) + (k : Int) := IntWalk.i64_in _ (by omega)
      have hB3 := row_hk hB2 ho2.towide (h'.k + k)
      rw [Int.natCast_add] at hB3
      by_cases h64 : h'.k + k = 64
      · have h64i : (h'.k : Int) + (k : Int) = 64 := by omega
        rw [if_pos h64] at hf2 hok
        have ho3 : (HS.mk h'.s p2 64).wide := ⟨ho2.s, ho2.p⟩
        have hB4 : Blk (w2.setCell ⟨g, 72, none⟩ (.int .i64 64)) g 109 (hashL (HS.mk h'.s p2 64) (all + m)).toArray := by have h9 := hB3; rw [h64i, h64] at h9; exact h9
        have hg4 : w.grownBy (w2.setCell ⟨g, 72, none⟩ (.int .i64 64)) (some g) := hg3.trans (grownBy_set _ _ _ _)
        have hT4 : Tab (w2.setCell ⟨g, 72, none⟩ (.int .i64 64)).drew tb := fun i hi => Tab_grown hT hg4 hg0 i hi
        go_wp2_with fail
        all_goals (
          refine wp_region_barrier [(0, false), (1, false), (2, false), (3, false), (4, false), (5, true), (6, false), (7, false), (8, false), (9, true)] 10 [(11, true), (12, true), (13, false), (14, true), (15, true), (16, false)]
            (fun z => Blk z g 109 (hashL (HS.mk h'.s p2 64) (all + m)).toArray) _ rfl (by kernel_rfl) (by kernel_rfl) (by kernel_rfl) (by kernel_rfl) (fun _ _ d _ _ h => by cases d <;> exact h) hB4 ?_
          simp only [planOps, List.getElem?_toArray, List.getElem?_cons_zero, List.getElem?_cons_succ]
          iterate 5 (refine wpQ_q ?_ (by rfl) ?_ ?_; rotate_left; (focus (intro z hz; (try dsimp only at hz); go_simp; rfl)); simp only [Act.put, List.setIfInBounds_toArray, List.set_cons_zero, List.set_cons_succ])
          refine wpQ_q (.agg (u32s h'.s).toArray) (by rfl) (fun z hz => load_mid_run rfl g 0 _ _ Tryd.underlying92 rfl i8x32 (hz rfl) (hashL_s ho3) ((u32s_length _).trans ho3.s) rfl) ?_
          simp only [Act.put, List.setIfInBounds_toArray, List.set_cons_zero, List.set_cons_succ]
          iterate 3 (refine wpQ_q ?_ (by rfl) ?_ ?_; rotate_left; (focus (intro z hz; (try dsimp only at hz); go_simp; rfl)); simp only [Act.put, List.setIfInBounds_toArray, List.set_cons_zero, List.set_cons_succ])
          refine wpQ_q (.agg (bvs p2).toArray) (by rfl) (fun z hz => load_mid_run rfl g 8 _ _ Tryd.underlying94 rfl i64x8 (hz rfl) (hashL_p ho3) ((bvs_length _).trans ho3.p) rfl) ?_
          simp only [Act.put, List.setIfInBounds_toArray, List.set_cons_zero, List.set_cons_succ]
          refine wpQ_nil ⟨by rfl, ?_⟩
          go_wp2_with fail
          refine (block_any n HN.out _ h'.s ho3.s p2 ho3.p tb hT4).mono ?_
          rintro e w5 ⟨rfl, hb5⟩
          refine ⟨fun _ => True, trivial, ?_⟩
          repeat (first
            | (refine wpS_skip (by rfl) ?_; simp only [Act.put, List.setIfInBounds_toArray, List.set_cons_zero, List.set_cons_succ])
            | (refine wpS_q ?_ (by rfl) ?_ ?_; rotate_left; (focus (intro z hz; (try dsimp only at hz); go_simp; rfl)); simp only [Act.put, List.setIfInBounds_toArray, List.set_cons_zero, List.set_cons_succ]))
          obtain ⟨s5, hs5⟩ : ∃ s5, blockF n tb h'.s p2 = s5 := ⟨_, rfl⟩
          have hs5l : s5.length = 8 := by rw [← hs5, blockF_length]; exact ho3.s
          rw [hs5] at hf2 hok ⊢
          clear hs5
          have hB5 := Blk.below (show Blk (w2.setCell ⟨g, 72, none⟩ (.int .i64 64)).drew g _ _ from hB4) hb5 (Blk.lt hB4)
          have hg5 : w.grownBy w5 (some g) := hg4.trans (World.grownBy.trans (b := (w2.setCell ⟨g, 72, none⟩ (.int .i64 64)).drew) ⟨rfl, rfl, rfl, Nat.le_refl _, fun _ _ _ => rfl⟩ (grownBy_of_below hb5 _))
          have hr5 : RB w5 A' m' ys := by
            have h0 : RB (w2.setCell ⟨g, 72, none⟩ (.int .i64 64)) A' m' ys := hr2.grown (grownBy_set w2 g 72 _) (.inl hA')
            have h1 : RB (w2.setCell ⟨g, 72, none⟩ (.int .i64 64)).drew A' m' ys := h0
            exact h1.below hb5
          refine wpS_l (by rfl) (fun Kq hK => ?_)
          refine wp_store_midR rfl g 0 _ (u32s s5) (by rw [u32s_length, hs5l]; exact i8x32) hB5 (by rw [u32s_length, hs5l, hashL_length ho3]; omega) (u32s_ones _) rfl rfl ?_
          rw [hashL_put_s ho3 s5 hs5l]
          have hB6 := Blk.setRow hB5 (hashL (HS.mk s5 p2 64) (all + m)).toArray
          have ho6 : (HS.mk s5 p2 64).wide := ⟨hs5l, ho2.p⟩
          have hg6 := hg5.trans (grownBy_setRow w5 g (hashL (HS.mk s5 p2 64) (all + m)).toArray)
          have hr6 := hr5.grown (grownBy_setRow w5 g (hashL (HS.mk s5 p2 64) (all + m)).toArray) (.inl hA')
          simp only [Act.put]
          refine hK _ _ (fun _ => True) trivial (fun _ _ => trivial) ?_
          clear hK
          repeat (first
            | (refine wpS_skip (by rfl) ?_; simp only [Act.put, List.setIfInBounds_toArray, List.set_cons_zero, List.set_cons_succ])
            | (refine wpS_q ?_ (by rfl) ?_ ?_; rotate_left; (focus (intro z hz; (try dsimp only at hz); go_simp; rfl)); simp only [Act.put, List.setIfInBounds_toArray, List.set_cons_zero, List.set_cons_succ]))
          refine wpS_l (by rfl) (fun Kq hK => ?_)
          have c76 := row_ck hB6 ho6
          have f76 := hB6.frozen 72
          have hB7 := row_hk hB6 ho6 0
          go_wp2_with fail
          refine hK _ _ (fun _ => True) trivial (fun _ _ => trivial) ?_
          clear hK
          refine wpS_nil ?_
          go_wp2_with fail
          have hg7 := hg6.trans (grownBy_set (w5.setRow g (hashL (HS.mk s5 p2 64) (all + m)).toArray) g 72 (.int .i64 0))
          have hr7 := hr6.grown (grownBy_set (w5.setRow g (hashL (HS.mk s5 p2 64) (all + m)).toArray) g 72 (.int .i64 0)) (.inl hA')
          refine ⟨⟨_, _, _, ys.drop k, HS.mk s5 p2 0, rfl, by omega, ?_, .inr (by assumption), hok, hf2, hB7, hg7⟩, by simp only [lenV]; omega⟩
          have h8 := hcutF _ hr7
          first
            | (rw [if_neg (by assumption)] at h8; exact h8)
            | (rw [if_pos (by omega)] at h8; exact h8))
      · have h64i : ¬ (h'.k : Int) + (k : Int) = 64 := by omega
        rw [if_neg h64] at hf2 hok
        go_wp2_with fail
        have hg4 := hg3.trans (grownBy_set w2 g 72 (.int .i64 ((h'.k : Int) + (k : Int))))
        have hr4 := hr2.grown (grownBy_set w2 g 72 (.int .i64 ((h'.k : Int) + (k : Int)))) (.inl hA')
        refine ⟨⟨_, _, _, ys.drop k, HS.mk h'.s p2 (h'.k + k), rfl, by omega, hcutF _ hr4, .inr ?_, hok, hf2, hB3, hg4⟩, by simp only [lenV]; omega⟩
        split
        · exact hA'
        · exact hA2
    · have hm1 : ¬ (0 : Int) < (m' : Int) := by omega
      obtain rfl : m' = 0 := by omega
      obtain rfl : ys = [] := List.eq_nil_of_length_eq_zero hr'.len
      obtain rfl : h' = F := hF'
      go_wp2_with fail
      go_end0
      exact ⟨rfl, hB', hg'⟩
end Go.Proofs.YtbbcofpdfkhljaaDoor.H
namespace Go.Proofs.YtbbcofpdfkhljaaDoor.H
open Go.RowKit Go.Rat
theorem i65 : (Tryd.prog.info? 109).map (·.size) = some 74 := by kernel_rfl
theorem i32x8 : (Tryd.prog.info? 42).map (·.size) = some 32 := by kernel_rfl
theorem hashL_ones (h : HS) (all : Nat) : ∀ v ∈ hashL h all, v.oneCell' = true := by
  intro v hv
  simp only [hashL, List.mem_append, List.mem_cons, List.not_mem_nil, or_false] at hv
  rcases hv with hv | hv | rfl | rfl
  · exact u32s_ones _ v hv
  · exact bvs_one _ v hv
  · rfl
  · rfl
theorem hashL_whole {h h' : HS} {all all' : Nat} (ho : h.wide) (ho' : h'.wide) : Go.splice (hashL h all) 0 (hashL h' all') = hashL h' all' := by
  rw [Go.splice, List.take_zero, List.nil_append, hashL_length ho', List.drop_of_length_le (by rw [hashL_length ho]; omega), List.append_nil]
def msr (g : Nat) (w : World) : Nat := match w.cell? ⟨g, 72, none⟩ with
  | some (.int _ k) => ((120 - k) % 64).toNat
  | _ => 0
def outP (s : List Int) (q : Nat) : List UInt8 := outB (s.take q) ++ List.replicate (32 - 4 * q) 0
theorem outP_length (s : List Int) (q : Nat) (hs : s.length = 8) (hq : q ≤ 8) : (outP s q).length = 32 := by
  rw [outP, List.length_append, outB_length, List.length_take, List.length_replicate, hs]
  omega
theorem outP_step (s : List Int) (q : Nat) (hs : s.length = 8) (hq : q < 8) : Go.splice (bvs (outP s q)) (4 * q) (bvs (w4 (s.getD q 0))) = bvs (outP s (q + 1)) := by
  have h1 : (outB (s.take q)).length = 4 * q := by rw [outB_length, List.length_take, hs]; omega
  have h2 : (bvs (outB (s.take q))).length = 4 * q := by rw [bvs_length, h1]
  have h4 : (bvs (w4 (s.getD q 0))).length = 4 := by rw [bvs_length]; rfl
  have h5 : outB (s.take (q + 1)) = outB (s.take q) ++ w4 (s.getD q 0) := by
    rw [List.take_add_one, outB_append, List.getElem?_eq_getElem (by omega), List.getD_eq_getElem?_getD, List.getElem?_eq_getElem (by omega)]
    simp [outB]
  have h6 : (bvs (List.replicate (32 - 4 * q) 0)).drop 4 = bvs (List.replicate (32 - 4 * (q + 1)) 0) := by
    rw [show 32 - 4 * (q + 1) = 32 - 4 * q - 4 by omega]
    simp only [bvs, List.map_replicate, List.drop_replicate]
  rw [outP, outP, h5, bvs_append, bvs_append, bvs_append, Go.splice, h4, List.take_append_of_le_length (by omega), List.take_of_length_le (by omega), List.drop_append, List.drop_of_length_le (by omega), List.nil_append, h2, Nat.add_sub_cancel_left, h6, List.append_assoc]
theorem w4_cells (x : Int) : (#[.int .u8 (x / 16777216 % 256), .int .u8 (x / 65536 % 256), .int .u8 (x / 256 % 256), .int .u8 (x % 256)] : Array Value) = (bvs (w4 x)).toArray := by
  simp only [bvs, w4, List.map_cons, List.map_nil, bv_ub (Int.emod_nonneg _ (by decide : (256 : Int) ≠ 0)) (Int.emod_lt_of_pos _ (by decide : (0 : Int) < 256))]
set_option maxRecDepth 8000 in
set_option maxHeartbeats 4000000 in
theorem hsum_any (n : Nat) (hn64 : n = 64) (w : World) (g : Nat) (h : HS) (ho : h.ok) (all : Nat) (hk : h.k = all % 64) (tb : List Int) (hT : Tab w tb)
    (hB : Blk w g 109 (hashL h all).toArray) (hall : all < 576460752303423488) :
    Calls Tryd.prog 54 #[.pointer (some ⟨g, 0, none⟩)] w fun e w' => e = .returned (.agg (bvs (outB (feed n tb h (padding all)).s)).toArray) ∧ Below w.heap.size w w' := by
  have HN := Lib.hid hn64
  clear hn64
  obtain ⟨F, hF⟩ : ∃ F, feed n tb h (padding all) = F := ⟨_, rfl⟩
  rw [hF]
  have HF := Lib.hid hF
  clear hF
  have hk0 := ho.k
  have hgl := hB.lt
  go_enter Tryd.func54, Tryd.ntmps54
  have hZ : Blk (w.alloc (.cells (bvs (List.replicate 32 0)).toArray 42)) w.heap.size 42 (bvs (List.replicate 32 0)).toArray := Blk.new _ _ _
  have hb1 := below_alloc w (.cells (bvs (List.replicate 32 0)).toArray 42)
  have hB1 := hB.alloc (.cells (bvs (List.replicate 32 0)).toArray 42)
  have hl1 : w.heap.size < (w.alloc (.cells (bvs (List.replicate 32 0)).toArray 42)).heap.size := by simp
  obtain ⟨z32, hz32⟩ : ∃ z : Array Value, (bvs (List.replicate 32 0)).toArray = z := ⟨_, rfl⟩
  rw [hz32] at hZ hb1 hB1 hl1
  have hzz : (#[.int .u8 0, .int .u8 0, .int .u8 0, .int .u8 0, .int .u8 0, .int .u8 0, .int .u8 0, .int .u8 0, .int .u8 0, .int .u8 0, .int .u8 0, .int .u8 0, .int .u8 0, .int .u8 0, .int .u8 0, .int .u8 0, .int .u8 0, .int .u8 0, .int .u8 0, .int .u8 0, .int .u8 0, .int .u8 0, .int .u8 0, .int .u8 0, .int .u8 0, .int .u8 0, .int .u8 0, .int .u8 0, .int .u8 0, .int .u8 0, .int .u8 0, .int .u8 0] : Array Value) = z32 := by rw [← hz32]; rfl
  have hi74 : (Tryd.prog.info? 109).map (·.size) = some (hashL h all).length := by rw [hashL_length ho.towide]; exact i65
  have hfit : 0 + (hashL h all).length ≤ (hashL h0 0).length := by have h1 := hashL_length (all := all) ho.towide; have h2 := hashL_length (all := 0) h0_ok.towide; omega
  repeat (first
    | (go_at_call 52; generalize (w.alloc (.cells z32 42)) = w1 at *; refine (new_any _).mono ?_; rintro e w2 ⟨ge, rfl, hge, hE, hb2⟩; simp only []; have hB2 := hB1.below hb2 hB1.lt)
    | ((with_reducible refine wpl_nilCheck g 0 ?_ ?_); (focus rfl); simp only [Act.put, List.setIfInBounds_toArray, List.set_cons_zero, List.set_cons_succ])
    | ((with_reducible refine wpl_nilCheck ge 0 ?_ ?_); (focus rfl); simp only [Act.put, List.setIfInBounds_toArray, List.set_cons_zero, List.set_cons_succ])
    | ((with_reducible refine wpl_load_mid g 0 (hashL h all) (hashL h all) Tryd.underlying109 ?_ i65 hB2 ?_ (hashL_length ho.towide) ?_ ?_); (focus rfl); (focus rw [List.drop_zero, List.take_of_length_le (Nat.le_of_eq (hashL_length ho.towide))]); (focus rfl); simp only [Act.put, List.setIfInBounds_toArray, List.set_cons_zero, List.set_cons_succ])
    | ((with_reducible refine wpl_store_mid ge 0 (hashL h0 0) (hashL h all) ?_ hE ?_ (hashL_ones _ _) ?_ ?_ ?_); (focus exact hi74); (focus exact hfit); (focus rfl); (focus rfl); rw [hashL_whole h0_ok.towide ho.towide]; refine Hid.out ?_)
    | go_values | go_skip | go_guarded | go_step | go_upon | go_back)
  refine Lib.hid ?_
  have hge0 : w.heap.size < ge := by omega
  have hE3 := hE.setRow (hashL h all).toArray
  have hg23 := grownBy_setRow w2 ge (hashL h all).toArray
  have hb3 : Below w.heap.size w (w2.setRow ge (hashL h all).toArray) := (hb1.trans (hb2.mono hb1.size)).grown hg23 (Nat.le_trans hb1.size hb2.size) (fun q hq => by cases hq; omega)
  have hZ3 : Blk (w2.setRow ge (hashL h all).toArray) w.heap.size 42 z32 := (hZ.below hb2 hl1).grown hg23 (by intro e; injection e with e; omega)
  have hT3 := Tab.below hT hb3
  clear hE hg23 hb2 hB2 hB1 hb1 hl1 hZ hfit hi74 hgl hzz
  generalize (w2.setRow ge (hashL h all).toArray) = w3 at *
  have hlt3 := hE3.lt
  have c73 := row_call hE3 ho.towide
  have rall : IntKind.u64.wrap ((all : Int) * 8) = (all : Int) * 8 := by simp [IntKind.wrap, IntKind.bits, IntKind.signed]; omega
  go_wp2_with (go_at_call 53; refine (write_any n HN.out _ ge h ho all (some ⟨w3.heap.size, 0, none⟩) 1 1 [128] tb (Tab_grown (g := ge) hT3 (World.grownBy_alloc _ _ _) (by omega)) (by omega) (hE3.alloc _) (RB.one_ w3 5 (by rfl)) (by omega) (.inr (by simp; omega)) (by omega)).mono ?_; rintro e wv ⟨rfl, hE4, hg4⟩)
  obtain ⟨M, hM⟩ : ∃ M : Int, (all : Int) * 8 = M := ⟨_, rfl⟩
  rw [hM]
  have HM := Lib.hid hM
  clear hM rall c73
  have hg34 : w3.grownBy wv (some ge) := (World.grownBy_alloc w3 (.cells #[.int .u8 128] 5) (some ge)).trans hg4
  clear hg4
  go_loopw [] (fun wr => ∃ j, j ≤ zs all ∧ Blk wr ge 109 (hashL (feed n tb h (128 :: List.replicate j 0)) (all + 1 + j)).toArray ∧ w3.grownBy wr (some ge)) (fun wr => msr ge wr)
  case atStart => exact ⟨0, Nat.zero_le _, hE4, hg34⟩
  case round =>
    obtain ⟨j, hj, hE5, hg5⟩ := hrel
    obtain ⟨ho1, hk1⟩ := feed_ok n tb (128 :: List.replicate j 0) h ho
    rw [List.length_cons, List.length_replicate, hk] at hk1
    have hf1 : feed n tb (feed n tb h (128 :: List.replicate j 0)) [0] = feed n tb h (128 :: List.replicate (j + 1) 0) := by rw [← feed_append, List.replicate_succ']; rfl
    have hzd : zs all = (119 - all % 64) % 64 := rfl
    have hz64 : zs all < 64 := by omega
    obtain ⟨h1, hh1⟩ : ∃ h1, feed n tb h (128 :: List.replicate j 0) = h1 := ⟨_, rfl⟩
    rw [hh1] at ho1 hk1 hf1 hE5
    have HH1 := Lib.hid hh1
    clear hh1
    have c72 := row_ck hE5 ho1.towide
    have hlt5 := hE5.lt
    have hT5 := Tab_grown hT3 hg5 (by omega)
    have hmsr : msr ge wr = ((120 - (h1.k : Int)) % 64).toNat := by unfold msr; rw [c72]
    by_cases hz : j = zs all
    · have hk56 : (h1.k : Int) = 56 := by omega
      rw [hk56] at c72
      go_wp2_with fail
      clear hmsr c72 hlt5 hf1 hE4 hg34
      go_loopw [5] (fun i wq => ∃ q : Nat, q ≤ 8 ∧ i = .int .i64 (7 - (q : Int)) ∧ Blk wq ge 109 (hashL (feed n tb h1 ((be8 M).take q)) (all + 1 + j + q)).toArray ∧ w3.grownBy wq (some ge)) (fun i _ => (intOf i + 1).toNat)
      case atStart => exact ⟨0, by omega, rfl, hE5, hg5⟩
      case round =>
        obtain ⟨q, hq, rfl, hE7, hg7⟩ := hrel
        by_cases hq8 : q < 8
        · have hT7 := Tab_grown hT3 hg7 (by omega)
          obtain ⟨ho7, hk7⟩ := feed_ok n tb ((be8 M).take q) h1 ho1
          have hlt7 := hE7.lt
          have hstep : ∀ x, (be8 M)[q]? = some x → feed n tb (feed n tb h1 ((be8 M).take q)) [x] = feed n tb h1 ((be8 M).take (q + 1)) := fun x hx => by
            rw [← feed_append]
            congr 1
            rw [List.take_add_one, hx]
            rfl
          obtain ⟨h7, hh7⟩ : ∃ h7, feed n tb h1 ((be8 M).take q) = h7 := ⟨_, rfl⟩
          rw [hh7] at ho7 hE7 hstep
          clear hh7 hk7
          have HST := Lib.hid hstep
          clear hstep
          have hcase : q = 0 ∨ q = 1 ∨ q = 2 ∨ q = 3 ∨ q = 4 ∨ q = 5 ∨ q = 6 ∨ q = 7 := by omega
          rcases hcase with rfl | rfl | rfl | rfl | rfl | rfl | rfl | rfl
          all_goals (
            go_wp2_with (go_at_call 53; refine (write_any n HN.out _ ge h7 ho7 _ (some ⟨wr.heap.size, 0, none⟩) 1 1 [ub (_ % 256)] tb (Tab_grown (g := ge) hT7 (World.grownBy_alloc _ _ _) (by omega)) (by omega) (hE7.alloc _) (RB.one_ wr 5 (bv_ub (Int.emod_nonneg _ (by decide)) (Int.emod_lt_of_pos _ (by decide))).symm) (by omega) (.inr (by simp; omega)) (by omega)).mono ?_; rintro e w8 ⟨rfl, hE8, hg8⟩; rw [HST.out _ (by rfl)] at hE8)
            exact ⟨⟨_, by omega, congrArg (Value.int .i64) (by omega), hE8, hg7.trans ((World.grownBy_alloc wr _ (some ge)).trans hg8)⟩, by simp only [intOf]; omega⟩)
        · obtain rfl : q = 8 := by omega
          rw [show (be8 M).take 8 = be8 M from rfl] at hE7
          rw [show (7 : Int) - ((8 : Nat) : Int) = -1 by decide]
          obtain ⟨ho8, _⟩ := feed_ok n tb (be8 M) h1 ho1
          have hF8 : feed n tb h1 (be8 M) = F := by
            rw [← HH1.out, ← feed_append, ← HF.out, padding, HM.out, hz]
            rfl
          rw [hF8] at hE7 ho8
          have hlt7 := hE7.lt
          have hZ7 := hZ3.grown hg7 (by intro e; injection e with e; omega)
          have hb7 : Below w.heap.size w wr := hb3.grown hg7 hb3.size (fun q hq => by cases hq; omega)
          repeat (first
            | ((with_reducible refine wpl_nilCheck ge 0 ?_ ?_); (focus rfl); simp only [Act.put, List.setIfInBounds_toArray, List.set_cons_zero, List.set_cons_succ])
            | ((with_reducible refine wpl_load_mid ge 0 (hashL F _) (u32s F.s) Tryd.underlying92 ?_ i8x32 hE7 (hashL_s ho8.towide) ?_ ?_ ?_); (focus rfl); (focus rw [u32s_length, ho8.s]); (focus rfl); simp only [Act.put, List.setIfInBounds_toArray, List.set_cons_zero, List.set_cons_succ])
            | go_values | go_skip | go_guarded | go_step | go_upon | go_back)
          have hZ8 : Blk wr w.heap.size 42 (bvs (outP F.s 0)).toArray := by rw [← hz32] at hZ7; exact hZ7
          clear hZ7 hZ3 hE5 hT3 hT5 hg5 hb3 hlt3 HF HH1 hF8
          go_loopw [48] (fun i wz => ∃ q : Nat, q ≤ 8 ∧ i = .int .i64 (q : Int) ∧ Blk wz w.heap.size 42 (bvs (outP F.s q)).toArray ∧ wr.grownBy wz (some w.heap.size)) (fun i _ => 8 - (intOf i).toNat)
          case atStart => exact ⟨0, by omega, rfl, hZ8, World.grownBy.refl _ _⟩
          case round =>
            obtain ⟨q, hq, rfl, hZ9, hg9⟩ := hrel
            by_cases hq8 : q < 8
            · have qi := idx8 F.s ho8.s q hq8
              have hst := outP_step F.s q ho8.s hq8
              obtain ⟨x, hx⟩ : ∃ x, F.s.getD q 0 = x := ⟨_, rfl⟩
              rw [hx] at qi hst
              have HST := Lib.hid hst
              clear hst hx
              have g1 : (q : Int) < 8 := by omega
              have g2 : IntKind.i64.wrap (4 * (q : Int)) = 4 * (q : Int) := IntWalk.i64_in _ (by omega)
              have g3 : (0 : Int) ≤ 4 * (q : Int) := by omega
              have g4 : 4 * (q : Int) ≤ 32 := by omega
              have g5 : (4 * (q : Int)).toNat = 4 * q := by omega
              have g6 : ¬ 32 = 4 * q := by omega
              have hw4 := w4_cells x
              have hZa := hZ9.alloc (.cells (bvs (w4 x)).toArray 5)
              have hra : RB (wr.alloc (.cells (bvs (w4 x)).toArray 5)) (some ⟨wr.heap.size, 0, none⟩) 4 (w4 x) := (Blk.new wr 5 (bvs (w4 x)).toArray).reads (w4 x) rfl
              have hk4 := Lib.hid (show 4 = Nat.min 4 (32 - 4 * q) from (Nat.min_eq_left (by omega)).symm)
              have hfit4 : 4 * q + 4 ≤ (bvs (outP F.s q)).length := by rw [bvs_length, outP_length _ _ ho8.s hq]; omega
              have ht4 : (w4 x).take 4 = w4 x := rfl
              have hg10 := (World.grownBy_alloc wr (.cells (bvs (w4 x)).toArray 5) (some w.heap.size)).trans (grownBy_setRow (wr.alloc (.cells (bvs (w4 x)).toArray 5)) w.heap.size (bvs (outP F.s (q + 1))).toArray)
              have hZb := hZa.setRow (bvs (outP F.s (q + 1))).toArray
              repeat (first
                | ((with_reducible refine wpl_copy_mid w.heap.size (4 * q) (32 - 4 * q) (32 - 4 * q) (some ⟨wr.heap.size, 0, none⟩) 4 4 _ _ hZa (w4 x) hra 4 ?_ ?_ ?_ ?_ ?_ ?_); (focus exact hk4.out); (focus decide); (focus exact hfit4); (focus rfl); (focus rfl); rw [ht4, HST.out])
                | go_values | go_skip | go_guarded | go_step | go_upon | go_back)
              exact ⟨⟨q + 1, by omega, congrArg (Value.int .i64) (by omega), hZb, hg9.trans hg10⟩, by simp only [intOf]; omega⟩
            · obtain rfl : q = 8 := by omega
              have hfin : outP F.s 8 = outB F.s := by
                rw [outP, List.take_of_length_le (by rw [ho8.s]; exact Nat.le_refl _)]
                simp
              rw [hfin] at hZ9
              have hl32 : (bvs (outB F.s)).toArray.size = 32 := by rw [bvs_size, outB_length, ho8.s]
              repeat (first
                | ((with_reducible refine wpl_load w.heap.size _ _ Tryd.underlying42 i32x8 hZ9 hl32 ?_ ?_); (focus rfl); simp only [Act.put, List.setIfInBounds_toArray, List.set_cons_zero, List.set_cons_succ])
                | ((with_reducible refine wpl_store w.heap.size _ _ (bvs (outB F.s)).toArray i32x8 hZ9 hl32 hl32 (bvs_all _) ?_ ?_ ?_); (focus rfl); (focus rfl))
                | go_values | go_skip | go_guarded | go_step | go_upon | go_back)
              refine bodyPost_ret (results_cell_row rfl _ _ w.heap.size _ _ (0, 0) _ rfl (hZ9.setRow _) Tryd.underlying42 rfl (by rw [hl32]; exact i32x8)) rfl ?_
              exact ⟨rfl, (hb7.grown hg9 hb7.size (fun p hp => by cases hp; exact Nat.le_refl _)).grown (grownBy_setRow _ _ _) (hb7.grown hg9 hb7.size (fun p hp => by cases hp; exact Nat.le_refl _)).size (fun p hp => by cases hp; exact Nat.le_refl _)⟩
    · have hk56 : ¬ (h1.k : Int) = 56 := by omega
      go_wp2_with (go_at_call 53; refine (write_any n HN.out _ ge h1 ho1 (all + 1 + j) (some ⟨wr.heap.size, 0, none⟩) 1 1 [0] tb (Tab_grown (g := ge) hT5 (World.grownBy_alloc _ _ _) (by omega)) (by omega) (hE5.alloc _) (RB.one_ wr 5 (by rfl)) (by omega) (.inr (by simp; omega)) (by omega)).mono ?_; rintro e w6 ⟨rfl, hE6, hg6⟩)
      have hE6' := hE6
      rw [hf1] at hE6'
      obtain ⟨ho6, hk6⟩ := feed_ok n tb [0] h1 ho1
      have c76 := row_ck hE6 ho6.towide
      have hmsr6 : msr ge w6 = ((120 - ((feed n tb h1 [0]).k : Int)) % 64).toNat := by unfold msr; rw [c76]
      refine ⟨⟨j + 1, by omega, hE6', hg5.trans ((World.grownBy_alloc wr (.cells #[.int .u8 0] 5) (some ge)).trans hg6)⟩, ?_⟩
      rw [hmsr, hmsr6, hk6]
      simp only [List.length_cons, List.length_nil]
      omega
end Go.Proofs.YtbbcofpdfkhljaaDoor.H
namespace Go.Proofs.YtbbcofpdfkhljaaDoor.H
open Go.RowKit Go.Rat
theorem digest_length (n : Nat) (tb : List Int) (xs : List UInt8) : (digest n tb xs).length = 32 := by
  rw [digest, outB_length, (feed_ok n tb _ h0 h0_ok).1.s]
end Go.Proofs.YtbbcofpdfkhljaaDoor.H
namespace Go.Proofs.YtbbcofpdfkhljaaDoor.H
open Go.RowKit Go.Rat
theorem eql8 (A B : List Int) (hA : A.length = 8) (hB : B.length = 8) (w : World) : (Op.equalIn 10000 92 (.agg (u32s A).toArray) (.agg (u32s B).toArray)).run Tryd.prog w = .ok (decide (A = B)) w := by
  obtain ⟨i, hi⟩ := Option.isSome_iff_exists.1 (show (Tryd.prog.info? 91).isSome = true by kernel_rfl)
  exact run_eql_ints Tryd.underlying92 hi Tryd.underlying91 (by kernel_rfl) A B hA hB w
theorem eql32 (xs ys : List UInt8) (hA : xs.length = 32) (hB : ys.length = 32) (w : World) : (Op.equalIn 10000 42 (.agg (bvs xs).toArray) (.agg (bvs ys).toArray)).run Tryd.prog w = .ok (decide (xs = ys)) w := by
  obtain ⟨i, hi⟩ := Option.isSome_iff_exists.1 (show (Tryd.prog.info? 5).isSome = true by kernel_rfl)
  exact run_eql_bytes Tryd.underlying42 hi Tryd.underlying5 (by kernel_rfl) xs ys hA hB w
end Go.Proofs.YtbbcofpdfkhljaaDoor.H
namespace Go.Proofs.YtbbcofpdfkhljaaDoor.H
open Go.RowKit Go.Rat
set_option maxHeartbeats 1200000 in
theorem rstart_any (w : World) : Calls Tryd.prog 48 #[] w fun e w' => e = .returned (.agg (u32s start).toArray) ∧ Below w.heap.size w w' := by
  obtain ⟨t, hT⟩ : ∃ t, (u32s start).toArray = t := ⟨_, rfl⟩
  have hts : t.size = 8 := by rw [← hT, u32s_size]; rfl
  have ht1 : t.all (·.oneCell') = true := by rw [← hT]; exact u32s_one _
  rw [hT]
  have HT := Lib.hid hT
  clear hT
  go_enter Tryd.func48, Tryd.ntmps48
  repeat (first
            | ((with_reducible refine wpl_build t ?_ ?_); (focus rw [← HT.out]; kernel_rfl); simp only [Act.put, List.setIfInBounds_toArray, List.set_cons_zero, List.set_cons_succ])
            | ((with_reducible refine wpl_store w.heap.size _ _ t i8x32 (Blk.new w _ _) ?_ hts ht1 ?_ ?_ ?_); (focus kernel_rfl); (focus rfl); (focus rfl))
            | go_values | go_skip | go_guarded | go_step | go_upon | go_back)
  refine bodyPost_ret (results_cell_row rfl _ _ w.heap.size _ _ (0, 0) _ rfl ((Blk.new w _ _).setRow _) Tryd.underlying92 rfl (by rw [hts]; exact i8x32)) rfl ?_
  exact ⟨rfl, (below_alloc _ _).grown (grownBy_setRow _ _ _) (by simp) (fun q hq => by cases hq; exact Nat.le_refl _)⟩
theorem rb_lit (w : World) (e : TypeId) (fr : Nat × Nat) (l : List UInt8) : RB (w.alloc (.cells (bvs l).toArray e fr)) (some ⟨w.heap.size, 0, none⟩) l.length l := by
  refine ⟨by simp [bvs_length], fun _ => ⟨_, rfl, by simp, fun j u hu => ?_⟩⟩
  rw [show (⟨w.heap.size, 0, none⟩ : Addr).add j = ⟨w.heap.size, j, none⟩ by unfold Addr.add; split <;> simp_all, cell_of_row (w.alloc (.cells (bvs l).toArray e fr)) w.heap.size j (bvs l).toArray e fr (_root_.Go.heap_alloc_new w _), List.getElem?_toArray]
  exact hu
end Go.Proofs.YtbbcofpdfkhljaaDoor.H
namespace Go.Proofs.YtbbcofpdfkhljaaDoor.H
open Go.RowKit Go.Rat
set_option maxRecDepth 8000 in
set_option maxHeartbeats 4000000 in
theorem rsum_any (n : Nat) (hn64 : n = 64) (w : World) (A : Option Addr) (m c : Nat) (xs : List UInt8) (tb : List Int) (htb : tblL = tb) (hr : RB w A m xs) (hm : m < 1099511627776) :
    Calls Tryd.prog 38 #[.slice A m c] w fun e w' => e = .returned (.agg (bvs (digest n tb xs)).toArray) ∧ Below w.heap.size w w' := by
  have HN := Lib.hid hn64
  have HTB := Lib.hid htb
  clear hn64 htb
  have hl := hr.len
  have hdl := digest_length n tb xs
  obtain ⟨D, hD⟩ : ∃ D, digest n tb xs = D := ⟨_, rfl⟩
  rw [hD] at hdl ⊢
  have HD := Lib.hid hD
  clear hD
  go_enter Tryd.func38, Tryd.ntmps38
  have hZ := Blk.new w 42 (bvs (List.replicate 32 0)).toArray
  have hb1 := below_alloc w (.cells (bvs (List.replicate 32 0)).toArray 42)
  have hl1 : w.heap.size < (w.alloc (.cells (bvs (List.replicate 32 0)).toArray 42)).heap.size := by simp
  have hr1 := hr.below hb1
  obtain ⟨z32, hz32⟩ : ∃ z : Array Value, (bvs (List.replicate 32 0)).toArray = z := ⟨_, rfl⟩
  rw [hz32] at hZ hb1 hl1 hr1
  have hzz : (#[.int .u8 0, .int .u8 0, .int .u8 0, .int .u8 0, .int .u8 0, .int .u8 0, .int .u8 0, .int .u8 0, .int .u8 0, .int .u8 0, .int .u8 0, .int .u8 0, .int .u8 0, .int .u8 0, .int .u8 0, .int .u8 0, .int .u8 0, .int .u8 0, .int .u8 0, .int .u8 0, .int .u8 0, .int .u8 0, .int .u8 0, .int .u8 0, .int .u8 0, .int .u8 0, .int .u8 0, .int .u8 0, .int .u8 0, .int .u8 0, .int .u8 0, .int .u8 0] : Array Value) = z32 := by rw [← hz32]; rfl
  have HZ32 := Lib.hid hz32
  clear hz32
  have hsz1 : (w.alloc (.cells z32 42)).heap.size = w.heap.size + 1 := by simp
  have hO1 : OB 5 ((w.alloc (.cells z32 42)).alloc (.cells #[] 5)) (w.heap.size + 1) (some ⟨w.heap.size + 1, 0, none⟩) 0 0 [] := by
    have := OB.empty (w.alloc (.cells z32 42)) 5
    rwa [hsz1] at this
  have HSZ := Lib.hid hsz1
  clear hsz1
  go_wp2_with (first
    | (at_builtin; refine app_bytes rfl _ _ rfl (w.heap.size + 1) _ _ _ [] rfl hO1 _ _ _ xs rfl (hr1.alloc _) (by omega) (by simp) ?_; intro A2 N2 c2 w2 hc2 hc3 hO2 hG2)
    | (at_builtin; refine app_bytes rfl _ _ rfl (w.heap.size + 1) _ _ _ _ rfl (hO2.alloc _) _ _ _ [128] rfl (RB.one_ _ _ rfl) (by have := hO2.len; simp only [List.nil_append] at this; omega) (by have := hG2.grown.size; simp at this ⊢; omega) ?_; intro A3 N3 c3 w3 hc4 hc5 hO3 hG3))
  have hB0 : Below (w.heap.size + 1) (w.alloc (.cells z32 42)) ((w.alloc (.cells z32 42)).alloc (.cells #[] 5)) := by rw [← HSZ.out]; exact below_alloc _ _
  have hB2 := hG2.own hB0 (by rw [HSZ.out]; exact Nat.le_refl _) hO1
  have hB3 := hG3.own (below_alloc2 hB2 (by rw [HSZ.out]; exact Nat.le_refl _) _) (by rw [HSZ.out]; exact Nat.le_refl _) (hO2.alloc (.cells #[.int .u8 128] 5))
  have hZ3 := hZ.below hB3 (Nat.lt_succ_self _)
  have hO3' : OB 5 w3 (w.heap.size + 1) A3 N3 c3 (xs ++ 128 :: List.replicate 0 0) := by simpa using hO3
  clear hB2 hB0 hO2 hO1 hG2 hG3 hO3 hc2 hc3 hc4 hc5 hzz hl1
  have hb13 : Below w.heap.size w w3 := hb1.trans (hB3.mono (Nat.le_succ _))
  have hr3 := hr.below hb13
  have hbs3 : w.heap.size + 1 ≤ w3.heap.size := by have := hB3.size; rw [HSZ.out] at this; exact this
  go_loopw [3] (fun v wr => ∃ A4 N4 c4 j, j ≤ zs m ∧ v = .slice A4 N4 c4 ∧ OB 5 wr (w.heap.size + 1) A4 N4 c4 (xs ++ 128 :: List.replicate j 0) ∧ Below (w.heap.size + 1) w3 wr) (fun v _ => (120 - lenV v % 64) % 64)
  case atStart => exact ⟨A3, N3, c3, 0, Nat.zero_le _, rfl, hO3', Below.refl _ _⟩
  case round =>
    obtain ⟨A4, N4, c4, j, hj, rfl, hO4, hB4⟩ := hrel
    have hN4 := hO4.len
    rw [List.length_append, List.length_cons, List.length_replicate, hl] at hN4
    have hzd : zs m = (119 - m % 64) % 64 := rfl
    have hbs : w.heap.size + 1 ≤ wr.heap.size := Nat.le_trans hbs3 hB4.size
    by_cases hz : j = zs m
    · subst hz
      have h56 : (((N4 : Int) % 64) != 56) = false := by rw [bne_eq_false_iff_eq]; omega
      have hM : ∃ M : Int, (m : Int) * 8 = M := ⟨_, rfl⟩
      obtain ⟨M, hM⟩ := hM
      have HM := Lib.hid hM
      go_wp2_with fail
      clear hM h56
      go_loopw [3, 5] (fun v i wq => ∃ A6 N6 c6, ∃ q : Nat, q ≤ 8 ∧ v = .slice A6 N6 c6 ∧ i = .int .i64 (7 - (q : Int)) ∧ OB 5 wq (w.heap.size + 1) A6 N6 c6 (xs ++ 128 :: List.replicate (zs m) 0 ++ (be8 M).take q) ∧ Below (w.heap.size + 1) w3 wq) (fun _ i _ => (intOf i + 1).toNat)
      case atStart => exact ⟨A4, N4, c4, 0, by omega, rfl, rfl, by simpa using hO4, hB4⟩
      case round =>
        obtain ⟨A6, N6, c6, q, hq, rfl, rfl, hO6, hB6⟩ := hrel
        have hbs6 : w.heap.size + 1 ≤ wr.heap.size := Nat.le_trans hbs3 hB6.size
        have hN6 := hO6.len
        rw [List.length_append, List.length_append, List.length_cons, List.length_replicate, List.length_take, hl] at hN6
        have h8 : (be8 M).length = 8 := rfl
        by_cases hq8 : q < 8
        · have hstep : ∀ x, (be8 M)[q]? = some x → xs ++ 128 :: List.replicate (zs m) 0 ++ (be8 M).take q ++ [x] = xs ++ 128 :: List.replicate (zs m) 0 ++ (be8 M).take (q + 1) := fun x hx => by
            rw [List.take_add_one, hx, List.append_assoc]
            rfl
          have HST := Lib.hid hstep
          clear hstep
          have hcase : q = 0 ∨ q = 1 ∨ q = 2 ∨ q = 3 ∨ q = 4 ∨ q = 5 ∨ q = 6 ∨ q = 7 := by omega
          rcases hcase with rfl | rfl | rfl | rfl | rfl | rfl | rfl | rfl
          all_goals (
            go_wp2_with (at_builtin; refine app_bytes rfl _ _ rfl (w.heap.size + 1) _ _ _ _ rfl (hO6.alloc _) _ _ _ [ub (_ % 256)] rfl (RB.one_ _ _ (bv_ub (Int.emod_nonneg _ (by decide)) (Int.emod_lt_of_pos _ (by decide))).symm) (by omega) (by simp; omega) ?_; intro A7 N7 c7 w7 hc7 hc8 hO7 hG7)
            rw [HST.out _ (by rfl)] at hO7
            have hB7 := hG7.own (below_alloc2 hB6 hbs3 _) hbs3 (hO6.alloc _)
            exact ⟨⟨A7, N7, c7, _, by omega, rfl, congrArg (Value.int .i64) (by omega), hO7, hB7⟩, by simp only [intOf]; omega⟩)
        · obtain rfl : q = 8 := by omega
          rw [show (be8 M).take 8 = be8 M from rfl] at hO6
          rw [show (7 : Int) - ((8 : Nat) : Int) = -1 by decide]
          obtain ⟨P, hP⟩ : ∃ P, xs ++ 128 :: List.replicate (zs m) 0 ++ be8 M = P := ⟨_, rfl⟩
          rw [hP] at hO6
          have hPx : xs ++ padding xs.length = P := by rw [← hP, padding, hl, HM.out, List.append_assoc]; rfl
          have hPl : P.length % 64 = 0 := by
            have := padding_length xs.length
            rwa [← List.length_append, hPx] at this
          have hPN := hO6.len
          have hP0 : 0 < P.length := by rw [← hPx, List.length_append, padding, List.length_cons]; omega
          have hrP := hO6.reads
          obtain ⟨nb, hnb⟩ : ∃ nb, P.length = 64 * nb := ⟨P.length / 64, by omega⟩
          have hDP : outB (feed n tb h0 P).s = D := by rw [← HD.out, digest, hPx]
          have HDP := Lib.hid hDP
          have hPm : P.length ≤ m + 200 := by rw [← hPx]; simp [padding, be8, zs]; omega
          obtain ⟨ad, rfl, hadlt, _⟩ := hrP.2 (by omega)
          have hZ6 := hZ3.below hB6 (Nat.lt_succ_self _)
          have hb6 : Below w.heap.size w wr := hb13.trans (hB6.mono (Nat.le_succ _))
          clear hDP hPx hP hPl hO6 hB6 hN6 hZ3 hb13 hr3 hr1 hZ hb1 hB3 hO3' hO4 hB4 hN4 hbs hzd h8
          go_wp2_with fail
          refine (rstart_any wr).mono ?_
          obtain ⟨st, hst⟩ : ∃ st, (u32s start).toArray = st := ⟨_, rfl⟩
          rw [hst]
          have hstl : st.size = 8 := by rw [← hst]; rfl
          have hst1 : st.all (·.oneCell') = true := by rw [← hst]; exact u32s_one _
          have HST := Lib.hid hst
          clear hst
          rintro e w8 ⟨rfl, hb8⟩
          simp only []
          have hZ8 := hZ6.below hb8 hZ6.lt
          have hrP8 := hrP.below hb8
          have hbb8 := hb6.trans (hb8.mono hb6.size)
          repeat (first
            | ((with_reducible refine wpl_store_fresh st i8x32 ?_ hstl hst1 ?_ ?_ ?_); (focus kernel_rfl); (focus rfl); (focus rfl); intro w9 hS9 hl9 hb9)
            | go_values | go_skip | go_guarded | go_step | go_upon | go_back)
          have hrP9 := hrP8.below hb9
          have hZ9 := hZ8.below hb9 hZ8.lt
          have hbb9 := hbb8.trans (hb9.mono hbb8.size)
          have hadG : ad.block ≠ w8.heap.size := by have := hb8.size; omega
          have hZG : w.heap.size ≠ w8.heap.size := by have := hZ8.lt; omega
          have hGw : w.heap.size ≤ w8.heap.size := hbb8.size
          have hS9' : Blk w9 w8.heap.size 92 (u32s (feed n tb h0 (P.take (64 * 0))).s).toArray := by rw [← HST.out] at hS9; exact hS9
          clear hS9 hb9 hb8 hZ8 hZ6 hrP8 hrP hbb8 hb6
          generalize w8.heap.size = G at *
          obtain ⟨z64, hz64⟩ : ∃ z : Array Value, (bvs (List.replicate 64 0)).toArray = z := ⟨_, rfl⟩
          have hzz : (#[.int .u8 0, .int .u8 0, .int .u8 0, .int .u8 0, .int .u8 0, .int .u8 0, .int .u8 0, .int .u8 0, .int .u8 0, .int .u8 0, .int .u8 0, .int .u8 0, .int .u8 0, .int .u8 0, .int .u8 0, .int .u8 0, .int .u8 0, .int .u8 0, .int .u8 0, .int .u8 0, .int .u8 0, .int .u8 0, .int .u8 0, .int .u8 0, .int .u8 0, .int .u8 0, .int .u8 0, .int .u8 0, .int .u8 0, .int .u8 0, .int .u8 0, .int .u8 0, .int .u8 0, .int .u8 0, .int .u8 0, .int .u8 0, .int .u8 0, .int .u8 0, .int .u8 0, .int .u8 0, .int .u8 0, .int .u8 0, .int .u8 0, .int .u8 0, .int .u8 0, .int .u8 0, .int .u8 0, .int .u8 0, .int .u8 0, .int .u8 0, .int .u8 0, .int .u8 0, .int .u8 0, .int .u8 0, .int .u8 0, .int .u8 0, .int .u8 0, .int .u8 0, .int .u8 0, .int .u8 0, .int .u8 0, .int .u8 0, .int .u8 0, .int .u8 0] : Array Value) = z64 := by rw [← hz64]; rfl
          have HZ64 := Lib.hid hz64
          clear hz64
          go_loopw [7] (fun i wq => ∃ j : Nat, j ≤ nb ∧ i = .int .i64 (64 * (j : Int)) ∧ Blk wq G 92 (u32s (feed n tb h0 (P.take (64 * j))).s).toArray ∧ w9.grownBy wq (some G)) (fun i _ => (64 * (nb : Int) - intOf i).toNat)
          case atStart => exact ⟨0, Nat.zero_le _, rfl, hS9', World.grownBy.refl _ _⟩
          case round =>
            obtain ⟨j, hj, rfl, hSj, hgj⟩ := hrel
            have hrPj := hrP9.grown hgj (.inl (by simpa using hadG))
            by_cases hjn : j < nb
            · obtain ⟨hst1', hst2, hst3⟩ := blk_step n tb P nb j hnb hjn
              obtain ⟨ch, hch⟩ : ∃ ch, (P.drop (64 * j)).take 64 = ch := ⟨_, rfl⟩
              have hchg : ∀ k, k < 64 → ch[k]? = some (P.getD (64 * j + k) 0) := fun k hk => by rw [← hch]; exact chunk_get P (64 * j) k hk (by omega)
              rw [hch] at hst1' hst3
              obtain ⟨sj, hsj⟩ : ∃ sj, (feed n tb h0 (P.take (64 * j))).s = sj := ⟨_, rfl⟩
              rw [hsj] at hst1' hst2 hSj
              have HSTEP := Lib.hid hst1'
              have HCHG := Lib.hid hchg
              clear hst1' hch hsj hchg
              have hlti : (64 * (j : Int)) < (N6 : Int) := by omega
              have hI := Blk.new wr 94 z64
              have hSI := hSj.alloc (.cells z64 94)
              have hrPI := hrPj.alloc (.cells z64 94)
              have hGI : G < wr.heap.size := hSj.lt
              have hadI : ad.block ≠ wr.heap.size := by have := (hrPj.2 (by omega)); obtain ⟨_, e, h, _⟩ := this; cases e; omega
              have hgI := hgj.trans (World.grownBy_alloc wr (.cells z64 94) (some G))
              go_wp2_with fail
              have hI' : Blk (wr.alloc (.cells z64 94)) wr.heap.size 94 (bvs (ch.take 0 ++ List.replicate (64 - 0) 0)).toArray := by rw [← HZ64.out] at hI ⊢; exact hI
              have hfin : ∀ z, (wr.alloc (.cells z64 94)).grownBy z (some wr.heap.size) → w9.grownBy z (some G) := fun z hz =>
                hgj.trans (grownBy_of_below ((below_alloc wr _).trans (below_of_grownBy hz (fun g hg => by cases hg; exact Nat.le_refl _) (by simp))) _)
              have HFIN := Lib.hid hfin
              clear hI hgj hSj hrPj hfin
              generalize (wr.alloc (.cells z64 94)) = wI at *
              generalize wr.heap.size = I at *
              go_loopw [9] (fun i wz => ∃ k : Nat, k ≤ 64 ∧ i = .int .i64 (k : Int) ∧ Blk wz I 94 (bvs (ch.take k ++ List.replicate (64 - k) 0)).toArray ∧ wI.grownBy wz (some I)) (fun i _ => 64 - (intOf i).toNat)
              case atStart => exact ⟨0, Nat.zero_le _, rfl, hI', World.grownBy.refl _ _⟩
              case round =>
                obtain ⟨k, hk, rfl, hIk, hgk⟩ := hrel
                have hrPk := hrPI.grown hgk (.inl (by simpa using hadI))
                by_cases hk64 : k < 64
                · obtain ⟨_, e, _, hcell⟩ := hrPk.at_ (k := 64 * j + k) (by omega)
                  cases e
                  have hfs := fill_step ch 64 k (P.getD (64 * j + k) 0) hk64 (HCHG.out k hk64)
                  have hset := hIk.set_ k (.int .u8 ((P.getD (64 * j + k) 0).toNat : Int))
                  rw [hfs] at hset
                  have hf := hIk.frozen k
                  have hcI : ∃ u, wr.cell? ⟨I, k, none⟩ = some u := by
                    rw [hIk.cell k, List.getElem?_toArray]
                    exact ⟨_, List.getElem?_eq_getElem (by rw [bvs_length, List.length_append, List.length_take, List.length_replicate, hst3]; omega)⟩
                  obtain ⟨u, hcI⟩ := hcI
                  generalize (P.getD (64 * j + k) 0).toNat = y at *
                  have HSET := Lib.hid hset
                  clear hset hfs
                  have g1 : (k : Int) < 64 := by omega
                  have g2 : IntKind.i64.wrap (64 * (j : Int) + (k : Int)) = 64 * (j : Int) + (k : Int) := IntWalk.i64_in _ (by omega)
                  have g3 : (0 : Int) ≤ 64 * (j : Int) + (k : Int) := by omega
                  have g4 : 64 * (j : Int) + (k : Int) < (N6 : Int) := by omega
                  have g5 : (64 * (j : Int) + (k : Int)).toNat = 64 * j + k := by omega
                  go_wp2_with fail
                  exact ⟨⟨k + 1, by omega, by go_num, HSET.out, hgk.trans (grownBy_set _ _ _ _)⟩, by simp only [intOf]; omega⟩
                · obtain rfl : k = 64 := by omega
                  have hch64 : ch.take 64 ++ List.replicate (64 - 64) 0 = ch := by rw [List.take_of_length_le (by omega)]; simp
                  rw [hch64] at hIk
                  have hSk := hSI.grown hgk (by intro e; injection e with e; omega)
                  have hgk9 := HFIN.out _ hgk
                  have hnl : (feed n tb h0 (P.take (64 * (j + 1)))).s.length = 8 := (feed_ok n tb _ h0 h0_ok).1.s
                  obtain ⟨sn, hsn⟩ : ∃ sn, (feed n tb h0 (P.take (64 * (j + 1)))).s = sn := ⟨_, rfl⟩
                  have hst7 : blockF n tb sj ch = sn := by rw [← HSTEP.out]; exact hsn
                  rw [hsn] at hnl
                  have HSN := Lib.hid hsn
                  have HST7 := Lib.hid hst7
                  clear hsn hst7
                  have g2 : IntKind.i64.wrap (64 * (j : Int) + 64) = 64 * (j : Int) + 64 := IntWalk.i64_in _ (by omega)
                  repeat (first
                    | ((with_reducible refine wpl_load G _ _ Tryd.underlying92 i8x32 hSk ((u32s_size _).trans hst2) ?_ ?_); (focus rfl); simp only [Act.put, List.setIfInBounds_toArray, List.set_cons_zero, List.set_cons_succ])
                    | ((with_reducible refine wpl_load I _ _ Tryd.underlying94 i64x8 hIk ((bvs_size _).trans hst3) ?_ ?_); (focus rfl); simp only [Act.put, List.setIfInBounds_toArray, List.set_cons_zero, List.set_cons_succ])
                    | (go_at_call 49; refine (rblock_any n HN.out _ sj hst2 ch hst3 tb HTB.out).mono ?_; rw [HST7.out]; rintro e w12 ⟨rfl, hb12⟩; simp only []; have hS12 := hSk.below hb12 hSk.lt; have hg12 := hgk9.trans (grownBy_of_below hb12 (some G)))
                    | ((with_reducible refine wpl_store G _ _ (u32s sn).toArray i8x32 hS12 ((u32s_size _).trans hst2) ((u32s_size _).trans hnl) (u32s_one _) ?_ ?_ ?_); (focus rfl); (focus rfl))
                    | go_values | go_skip | go_guarded | go_step | go_upon | go_back)
                  exact ⟨⟨j + 1, by omega, congrArg (Value.int .i64) (by omega), by rw [HSN.out]; exact hS12.setRow _, hg12.trans (grownBy_setRow _ _ _)⟩, by simp only [intOf]; omega⟩
            · obtain rfl : j = nb := by omega
              rw [List.take_of_length_le (by omega)] at hSj
              have hFl : (feed n tb h0 P).s.length = 8 := (feed_ok n tb _ h0 h0_ok).1.s
              obtain ⟨F, hF⟩ : ∃ F, (feed n tb h0 P).s = F := ⟨_, rfl⟩
              have hFD : outB F = D := by rw [← hF]; exact HDP.out
              rw [hF] at hSj hFl
              clear hF
              have hZj := hZ9.grown hgj (by intro e; injection e with e; omega)
              have hbj : Below w.heap.size w wr := hbb9.grown hgj hbb9.size (fun q hq => by cases hq; exact hGw)
              have hgt : ¬ (64 * (j : Int)) < (N6 : Int) := by omega
              clear hzz
              have hzz2 : (#[.int .u8 0, .int .u8 0, .int .u8 0, .int .u8 0, .int .u8 0, .int .u8 0, .int .u8 0, .int .u8 0, .int .u8 0, .int .u8 0, .int .u8 0, .int .u8 0, .int .u8 0, .int .u8 0, .int .u8 0, .int .u8 0, .int .u8 0, .int .u8 0, .int .u8 0, .int .u8 0, .int .u8 0, .int .u8 0, .int .u8 0, .int .u8 0, .int .u8 0, .int .u8 0, .int .u8 0, .int .u8 0, .int .u8 0, .int .u8 0, .int .u8 0, .int .u8 0] : Array Value) = z32 := by rw [← HZ32.out]; rfl
              have hO := Blk.new wr 42 z32
              have hO' : Blk (wr.alloc (.cells z32 42)) wr.heap.size 42 (bvs ((outB F).take 0 ++ List.replicate (32 - 0) 0)).toArray := by rw [← HZ32.out] at hO ⊢; exact hO
              have hSo := hSj.alloc (.cells z32 42)
              have hZo := hZj.alloc (.cells z32 42)
              have hbo : Below w.heap.size w (wr.alloc (.cells z32 42)) := hbj.alloc (Nat.le_trans hbj.size (Nat.le_refl _)) _
              have hGo : G ≠ wr.heap.size := by have := hSj.lt; omega
              have hwo : w.heap.size ≠ wr.heap.size := by have := hZj.lt; omega
              have hwo2 : w.heap.size ≤ wr.heap.size := hbj.size
              go_wp2_with fail
              clear hO hSj hZj hbj hgj
              generalize (wr.alloc (.cells z32 42)) = wo at *
              generalize wr.heap.size = O at *
              go_loopw [11] (fun i wz => ∃ k : Nat, k ≤ 32 ∧ i = .int .i64 (k : Int) ∧ Blk wz O 42 (bvs ((outB F).take k ++ List.replicate (32 - k) 0)).toArray ∧ wo.grownBy wz (some O)) (fun i _ => 32 - (intOf i).toNat)
              case atStart => exact ⟨0, Nat.zero_le _, rfl, hO', World.grownBy.refl _ _⟩
              case round =>
                obtain ⟨k, hk, rfl, hOk, hgk⟩ := hrel
                by_cases hk32 : k < 32
                · have hSk := hSo.grown hgk (by intro e; injection e with e; omega)
                  have c1 := u32s_at hSk (i := k / 4) (by omega)
                  have hat := outB_at F (k / 4) (k % 4) (by omega) (by omega)
                  rw [show 4 * (k / 4) + k % 4 = k by omega] at hat
                  obtain ⟨x, hx⟩ : ∃ x, F.getD (k / 4) 0 = x := ⟨_, rfl⟩
                  rw [hx] at c1 hat
                  clear hx
                  obtain ⟨q, hqk⟩ : ∃ q, k / 4 = q := ⟨_, rfl⟩
                  rw [hqk] at c1
                  have d1 : (k : Int) / 4 = (q : Int) := by omega
                  have hq8i : (q : Int) < 8 := by omega
                  have hq0i : (0 : Int) ≤ (q : Int) := by omega
                  clear hqk
                  have g1 : (k : Int) < 32 := by omega
                  have hf := hOk.frozen k
                  have hcI : ∃ u, wr.cell? ⟨O, k, none⟩ = some u := by
                    rw [hOk.cell k, List.getElem?_toArray]
                    exact ⟨_, List.getElem?_eq_getElem (by rw [bvs_length, List.length_append, List.length_take, List.length_replicate, outB_length, hFl]; omega)⟩
                  obtain ⟨u, hcI⟩ := hcI
                  have hrc : k % 4 = 0 ∨ k % 4 = 1 ∨ k % 4 = 2 ∨ k % 4 = 3 := by omega
                  have hrci : ((k : Int) % 4 = 0 ∧ k % 4 = 0) ∨ ((k : Int) % 4 = 1 ∧ k % 4 = 1) ∨ ((k : Int) % 4 = 2 ∧ k % 4 = 2) ∨ ((k : Int) % 4 = 3 ∧ k % 4 = 3) := by omega
                  clear hrc
                  rcases hrci with ⟨d2, hrc⟩ | ⟨d2, hrc⟩ | ⟨d2, hrc⟩ | ⟨d2, hrc⟩
                  all_goals (
                    rw [hrc] at hat
                    have HAT := Lib.hid hat
                    clear hat
                    go_wp2_with fail
                    refine ⟨⟨k + 1, by omega, congrArg (Value.int .i64) (by omega), ?_, hgk.trans (grownBy_set _ _ _ _)⟩, by simp only [intOf]; omega⟩
                    rw [← fill_ub (outB F) 32 k _ (Int.emod_nonneg _ (by decide)) (Int.emod_lt_of_pos _ (by decide)) hk32 HAT.out]
                    exact hOk.set_ k _)
                · obtain rfl : k = 32 := by omega
                  have hDl : (outB F).length = 32 := by rw [outB_length, hFl]
                  have hfull : (outB F).take 32 ++ List.replicate (32 - 32) 0 = D := by rw [List.take_of_length_le (by omega), hFD]; simp
                  rw [hfull] at hOk
                  have hZk := hZo.grown hgk (by intro e; injection e with e; omega)
                  have hbk : Below w.heap.size w wr := hbo.grown hgk hbo.size (fun q hq => by cases hq; exact hwo2)
                  have hd32 : (bvs D).toArray.size = 32 := by rw [bvs_size, hdl]
                  have hzs : z32.size = 32 := by rw [← HZ32.out]; rfl
                  repeat (first
                    | ((with_reducible refine wpl_load O _ _ Tryd.underlying42 i32x8 hOk hd32 ?_ ?_); (focus rfl); simp only [Act.put, List.setIfInBounds_toArray, List.set_cons_zero, List.set_cons_succ])
                    | ((with_reducible refine wpl_store w.heap.size _ _ (bvs D).toArray i32x8 hZk hzs hd32 (bvs_all _) ?_ ?_ ?_); (focus rfl); (focus rfl))
                    | go_values | go_skip | go_guarded | go_step | go_upon | go_back)
                  refine bodyPost_ret (results_cell_row rfl _ _ w.heap.size _ _ (0, 0) _ rfl (hZk.setRow _) Tryd.underlying42 rfl (by rw [hd32]; exact i32x8)) rfl ?_
                  exact ⟨rfl, hbk.grown (grownBy_setRow _ _ _) hbk.size (fun p hp => by cases hp; exact Nat.le_refl _)⟩
    · have h56 : (((N4 : Int) % 64) != 56) = true := by rw [bne_iff_ne]; omega
      go_wp2_with (at_builtin; refine app_bytes rfl _ _ rfl (w.heap.size + 1) _ _ _ _ rfl (hO4.alloc _) _ _ _ [0] rfl (RB.one_ _ _ rfl) (by omega) (by simp; omega) ?_; intro A5 N5 c5 w5 hc6 hc7 hO5 hG5)
      have hB5 := hG5.own (below_alloc2 hB4 hbs3 _) hbs3 (hO4.alloc _)
      have hN5 := hO5.len
      rw [List.length_append, List.length_append, List.length_cons, List.length_replicate, hl] at hN5
      simp only [List.length_cons, List.length_nil] at hN5
      refine ⟨⟨A5, N5, c5, j + 1, by omega, rfl, ?_, hB5⟩, by simp only [lenV]; omega⟩
      rw [List.replicate_succ', ← List.cons_append, ← List.append_assoc]
      exact hO5
end Go.Proofs.YtbbcofpdfkhljaaDoor.H
namespace Go.Proofs.YtbbcofpdfkhljaaDoor.H
open Go.RowKit Go.Rat
theorem ob_one (w : World) (e : TypeId) (x : UInt8) : OB e (w.alloc (.cells #[bv x] e)) w.heap.size (some ⟨w.heap.size, 0, none⟩) 1 1 [x] :=
  ⟨by simp [bvs], .inr ⟨w.heap.size, 1, #[bv x], rfl, Nat.le_refl _, _root_.Go.heap_alloc_new w _, Nat.le_refl _, by simp [maxLen], by simp, by simp [bvs]⟩⟩
end Go.Proofs.YtbbcofpdfkhljaaDoor.H
namespace Go.Proofs.YtbbcofpdfkhljaaDoor.H
open Go.RowKit Go.Rat
/-- A part of what is digested: a slice, and what it reads. -/
structure Pt where
  A : Option Addr
  n : Nat
  c : Nat
  xs : List UInt8
def Pt.v (p : Pt) : Value := .slice p.A p.n p.c
structure PtOk (w : World) (p : Pt) : Prop where
  r : RB w p.A p.n p.xs
  c : p.n ≤ p.c
theorem PtOk.below {w w' : World} {p : Pt} (h : PtOk w p) (hb : Below w.heap.size w w') : PtOk w' p := ⟨h.r.below hb, h.c⟩
def catP (ps : List Pt) : List UInt8 := ps.flatMap (·.xs)
set_option maxRecDepth 8000 in
set_option maxHeartbeats 4000000 in
theorem tdigest_any (n : Nat) (hn64 : n = 64) (w : World) (g : Nat) (T : TypeId) (ps : List Pt) (N c : Nat) (hN : ps.length = N) (hP : Blk w g T (ps.map Pt.v).toArray) (hok : ∀ p ∈ ps, PtOk w p) (hlen : (catP ps).length < 288230376151711744) (hN9 : N < 1000)
    (tb : List Int) (hT : Tab w tb) :
    Calls Tryd.prog 43 #[.slice (some ⟨g, 0, none⟩) N c] w fun e w' => e = .returned (.agg (bvs (digest n tb (catP ps))).toArray) ∧ Below w.heap.size w w' := by
  have HN := Lib.hid hn64
  clear hn64
  obtain ⟨D, hD⟩ : ∃ D, digest n tb (catP ps) = D := ⟨_, rfl⟩
  have hdl := digest_length n tb (catP ps)
  rw [hD] at hdl ⊢
  have hd32 : (bvs D).toArray.size = 32 := by rw [bvs_size, hdl]
  have HD := Lib.hid hD
  clear hD
  have hw0 : 0 < w.heap.size := block_lt_of_cell (hT 0 (by omega))
  go_enter Tryd.func43, Tryd.ntmps43
  have hZ := Blk.new w 42 (bvs (List.replicate 32 0)).toArray
  have hb1 := below_alloc w (.cells (bvs (List.replicate 32 0)).toArray 42)
  obtain ⟨z32, hz32⟩ : ∃ z : Array Value, (bvs (List.replicate 32 0)).toArray = z := ⟨_, rfl⟩
  have hzs : z32.size = 32 := by rw [← hz32]; rfl
  rw [hz32] at hZ hb1
  have hzz : (#[.int .u8 0, .int .u8 0, .int .u8 0, .int .u8 0, .int .u8 0, .int .u8 0, .int .u8 0, .int .u8 0, .int .u8 0, .int .u8 0, .int .u8 0, .int .u8 0, .int .u8 0, .int .u8 0, .int .u8 0, .int .u8 0, .int .u8 0, .int .u8 0, .int .u8 0, .int .u8 0, .int .u8 0, .int .u8 0, .int .u8 0, .int .u8 0, .int .u8 0, .int .u8 0, .int .u8 0, .int .u8 0, .int .u8 0, .int .u8 0, .int .u8 0, .int .u8 0] : Array Value) = z32 := by rw [← hz32]; rfl
  clear hz32
  go_wp2_with (go_at_call 52; refine (new_any _).mono ?_; rintro e w2 ⟨ge, rfl, hge, hE, hb2⟩)
  have hlt1 : w.heap.size < ge := by have : w.heap.size < (w.alloc (.cells z32 42)).heap.size := by { simp }
                                     omega
  have hbb2 := hb1.trans (hb2.mono hb1.size)
  have hZ2 := hZ.below hb2 (by simp)
  have hT2 := Tab.below hT hbb2
  have hP2 := hP.below hbb2 hP.lt
  have hgw := hP.lt
  have hok2 : ∀ p ∈ ps, PtOk w2 p := fun p hp => (hok p hp).below hbb2
  have hbk : ∀ p ∈ ps, p.n = 0 ∨ p.A.map (·.block) ≠ some ge := fun p hp => by
    rcases Nat.eq_zero_or_pos p.n with h | h
    · exact .inl h
    · obtain ⟨ad, e, hlt, _⟩ := (hok p hp).r.2 h
      refine .inr ?_
      rw [e]
      simp
      omega
  clear hzz hZ hb2 hb1
  go_loopw [9] (fun i wr => ∃ k : Nat, k ≤ N ∧ i = .int .i64 (k : Int) ∧ Blk wr ge 109 (hashL (feed n tb h0 (catP (ps.take k))) (catP (ps.take k)).length).toArray ∧ w2.grownBy wr (some ge)) (fun i _ => N - (intOf i).toNat)
  case atStart => exact ⟨0, Nat.zero_le _, rfl, hE, World.grownBy.refl _ _⟩
  case round =>
    obtain ⟨k, hk, rfl, hEk, hgk⟩ := hrel
    by_cases hkN : k < N
    · have hPk := hP2.grown hgk (by intro e; injection e with e; omega)
      have hkl : k < ps.length := by omega
      obtain ⟨p, hp⟩ : ∃ p, ps[k] = p := ⟨_, rfl⟩
      have hmem : p ∈ ps := by rw [← hp]; exact List.getElem_mem hkl
      have c1 : wr.cell? ⟨g, k, none⟩ = some (.slice p.A p.n p.c) := by
        rw [hPk.cell k, List.getElem?_toArray, List.getElem?_map, List.getElem?_eq_getElem hkl, hp]
        rfl
      have hcat : catP (ps.take (k + 1)) = catP (ps.take k) ++ p.xs := by
        rw [List.take_add_one, List.getElem?_eq_getElem hkl, hp]
        simp [catP]
      have hle : (catP (ps.take (k + 1))).length ≤ (catP ps).length := by
        have : catP ps = catP (ps.take (k + 1)) ++ catP (ps.drop (k + 1)) := by rw [catP, catP, catP, ← List.flatMap_append, List.take_append_drop]
        rw [this, List.length_append]
        omega
      rw [hcat, List.length_append] at hle
      have hpr := (hok2 p hmem).r
      have hpl := hpr.len
      have hrk : RB wr p.A p.n p.xs := keepG hpr hgk (hbk p hmem)
      have hTk := Tab_grown hT2 hgk (by omega)
      have hfk := (feed_ok n tb (catP (ps.take k)) h0 h0_ok).1
      have g1 : (k : Int) < (N : Int) := by omega
      have g0 : (0 : Int) ≤ (k : Int) := by omega
      go_wp2_with (go_at_call 53; refine (write_any n HN.out wr ge _ hfk _ p.A p.n p.c p.xs tb hTk (by omega) hEk hrk (hok2 p hmem).c (hbk p hmem) (by omega)).mono ?_; rintro e w4 ⟨rfl, hE4, hg4⟩)
      rw [← feed_append, ← hcat, ← hpl, ← List.length_append, ← hcat] at hE4
      exact ⟨⟨k + 1, by omega, congrArg (Value.int .i64) (by omega), hE4, hgk.trans hg4⟩, by simp only [intOf]; omega⟩
    · obtain rfl : k = N := by omega
      rw [List.take_of_length_le (by omega)] at hEk
      have hDF : outB (feed n tb (feed n tb h0 (catP ps)) (padding (catP ps).length)).s = D := by rw [← HD.out, digest, feed_append]
      have HDF := Lib.hid hDF
      clear hDF
      obtain ⟨ho, hkk⟩ := feed_ok n tb (catP ps) h0 h0_ok
      have hkm : (feed n tb h0 (catP ps)).k = (catP ps).length % 64 := by rw [hkk]; simp [h0]
      have hTk := Tab_grown hT2 hgk (by omega)
      have hZk := hZ2.grown hgk (by intro e; injection e with e; omega)
      have hbb : Below w.heap.size w wr := hbb2.grown hgk hbb2.size (fun q hq => by cases hq; omega)
      have g1 : ¬ (k : Int) < (k : Int) := by omega
      repeat (first
        | (go_at_call 54; refine (hsum_any n HN.out wr ge _ ho (catP ps).length hkm tb hTk hEk (by omega)).mono ?_; rw [HDF.out]; rintro e w4 ⟨rfl, hb4⟩; simp only []; have hZ4 := hZk.below hb4 hZk.lt; have hb04 := hbb.trans (hb4.mono hbb.size))
        | ((with_reducible refine wpl_store w.heap.size _ _ (bvs D).toArray i32x8 hZ4 hzs hd32 (bvs_all _) ?_ ?_ ?_); (focus rfl); (focus rfl))
        | go_values | go_skip | go_guarded | go_step | go_upon | go_back)
      refine bodyPost_ret (results_cell_row rfl _ _ w.heap.size _ _ (0, 0) _ rfl (hZ4.setRow _) Tryd.underlying42 rfl (by rw [hd32]; exact i32x8)) rfl ?_
      exact ⟨rfl, hb04.grown (grownBy_setRow _ _ _) hb04.size (fun p hp => by cases hp; exact Nat.le_refl _)⟩
end Go.Proofs.YtbbcofpdfkhljaaDoor.H
namespace Go.Proofs.YtbbcofpdfkhljaaDoor.H
open Go.RowKit Go.Rat
theorem xor8 (x y : UInt8) : bits .xor .u8 (x.toNat : Int) (y.toNat : Int) = ((x ^^^ y).toNat : Int) := by
  have ha := x.toNat_lt
  have hb := y.toNat_lt
  have hx : (x.toNat ^^^ y.toNat) < 2 ^ 8 := Nat.xor_lt_two_pow ha hb
  have hv : (BitVec.ofNat 8 x.toNat ^^^ BitVec.ofNat 8 y.toNat).toNat = (x ^^^ y).toNat := by
    rw [BitVec.toNat_xor, BitVec.toNat_ofNat, BitVec.toNat_ofNat, Nat.mod_eq_of_lt ha, Nat.mod_eq_of_lt hb, UInt8.toNat_xor]
  have hlt := (x ^^^ y).toNat_lt
  simp only [bits, BitVec.ofInt_natCast]
  show IntKind.u8.wrap ((BitVec.ofNat 8 x.toNat ^^^ BitVec.ofNat 8 y.toNat).toNat : Int) = _
  rw [hv]
  exact wraps_u8 _ (Int.natCast_nonneg _) (by omega)
def keyF (n : Nat) (tb : List Int) (xs : List UInt8) : List UInt8 := if 64 < xs.length then digest n tb xs else xs
def padK (ks : List UInt8) : List UInt8 := ks ++ List.replicate (64 - ks.length) 0
def turnF (n : Nat) (tb : List Int) (xs : List UInt8) (y : UInt8) : List UInt8 := (padK (keyF n tb xs)).map (· ^^^ y)
theorem keyF_le (n : Nat) (tb : List Int) (xs : List UInt8) : (keyF n tb xs).length ≤ 64 := by
  unfold keyF
  split
  · rw [digest_length]; omega
  · omega
theorem padK_length {ks : List UInt8} (h : ks.length ≤ 64) : (padK ks).length = 64 := by rw [padK, List.length_append, List.length_replicate]; omega
theorem turnF_length (n : Nat) (tb : List Int) (xs : List UInt8) (y : UInt8) : (turnF n tb xs y).length = 64 := by rw [turnF, List.length_map, padK_length (keyF_le n tb xs)]
theorem padK_splice (ks : List UInt8) : Go.splice (List.replicate 64 (Value.int .u8 0)) 0 (bvs ks) = bvs (padK ks) := by
  rw [Go.splice, List.take_zero, List.nil_append, Nat.zero_add, bvs_length, List.drop_replicate, padK, bvs_append]
  congr 1
  simp [bvs, bv]
theorem wpl_makeB {w : World} {ops : Array Oper} {rest : List Oper} {a : Act} {Q : Exit → Act → World → Prop} {d : Option Tmp} {x y : Operand} {t : TypeId} {p : String} {af : Array Edge} (k : Nat) (hk : k < 1000000)
    (hx : a.eval x = .int .i64 (k : Int)) (hy : a.eval y = .int .i64 (k : Int))
    (h : ∀ w2, Blk w2 w.heap.size 5 (List.replicate k (Value.int .u8 0)).toArray → Below w.heap.size w w2 → w.heap.size < w2.heap.size → wpList Tryd.prog ops Q rest (a.put d (.slice (some ⟨w.heap.size, 0, none⟩) k k)) w2) :
    wpList Tryd.prog ops Q ({ dst := d, op := .makeSlice 64 x y, type := t, pos := p, after := af, guard := none } :: rest) a w :=
  make_bytes rfl x y rfl (k : Int) (k : Int) hx hy (Int.natCast_nonneg _) (Int.le_refl _) (by omega) (fun w2 h1 h2 h3 => h w2 h1 h2 (by omega))
theorem wpl_copyK {w : World} {ops : Array Oper} {rest : List Oper} {a : Act} {Q : Exit → Act → World → Prop} {d : Option Tmp} {x y : Operand} {t : TypeId} {p : String} {af : Array Edge}
    (G D dCap : Nat) (A : Option Addr) (m c : Nat) (T : TypeId) (cur : List Value) (ks : List UInt8) (hB : Blk w G T cur.toArray) (hr : RB w A m ks) (hmD : m ≤ D) (hfit : m ≤ cur.length)
    (hd : a.eval x = .slice (some ⟨G, 0, none⟩) D dCap) (hs : a.eval y = .slice A m c)
    (h : ∀ w', Blk w' G T (Go.splice cur 0 (bvs ks)).toArray → w.grownBy w' (some G) → wpList Tryd.prog ops Q rest (a.put d (.int .i64 (m : Int))) w') :
    wpList Tryd.prog ops Q ({ dst := d, op := .call { callee := .builtin .copy, args := #[x, y], argTypes := #[64, 64] }, type := t, pos := p, after := af, guard := none } :: rest) a w := by
  rcases Nat.eq_zero_or_pos m with h0 | h0
  · subst h0
    obtain rfl : ks = [] := List.eq_nil_of_length_eq_zero hr.len
    exact wpList_copy_nothing rfl x y _ _ rfl 5 Tryd.underlying64 (by kernel_rfl) (some ⟨G, 0, none⟩) A D dCap 0 c hd hs (by simp) (h w (by simpa [Go.splice, bvs] using hB) (World.grownBy.refl _ _))
  · have hk : ks.take m = ks := List.take_of_length_le (Nat.le_of_eq hr.len)
    refine wpl_copy_mid G 0 D dCap A m c T cur hB ks hr m (Nat.min_eq_left hmD).symm h0 (by omega) hd hs ?_
    rw [hk]
    exact h _ (hB.setRow _) (grownBy_setRow _ _ _)
set_option maxRecDepth 8000 in
set_option maxHeartbeats 4000000 in
theorem turned_any (n : Nat) (hn64 : n = 64) (w : World) (A : Option Addr) (m c : Nat) (xs : List UInt8) (y : UInt8) (hr : RB w A m xs) (hmc : m ≤ c) (hm : m < 144115188075855872) (tb : List Int) (hT : Tab w tb) :
    Calls Tryd.prog 44 #[.slice A m c, .int .u8 (y.toNat : Int)] w fun e w' => ∃ g, e = .returned (.slice (some ⟨g, 0, none⟩) 64 64) ∧ w.heap.size ≤ g ∧ Blk w' g 5 (bvs (turnF n tb xs y)).toArray ∧ Below w.heap.size w w' := by
  have HN := Lib.hid hn64
  clear hn64
  have hl := hr.len
  have hkl := keyF_le n tb xs
  obtain ⟨ks, hks⟩ : ∃ ks, keyF n tb xs = ks := ⟨_, rfl⟩
  obtain ⟨TF, hTF⟩ : ∃ TF, turnF n tb xs y = TF := ⟨_, rfl⟩
  have hTF2 : (padK ks).map (· ^^^ y) = TF := by rw [← hTF, turnF, hks]
  rw [hTF]
  rw [hks] at hkl
  have HTF := Lib.hid hTF2
  clear hTF hTF2
  go_enter Tryd.func44, Tryd.ntmps44
  by_cases hbig : 64 < m
  · have hbi : (64 : Int) < (m : Int) := by omega
    have hkd : digest n tb xs = ks := by rw [← hks, keyF, if_pos (by omega)]
    have hkl32 : ks.length = 32 := by rw [← hkd, digest_length]
    have HKD := Lib.hid hkd
    have hcat : catP [⟨A, m, c, xs⟩] = xs := by simp [catP]
    have hd32 : (bvs ks).toArray.size = 32 := by rw [bvs_size, hkl32]
    clear hks hkd
    repeat (first
      | (go_at_call 43; refine (tdigest_any n HN.out _ w.heap.size 64 [⟨A, m, c, xs⟩] 1 1 rfl (Blk.new w 64 #[.slice A m c]) (fun p hp => by simp at hp; subst hp; exact ⟨hr.alloc _, hmc⟩) (by rw [hcat]; omega) (by omega) tb (Tab.below hT (below_alloc _ _))).mono ?_; rw [hcat, HKD.out]; rintro e w2 ⟨rfl, hb2⟩; simp only [])
      | ((with_reducible refine wpl_store_fresh (bvs ks).toArray i32x8 ?_ hd32 (bvs_all _) ?_ ?_ ?_); (focus kernel_rfl); (focus rfl); (focus rfl); intro w3 hD3 hl3 hb3; refine Hid.out ?_)
      | go_values | go_skip | go_guarded | go_step | go_upon | go_back)
    refine Lib.hid ?_
    have hbw2 : Below w.heap.size w w2 := (below_alloc w (.cells #[.slice A m c] 64)).trans (hb2.mono (by simp))
    have hbK : Below w.heap.size w w3 := hbw2.trans (hb3.mono hbw2.size)
    have hrK : RB w3 (some ⟨w2.heap.size, 0, none⟩) 32 ks := by
      have := hD3.reads ks (by rw [List.take_of_length_le (by rw [bvs_length]; exact Nat.le_refl _)])
      rwa [hkl32] at this
    clear hb2 hb3 hbw2 hD3
    have hmK : 32 ≤ 64 := by omega
    repeat (first
      | ((with_reducible refine wpl_makeB 64 (by decide) ?_ ?_ ?_); (focus rfl); (focus rfl); intro wm hBm2 hbm hsz0; have hrm := hrK.below hbm; simp only [Act.put, List.setIfInBounds_toArray, List.set_cons_zero, List.set_cons_succ]; refine Hid.out ?_)
      | go_values | go_skip | go_guarded | go_step | go_upon | go_back)
    refine Lib.hid ?_
    repeat (first
      | ((with_reducible refine wpl_copyK w3.heap.size 64 64 (some (⟨w2.heap.size, 0, none⟩ : Addr)) 32 32 _ (List.replicate 64 (Value.int .u8 0)) ks hBm2 hrm hmK ?_ ?_ ?_ ?_); (focus (rw [List.length_replicate]; exact hmK)); (focus rfl); (focus rfl); intro wc hCc hgc; have hbc := hbm.grown hgc hbm.size (fun q hq => by cases hq; exact Nat.le_refl _); rw [padK_splice] at hCc; simp only [Act.put, List.setIfInBounds_toArray, List.set_cons_zero, List.set_cons_succ])
      | go_values | go_skip | go_guarded | go_step | go_upon | go_back)
    have hCc2 : Blk wc w3.heap.size 5 (bvs ((padK ks).map (· ^^^ y) |>.take 0) ++ bvs ((padK ks).drop 0)).toArray := hCc
    have hbW : Below w.heap.size w wc := hbK.trans (hbc.mono hbK.size)
    have hGw : w.heap.size ≤ w3.heap.size := hbK.size
    clear hCc hBm2 hbm hsz0 hbc hrK hrm hgc hmK
    generalize w3.heap.size = G at *
    have hpl := padK_length hkl
    go_loopw [19] (fun i wr => ∃ k : Nat, k ≤ 64 ∧ i = .int .i64 (k : Int) ∧ Blk wr G 5 (bvs ((padK ks).map (· ^^^ y) |>.take k) ++ bvs ((padK ks).drop k)).toArray ∧ wc.grownBy wr (some G)) (fun i _ => 64 - (intOf i).toNat)
    case atStart => exact ⟨0, Nat.zero_le _, rfl, hCc2, World.grownBy.refl _ _⟩
    case round =>
      obtain ⟨k, hk, rfl, hGk, hgk⟩ := hrel
      by_cases hk64 : k < 64
      · have hkp : k < (padK ks).length := by omega
        obtain ⟨x, hx⟩ : ∃ x, (padK ks)[k] = x := ⟨_, rfl⟩
        have hdrop : (padK ks).drop k = x :: (padK ks).drop (k + 1) := by rw [List.drop_eq_getElem_cons hkp, hx]
        have hlt : (bvs ((padK ks).map (· ^^^ y) |>.take k)).length = k := by rw [bvs_length, List.length_take, List.length_map]; omega
        have c1 : wr.cell? ⟨G, k, none⟩ = some (.int .u8 (x.toNat : Int)) := by
          rw [hGk.cell k, List.getElem?_toArray, List.getElem?_append_right (by omega), hlt, Nat.sub_self, hdrop]
          rfl
        have f1 := hGk.frozen k
        have hset := hGk.set_ k (.int .u8 ((x ^^^ y).toNat : Int))
        rw [List.setIfInBounds_toArray, List.set_append_right _ _ (by omega), hlt, Nat.sub_self, hdrop] at hset
        have hstep : bvs ((padK ks).map (· ^^^ y) |>.take k) ++ (bvs (x :: (padK ks).drop (k + 1))).set 0 (.int .u8 ((x ^^^ y).toNat : Int)) = bvs ((padK ks).map (· ^^^ y) |>.take (k + 1)) ++ bvs ((padK ks).drop (k + 1)) := by
          rw [List.take_add_one, List.getElem?_map, List.getElem?_eq_getElem hkp, hx]
          simp [bvs, bv]
        rw [hstep] at hset
        have hxx := xor8 x y
        have HXX := Lib.hid hxx
        have HSET := Lib.hid hset
        clear hset hstep hdrop hxx hx
        have g1 : (k : Int) < 64 := by omega
        have g0 : (0 : Int) ≤ (k : Int) := by omega
        go_wp2_with fail
        rw [HXX.out]
        exact ⟨⟨k + 1, by omega, congrArg (Value.int .i64) (by omega), HSET.out, hgk.trans (grownBy_set _ _ _ _)⟩, by simp only [intOf]; omega⟩
      · obtain rfl : k = 64 := by omega
        rw [List.take_of_length_le (by rw [List.length_map]; omega), List.drop_of_length_le (by omega), HTF.out] at hGk
        have hGk2 : Blk wr G 5 (bvs TF).toArray := by simpa [bvs] using hGk
        go_wp2_with fail
        go_ret
        exact ⟨G, rfl, hGw, hGk2, hbW.grown hgk hbW.size (fun q hq => by cases hq; exact hGw)⟩
  · have hbi : ¬ (64 : Int) < (m : Int) := by omega
    have hkd : ks = xs := by rw [← hks, keyF, if_neg (by omega)]
    subst hkd
    clear hks
    have hrK := hr
    have hmK : m ≤ 64 := by omega
    repeat (first
      | ((with_reducible refine wpl_makeB 64 (by decide) ?_ ?_ ?_); (focus rfl); (focus rfl); intro wm hBm2 hbm hsz0; have hrm := hrK.below hbm; simp only [Act.put, List.setIfInBounds_toArray, List.set_cons_zero, List.set_cons_succ]; refine Hid.out ?_)
      | go_values | go_skip | go_guarded | go_step | go_upon | go_back)
    refine Lib.hid ?_
    repeat (first
      | ((with_reducible refine wpl_copyK w.heap.size 64 64 A m c _ (List.replicate 64 (Value.int .u8 0)) ks hBm2 hrm hmK ?_ ?_ ?_ ?_); (focus (rw [List.length_replicate]; exact hmK)); (focus rfl); (focus rfl); intro wc hCc hgc; have hbc := hbm.grown hgc hbm.size (fun q hq => by cases hq; exact Nat.le_refl _); rw [padK_splice] at hCc; simp only [Act.put, List.setIfInBounds_toArray, List.set_cons_zero, List.set_cons_succ])
      | go_values | go_skip | go_guarded | go_step | go_upon | go_back)
    have hCc2 : Blk wc w.heap.size 5 (bvs ((padK ks).map (· ^^^ y) |>.take 0) ++ bvs ((padK ks).drop 0)).toArray := hCc
    have hbW : Below w.heap.size w wc := hbc
    have hGw : w.heap.size ≤ w.heap.size := Nat.le_refl _
    clear hCc hBm2 hbm hsz0 hbc hrK hrm hgc hmK
    clear hGw
    obtain ⟨G, hG⟩ : ∃ G, w.heap.size = G := ⟨_, rfl⟩
    have hGw : w.heap.size ≤ G := Nat.le_of_eq hG
    rw [hG] at hCc2 ⊢
    clear hG
    have hpl := padK_length hkl
    go_loopw [19] (fun i wr => ∃ k : Nat, k ≤ 64 ∧ i = .int .i64 (k : Int) ∧ Blk wr G 5 (bvs ((padK ks).map (· ^^^ y) |>.take k) ++ bvs ((padK ks).drop k)).toArray ∧ wc.grownBy wr (some G)) (fun i _ => 64 - (intOf i).toNat)
    case atStart => exact ⟨0, Nat.zero_le _, rfl, hCc2, World.grownBy.refl _ _⟩
    case round =>
      obtain ⟨k, hk, rfl, hGk, hgk⟩ := hrel
      by_cases hk64 : k < 64
      · have hkp : k < (padK ks).length := by omega
        obtain ⟨x, hx⟩ : ∃ x, (padK ks)[k] = x := ⟨_, rfl⟩
        have hdrop : (padK ks).drop k = x :: (padK ks).drop (k + 1) := by rw [List.drop_eq_getElem_cons hkp, hx]
        have hlt : (bvs ((padK ks).map (· ^^^ y) |>.take k)).length = k := by rw [bvs_length, List.length_take, List.length_map]; omega
        have c1 : wr.cell? ⟨G, k, none⟩ = some (.int .u8 (x.toNat : Int)) := by
          rw [hGk.cell k, List.getElem?_toArray, List.getElem?_append_right (by omega), hlt, Nat.sub_self, hdrop]
          rfl
        have f1 := hGk.frozen k
        have hset := hGk.set_ k (.int .u8 ((x ^^^ y).toNat : Int))
        rw [List.setIfInBounds_toArray, List.set_append_right _ _ (by omega), hlt, Nat.sub_self, hdrop] at hset
        have hstep : bvs ((padK ks).map (· ^^^ y) |>.take k) ++ (bvs (x :: (padK ks).drop (k + 1))).set 0 (.int .u8 ((x ^^^ y).toNat : Int)) = bvs ((padK ks).map (· ^^^ y) |>.take (k + 1)) ++ bvs ((padK ks).drop (k + 1)) := by
          rw [List.take_add_one, List.getElem?_map, List.getElem?_eq_getElem hkp, hx]
          simp [bvs, bv]
        rw [hstep] at hset
        have hxx := xor8 x y
        have HXX := Lib.hid hxx
        have HSET := Lib.hid hset
        clear hset hstep hdrop hxx hx
        have g1 : (k : Int) < 64 := by omega
        have g0 : (0 : Int) ≤ (k : Int) := by omega
        go_wp2_with fail
        rw [HXX.out]
        exact ⟨⟨k + 1, by omega, congrArg (Value.int .i64) (by omega), HSET.out, hgk.trans (grownBy_set _ _ _ _)⟩, by simp only [intOf]; omega⟩
      · obtain rfl : k = 64 := by omega
        rw [List.take_of_length_le (by rw [List.length_map]; omega), List.drop_of_length_le (by omega), HTF.out] at hGk
        have hGk2 : Blk wr G 5 (bvs TF).toArray := by simpa [bvs] using hGk
        go_wp2_with fail
        go_ret
        exact ⟨G, rfl, hGw, hGk2, hbW.grown hgk hbW.size (fun q hq => by cases hq; exact hGw)⟩
end Go.Proofs.YtbbcofpdfkhljaaDoor.H
namespace Go.Proofs.YtbbcofpdfkhljaaDoor.H
open Go.RowKit Go.Rat
def ofF (n : Nat) (tb : List Int) (key b : List UInt8) : List UInt8 := digest n tb (turnF n tb key 92 ++ digest n tb (turnF n tb key 54 ++ b))
theorem ofF_length (n : Nat) (tb : List Int) (key b : List UInt8) : (ofF n tb key b).length = 32 := digest_length _ _ _
theorem cat2 (p q : Pt) : catP [p, q] = p.xs ++ q.xs := by simp [catP]
theorem rb_row {w : World} {g : Nat} {T : TypeId} {xs : List UInt8} (h : Blk w g T (bvs xs).toArray) (k : Nat) (hk : xs.length = k) : RB w (some ⟨g, 0, none⟩) k xs := by
  have := h.reads xs (by rw [List.take_of_length_le (by rw [bvs_length]; exact Nat.le_refl _)])
  rwa [hk] at this
set_option maxRecDepth 8000 in
set_option maxHeartbeats 4000000 in
theorem of_any (n : Nat) (hn64 : n = 64) (w : World) (A : Option Addr) (m c : Nat) (key : List UInt8) (hr : RB w A m key) (hmc : m ≤ c) (hm : m < 1099511627776) (A' : Option Addr) (m' c' : Nat) (b : List UInt8) (hr' : RB w A' m' b) (hmc' : m' ≤ c') (hm' : m' < 1099511627776) (tb : List Int) (hT : Tab w tb) :
    Calls Tryd.prog 35 #[.slice A m c, .slice A' m' c'] w fun e w' => e = .returned (.agg (bvs (ofF n tb key b)).toArray) ∧ Below w.heap.size w w' := by
  have HN := Lib.hid hn64
  clear hn64
  have hl := hr.len
  have hl' := hr'.len
  have hol := ofF_length n tb key b
  have htl1 := turnF_length n tb key 54
  have htl2 := turnF_length n tb key 92
  have hdl1 := digest_length n tb (turnF n tb key 54 ++ b)
  obtain ⟨F, hF⟩ : ∃ F, ofF n tb key b = F := ⟨_, rfl⟩
  unfold ofF at hF
  obtain ⟨T1, hT1⟩ : ∃ T1, turnF n tb key 54 = T1 := ⟨_, rfl⟩
  obtain ⟨T2, hT2⟩ : ∃ T2, turnF n tb key 92 = T2 := ⟨_, rfl⟩
  rw [show ofF n tb key b = F from hF] at hol ⊢
  rw [hT1, hT2] at hF
  rw [hT1] at htl1 hdl1
  rw [hT2] at htl2
  obtain ⟨D1, hD1⟩ : ∃ D1, digest n tb (T1 ++ b) = D1 := ⟨_, rfl⟩
  rw [hD1] at hF hdl1
  have HF := Lib.hid hF
  have HT1 := Lib.hid hT1
  have HT2 := Lib.hid hT2
  have HD1 := Lib.hid hD1
  have hd1s : (bvs D1).toArray.size = 32 := by rw [bvs_size, hdl1]
  have hfs : (bvs F).toArray.size = 32 := by rw [bvs_size, hol]
  clear hF hT1 hT2 hD1
  go_enter Tryd.func35, Tryd.ntmps35
  have hZ := Blk.new w 42 (bvs (List.replicate 32 0)).toArray
  have hb1 := below_alloc w (.cells (bvs (List.replicate 32 0)).toArray 42)
  obtain ⟨z32, hz32⟩ : ∃ z : Array Value, (bvs (List.replicate 32 0)).toArray = z := ⟨_, rfl⟩
  have hzs : z32.size = 32 := by rw [← hz32]; rfl
  rw [hz32] at hZ hb1
  have hzz : (#[.int .u8 0, .int .u8 0, .int .u8 0, .int .u8 0, .int .u8 0, .int .u8 0, .int .u8 0, .int .u8 0, .int .u8 0, .int .u8 0, .int .u8 0, .int .u8 0, .int .u8 0, .int .u8 0, .int .u8 0, .int .u8 0, .int .u8 0, .int .u8 0, .int .u8 0, .int .u8 0, .int .u8 0, .int .u8 0, .int .u8 0, .int .u8 0, .int .u8 0, .int .u8 0, .int .u8 0, .int .u8 0, .int .u8 0, .int .u8 0, .int .u8 0, .int .u8 0] : Array Value) = z32 := by rw [← hz32]; rfl
  clear hz32
  repeat (first
    | (go_at_call 44; refine (turned_any n HN.out _ A m c key 54 (hr.below hb1) hmc (by omega) tb (Tab.below hT hb1)).mono ?_; rw [HT1.out]; rintro e w2 ⟨g1, rfl, hg1, hK2, hb2⟩; simp only []; have hbb2 := hb1.trans (hb2.mono hb1.size); have hrT := rb_row hK2 64 htl1)
    | (go_at_call 43; refine (tdigest_any n HN.out _ w2.heap.size 64 [⟨some ⟨g1, 0, none⟩, 64, 64, T1⟩, ⟨A', m', c', b⟩] 2 2 rfl (Blk.new w2 64 #[.slice (some ⟨g1, 0, none⟩) 64 64, .slice A' m' c']) (by intro p hp; simp only [List.mem_cons, List.not_mem_nil, or_false] at hp; rcases hp with rfl | rfl; (exact ⟨hrT.alloc _, Nat.le_refl _⟩); (exact ⟨(hr'.below hbb2).alloc _, hmc'⟩)) (by rw [cat2, List.length_append]; simp only []; omega) (by omega) tb (Tab.below (Tab.below hT hbb2) (below_alloc _ _))).mono ?_; rw [cat2, HD1.out]; rintro e w3 ⟨rfl, hb3⟩; simp only []; have hbb3 := hbb2.trans (((below_alloc w2 (.cells #[.slice (some ⟨g1, 0, none⟩) 64 64, .slice A' m' c'] 64)).trans (hb3.mono (by simp))).mono hbb2.size))
    | ((with_reducible refine wpl_store_fresh (bvs D1).toArray i32x8 ?_ hd1s (bvs_all _) ?_ ?_ ?_); (focus exact hzs); (focus rfl); (focus rfl); intro w4 hD4 hl4 hb4; have hbb4 := hbb3.trans (hb4.mono hbb3.size))
    | go_values | go_skip | go_guarded | go_step | go_upon | go_back)
  have hr4 : RB w4.drew A m key := hr.below hbb4.drew
  have hT4 : Tab w4.drew tb := Tab.below hT hbb4.drew
  have hD4' : Blk w4.drew w3.heap.size 42 (bvs D1).toArray := hD4
  have hZ4 : Blk w4 w.heap.size 42 z32 := by
    have h2 := hZ.below hb2 (by simp)
    have h3 := (h2.alloc (.cells #[.slice (some ⟨g1, 0, none⟩) 64 64, .slice A' m' c'] 64)).below hb3 (Blk.lt (h2.alloc _))
    exact h3.below hb4 h3.lt
  have hlw3 : w.heap.size ≤ w3.heap.size := hbb3.size
  clear hzz hZ hb1 hb2 hb3 hb4 hbb2 hbb3 hK2 hrT hD4
  generalize w3.heap.size = GD at *
  refine wp_region_plan [(0, true), (2, true), (1, false), (3, false), (4, false), (5, false)]
    (fun _ => True) (by kernel_rfl) (by kernel_rfl) (by kernel_rfl) (by kernel_rfl) (fun _ _ d _ _ h => by cases d <;> exact h) trivial ?_
  simp only [planOps, List.getElem?_toArray, List.getElem?_cons_zero, List.getElem?_cons_succ]
  repeat (first
    | (refine wpS_skip (by rfl) ?_; simp only [Act.put, List.setIfInBounds_toArray, List.set_cons_zero, List.set_cons_succ])
    | (refine wpS_q ?_ (by rfl) ?_ ?_; rotate_left; (focus (intro z hz; (try dsimp only at hz); go_simp; rfl)); simp only [Act.put, List.setIfInBounds_toArray, List.set_cons_zero, List.set_cons_succ]))
  refine wpS_l (by rfl) (fun Kq hK => ?_)
  go_wp2_with fail
  refine (turned_any n HN.out w4.drew A m c key 92 hr4 hmc (by omega) tb hT4).mono ?_
  rw [HT2.out]
  rintro e w5 ⟨g2, rfl, hg2, hK5, hb5⟩
  have hD5 := hD4'.below hb5 hD4'.lt
  have hT5 := Tab.below hT4 hb5
  have hbb5 : Below w.heap.size w w5 := hbb4.trans ((drew_below (w := w4)).trans hb5 |>.mono hbb4.size)
  have hrT2 := rb_row hK5 64 htl2
  have hrD := rb_row hD5 32 hdl1
  have hZ5 : Blk w5 w.heap.size 42 z32 := Blk.below (w := w4.drew) hZ4 hb5 hZ4.lt
  refine hK _ _ (fun _ => True) trivial (fun _ _ => trivial) ?_
  clear hK
  repeat (first
    | (refine wpS_skip (by rfl) ?_; simp only [Act.put, List.setIfInBounds_toArray, List.set_cons_zero, List.set_cons_succ])
    | (refine wpS_q ?_ (by rfl) ?_ ?_; rotate_left; (focus (intro z hz; (try dsimp only at hz); go_simp; rfl)); simp only [Act.put, List.setIfInBounds_toArray, List.set_cons_zero, List.set_cons_succ]))
  refine wpS_l (by rfl) (fun Kq hK => ?_)
  go_wp2_with fail
  refine hK _ _ (fun _ => True) trivial (fun _ _ => trivial) ?_
  clear hK
  refine wpS_l (by rfl) (fun Kq hK => ?_)
  go_wp2_with fail
  refine (tdigest_any n HN.out _ w5.heap.size 64 [⟨some ⟨g2, 0, none⟩, 64, 64, T2⟩, ⟨some ⟨GD, 0, none⟩, 32, 32, D1⟩] 2 2 rfl (Blk.new w5 64 #[.slice (some ⟨g2, 0, none⟩) 64 64, .slice (some ⟨GD, 0, none⟩) 32 32]) (by intro p hp; simp only [List.mem_cons, List.not_mem_nil, or_false] at hp; rcases hp with rfl | rfl; (exact ⟨hrT2.alloc _, Nat.le_refl _⟩); (exact ⟨hrD.alloc _, Nat.le_refl _⟩)) (by rw [cat2, List.length_append]; simp only []; omega) (by omega) tb (Tab.below hT5 (below_alloc _ _))).mono ?_
  rw [cat2, HF.out]
  rintro e w6 ⟨rfl, hb6⟩
  have hZ6 := (hZ5.alloc (.cells #[.slice (some ⟨g2, 0, none⟩) 64 64, .slice (some ⟨GD, 0, none⟩) 32 32] 64)).below hb6 (Blk.lt (hZ5.alloc _))
  have hbb6 : Below w.heap.size w w6 := hbb5.trans (((below_alloc w5 (.cells #[.slice (some ⟨g2, 0, none⟩) 64 64, .slice (some ⟨GD, 0, none⟩) 32 32] 64)).trans (hb6.mono (by simp))).mono hbb5.size)
  refine hK _ _ (fun _ => True) trivial (fun _ _ => trivial) ?_
  clear hK
  refine wpS_l (by rfl) (fun Kq hK => ?_)
  have hz32l : z32.toList.length = 32 := by simpa using hzs
  have hZ6' : Blk w6 w.heap.size 42 z32.toList.toArray := by simpa using hZ6
  refine wp_store_midR rfl w.heap.size 0 z32.toList (bvs F) (by rw [bvs_length, hol]; exact i32x8) hZ6' (by rw [bvs_length, hol, hz32l]; omega) (bvs_one _) rfl rfl ?_
  have hsp : Go.splice z32.toList 0 (bvs F) = bvs F := by rw [Go.splice, List.take_zero, List.nil_append, bvs_length, hol, List.drop_of_length_le (by omega), List.append_nil]
  rw [hsp]
  have hZ7 := hZ6.setRow (bvs F).toArray
  have hbb7 := hbb6.grown (grownBy_setRow w6 w.heap.size (bvs F).toArray) hbb6.size (fun p hp => by cases hp; exact Nat.le_refl _)
  simp only [Act.put]
  refine hK _ _ (fun _ => True) trivial (fun _ _ => trivial) ?_
  clear hK
  refine wpS_nil ?_
  go_wp2_with fail
  refine bodyPost_ret (results_cell_row rfl _ _ w.heap.size _ _ (0, 0) _ rfl hZ7 Tryd.underlying42 rfl (by rw [hfs]; exact i32x8)) rfl ?_
  exact ⟨rfl, hbb7⟩
end Go.Proofs.YtbbcofpdfkhljaaDoor.H
namespace Go.Proofs.YtbbcofpdfkhljaaDoor.H
open Go.RowKit Go.Rat
def keyB (n : Nat) (tb : List Int) (s : ByteArray) (i : Nat) : List UInt8 := digest n tb (s.data.toList ++ be 8 i)
theorem rb_str (w : World) (e : TypeId) (s : ByteArray) (k : Nat) (fr : Nat × Nat) : RB ((w.alloc (.cells (bytesRow s k) e fr)).drew) (some ⟨w.heap.size, 0, none⟩) s.size s.data.toList := by
  have hsz : s.data.toList.length = s.size := rfl
  refine ⟨by rw [bvs_length, hsz, Nat.mul_one], fun _ => ⟨_, rfl, by show w.heap.size < (w.alloc _).heap.size; simp, fun j u hu => ?_⟩⟩
  have hadd : (⟨w.heap.size, 0, none⟩ : Addr).add j = ⟨w.heap.size, j, none⟩ := by unfold Addr.add; split <;> simp_all
  have hj : j < s.data.toList.length := by have := (List.getElem?_eq_some_iff.1 hu).1; rwa [bvs_length] at this
  have hc := cell_of_row (w.alloc (.cells (bytesRow s k) e fr)) w.heap.size j (bytesRow s k) e fr (_root_.Go.heap_alloc_new w _)
  rw [hadd]
  refine Eq.trans hc ?_
  rw [bytesRow, Array.getElem?_append_left (by simpa using hj), Array.getElem?_map]
  rw [bvs, List.getElem?_map] at hu
  rw [← Array.getElem?_toList]
  exact hu
set_option maxRecDepth 8000 in
set_option maxHeartbeats 4000000 in
theorem key_none (w : World) (s : ByteArray) (i most : Int) (hi : ¬ (1 ≤ i ∧ i ≤ most)) :
    Calls Tryd.prog 45 #[.string s, .int .i64 i, .int .i64 most] w fun e w' => e = .returned (.slice none 0 0) ∧ w = w' := by
  go_enter Tryd.func45, Tryd.ntmps45
  by_cases h1 : i < 1
  · go_wp2_with fail
    go_ret
    exact ⟨rfl, rfl⟩
  · have h2 : most < i := by omega
    go_wp2_with fail
    go_ret
    exact ⟨rfl, rfl⟩
set_option maxRecDepth 8000 in
set_option maxHeartbeats 4000000 in
theorem key_some (n : Nat) (hn64 : n = 64) (w : World) (s : ByteArray) (hs : s.size < 1000) (i : Nat) (most : Int) (hi1 : 1 ≤ i) (hi2 : (i : Int) ≤ most) (hi3 : i < 1000) (tb : List Int) (hT : Tab w tb) :
    Calls Tryd.prog 45 #[.string s, .int .i64 (i : Int), .int .i64 most] w fun e w' => ∃ A c, e = .returned (.slice A 32 c) ∧ OB 5 w' w.heap.size A 32 c (keyB n tb s i) ∧ Below w.heap.size w w' := by
  have HN := Lib.hid hn64
  clear hn64
  have hkl : (keyB n tb s i).length = 32 := digest_length _ _ _
  obtain ⟨K, hK⟩ : ∃ K, keyB n tb s i = K := ⟨_, rfl⟩
  rw [hK] at hkl ⊢
  unfold keyB at hK
  have HK := Lib.hid hK
  clear hK
  have hks : (bvs K).toArray.size = 32 := by rw [bvs_size, hkl]
  go_enter Tryd.func45, Tryd.ntmps45
  have g1 : ¬ (i : Int) < 1 := by omega
  have g2 : ¬ most < (i : Int) := by omega
  have g3 : IntKind.u64.wrap (i : Int) = (i : Int) := by simp [IntKind.wrap, IntKind.bits, IntKind.signed]; omega
  have kc := fun (w : World) => run_bytes_of_string (P := Tryd.prog) w 9 64 5 s Tryd.underlying9 Tryd.underlying64 Tryd.underlying5
  have hb0 := (below_alloc w (.cells (bytesRow s (grownCap w s.size 0 5)) 5 ((bytesRow s (grownCap w s.size 0 5)).size, (bytesRow s (grownCap w s.size 0 5)).size + 1))).drew
  have hr0 := rb_str w 5 s (grownCap w s.size 0 5) ((bytesRow s (grownCap w s.size 0 5)).size, (bytesRow s (grownCap w s.size 0 5)).size + 1)
  have hcap : s.size ≤ grownCap w s.size 0 5 := grownCap_ge _ _ _ _
  go_wp2_with fail
  clear kc
  generalize ((w.alloc (.cells (bytesRow s (grownCap w s.size 0 5)) 5 ((bytesRow s (grownCap w s.size 0 5)).size, (bytesRow s (grownCap w s.size 0 5)).size + 1))).drew) = w1 at *
  obtain ⟨cs, hcs⟩ : ∃ cs, grownCap w s.size 0 5 = cs := ⟨_, rfl⟩
  rw [hcs] at hcap ⊢
  clear hcs
  obtain ⟨sb, hsb⟩ : ∃ sb, s.data.toList = sb := ⟨_, rfl⟩
  have hsbl : sb.length = s.size := by rw [← hsb]; rfl
  rw [hsb] at hr0
  have HK2 : Hid (digest n tb (sb ++ be 8 i) = K) := by rw [← hsb]; exact HK
  refine (word_any w1 none 0 0 [] i (RB.nil_ _ _) (by omega) (by omega)).mono ?_
  rintro e w2 ⟨Aw, Nw, cw, rfl, hOw, hb2⟩
  simp only []
  rw [List.nil_append] at hOw
  have hwl := hOw.len
  rw [be_length] at hwl
  have hrw := hOw.reads
  have hr2 := hr0.below hb2
  have hbb2 := hb0.trans (hb2.mono hb0.size)
  have hcw := hOw.cap.1
  repeat (first
    | (go_at_call 43; refine (tdigest_any n HN.out _ w2.heap.size 64 [⟨some ⟨w.heap.size, 0, none⟩, s.size, cs, sb⟩, ⟨Aw, Nw, cw, be 8 i⟩] 2 2 rfl (Blk.new w2 64 #[.slice (some ⟨w.heap.size, 0, none⟩) s.size cs, .slice Aw Nw cw]) (by intro p hp; simp only [List.mem_cons, List.not_mem_nil, or_false] at hp; rcases hp with rfl | rfl; (exact ⟨hr2.alloc _, hcap⟩); (exact ⟨hrw.alloc _, hcw⟩)) (by rw [cat2, List.length_append, be_length]; simp only []; omega) (by omega) tb (Tab.below (Tab.below hT hbb2) (below_alloc _ _))).mono ?_; rw [cat2, HK2.out]; rintro e w3 ⟨rfl, hb3⟩; simp only []; have hbb3 := hbb2.trans (((below_alloc w2 (.cells #[.slice (some ⟨w.heap.size, 0, none⟩) s.size cs, .slice Aw Nw cw] 64)).trans (hb3.mono (by simp))).mono hbb2.size))
    | ((with_reducible refine wpl_store_fresh (bvs K).toArray i32x8 ?_ hks (bvs_all _) ?_ ?_ ?_); (focus kernel_rfl); (focus rfl); (focus rfl); intro w4 hK4 hl4 hb4; have hbb4 := hbb3.trans (hb4.mono hbb3.size); have hrK := rb_row hK4 32 hkl)
    | (go_at_call 55; refine (clone_any w4 _ 32 32 K hrK (by omega)).mono ?_; rintro e w5 ⟨A5, c5, rfl, hO5, hb5⟩; simp only []; have hbb5 := hbb4.trans (hb5.mono hbb4.size))
    | go_values | go_skip | go_guarded | go_step | go_upon | go_back)
  go_ret
  exact ⟨A5, c5, rfl, hO5.mono hbb4.size, hbb5⟩
end Go.Proofs.YtbbcofpdfkhljaaDoor.H
namespace Go.Proofs.YtbbcofpdfkhljaaDoor.H
open Go.RowKit Go.Rat
def key20 : List UInt8 := List.replicate 20 11
def hiB : List UInt8 := [72, 105, 32, 84, 104, 101, 114, 101]
def jefeB : List UInt8 := [74, 101, 102, 101]
def wantB : List UInt8 := [119, 104, 97, 116, 32, 100, 111, 32, 121, 97, 32, 119, 97, 110, 116, 32, 102, 111, 114, 32, 110, 111, 116, 104, 105, 110, 103, 63]
theorem tev1 : (ofF 64 tblL key20 hiB).take 4 = [176, 52, 76, 97] := by decide +kernel
theorem tev2 : (ofF 64 tblL key20 hiB).drop 28 = [46, 50, 207, 247] := by decide +kernel
theorem tev3 : (ofF 64 tblL jefeB wantB).take 4 = [91, 220, 193, 70] := by decide +kernel
theorem tev4 : (ofF 64 tblL jefeB wantB).drop 28 = [100, 236, 56, 67] := by decide +kernel
end Go.Proofs.YtbbcofpdfkhljaaDoor.H
namespace Go.Proofs.YtbbcofpdfkhljaaDoor.H
open Go.RowKit Go.Rat
theorem client_some (n : Nat) (hn64 : n = 64) (w : World) (i : Nat) (hi1 : 1 ≤ i) (hi2 : i ≤ 8) (tb : List Int) (hT : Tab w tb) :
    Calls Tryd.prog 36 #[.int .i64 (i : Int)] w fun e w' => ∃ A c, e = .returned (.slice A 32 c) ∧ OB 5 w' w.heap.size A 32 c (keyB n tb ⟨#[114, 97, 116, 99, 104, 101, 116, 32, 99, 108, 105, 101, 110, 116]⟩ i) ∧ Below w.heap.size w w' := by
  obtain ⟨K, hK⟩ : ∃ K, keyB n tb ⟨#[114, 97, 116, 99, 104, 101, 116, 32, 99, 108, 105, 101, 110, 116]⟩ i = K := ⟨_, rfl⟩
  rw [hK]
  have HK := Lib.hid hK
  clear hK
  go_enter Tryd.func36, Tryd.ntmps36
  go_wp2_with (go_at_call 45; refine (key_some n hn64 w ⟨#[114, 97, 116, 99, 104, 101, 116, 32, 99, 108, 105, 101, 110, 116]⟩ (by decide) i 8 hi1 (by omega) (by omega) tb hT).mono ?_; rw [HK.out]; rintro e w2 ⟨A, c, rfl, hO, hb⟩)
  go_ret
  exact ⟨A, c, rfl, hO, hb⟩
theorem client_none (w : World) (i : Int) (hi : ¬ (1 ≤ i ∧ i ≤ 8)) :
    Calls Tryd.prog 36 #[.int .i64 i] w fun e w' => e = .returned (.slice none 0 0) ∧ w = w' := by
  go_enter Tryd.func36, Tryd.ntmps36
  go_wp2_with (go_at_call 45; refine (key_none w _ i 8 hi).mono ?_; rintro e w2 ⟨rfl, rfl⟩)
  go_ret
  exact ⟨rfl, rfl⟩
/-- The key of a replica, of a client; of a number that is none: no bytes. -/
def repK (n : Nat) (tb : List Int) (i : Int) : List UInt8 := if 1 ≤ i ∧ i ≤ 11 then keyB n tb ⟨#[114, 97, 116, 99, 104, 101, 116, 32, 114, 101, 112, 108, 105, 99, 97]⟩ i.toNat else []
def cliK (n : Nat) (tb : List Int) (i : Int) : List UInt8 := if 1 ≤ i ∧ i ≤ 8 then keyB n tb ⟨#[114, 97, 116, 99, 104, 101, 116, 32, 99, 108, 105, 101, 110, 116]⟩ i.toNat else []
def KeyAt (w : World) (xs : List UInt8) (e : Ending) (w' : World) : Prop := ∃ A m c, e = .returned (.slice A m c) ∧ m ≤ c ∧ m < 1000 ∧ xs.length = m ∧ OB 5 w' w.heap.size A m c xs ∧ Below w.heap.size w w'
theorem client_any (n : Nat) (hn64 : n = 64) (w : World) (i : Int) (tb : List Int) (hT : Tab w tb) : Calls Tryd.prog 36 #[.int .i64 i] w (KeyAt w (cliK n tb i)) := by
  by_cases hi : 1 ≤ i ∧ i ≤ 8
  · obtain ⟨k, rfl⟩ := Int.eq_ofNat_of_zero_le (by omega : 0 ≤ i)
    refine (client_some n hn64 w k (by omega) (by omega) tb hT).mono ?_
    rintro e w' ⟨A, c, rfl, hO, hb⟩
    rw [cliK, if_pos hi, Int.toNat_natCast]
    exact ⟨A, 32, c, rfl, hO.cap.1, by omega, hO.len, hO, hb⟩
  · refine (client_none w i hi).mono ?_
    rintro e w' ⟨rfl, rfl⟩
    rw [cliK, if_neg hi]
    exact ⟨none, 0, 0, rfl, Nat.le_refl _, by omega, rfl, OB.nil_ _ _ _, Below.refl _ _⟩
set_option maxHeartbeats 400000 in
theorem grow0_any (w : World) (k : Int) (h0 : 0 ≤ k) (h1 : k ≤ 4398046511104) :
    Calls Tryd.prog 62 #[.slice none 0 0, .int .i64 k] w fun e w' => ∃ A' c', e = .returned (.slice A' 0 c') ∧ OB 5 w' w.heap.size A' 0 c' [] ∧ Below w.heap.size w w' := by
  by_cases hk : k ≤ 0
  · go_enter Tryd.func62, Tryd.ntmps62
    go_wp2_with fail
    go_ret
    exact ⟨none, 0, rfl, OB.nil_ _ _ _, Below.refl _ _⟩
  · have hz : w.ownsRow w.heap.size 5 1 (.slice none 0 0) 0 [] := World.ownsRow_nil _ _ _ _
    go_enter Tryd.func62, Tryd.ntmps62
    go_wp2_with (at_builtin; refine app_zeros rfl _ _ rfl w.heap.size _ _ [] rfl hz _ rfl (by omega) (by omega) (Nat.le_refl _) ?_; intro A2 N2 c2 w2 hc2 hc3 hO2 hG)
    go_ret
    refine ⟨A2, c2, rfl, ?_, hG.below (Below.refl _ _) (Nat.le_refl _) (by simp)⟩
    have := own_shorter hO2 (k := 0) (by omega)
    simpa [OB, bvs] using this
end Go.Proofs.YtbbcofpdfkhljaaDoor.H
namespace Go.Proofs.YtbbcofpdfkhljaaDoor.H
open Go.RowKit Go.Rat
theorem catP_take (ps : List Pt) (k : Nat) (hk : k < ps.length) : catP (ps.take (k + 1)) = catP (ps.take k) ++ ps[k].xs := by
  rw [List.take_add_one, List.getElem?_eq_getElem hk]
  show List.flatMap _ (_ ++ [_]) = _
  rw [List.flatMap_append]
  simp [catP]
theorem catP_take_le (ps : List Pt) (k : Nat) : (catP (ps.take k)).length ≤ (catP ps).length := by
  have : catP ps = catP (ps.take k) ++ catP (ps.drop k) := by rw [catP, catP, catP, ← List.flatMap_append, List.take_append_drop]
  rw [this, List.length_append]
  omega
def numF (n : Nat) (tb : List Int) (i : Int) (x : Nat) (b : List UInt8) : List UInt8 := ofF n tb (repK n tb i) (be 8 x ++ b)
theorem numF_length (n : Nat) (tb : List Int) (i : Int) (x : Nat) (b : List UInt8) : (numF n tb i x b).length = 32 := ofF_length _ _ _ _
end Go.Proofs.YtbbcofpdfkhljaaDoor.H
namespace Go.Proofs.YtbbcofpdfkhljaaDoor.H
open Go.RowKit Go.Rat
end Go.Proofs.YtbbcofpdfkhljaaDoor.H
namespace Go.Proofs.YtbbcofpdfkhljaaDoor.H
open Go.RowKit Go.Rat
theorem OB.blk {w : World} {base n c : Nat} {e : TypeId} {A : Option Addr} {xs : List UInt8} (h : OB e w base A n c xs) (hn : 0 < n) :
    ∃ g rest, A = some ⟨g, 0, none⟩ ∧ base ≤ g ∧ Blk w g e (bvs xs ++ rest).toArray ∧ (bvs xs ++ rest).length = c ∧ n ≤ c ∧ c ≤ maxLen := by
  have hl := h.len
  rcases h.2 with ⟨h1, h2⟩ | ⟨g, cap, cur, hv, hb, hg, hnc, hm, hcs, ht⟩
  · omega
  · injection hv with h3 h4 h5
    subst h3 h5
    rw [Nat.mul_one] at hcs ht
    refine ⟨g, cur.toList.drop n, rfl, hb, ?_, ?_, hnc, hm⟩
    · rw [← ht, List.take_append_drop]
      exact hg
    · rw [← ht, List.take_append_drop]
      simpa using hcs
theorem OB.of_blk {w : World} {base n c g : Nat} {e : TypeId} {xs : List UInt8} {rest : List Value} (hg : Blk w g e (bvs xs ++ rest).toArray) (hb : base ≤ g) (hl : xs.length = n) (hc : (bvs xs ++ rest).length = c) (hm : c ≤ maxLen) : OB e w base (some ⟨g, 0, none⟩) n c xs := by
  refine ⟨by rw [bvs_length, hl, Nat.mul_one], .inr ⟨g, c, (bvs xs ++ rest).toArray, rfl, hb, hg, ?_, hm, by simpa using hc, ?_⟩⟩
  · rw [← hc, List.length_append, bvs_length]; omega
  · rw [Nat.mul_one, List.take_append_of_le_length (by rw [bvs_length]; omega), List.take_of_length_le (by rw [bvs_length]; omega)]
theorem pad_step (ks : List UInt8) (k : Nat) (hk : ks.length ≤ k) : ks ++ List.replicate (k - ks.length) 0 ++ [0] = ks ++ List.replicate (k + 1 - ks.length) 0 := by
  rw [List.append_assoc, ← List.replicate_succ', show k - ks.length + 1 = k + 1 - ks.length by omega]
theorem map_step (ps : List UInt8) (f : UInt8 → UInt8) (k : Nat) (hk : k < ps.length) (rest : List Value) :
    (bvs ((ps.map f).take k ++ ps.drop k) ++ rest).set k (.int .u8 ((f ps[k]).toNat : Int)) = bvs ((ps.map f).take (k + 1) ++ ps.drop (k + 1)) ++ rest := by
  have hl : (bvs ((ps.map f).take k)).length = k := by rw [bvs_length, List.length_take, List.length_map]; omega
  rw [bvs_append, List.append_assoc, List.set_append_right _ _ (by omega), hl, Nat.sub_self, List.drop_eq_getElem_cons hk, List.take_add_one, List.getElem?_map, List.getElem?_eq_getElem hk, Option.map_some, Option.toList_some, bvs_append, bvs_append, List.append_assoc, List.append_assoc]
  rfl
theorem map_at (ps : List UInt8) (f : UInt8 → UInt8) (k : Nat) (hk : k < ps.length) (rest : List Value) :
    (bvs ((ps.map f).take k ++ ps.drop k) ++ rest)[k]? = some (.int .u8 ((ps[k]).toNat : Int)) := by
  have hl : (bvs ((ps.map f).take k)).length = k := by rw [bvs_length, List.length_take, List.length_map]; omega
  rw [bvs_append, List.append_assoc, List.getElem?_append_right (by omega), hl, Nat.sub_self, List.drop_eq_getElem_cons hk]
  rfl
set_option maxRecDepth 8000 in
set_option maxHeartbeats 4000000 in
theorem rwith_any (n : Nat) (hn64 : n = 64) (w : World) (A : Option Addr) (m c : Nat) (xs : List UInt8) (y : UInt8) (hr : RB w A m xs) (hm : m < 144115188075) (tb : List Int) (htb : tblL = tb) :
    Calls Tryd.prog 39 #[.slice A m c, .int .u8 (y.toNat : Int)] w fun e w' => ∃ A' c', e = .returned (.slice A' 64 c') ∧ OB 5 w' w.heap.size A' 64 c' (turnF n tb xs y) ∧ Below w.heap.size w w' := by
  have HN := Lib.hid hn64
  have HTB := Lib.hid htb
  clear hn64 htb
  have hl := hr.len
  have hkl := keyF_le n tb xs
  obtain ⟨ks, hks⟩ : ∃ ks, keyF n tb xs = ks := ⟨_, rfl⟩
  obtain ⟨TF, hTF⟩ : ∃ TF, turnF n tb xs y = TF := ⟨_, rfl⟩
  have hTF2 : (padK ks).map (· ^^^ y) = TF := by rw [← hTF, turnF, hks]
  rw [hTF]
  rw [hks] at hkl
  have HTF := Lib.hid hTF2
  clear hTF hTF2
  have hpl := padK_length hkl
  have hpk : padK ks = ks ++ List.replicate (64 - ks.length) 0 := rfl
  go_enter Tryd.func39, Tryd.ntmps39
  have hO0 := OB.empty w 5
  have hb0 := below_alloc w (.cells #[] 5)
  have hr0 := hr.alloc (.cells #[] 5)
  by_cases hbig : 64 < m
  focus
    have hkd : digest n tb xs = ks := by rw [← hks, keyF, if_pos (by omega)]
    have hkl32 : ks.length = 32 := by rw [← hkd, digest_length]
    have hd32 : (bvs ks).toArray.size = 32 := by rw [bvs_size, hkl32]
    have HKD := Lib.hid hkd
    clear hks hkd
    have hbi : (64 : Int) < (m : Int) := by omega
    go_wp2_with (at_builtin; refine app_bytes rfl _ _ rfl w.heap.size _ _ _ [] rfl hO0 _ _ _ xs rfl hr0 (by omega) (by simp) ?_; intro A2 N2 c2 w2 hc2 hc3 hO2 hG2; rw [List.nil_append] at hO2; obtain rfl : N2 = m := hO2.len.symm.trans hl; have hb2 := hG2.own hb0 (Nat.le_refl _) hO0; have hr2 := hr.below hb2)
    repeat (first
      | (go_at_call 38; refine (rsum_any n HN.out w2 A _ c xs tb HTB.out hr2 (by omega)).mono ?_; rw [HKD.out]; rintro e w3 ⟨rfl, hb3⟩; simp only []; have hbb3 := hb2.trans (hb3.mono hb2.size))
      | ((with_reducible refine wpl_store_fresh (bvs ks).toArray i32x8 ?_ hd32 (bvs_all _) ?_ ?_ ?_); (focus kernel_rfl); (focus rfl); (focus rfl); intro w4 hD4 hl4 hb4; have hbb4 := hbb3.trans (hb4.mono hbb3.size); have hrK := rb_row hD4 32 hkl32; have hO4 := (OB.empty w4 5).mono hbb4.size; have hbb4s := hbb4.size; have hb4' := below_alloc2 hbb4 (Nat.le_refl _) (.cells #[] 5); have hrK4 := hrK.alloc (.cells #[] 5))
      | (at_builtin; refine app_bytes rfl _ _ rfl w.heap.size _ _ _ [] rfl hO4 _ _ _ ks rfl hrK4 (by omega) (by simp; omega) ?_; intro A5 N5 c5 w5 hc5 hc6 hO5 hG5; rw [List.nil_append] at hO5; have hb5 := hG5.own hb4' (Nat.le_refl _) hO4)
      | go_values | go_skip | go_guarded | go_step | go_upon | go_back)
    clear hr2 hO2 hG2 hbb3 hbb4 hb4' hb4 hD4 hrK hrK4 hO4 hG5 hc2 hc3 hb3 hb2 hO0 hb0 hr0 hbi hkl32 hd32 hl4 hbb4s
  rotate_left
  focus
    have hkd : ks = xs := by rw [← hks, keyF, if_neg (by omega)]
    subst hkd
    clear hks
    have hbi : ¬ (64 : Int) < (m : Int) := by omega
    go_wp2_with (at_builtin; refine app_bytes rfl _ _ rfl w.heap.size _ _ _ [] rfl hO0 _ _ _ ks rfl hr0 (by omega) (by simp) ?_; intro A5 N5 c5 w5 hc5 hc6 hO5 hG5; rw [List.nil_append] at hO5; have hb5 := hG5.own hb0 (Nat.le_refl _) hO0; have hN5 : N5 = m := hO5.len.symm.trans hl; have hbi : ¬ (64 : Int) < (N5 : Int) := (by omega); have HN5 := Lib.hid hN5; clear hN5)
    clear hG5 hO0 hb0 hr0 hbi
    clear hl
  rotate_left
  all_goals
    obtain rfl : N5 = ks.length := (OB.len hO5).symm
    clear hr
    go_loopw [5] (fun v wr => ∃ A3 k c3, v = .slice A3 k c3 ∧ ks.length ≤ k ∧ k ≤ 64 ∧ OB 5 wr w.heap.size A3 k c3 (ks ++ List.replicate (k - ks.length) 0) ∧ Below w.heap.size w wr) (fun v _ => 64 - lenV v)
    case atStart => exact ⟨A5, ks.length, c5, rfl, Nat.le_refl _, hkl, by rw [Nat.sub_self]; simpa using hO5, hb5⟩
    case round =>
      obtain ⟨A3, k, c3, rfl, hk1, hk2, hO3, hb3⟩ := hrel
      clear hO5 hb5 hc5 hc6
      have hbs := hb3.size
      by_cases hk64 : k < 64
      · have g1 : (k : Int) < 64 := by omega
        go_wp2_with (at_builtin; refine app_bytes rfl _ _ rfl w.heap.size _ _ _ _ rfl (hO3.alloc _) _ _ _ [0] rfl (RB.one_ _ _ rfl) (by omega) (by simp; omega) ?_; intro A4 N4 c4 w4 hc4 hc5 hO4 hG4)
        rw [pad_step ks k hk1] at hO4
        have hN4 := hO4.len
        rw [List.length_append, List.length_replicate] at hN4
        obtain rfl : N4 = k + 1 := by omega
        exact ⟨⟨A4, k + 1, c4, rfl, by omega, by omega, hO4, hG4.own (below_alloc2 hb3 (Nat.le_refl _) _) (Nat.le_refl _) (hO3.alloc _)⟩, by simp only [lenV]; omega⟩
      · obtain rfl : k = 64 := by omega
        rw [← hpk] at hO3
        obtain ⟨g, rest, rfl, hgw, hB, hBl, hc3, hcm⟩ := OB.blk hO3 (by omega)
        have g1 : ¬ ((64 : Nat) : Int) < 64 := by decide
        have hB0 : Blk wr g 5 (bvs (((padK ks).map (· ^^^ y)).take 0 ++ (padK ks).drop 0) ++ rest).toArray := hB
        have hBL : Hid ((bvs (padK ks) ++ rest).length = c3) := hBl
        clear hBl hO3 hB
        go_wp2_with fail
        go_loopw [7] (fun i wq => ∃ k : Nat, k ≤ 64 ∧ i = .int .i64 (k : Int) ∧ Blk wq g 5 (bvs (((padK ks).map (· ^^^ y)).take k ++ (padK ks).drop k) ++ rest).toArray ∧ wr.grownBy wq (some g)) (fun i _ => 64 - (intOf i).toNat)
        case atStart => exact ⟨0, Nat.zero_le _, rfl, hB0, World.grownBy.refl _ _⟩
        case round =>
          obtain ⟨k, hk, rfl, hGk, hgk⟩ := hrel
          clear hB0
          by_cases hk64 : k < 64
          · have hkp : k < (padK ks).length := by omega
            have c1 := hGk.cell k
            rw [List.getElem?_toArray, map_at (padK ks) (· ^^^ y) k hkp rest] at c1
            have f1 := hGk.frozen k
            have hset := hGk.set_ k (.int .u8 (((padK ks)[k] ^^^ y).toNat : Int))
            rw [List.setIfInBounds_toArray, map_step (padK ks) (· ^^^ y) k hkp rest] at hset
            have hxx := xor8 (padK ks)[k] y
            generalize (padK ks)[k] = x at *
            have HXX := Lib.hid hxx
            have HSET := Lib.hid hset
            clear hset hxx
            have g1 : (k : Int) < 64 := by omega
            have g0 : (0 : Int) ≤ (k : Int) := by omega
            go_wp2_with fail
            rw [HXX.out]
            exact ⟨⟨k + 1, by omega, congrArg (Value.int .i64) (by omega), HSET.out, hgk.trans (grownBy_set _ _ _ _)⟩, by simp only [intOf]; omega⟩
          · obtain rfl : k = 64 := by omega
            rw [List.take_of_length_le (by rw [List.length_map]; omega), List.drop_of_length_le (by omega), HTF.out, List.append_nil] at hGk
            have hTl : TF.length = 64 := by rw [← HTF.out, List.length_map]; exact hpl
            have hcl : (bvs TF ++ rest).length = c3 := by rw [← hBL.out, List.length_append, List.length_append, bvs_length, bvs_length, hTl, hpl]
            have HO := OB.of_blk (base := w.heap.size) hGk hgw hTl hcl hcm
            clear hcl hTl
            go_wp2_with fail
            go_ret
            exact ⟨_, c3, rfl, HO, hb3.grown hgk hbs (fun q hq => by cases hq; exact hgw)⟩
end Go.Proofs.YtbbcofpdfkhljaaDoor.H
namespace Go.Proofs.YtbbcofpdfkhljaaDoor.H
open Go.RowKit Go.Rat
theorem wp_appB {w : World} {o : Oper} {a : Act} {K : Act → World → Prop} {Q : Exit → Act → World → Prop} (s x : Operand)
    (ho : o.op = .call { callee := .builtin .append, args := #[s, x], argTypes := #[64, 64] })
    (base : Nat) (A : Option Addr) (n c : Nat) (xs : List UInt8) (hs : a.eval s = .slice A n c) (hown : OB 5 w base A n c xs)
    (A' : Option Addr) (m c' : Nat) (news : List UInt8) (hx : a.eval x = .slice A' m c') (hr : RB w A' m news) (hbytes : n + m ≤ 140737488355328) (hbase : base ≤ w.heap.size)
    (h : ∀ A2 N2 c2 w2, N2 ≤ c2 → c2 ≤ 9223372036854775807 → OB 5 w2 base A2 N2 c2 (xs ++ news) → Grew w w2 A A2 → K (a.put o.dst (.slice A2 N2 c2)) w2) :
    o.wp Tryd.prog a w K Q := by
  obtain ⟨i0, hi, hz0, hz1, hz2⟩ := info_parts u8info
  obtain ⟨A2, c2, w2, hrun, h2, h3, h4⟩ := run_append_reads (P := Tryd.prog) w base 64 o.type 5 i0 _ 1 1 Tryd.underlying64 hi hz0 hz1 hz2 rfl (by omega) A n c (bvs xs) hown w.heap.size A' m c' (bvs news) hr (bvs_one _) (by simp only [maxLen]; omega) (by omega) hbase
  unfold Oper.wp
  simp only [execOp, ho, resolve, invoke, builtin, Sem.run_bind, Sem.run_pure, Result.andThen_ok, List.map_toArray, List.map_cons, List.map_nil, hs, hx, hrun]
  exact h _ _ _ _ (own_cap h2).1 (own_cap h2).2 (by unfold OB; rw [bvs_append]; exact h2) ⟨h3, h4.imp id fun h => ⟨_, h, Nat.le_refl _, (h2.lt _ (by cases A2 <;> simp_all [Value.ownBlock])).2⟩⟩
set_option maxRecDepth 8000 in
set_option maxHeartbeats 4000000 in
theorem rof_any (n : Nat) (hn64 : n = 64) (w : World) (A : Option Addr) (m c : Nat) (key : List UInt8) (hr : RB w A m key) (hm : m < 109951162777) (A' : Option Addr) (m' c' : Nat) (b : List UInt8) (hr' : RB w A' m' b) (hm' : m' < 549755813888) (tb : List Int) (htb : tblL = tb) :
    Calls Tryd.prog 32 #[.slice A m c, .slice A' m' c'] w fun e w' => e = .returned (.agg (bvs (ofF n tb key b)).toArray) ∧ Below w.heap.size w w' := by
  have HN := Lib.hid hn64
  have HTB := Lib.hid htb
  clear hn64 htb
  have hl := hr.len
  have hl' := hr'.len
  have hol := ofF_length n tb key b
  have htl1 := turnF_length n tb key 54
  have htl2 := turnF_length n tb key 92
  have hdl1 := digest_length n tb (turnF n tb key 54 ++ b)
  obtain ⟨F, hF⟩ : ∃ F, ofF n tb key b = F := ⟨_, rfl⟩
  unfold ofF at hF
  obtain ⟨T1, hT1⟩ : ∃ T1, turnF n tb key 54 = T1 := ⟨_, rfl⟩
  obtain ⟨T2, hT2⟩ : ∃ T2, turnF n tb key 92 = T2 := ⟨_, rfl⟩
  rw [show ofF n tb key b = F from hF] at hol ⊢
  rw [hT1, hT2] at hF
  rw [hT1] at htl1 hdl1
  rw [hT2] at htl2
  obtain ⟨D1, hD1⟩ : ∃ D1, digest n tb (T1 ++ b) = D1 := ⟨_, rfl⟩
  rw [hD1] at hF hdl1
  have HF := Lib.hid hF
  have HT1 := Lib.hid hT1
  have HT2 := Lib.hid hT2
  have HD1 := Lib.hid hD1
  have hd1s : (bvs D1).toArray.size = 32 := by rw [bvs_size, hdl1]
  have hfs : (bvs F).toArray.size = 32 := by rw [bvs_size, hol]
  clear hF hT1 hT2 hD1
  go_enter Tryd.func32, Tryd.ntmps32
  have hZ := Blk.new w 42 (bvs (List.replicate 32 0)).toArray
  have hb1 := below_alloc w (.cells (bvs (List.replicate 32 0)).toArray 42)
  obtain ⟨z32, hz32⟩ : ∃ z : Array Value, (bvs (List.replicate 32 0)).toArray = z := ⟨_, rfl⟩
  have hzs : z32.size = 32 := by rw [← hz32]; rfl
  rw [hz32] at hZ hb1
  have hzz : (#[.int .u8 0, .int .u8 0, .int .u8 0, .int .u8 0, .int .u8 0, .int .u8 0, .int .u8 0, .int .u8 0, .int .u8 0, .int .u8 0, .int .u8 0, .int .u8 0, .int .u8 0, .int .u8 0, .int .u8 0, .int .u8 0, .int .u8 0, .int .u8 0, .int .u8 0, .int .u8 0, .int .u8 0, .int .u8 0, .int .u8 0, .int .u8 0, .int .u8 0, .int .u8 0, .int .u8 0, .int .u8 0, .int .u8 0, .int .u8 0, .int .u8 0, .int .u8 0] : Array Value) = z32 := by rw [← hz32]; rfl
  clear hz32
  repeat (first
    | (go_at_call 39; refine (rwith_any n HN.out _ A m c key 54 (hr.below hb1) (by omega) tb HTB.out).mono ?_; rw [HT1.out]; rintro e w2 ⟨A2, c2, rfl, hO2, hb2⟩; simp only []; have hbb2 := hb1.trans (hb2.mono hb1.size); have hZ2 := hZ.below hb2 hZ.lt; have hr2 := hr'.below hbb2; have hO2b := OB.mono hO2 hb1.size; have hbs2 := hbb2.size)
    | (at_builtin; refine app_bytes rfl _ _ rfl w.heap.size _ _ _ T1 rfl hO2b _ _ _ b rfl hr2 (by omega) hbs2 ?_; intro A3 N3 c3 w3 hc3 hc4 hO3 hG3; have hbb3 := hG3.own hbb2 (Nat.le_refl _) hO2b; have hZ3 := Blk.grown hZ2 hG3.grown (by intro e; have := (OB.ge hO2 _ e.symm).1; simp at this; omega); have hr3 := OB.reads hO3; have hl3 : N3 ≤ m' + 64 := (by have := hr3.len; rw [List.length_append] at this; omega))
    | (go_at_call 38; refine (rsum_any n HN.out w3 A3 N3 c3 _ tb HTB.out hr3 (by omega)).mono ?_; rw [HD1.out]; rintro e w4 ⟨rfl, hb4⟩; simp only []; have hbb4 := hbb3.trans (hb4.mono hbb3.size); have hZ4 := hZ3.below hb4 hZ3.lt)
    | ((with_reducible refine wpl_store_fresh (bvs D1).toArray i32x8 ?_ hd1s (bvs_all _) ?_ ?_ ?_); (focus exact hzs); (focus rfl); (focus rfl); intro w5 hD5 hl5 hb5; have hbb5 := hbb4.trans (hb5.mono hbb4.size); have hZ5 := hZ4.below hb5 hZ4.lt)
    | go_values | go_skip | go_guarded | go_step | go_upon | go_back)
  have hr5 : RB w5.drew A m key := hr.below hbb5.drew
  have hD5' : Blk w5.drew w4.heap.size 42 (bvs D1).toArray := hD5
  have hlw3 : w.heap.size ≤ w4.heap.size := hbb4.size
  clear hzz hZ hb1 hb2 hZ2 hZ3 hZ4 hO2 hO2b hr2 hG3 hO3 hr3 hb4 hbb2 hbb3 hbb4 hb5 hD5 hl3 hbs2
  generalize w4.heap.size = GD at *
  refine wp_region_plan [(0, true), (2, true), (1, false), (3, false), (4, false), (5, false)]
    (fun _ => True) (by kernel_rfl) (by kernel_rfl) (by kernel_rfl) (by kernel_rfl) (fun _ _ d _ _ h => by cases d <;> exact h) trivial ?_
  simp only [planOps, List.getElem?_toArray, List.getElem?_cons_zero, List.getElem?_cons_succ]
  repeat (first
    | (refine wpS_skip (by rfl) ?_; simp only [Act.put, List.setIfInBounds_toArray, List.set_cons_zero, List.set_cons_succ])
    | (refine wpS_q ?_ (by rfl) ?_ ?_; rotate_left; (focus (intro z hz; (try dsimp only at hz); go_simp; rfl)); simp only [Act.put, List.setIfInBounds_toArray, List.set_cons_zero, List.set_cons_succ]))
  refine wpS_l (by rfl) (fun Kq hK => ?_)
  go_wp2_with fail
  refine (rwith_any n HN.out w5.drew A m c key 92 hr5 (by omega) tb HTB.out).mono ?_
  rw [HT2.out]
  rintro e w6 ⟨A6, c6, rfl, hO6, hb6⟩
  have hD6 := hD5'.below hb6 hD5'.lt
  have hbb6 : Below w.heap.size w w6 := hbb5.trans ((drew_below (w := w5)).trans hb6 |>.mono hbb5.size)
  have hO6b := OB.mono (B := w.heap.size) hO6 hbb5.size
  have hrD := rb_row hD6 32 hdl1
  have hZ6 : Blk w6 w.heap.size 42 z32 := Blk.below (w := w5.drew) hZ5 hb6 hZ5.lt
  refine hK _ _ (fun _ => True) trivial (fun _ _ => trivial) ?_
  clear hK
  refine wpS_l (by rfl) (fun Kq hK => ?_)
  refine wp_appB _ _ (by rfl) w.heap.size A6 64 c6 T2 (by rfl) hO6b (some ⟨GD, 0, none⟩) 32 32 D1 (by rfl) hrD (by omega) hbb6.size ?_
  intro A7 N7 c7 w7 hc7 hc8 hO7 hG7
  have hbb7 := hG7.own hbb6 (Nat.le_refl _) hO6b
  have hZ7 := Blk.grown hZ6 hG7.grown (by intro e; have := (OB.ge hO6 _ e.symm).1; have h5 : w.heap.size < w5.drew.heap.size := hZ5.lt; omega)
  have hr7 := OB.reads hO7
  have hl7 : N7 ≤ 96 := by have := hr7.len; rw [List.length_append] at this; omega
  refine hK _ _ (fun _ => True) trivial (fun _ _ => trivial) ?_
  clear hK
  simp only [Act.put, List.setIfInBounds_toArray, List.set_cons_zero, List.set_cons_succ]
  refine wpS_l (by rfl) (fun Kq hK => ?_)
  go_wp2_with fail
  refine (rsum_any n HN.out w7 A7 N7 c7 _ tb HTB.out hr7 (by omega)).mono ?_
  rw [HF.out]
  rintro e w8 ⟨rfl, hb8⟩
  have hZ8 := hZ7.below hb8 hZ7.lt
  have hbb8 := hbb7.trans (hb8.mono hbb7.size)
  refine hK _ _ (fun _ => True) trivial (fun _ _ => trivial) ?_
  clear hK
  refine wpS_l (by rfl) (fun Kq hK => ?_)
  have hz32l : z32.toList.length = 32 := by simpa using hzs
  have hZ8' : Blk w8 w.heap.size 42 z32.toList.toArray := by simpa using hZ8
  refine wp_store_midR rfl w.heap.size 0 z32.toList (bvs F) (by rw [bvs_length, hol]; exact i32x8) hZ8' (by rw [bvs_length, hol, hz32l]; omega) (bvs_one _) rfl rfl ?_
  have hsp : Go.splice z32.toList 0 (bvs F) = bvs F := by rw [Go.splice, List.take_zero, List.nil_append, bvs_length, hol, List.drop_of_length_le (by omega), List.append_nil]
  rw [hsp]
  have hZ9 := hZ8.setRow (bvs F).toArray
  have hbb9 := hbb8.grown (grownBy_setRow w8 w.heap.size (bvs F).toArray) hbb8.size (fun p hp => by cases hp; exact Nat.le_refl _)
  simp only [Act.put]
  refine hK _ _ (fun _ => True) trivial (fun _ _ => trivial) ?_
  clear hK
  refine wpS_nil ?_
  go_wp2_with fail
  refine bodyPost_ret (results_cell_row rfl _ _ w.heap.size _ _ (0, 0) _ rfl hZ9 Tryd.underlying42 rfl (by rw [hfs]; exact i32x8)) rfl ?_
  exact ⟨rfl, hbb9⟩
end Go.Proofs.YtbbcofpdfkhljaaDoor.H
namespace Go.Proofs.YtbbcofpdfkhljaaDoor.H
open Go.RowKit Go.Rat
set_option maxRecDepth 8000 in
set_option maxHeartbeats 4000000 in
theorem rkey_none (w : World) (s : ByteArray) (i most : Int) (hi : ¬ (1 ≤ i ∧ i ≤ most)) :
    Calls Tryd.prog 40 #[.string s, .int .i64 i, .int .i64 most] w fun e w' => e = .returned (.slice none 0 0) ∧ w = w' := by
  go_enter Tryd.func40, Tryd.ntmps40
  by_cases h1 : i < 1
  · go_wp2_with fail
    go_ret
    exact ⟨rfl, rfl⟩
  · have h2 : most < i := by omega
    go_wp2_with fail
    go_ret
    exact ⟨rfl, rfl⟩
set_option maxRecDepth 8000 in
set_option maxHeartbeats 4000000 in
theorem rkey_some (n : Nat) (hn64 : n = 64) (w : World) (s : ByteArray) (hs : s.size < 1000) (i : Nat) (most : Int) (hi1 : 1 ≤ i) (hi2 : (i : Int) ≤ most) (hi3 : i < 1000) (tb : List Int) (htb : tblL = tb) :
    Calls Tryd.prog 40 #[.string s, .int .i64 (i : Int), .int .i64 most] w fun e w' => ∃ A c, e = .returned (.slice A 32 c) ∧ OB 5 w' w.heap.size A 32 c (keyB n tb s i) ∧ Below w.heap.size w w' := by
  have HN := Lib.hid hn64
  have HTB := Lib.hid htb
  clear hn64 htb
  have hkl : (keyB n tb s i).length = 32 := digest_length _ _ _
  obtain ⟨K, hK⟩ : ∃ K, keyB n tb s i = K := ⟨_, rfl⟩
  rw [hK] at hkl ⊢
  unfold keyB at hK
  have HK := Lib.hid hK
  clear hK
  have hks : (bvs K).toArray.size = 32 := by rw [bvs_size, hkl]
  go_enter Tryd.func40, Tryd.ntmps40
  have g1 : ¬ (i : Int) < 1 := by omega
  have g2 : ¬ most < (i : Int) := by omega
  have g3 : IntKind.u64.wrap (i : Int) = (i : Int) := by simp [IntKind.wrap, IntKind.bits, IntKind.signed]; omega
  have kc := fun (w : World) => run_bytes_of_string (P := Tryd.prog) w 9 64 5 s Tryd.underlying9 Tryd.underlying64 Tryd.underlying5
  have hb0 := (below_alloc w (.cells (bytesRow s (grownCap w s.size 0 5)) 5 ((bytesRow s (grownCap w s.size 0 5)).size, (bytesRow s (grownCap w s.size 0 5)).size + 1))).drew
  have hr0 := rb_str w 5 s (grownCap w s.size 0 5) ((bytesRow s (grownCap w s.size 0 5)).size, (bytesRow s (grownCap w s.size 0 5)).size + 1)
  have hcap : s.size ≤ grownCap w s.size 0 5 := grownCap_ge _ _ _ _
  go_wp2_with fail
  clear kc
  generalize ((w.alloc (.cells (bytesRow s (grownCap w s.size 0 5)) 5 ((bytesRow s (grownCap w s.size 0 5)).size, (bytesRow s (grownCap w s.size 0 5)).size + 1))).drew) = w1 at *
  obtain ⟨cs, hcs⟩ : ∃ cs, grownCap w s.size 0 5 = cs := ⟨_, rfl⟩
  rw [hcs] at hcap ⊢
  clear hcs
  refine (rword_any w1 (some ⟨w.heap.size, 0, none⟩) s.size cs s.data.toList i hr0 (by omega) (by omega)).mono ?_
  rintro e w2 ⟨Aw, Nw, cw, rfl, hOw, hb2⟩
  simp only []
  have hrw := hOw.reads
  have hlw : Nw ≤ 2000 := by have := hrw.len; rw [List.length_append, be_length] at this; have : s.data.toList.length = s.size := rfl; omega
  have hbb2 := hb0.trans (hb2.mono hb0.size)
  clear hr0
  repeat (first
    | (go_at_call 38; refine (rsum_any n HN.out w2 Aw Nw cw _ tb HTB.out hrw (by omega)).mono ?_; rw [HK.out]; rintro e w3 ⟨rfl, hb3⟩; simp only []; have hbb3 := hbb2.trans (hb3.mono hbb2.size))
    | ((with_reducible refine wpl_store_fresh (bvs K).toArray i32x8 ?_ hks (bvs_all _) ?_ ?_ ?_); (focus kernel_rfl); (focus rfl); (focus rfl); intro w4 hK4 hl4 hb4; have hbb4 := hbb3.trans (hb4.mono hbb3.size); have hrK := rb_row hK4 32 hkl; have hO4 := OB.mono (OB.empty w4 5) hbb4.size; have hbs4 := hbb4.size; have hb4' := below_alloc2 hbb4 (Nat.le_refl _) (.cells #[] 5); have hrK4 := hrK.alloc (.cells #[] 5))
    | (at_builtin; refine app_bytes rfl _ _ rfl w.heap.size _ _ _ [] rfl hO4 _ _ _ K rfl hrK4 (by omega) (by simp; omega) ?_; intro A5 N5 c5 w5 hc5 hc6 hO5 hG5; rw [List.nil_append] at hO5; have hb5 := hG5.own hb4' (Nat.le_refl _) hO4)
    | go_values | go_skip | go_guarded | go_step | go_upon | go_back)
  go_ret
  obtain rfl : N5 = 32 := hO5.len.symm.trans hkl
  exact ⟨A5, c5, rfl, hO5, hb5⟩
theorem rclient_any (n : Nat) (hn64 : n = 64) (w : World) (i : Int) (tb : List Int) (htb : tblL = tb) : Calls Tryd.prog 33 #[.int .i64 i] w (KeyAt w (cliK n tb i)) := by
  by_cases hi : 1 ≤ i ∧ i ≤ 8
  · obtain ⟨k, rfl⟩ := Int.eq_ofNat_of_zero_le (by omega : 0 ≤ i)
    rw [cliK, if_pos hi, Int.toNat_natCast]
    obtain ⟨K, hK⟩ : ∃ K, keyB n tb ⟨#[114, 97, 116, 99, 104, 101, 116, 32, 99, 108, 105, 101, 110, 116]⟩ k = K := ⟨_, rfl⟩
    have hkl : K.length = 32 := by rw [← hK]; exact digest_length _ _ _
    rw [hK]
    have HK := Lib.hid hK
    clear hK
    go_enter Tryd.func33, Tryd.ntmps33
    go_wp2_with (go_at_call 40; refine (rkey_some n hn64 w ⟨#[114, 97, 116, 99, 104, 101, 116, 32, 99, 108, 105, 101, 110, 116]⟩ (by decide) k 8 (by omega) (by omega) (by omega) tb htb).mono ?_; rw [HK.out]; rintro e w2 ⟨A, c, rfl, hO, hb⟩)
    go_ret
    exact ⟨A, 32, c, rfl, hO.cap.1, by omega, hkl, hO, hb⟩
  · rw [cliK, if_neg hi]
    go_enter Tryd.func33, Tryd.ntmps33
    go_wp2_with (go_at_call 40; refine (rkey_none w _ i 8 hi).mono ?_; rintro e w2 ⟨rfl, rfl⟩)
    go_ret
    exact ⟨none, 0, 0, rfl, Nat.le_refl _, by omega, rfl, OB.nil_ _ _ _, Below.refl _ _⟩
end Go.Proofs.YtbbcofpdfkhljaaDoor.H
