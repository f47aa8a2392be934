import Derived.Test.YtohfgplaocgadaaDoorRk
namespace Go.Proofs.YtohfgplaocgadaaDoor
open Go.RowKit Go.Rat
theorem or4 (a b c d : Nat) (ha : a < 256) (hb : b < 256) (hc : c < 256) (hd : d < 256) :
    bits .or .u32 (bits .or .u32 (bits .or .u32 ((a : Int) * 16777216 % 4294967296) ((b : Int) * 65536 % 4294967296)) ((c : Int) * 256 % 4294967296)) (d : Int) = ((((a * 256 + b) * 256 + c) * 256 + d : Nat) : Int) := by
  have hw : ∀ n : Int, 0 ≤ n → n < 2 ^ 32 → IntKind.u32.wrap n = n := fun n h0 h1 => by simp [IntKind.wrap, IntKind.bits, IntKind.signed]; omega
  have join : ∀ (x y i : Nat), y < 2 ^ i → x * 2 ^ i + y < 4294967296 → bits .or .u32 ((x * 2 ^ i : Nat) : Int) (y : Int) = ((x * 2 ^ i + y : Nat) : Int) := by
    intro x y i hy hxy
    rw [(bits_nat .u32 32 (by decide) hw (x * 2 ^ i) y (by omega) (by omega)).2]
    have := Nat.shiftLeft_add_eq_or_of_lt (i := i) (b := y) hy x
    rw [Nat.shiftLeft_eq] at this
    rw [← this]
  rw [Int.emod_eq_of_lt (by omega) (by omega), Int.emod_eq_of_lt (by omega) (by omega), Int.emod_eq_of_lt (by omega) (by omega)]
  have h1 := join a (b * 65536) 24 (by omega) (by omega)
  have h2 := join (a * 256 + b) (c * 256) 16 (by omega) (by omega)
  have h3 := join ((a * 256 + b) * 256 + c) d 8 (by omega) (by omega)
  rw [show (a : Int) * 16777216 = ((a * 2 ^ 24 : Nat) : Int) by omega, show (b : Int) * 65536 = ((b * 65536 : Nat) : Int) by omega, h1,
    show ((a * 2 ^ 24 + b * 65536 : Nat) : Int) = (((a * 256 + b) * 2 ^ 16 : Nat) : Int) by omega, show (c : Int) * 256 = ((c * 256 : Nat) : Int) by omega, h2,
    show (((a * 256 + b) * 2 ^ 16 + c * 256 : Nat) : Int) = ((((a * 256 + b) * 256 + c) * 2 ^ 8 : Nat) : Int) by omega, h3]
/-- The blocks of the document's Block: the state, the bytes, what is answered, the words. -/
structure RI (w : World) (sl : List Int) (xs : List UInt8) (wr : World) (cs : List Int) : Prop where
  s : Blk wr w.heap.size 23 (u32s sl).toArray
  i : Blk wr (w.heap.size + 1) 24 (bvs xs).toArray
  r : Blk wr (w.heap.size + 1 + 1) 23 (u32s (List.replicate 8 0)).toArray
  w_ : Blk wr (w.heap.size + 1 + 1 + 1) 46 (u32s cs).toArray
  b : Below w.heap.size w wr
theorem cell_kept' {w : World} {g i b j : Nat} {v : Value} (h : g ≠ b) : (w.setCell ⟨g, i, none⟩ v).cell? ⟨b, j, none⟩ = w.cell? ⟨b, j, none⟩ :=
  World.cell?_of_block (Below.heap_setCell w ⟨g, i, none⟩ v b (fun e => h e.symm))
theorem RI.step {w wr : World} {sl cs : List Int} {xs : List UInt8} (h : RI w sl xs wr cs) (k : Nat) (v : Int) : RI w sl xs (wr.setCell ⟨w.heap.size + 1 + 1 + 1, k, none⟩ (.int .u32 v)).drew (cs.set k v) := by
  refine ⟨h.s.far (by simp; omega) _, h.i.far (by simp) _, h.r.far (by simp) _, ?_, (h.b.grown (grownBy_set wr _ k _) h.b.size (fun q hq => by cases hq; omega)).drew⟩
  have := h.w_.set_ k (.int .u32 v)
  rw [u32s_set] at this
  exact this
theorem RI.drew {w wr : World} {sl cs : List Int} {xs : List UInt8} (h : RI w sl xs wr cs) : RI w sl xs wr.drew cs := ⟨h.s, h.i, h.r, h.w_, h.b.drew⟩
set_option maxRecDepth 20000 in
set_option maxHeartbeats 4000000 in
theorem rblock_any (n : Nat) (hn64 : n = 64) (w : World) (sl : List Int) (hs8 : sl.length = 8) (xs : List UInt8) (hl : xs.length = 64) (tb : List Int) (htb : tblL = tb) : Calls Tryd.prog 12 #[.agg (u32s sl).toArray, .agg (bvs xs).toArray] w fun e w' => e = .returned (.agg (u32s (blockF n tb sl xs)).toArray) ∧ Below w.heap.size w w' := by
  obtain ⟨tt, hTT⟩ : ∃ tt, blockF n tb sl xs = tt := ⟨_, rfl⟩
  rw [hTT]
  have HT := Lib.hid hTT
  clear hTT
  have HN := Lib.hid hn64
  clear hn64
  have htl : tb.length = 64 := htb ▸ tblL_length
  have HTB := Lib.hid htb
  clear htb
  go_enter Tryd.func12, Tryd.ntmps12
  go_wp2_with fail
  have hS := (((Blk.new w 23 (u32s sl).toArray).alloc (.cells (bvs xs).toArray 24)).alloc (.cells (u32s (List.replicate 8 0)).toArray 23)).alloc (.cells (u32s (List.replicate 64 0)).toArray 46)
  have hI : Blk ((((w.alloc (.cells (u32s sl).toArray 23)).alloc (.cells (bvs xs).toArray 24)).alloc (.cells (u32s (List.replicate 8 0)).toArray 23)).alloc (.cells (u32s (List.replicate 64 0)).toArray 46)) (w.heap.size + 1) 24 (bvs xs).toArray := by simpa using ((Blk.new (w.alloc (.cells (u32s sl).toArray 23)) 24 (bvs xs).toArray).alloc (.cells (u32s (List.replicate 8 0)).toArray 23)).alloc (.cells (u32s (List.replicate 64 0)).toArray 46)
  have hR : Blk ((((w.alloc (.cells (u32s sl).toArray 23)).alloc (.cells (bvs xs).toArray 24)).alloc (.cells (u32s (List.replicate 8 0)).toArray 23)).alloc (.cells (u32s (List.replicate 64 0)).toArray 46)) (w.heap.size + 1 + 1) 23 (u32s (List.replicate 8 0)).toArray := by simpa using (Blk.new ((w.alloc (.cells (u32s sl).toArray 23)).alloc (.cells (bvs xs).toArray 24)) 23 (u32s (List.replicate 8 0)).toArray).alloc (.cells (u32s (List.replicate 64 0)).toArray 46)
  have hW : Blk ((((w.alloc (.cells (u32s sl).toArray 23)).alloc (.cells (bvs xs).toArray 24)).alloc (.cells (u32s (List.replicate 8 0)).toArray 23)).alloc (.cells (u32s (List.replicate 64 0)).toArray 46)) (w.heap.size + 1 + 1 + 1) 46 (u32s (List.replicate 64 0)).toArray := by simpa using Blk.new (((w.alloc (.cells (u32s sl).toArray 23)).alloc (.cells (bvs xs).toArray 24)).alloc (.cells (u32s (List.replicate 8 0)).toArray 23)) 46 (u32s (List.replicate 64 0)).toArray
  have hsz : ((((w.alloc (.cells (u32s sl).toArray 23)).alloc (.cells (bvs xs).toArray 24)).alloc (.cells (u32s (List.replicate 8 0)).toArray 23)).alloc (.cells (u32s (List.replicate 64 0)).toArray 46)).heap.size = w.heap.size + 1 + 1 + 1 + 1 := by simp
  have hb : Below w.heap.size w ((((w.alloc (.cells (u32s sl).toArray 23)).alloc (.cells (bvs xs).toArray 24)).alloc (.cells (u32s (List.replicate 8 0)).toArray 23)).alloc (.cells (u32s (List.replicate 64 0)).toArray 46)) := below_alloc2 (below_alloc2 (below_alloc2 (below_alloc _ _) (by simp) _) (by simp) _) (by simp) _
  go_loopw [6] (fun i wr => ∃ k : Nat, k ≤ 16 ∧ i = .int .i64 k ∧ RI w sl xs wr (ws1 xs k)) (fun i _ => 16 - (intOf i).toNat)
  case atStart => exact ⟨0, by omega, rfl, hS, hI, hR, hW, hb⟩
  case round =>
    obtain ⟨k, hk, rfl, hRI⟩ := hrel
    by_cases hlt : k < 16
    · have g1 : (0 : Int) ≤ (k : Int) := by omega
      have g2 : (k : Int) < 16 := by omega
      have g3 : (4 : Int) * (k : Int) < 64 := by omega
      have g4 : (4 : Int) * (k : Int) + 1 < 64 := by omega
      have g5 : (4 : Int) * (k : Int) + 2 < 64 := by omega
      have g6 : (4 : Int) * (k : Int) + 3 < 64 := by omega
      have g7 : (0 : Int) ≤ 4 * (k : Int) := by omega
      have g8 : (k : Int) < 64 := by omega
      have r0 : IntKind.i64.wrap (4 * (k : Int)) = 4 * (k : Int) := IntWalk.i64_in _ (by omega)
      have r1 : IntKind.i64.wrap (4 * (k : Int) + 1) = 4 * (k : Int) + 1 := IntWalk.i64_in _ (by omega)
      have r2 : IntKind.i64.wrap (4 * (k : Int) + 2) = 4 * (k : Int) + 2 := IntWalk.i64_in _ (by omega)
      have r3 : IntKind.i64.wrap (4 * (k : Int) + 3) = 4 * (k : Int) + 3 := IntWalk.i64_in _ (by omega)
      have t0 : (4 * (k : Int)).toNat = 4 * k := by omega
      have t1 : (4 * (k : Int) + 1).toNat = 4 * k + 1 := by omega
      have t2 : (4 * (k : Int) + 2).toNat = 4 * k + 2 := by omega
      have t3 : (4 * (k : Int) + 3).toNat = 4 * k + 3 := by omega
      have u1 : (0 : Int) ≤ 4 * (k : Int) + 1 := by omega
      have u2 : (0 : Int) ≤ 4 * (k : Int) + 2 := by omega
      have u3 : (0 : Int) ≤ 4 * (k : Int) + 3 := by omega
      have qb : ∀ j, j < 4 → wr.cell? ⟨w.heap.size + 1, 4 * k + j, none⟩ = some (.int .u8 ((xs.getD (4 * k + j) 0).toNat : Int)) := fun j hj => bytes_at hRI.i (by omega)
      have q0 := qb 0 (by omega)
      have q1 := qb 1 (by omega)
      have q2 := qb 2 (by omega)
      have q3 := qb 3 (by omega)
      clear qb
      have hp : (((xs.getD (4 * k + 0) 0).toNat * 256 + (xs.getD (4 * k + 1) 0).toNat) * 256 + (xs.getD (4 * k + 2) 0).toNat) * 256 + (xs.getD (4 * k + 3) 0).toNat = part xs k 4 := by simp [part]
      have HP := Lib.hid hp
      clear hp
      have hy0 := (xs.getD (4 * k + 0) 0).toNat_lt
      have hy1 := (xs.getD (4 * k + 1) 0).toNat_lt
      have hy2 := (xs.getD (4 * k + 2) 0).toNat_lt
      have hy3 := (xs.getD (4 * k + 3) 0).toNat_lt
      generalize (xs.getD (4 * k + 0) 0).toNat = y0 at *
      generalize (xs.getD (4 * k + 1) 0).toNat = y1 at *
      generalize (xs.getD (4 * k + 2) 0).toNat = y2 at *
      generalize (xs.getD (4 * k + 3) 0).toNat = y3 at *
      rw [Nat.add_zero] at q0
      have hv : bits .or .u32 (bits .or .u32 (bits .or .u32 ((y0 : Int) % 4294967296 * 16777216 % 4294967296) ((y1 : Int) % 4294967296 * 65536 % 4294967296)) ((y2 : Int) % 4294967296 * 256 % 4294967296)) ((y3 : Int) % 4294967296) = (part xs k 4 : Int) := by
        rw [Int.emod_eq_of_lt (show (0 : Int) ≤ (y0 : Int) by omega) (by omega), Int.emod_eq_of_lt (show (0 : Int) ≤ (y1 : Int) by omega) (by omega), Int.emod_eq_of_lt (show (0 : Int) ≤ (y2 : Int) by omega) (by omega), Int.emod_eq_of_lt (show (0 : Int) ≤ (y3 : Int) by omega) (by omega), or4 y0 y1 y2 y3 (by omega) (by omega) (by omega) (by omega), HP.out]
      have HV := Lib.hid hv
      clear hv hy0 hy1 hy2 hy3
      go_wp2_with fail
      refine wp_region_plan [(0, true), (1, true), (2, true), (3, true), (4, true), (5, true), (6, true), (7, true), (8, true), (9, true), (10, true), (11, true), (12, true), (13, true), (14, true), (15, true), (16, true), (17, true), (18, true), (19, true), (20, true), (21, true), (22, true), (23, true), (24, true), (25, true), (26, true), (27, true), (28, true), (29, true), (30, true), (31, false)]
        (fun z => z.cell? ⟨w.heap.size + 1, 4 * k, none⟩ = some (.int .u8 (y0 : Int)) ∧ z.cell? ⟨w.heap.size + 1, 4 * k + 1, none⟩ = some (.int .u8 (y1 : Int)) ∧ z.cell? ⟨w.heap.size + 1, 4 * k + 2, none⟩ = some (.int .u8 (y2 : Int)) ∧ z.cell? ⟨w.heap.size + 1, 4 * k + 3, none⟩ = some (.int .u8 (y3 : Int))) (by kernel_rfl) (by kernel_rfl) (by kernel_rfl) (by kernel_rfl) (fun _ _ d _ _ h => by cases d <;> exact h) ⟨q0, q1, q2, q3⟩ ?_
      simp only [planOps, List.getElem?_toArray, List.getElem?_cons_zero, List.getElem?_cons_succ]
      repeat (first
        | (refine wpS_skip (by rfl) ?_; simp only [Act.put, List.setIfInBounds_toArray, List.set_cons_zero, List.set_cons_succ])
        | (refine wpS_q ?_ (by rfl) ?_ ?_; rotate_left; (focus (intro z hz; (try dsimp only at hz); go_simp; rfl)); simp only [Act.put, List.setIfInBounds_toArray, List.set_cons_zero, List.set_cons_succ]))
      have c5 := u32s_at hRI.w_ (i := k) (by rw [ws1_length]; omega)
      have f5 := hRI.w_.frozen k
      refine wpS_l (by rfl) (fun Kq hK => ?_)
      go_wp2_with fail
      rw [HV.out]
      have hlt1 := hRI.i.lt
      have hk1 := fun (j : Nat) (v : Value) => cell_kept' (w := wr) (g := w.heap.size + 1 + 1 + 1) (i := k) (v := v) (b := w.heap.size + 1) (j := j) (by omega)
      refine hK _ _ (fun z => z.cell? ⟨w.heap.size + 1, 4 * k, none⟩ = some (.int .u8 (y0 : Int)) ∧ z.cell? ⟨w.heap.size + 1, 4 * k + 1, none⟩ = some (.int .u8 (y1 : Int)) ∧ z.cell? ⟨w.heap.size + 1, 4 * k + 2, none⟩ = some (.int .u8 (y2 : Int)) ∧ z.cell? ⟨w.heap.size + 1, 4 * k + 3, none⟩ = some (.int .u8 (y3 : Int))) ⟨(hk1 _ _).trans q0, (hk1 _ _).trans q1, (hk1 _ _).trans q2, (hk1 _ _).trans q3⟩ (fun _ h => h) ?_
      clear hK
      refine wpS_nil ?_
      go_wp2_with fail
      exact ⟨⟨k + 1, by omega, by go_num, hRI.step k (part xs k 4 : Int)⟩, by simp [intOf]; omega⟩
    · obtain rfl : k = 16 := by omega
      have hRI2 : RI w sl xs wr (ws2 xs 16) := hRI
      go_wp2_with fail
      clear hRI
      go_loopw [7] (fun i wr => ∃ k : Nat, 16 ≤ k ∧ k ≤ 64 ∧ i = .int .i64 k ∧ RI w sl xs wr (ws2 xs k)) (fun i _ => 64 - (intOf i).toNat)
      case atStart => exact ⟨16, by omega, by omega, rfl, hRI2⟩
      case round =>
        obtain ⟨k, hk16, hk, rfl, hRI⟩ := hrel
        by_cases hlt : k < 64
        · have hl1 := ws2_length xs k
          have hW := hRI.w_
          have c1 := u32s_at hW (i := k - 15) (by omega)
          have c2 := u32s_at hW (i := k - 2) (by omega)
          have c3 := u32s_at hW (i := k - 16) (by omega)
          have c4 := u32s_at hW (i := k - 7) (by omega)
          have f1 := hW.frozen k
          have c5 := u32s_at hW (i := k) (by omega)
          obtain ⟨x0, e0⟩ : ∃ x, (ws2 xs k).getD k 0 = x := ⟨_, rfl⟩
          rw [e0] at c5
          clear e0
          obtain ⟨x15, e15⟩ : ∃ x, (ws2 xs k).getD (k - 15) 0 = x := ⟨_, rfl⟩
          obtain ⟨x2, e2⟩ : ∃ x, (ws2 xs k).getD (k - 2) 0 = x := ⟨_, rfl⟩
          obtain ⟨x16, e16⟩ : ∃ x, (ws2 xs k).getD (k - 16) 0 = x := ⟨_, rfl⟩
          obtain ⟨x7, e7⟩ : ∃ x, (ws2 xs k).getD (k - 7) 0 = x := ⟨_, rfl⟩
          rw [e15] at c1
          rw [e2] at c2
          rw [e16] at c3
          rw [e7] at c4
          have n1 : ((k : Int) - 15).toNat = k - 15 := by omega
          have n2 : ((k : Int) - 2).toNat = k - 2 := by omega
          have n3 : ((k : Int) - 16).toNat = k - 16 := by omega
          have n4 : ((k : Int) - 7).toNat = k - 7 := by omega
          have r1 : IntKind.i64.wrap ((k : Int) - 15) = (k : Int) - 15 := IntWalk.i64_in _ (by omega)
          have r2 : IntKind.i64.wrap ((k : Int) - 2) = (k : Int) - 2 := IntWalk.i64_in _ (by omega)
          have r3 : IntKind.i64.wrap ((k : Int) - 16) = (k : Int) - 16 := IntWalk.i64_in _ (by omega)
          have r4 : IntKind.i64.wrap ((k : Int) - 7) = (k : Int) - 7 := IntWalk.i64_in _ (by omega)
          have d15 : (15 : Int) ≤ (k : Int) := by omega
          have d2 : (2 : Int) ≤ (k : Int) := by omega
          have d16 : (16 : Int) ≤ (k : Int) := by omega
          have d7 : (7 : Int) ≤ (k : Int) := by omega
          have m15 : (k : Int) - 15 < 64 := by omega
          have m2 : (k : Int) - 2 < 64 := by omega
          have m16 : (k : Int) - 16 < 64 := by omega
          have m7 : (k : Int) - 7 < 64 := by omega
          have HK := Lib.hid e15
          have HK2 := Lib.hid e2
          have HK16 := Lib.hid e16
          have HK7 := Lib.hid e7
          clear e15 e2 e16 e7
          go_wp2_with fail
          refine wp_region_plan [(0, true), (1, true), (2, true), (3, true), (5, true), (6, true), (7, true), (8, true), (11, true), (12, true), (13, true), (14, true), (15, true), (4, false), (9, false), (10, true), (16, true), (17, true)]
            (fun z => z.cell? ⟨w.heap.size + 1 + 1 + 1, k - 15, none⟩ = some (.int .u32 x15)) (by kernel_rfl) (by kernel_rfl) (by kernel_rfl) (by kernel_rfl) (fun _ _ d _ _ h => by cases d <;> exact h) c1 ?_
          simp only [planOps, List.getElem?_toArray, List.getElem?_cons_zero, List.getElem?_cons_succ]
          repeat (first
            | (refine wpS_skip (by rfl) ?_; simp only [Act.put, List.setIfInBounds_toArray, List.set_cons_zero, List.set_cons_succ])
            | (refine wpS_q ?_ (by rfl) ?_ ?_; rotate_left; (focus (intro z hz; (try dsimp only at hz); go_simp; rfl)); simp only [Act.put, List.setIfInBounds_toArray, List.set_cons_zero, List.set_cons_succ]))
          refine wpS_l (by rfl) (fun Kq hK => ?_)
          go_wp2_with fail
          refine (rot_any _ x15 7 (by omega) (by omega)).mono ?_
          rintro e w' ⟨rfl, rfl⟩
          refine hK _ _ (fun z => z.cell? ⟨w.heap.size + 1 + 1 + 1, k - 15, none⟩ = some (.int .u32 x15)) c1 (fun _ h => h) ?_
          clear hK
          repeat (first
            | (refine wpS_skip (by rfl) ?_; simp only [Act.put, List.setIfInBounds_toArray, List.set_cons_zero, List.set_cons_succ])
            | (refine wpS_q ?_ (by rfl) ?_ ?_; rotate_left; (focus (intro z hz; (try dsimp only at hz); go_simp; rfl)); simp only [Act.put, List.setIfInBounds_toArray, List.set_cons_zero, List.set_cons_succ]))
          refine wpS_l (by rfl) (fun Kq hK => ?_)
          go_wp2_with fail
          refine (rot_any _ x15 18 (by omega) (by omega)).mono ?_
          rintro e w' ⟨rfl, rfl⟩
          refine hK _ _ (fun z => z.cell? ⟨w.heap.size + 1 + 1 + 1, k - 15, none⟩ = some (.int .u32 x15)) c1 (fun _ h => h) ?_
          clear hK
          repeat (first
            | (refine wpS_skip (by rfl) ?_; simp only [Act.put, List.setIfInBounds_toArray, List.set_cons_zero, List.set_cons_succ])
            | (refine wpS_q ?_ (by rfl) ?_ ?_; rotate_left; (focus (intro z hz; (try dsimp only at hz); go_simp; rfl)); simp only [Act.put, List.setIfInBounds_toArray, List.set_cons_zero, List.set_cons_succ]))
          refine wpS_nil ?_
          go_wp2_with fail
          refine wp_region_plan [(0, true), (1, true), (2, true), (3, true), (5, true), (6, true), (7, true), (8, true), (11, true), (12, true), (13, true), (14, true), (15, true), (4, false), (9, false), (10, true), (16, true), (17, true)]
            (fun z => z.cell? ⟨w.heap.size + 1 + 1 + 1, k - 2, none⟩ = some (.int .u32 x2)) (by kernel_rfl) (by kernel_rfl) (by kernel_rfl) (by kernel_rfl) (fun _ _ d _ _ h => by cases d <;> exact h) c2 ?_
          simp only [planOps, List.getElem?_toArray, List.getElem?_cons_zero, List.getElem?_cons_succ]
          repeat (first
            | (refine wpS_skip (by rfl) ?_; simp only [Act.put, List.setIfInBounds_toArray, List.set_cons_zero, List.set_cons_succ])
            | (refine wpS_q ?_ (by rfl) ?_ ?_; rotate_left; (focus (intro z hz; (try dsimp only at hz); go_simp; rfl)); simp only [Act.put, List.setIfInBounds_toArray, List.set_cons_zero, List.set_cons_succ]))
          refine wpS_l (by rfl) (fun Kq hK => ?_)
          go_wp2_with fail
          refine (rot_any _ x2 17 (by omega) (by omega)).mono ?_
          rintro e w' ⟨rfl, rfl⟩
          refine hK _ _ (fun z => z.cell? ⟨w.heap.size + 1 + 1 + 1, k - 2, none⟩ = some (.int .u32 x2)) c2 (fun _ h => h) ?_
          clear hK
          repeat (first
            | (refine wpS_skip (by rfl) ?_; simp only [Act.put, List.setIfInBounds_toArray, List.set_cons_zero, List.set_cons_succ])
            | (refine wpS_q ?_ (by rfl) ?_ ?_; rotate_left; (focus (intro z hz; (try dsimp only at hz); go_simp; rfl)); simp only [Act.put, List.setIfInBounds_toArray, List.set_cons_zero, List.set_cons_succ]))
          refine wpS_l (by rfl) (fun Kq hK => ?_)
          go_wp2_with fail
          refine (rot_any _ x2 19 (by omega) (by omega)).mono ?_
          rintro e w' ⟨rfl, rfl⟩
          refine hK _ _ (fun z => z.cell? ⟨w.heap.size + 1 + 1 + 1, k - 2, none⟩ = some (.int .u32 x2)) c2 (fun _ h => h) ?_
          clear hK
          repeat (first
            | (refine wpS_skip (by rfl) ?_; simp only [Act.put, List.setIfInBounds_toArray, List.set_cons_zero, List.set_cons_succ])
            | (refine wpS_q ?_ (by rfl) ?_ ?_; rotate_left; (focus (intro z hz; (try dsimp only at hz); go_simp; rfl)); simp only [Act.put, List.setIfInBounds_toArray, List.set_cons_zero, List.set_cons_succ]))
          refine wpS_nil ?_
          go_wp2_with fail
          have hk1 := fun (j : Nat) (hj : j ≠ k) (v : Value) => cell_set_ne wr (w.heap.size + 1 + 1 + 1) k j v (fun e => hj e.symm)
          refine wp_region_plan [(0, true), (1, true), (2, true), (3, true), (4, true), (5, true), (6, true), (7, true), (8, true), (9, true), (10, true), (11, true), (12, true), (13, true), (14, true), (15, false)]
            (fun z => z.cell? ⟨w.heap.size + 1 + 1 + 1, k - 16, none⟩ = some (.int .u32 x16) ∧ z.cell? ⟨w.heap.size + 1 + 1 + 1, k - 7, none⟩ = some (.int .u32 x7)) (by kernel_rfl) (by kernel_rfl) (by kernel_rfl) (by kernel_rfl) (fun _ _ d _ _ h => by cases d <;> exact h) ⟨c3, c4⟩ ?_
          simp only [planOps, List.getElem?_toArray, List.getElem?_cons_zero, List.getElem?_cons_succ]
          repeat (first
            | (refine wpS_skip (by rfl) ?_; simp only [Act.put, List.setIfInBounds_toArray, List.set_cons_zero, List.set_cons_succ])
            | (refine wpS_q ?_ (by rfl) ?_ ?_; rotate_left; (focus (intro z hz; (try dsimp only at hz); go_simp; rfl)); simp only [Act.put, List.setIfInBounds_toArray, List.set_cons_zero, List.set_cons_succ]))
          refine wpS_l (by rfl) (fun Kq hK => ?_)
          go_wp2_with fail
          refine hK _ _ (fun z => z.cell? ⟨w.heap.size + 1 + 1 + 1, k - 16, none⟩ = some (.int .u32 x16) ∧ z.cell? ⟨w.heap.size + 1 + 1 + 1, k - 7, none⟩ = some (.int .u32 x7)) ⟨(hk1 _ (by omega) _).trans c3, (hk1 _ (by omega) _).trans c4⟩ (fun _ h => h) ?_
          clear hK
          refine wpS_nil ?_
          go_wp2_with fail
          have hN : ws2 xs (k + 1) = (ws2 xs k).set k ((x16 + bits .xor .u32 (bits .xor .u32 (rotF x15 7) (rotF x15 18)) (x15 / 8) + x7 + bits .xor .u32 (bits .xor .u32 (rotF x2 17) (rotF x2 19)) (x2 / 1024)) % 4294967296) := by
            rw [ws2_succ xs k hk16, HK16.out, HK.out, HK7.out, HK2.out]
            rfl
          refine ⟨⟨k + 1, by omega, by omega, by go_num, ?_⟩, by simp [intOf]; omega⟩
          rw [hN]
          exact (hRI.step k _).drew.drew
        · obtain rfl : k = n := by have := HN.out; omega
          have hl1 := ws2_length xs k
          obtain ⟨L, hL⟩ : ∃ L, ws2 xs k = L := ⟨_, rfl⟩
          rw [hL] at hRI hl1
          have HL := Lib.hid hL
          clear hL hRI2
          have hlt2 : ¬ (k : Int) < 64 := by omega
          repeat (first
            | ((with_reducible refine wpl_load w.heap.size _ _ Tryd.underlying23 i8x32 hRI.s ((u32s_size _).trans hs8) ?_ ?_); (focus rfl); simp only [Act.put, List.setIfInBounds_toArray, List.set_cons_zero, List.set_cons_succ])
            | ((with_reducible refine wpl_store_fresh (u32s sl).toArray i8x32 ?_ ((u32s_size _).trans hs8) (u32s_one _) ?_ ?_ ?_); (focus kernel_rfl); (focus rfl); (focus rfl); intro z1 hV1 hl1 hb1)
            | (go_at_call 31; refine (k_any _).mono ?_; rw [HTB.out]; rintro e w2 ⟨rfl, hb2⟩)
            | ((with_reducible refine wpl_store_fresh (u32s tb).toArray i64x32 ?_ ((u32s_size _).trans htl) (u32s_one _) ?_ ?_ ?_); (focus kernel_rfl); (focus rfl); (focus rfl); intro z3 hT3 hl3 hb3)
            | go_values | go_skip | go_guarded | go_step | go_upon | go_back | (simp only [Int.not_lt] at *; go_simp))
          have hb13 : Below z1.heap.size z1 z3 := hb2.trans (hb3.mono hb2.size)
          have hbw : Below wr.heap.size wr z3 := hb1.trans (hb13.mono (Nat.le_of_lt hl1))
          have hV3 := hV1.below hb13 hl1
          have hW3 := hRI.w_.below hbw hRI.w_.lt
          have hS3 := hRI.s.below hbw hRI.s.lt
          have hR3 := hRI.r.below hbw hRI.r.lt
          have hlr := hRI.r.lt
          have hls := hRI.s.lt
          have hlw := hRI.w_.lt
          have hbz : Below w.heap.size w z3 := hRI.b.trans (hbw.mono (by omega))
          have hVT : wr.heap.size ≠ w2.heap.size := by have := hb2.size; omega
          have hVW : wr.heap.size ≠ w.heap.size + 1 + 1 + 1 := by omega
          have hVS : wr.heap.size ≠ w.heap.size := by omega
          have hVR : wr.heap.size ≠ w.heap.size + 1 + 1 := by omega
          have hVb : w.heap.size ≤ wr.heap.size := by omega
          clear hV1 hb1 hb2 hb3 hb13 hbw hlr hls hlw hRI hl1 hl3
          generalize wr.heap.size = V at *
          generalize w2.heap.size = T at *
          generalize k = kn at *
          have HV3 := Lib.hid (show u32s (outF (rnds tb L (s8 sl) 0)) = u32s sl from by obtain ⟨s0, s1, s2, s3, s4, s5, s6, s7, rfl⟩ := list8 hs8; rfl)
          go_loopw [12] (fun i wz => ∃ k : Nat, k ≤ 64 ∧ i = .int .i64 k ∧ Blk wz V 23 (u32s (outF (rnds tb L (s8 sl) k))).toArray ∧ z3.grownBy wz (some V)) (fun i _ => 64 - (intOf i).toNat)
          case atStart => exact ⟨0, by omega, rfl, by rw [HV3.out]; exact hV3, World.grownBy.refl _ _⟩
          case round =>
            obtain ⟨k, hk, rfl, hV4, hg4⟩ := hrel
            obtain ⟨R, hR8⟩ : ∃ R, rnds tb L (s8 sl) k = R := ⟨_, rfl⟩
            rw [hR8] at hV4
            have hT4 := hT3.grown hg4 (by intro h; injection h with h; omega)
            have hW4 := hW3.grown hg4 (by intro h; injection h with h; omega)
            by_cases hlt64 : k < 64
            · obtain ⟨a, b, c, d, e, f, g, hh⟩ := R
              have HR8 := Lib.hid hR8
              clear hR8
              have qi := u32s_at hW4 (i := k) (by omega)
              have qt := u32s_at hT4 (i := k) (by omega)
              obtain ⟨wk, hwk⟩ : ∃ x, L.getD k 0 = x := ⟨_, rfl⟩
              obtain ⟨tk, htk⟩ : ∃ x, tb.getD k 0 = x := ⟨_, rfl⟩
              rw [hwk] at qi
              rw [htk] at qt
              have HW := Lib.hid hwk
              have HTK := Lib.hid htk
              clear hwk htk
              have g1 : (0 : Int) ≤ (k : Int) := by omega
              have g2 : (k : Int) < 64 := by omega
              have c0 : wr.cell? ⟨V, 0, none⟩ = some (.int .u32 a) := hV4.cell 0
              have c1 : wr.cell? ⟨V, 1, none⟩ = some (.int .u32 b) := hV4.cell 1
              have c2 : wr.cell? ⟨V, 2, none⟩ = some (.int .u32 c) := hV4.cell 2
              have c3 : wr.cell? ⟨V, 3, none⟩ = some (.int .u32 d) := hV4.cell 3
              have c4 : wr.cell? ⟨V, 4, none⟩ = some (.int .u32 e) := hV4.cell 4
              have c5 : wr.cell? ⟨V, 5, none⟩ = some (.int .u32 f) := hV4.cell 5
              have c6 : wr.cell? ⟨V, 6, none⟩ = some (.int .u32 g) := hV4.cell 6
              have c7 : wr.cell? ⟨V, 7, none⟩ = some (.int .u32 hh) := hV4.cell 7
              go_wp2_with fail
              refine wp_region_plan [(0, true), (1, true), (2, true), (4, true), (7, true), (11, true), (12, true), (13, true), (14, true), (15, true), (16, true), (17, true), (18, true), (19, true), (20, true), (22, true), (23, true), (24, true), (26, true), (27, true), (28, true), (3, false), (5, false), (6, true), (8, false), (9, true), (10, true), (21, true), (25, true), (29, true), (30, true)]
                (fun z => z.cell? ⟨V, 7, none⟩ = some (.int .u32 hh) ∧ z.cell? ⟨V, 5, none⟩ = some (.int .u32 f) ∧ z.cell? ⟨V, 6, none⟩ = some (.int .u32 g) ∧ z.cell? ⟨T, k, none⟩ = some (.int .u32 tk) ∧ z.cell? ⟨w.heap.size + 1 + 1 + 1, k, none⟩ = some (.int .u32 wk)) (by kernel_rfl) (by kernel_rfl) (by kernel_rfl) (by kernel_rfl) (fun _ _ d _ _ h => by cases d <;> exact h) ⟨c7, c5, c6, qt, qi⟩ ?_
              simp only [planOps, List.getElem?_toArray, List.getElem?_cons_zero, List.getElem?_cons_succ]
              repeat (first
                | (refine wpS_skip (by rfl) ?_; simp only [Act.put, List.setIfInBounds_toArray, List.set_cons_zero, List.set_cons_succ])
                | (refine wpS_q ?_ (by rfl) ?_ ?_; rotate_left; (focus (intro z hz; (try dsimp only at hz); go_simp; rfl)); simp only [Act.put, List.setIfInBounds_toArray, List.set_cons_zero, List.set_cons_succ]))
              refine wpS_l (by rfl) (fun Kq hK => ?_)
              go_wp2_with fail
              refine (rot_any _ e 6 (by omega) (by omega)).mono ?_
              rintro e' w' ⟨rfl, rfl⟩
              refine hK _ _ (fun z => z.cell? ⟨V, 7, none⟩ = some (.int .u32 hh) ∧ z.cell? ⟨V, 5, none⟩ = some (.int .u32 f) ∧ z.cell? ⟨V, 6, none⟩ = some (.int .u32 g) ∧ z.cell? ⟨T, k, none⟩ = some (.int .u32 tk) ∧ z.cell? ⟨w.heap.size + 1 + 1 + 1, k, none⟩ = some (.int .u32 wk)) ⟨c7, c5, c6, qt, qi⟩ (fun _ h => h) ?_
              clear hK
              repeat (first
                | (refine wpS_skip (by rfl) ?_; simp only [Act.put, List.setIfInBounds_toArray, List.set_cons_zero, List.set_cons_succ])
                | (refine wpS_q ?_ (by rfl) ?_ ?_; rotate_left; (focus (intro z hz; (try dsimp only at hz); go_simp; rfl)); simp only [Act.put, List.setIfInBounds_toArray, List.set_cons_zero, List.set_cons_succ]))
              refine wpS_l (by rfl) (fun Kq hK => ?_)
              go_wp2_with fail
              refine (rot_any _ e 11 (by omega) (by omega)).mono ?_
              rintro e' w' ⟨rfl, rfl⟩
              refine hK _ _ (fun z => z.cell? ⟨V, 7, none⟩ = some (.int .u32 hh) ∧ z.cell? ⟨V, 5, none⟩ = some (.int .u32 f) ∧ z.cell? ⟨V, 6, none⟩ = some (.int .u32 g) ∧ z.cell? ⟨T, k, none⟩ = some (.int .u32 tk) ∧ z.cell? ⟨w.heap.size + 1 + 1 + 1, k, none⟩ = some (.int .u32 wk)) ⟨c7, c5, c6, qt, qi⟩ (fun _ h => h) ?_
              clear hK
              repeat (first
                | (refine wpS_skip (by rfl) ?_; simp only [Act.put, List.setIfInBounds_toArray, List.set_cons_zero, List.set_cons_succ])
                | (refine wpS_q ?_ (by rfl) ?_ ?_; rotate_left; (focus (intro z hz; (try dsimp only at hz); go_simp; rfl)); simp only [Act.put, List.setIfInBounds_toArray, List.set_cons_zero, List.set_cons_succ]))
              refine wpS_l (by rfl) (fun Kq hK => ?_)
              go_wp2_with fail
              refine (rot_any _ e 25 (by omega) (by omega)).mono ?_
              rintro e' w' ⟨rfl, rfl⟩
              refine hK _ _ (fun z => z.cell? ⟨V, 7, none⟩ = some (.int .u32 hh) ∧ z.cell? ⟨V, 5, none⟩ = some (.int .u32 f) ∧ z.cell? ⟨V, 6, none⟩ = some (.int .u32 g) ∧ z.cell? ⟨T, k, none⟩ = some (.int .u32 tk) ∧ z.cell? ⟨w.heap.size + 1 + 1 + 1, k, none⟩ = some (.int .u32 wk)) ⟨c7, c5, c6, qt, qi⟩ (fun _ h => h) ?_
              clear hK
              repeat (first
                | (refine wpS_skip (by rfl) ?_; simp only [Act.put, List.setIfInBounds_toArray, List.set_cons_zero, List.set_cons_succ])
                | (refine wpS_q ?_ (by rfl) ?_ ?_; rotate_left; (focus (intro z hz; (try dsimp only at hz); go_simp; rfl)); simp only [Act.put, List.setIfInBounds_toArray, List.set_cons_zero, List.set_cons_succ]))
              refine wpS_nil ?_
              go_wp2_with fail
              refine wp_region_plan [(0, true), (2, true), (5, true), (8, true), (9, true), (10, true), (11, true), (12, true), (13, true), (14, true), (15, true), (16, true), (17, true), (18, true), (19, true), (20, true), (21, true), (22, true), (1, false), (3, false), (4, true), (6, false), (7, true), (23, true), (24, true)]
                (fun z => z.cell? ⟨V, 1, none⟩ = some (.int .u32 b) ∧ z.cell? ⟨V, 2, none⟩ = some (.int .u32 c)) (by kernel_rfl) (by kernel_rfl) (by kernel_rfl) (by kernel_rfl) (fun _ _ d _ _ h => by cases d <;> exact h) ⟨c1, c2⟩ ?_
              simp only [planOps, List.getElem?_toArray, List.getElem?_cons_zero, List.getElem?_cons_succ]
              repeat (first
                | (refine wpS_skip (by rfl) ?_; simp only [Act.put, List.setIfInBounds_toArray, List.set_cons_zero, List.set_cons_succ])
                | (refine wpS_q ?_ (by rfl) ?_ ?_; rotate_left; (focus (intro z hz; (try dsimp only at hz); go_simp; rfl)); simp only [Act.put, List.setIfInBounds_toArray, List.set_cons_zero, List.set_cons_succ]))
              refine wpS_l (by rfl) (fun Kq hK => ?_)
              go_wp2_with fail
              refine (rot_any _ a 2 (by omega) (by omega)).mono ?_
              rintro e' w' ⟨rfl, rfl⟩
              refine hK _ _ (fun z => z.cell? ⟨V, 1, none⟩ = some (.int .u32 b) ∧ z.cell? ⟨V, 2, none⟩ = some (.int .u32 c)) ⟨c1, c2⟩ (fun _ h => h) ?_
              clear hK
              repeat (first
                | (refine wpS_skip (by rfl) ?_; simp only [Act.put, List.setIfInBounds_toArray, List.set_cons_zero, List.set_cons_succ])
                | (refine wpS_q ?_ (by rfl) ?_ ?_; rotate_left; (focus (intro z hz; (try dsimp only at hz); go_simp; rfl)); simp only [Act.put, List.setIfInBounds_toArray, List.set_cons_zero, List.set_cons_succ]))
              refine wpS_l (by rfl) (fun Kq hK => ?_)
              go_wp2_with fail
              refine (rot_any _ a 13 (by omega) (by omega)).mono ?_
              rintro e' w' ⟨rfl, rfl⟩
              refine hK _ _ (fun z => z.cell? ⟨V, 1, none⟩ = some (.int .u32 b) ∧ z.cell? ⟨V, 2, none⟩ = some (.int .u32 c)) ⟨c1, c2⟩ (fun _ h => h) ?_
              clear hK
              repeat (first
                | (refine wpS_skip (by rfl) ?_; simp only [Act.put, List.setIfInBounds_toArray, List.set_cons_zero, List.set_cons_succ])
                | (refine wpS_q ?_ (by rfl) ?_ ?_; rotate_left; (focus (intro z hz; (try dsimp only at hz); go_simp; rfl)); simp only [Act.put, List.setIfInBounds_toArray, List.set_cons_zero, List.set_cons_succ]))
              refine wpS_l (by rfl) (fun Kq hK => ?_)
              go_wp2_with fail
              refine (rot_any _ a 22 (by omega) (by omega)).mono ?_
              rintro e' w' ⟨rfl, rfl⟩
              refine hK _ _ (fun z => z.cell? ⟨V, 1, none⟩ = some (.int .u32 b) ∧ z.cell? ⟨V, 2, none⟩ = some (.int .u32 c)) ⟨c1, c2⟩ (fun _ h => h) ?_
              clear hK
              repeat (first
                | (refine wpS_skip (by rfl) ?_; simp only [Act.put, List.setIfInBounds_toArray, List.set_cons_zero, List.set_cons_succ])
                | (refine wpS_q ?_ (by rfl) ?_ ?_; rotate_left; (focus (intro z hz; (try dsimp only at hz); go_simp; rfl)); simp only [Act.put, List.setIfInBounds_toArray, List.set_cons_zero, List.set_cons_succ]))
              have hV5 : Blk wr.drew.drew V 23 (u32s (outF ⟨a, b, c, d, e, f, g, hh⟩)).toArray := hV4
              refine wpS_nil ?_
              repeat (first
                | ((with_reducible refine wpl_build (u32s (outF (rnd ⟨a, b, c, d, e, f, g, hh⟩ tk wk))).toArray ?_ ?_); (focus kernel_rfl); simp only [Act.put, List.setIfInBounds_toArray, List.set_cons_zero, List.set_cons_succ])
                | ((with_reducible refine wpl_store V _ _ (u32s (outF (rnd ⟨a, b, c, d, e, f, g, hh⟩ tk wk))).toArray i8x32 hV5 ((u32s_size _).trans (outF_length _)) ((u32s_size _).trans (outF_length _)) (u32s_one _) ?_ ?_ ?_); (focus rfl); (focus rfl))
                | go_values | go_skip | go_guarded | go_step | go_upon | go_back | (simp only [Int.not_lt] at *; go_simp))
              have hN : rnds tb L (s8 sl) (k + 1) = rnd ⟨a, b, c, d, e, f, g, hh⟩ tk wk := by rw [rnds, HR8.out, HTK.out, HW.out]
              exact ⟨⟨k + 1, by omega, by go_num, by rw [hN]; exact hV5.setRow _, hg4.trans (World.grownBy.trans (b := wr.drew.drew) ⟨rfl, rfl, rfl, Nat.le_refl _, fun _ _ _ => rfl⟩ (grownBy_setRow _ _ _))⟩, by simp [intOf]; omega⟩
            · obtain ⟨F, hF⟩ : ∃ F, outF R = F := ⟨_, rfl⟩
              rw [hF] at hV4
              have hFl : F.length = 8 := hF ▸ rfl
              have HF := Lib.hid hF
              clear hF
              have g2 : ¬ (k : Int) < 64 := by omega
              have hS4 := hS3.grown hg4 (by intro h; injection h with h; omega)
              have hR4 := hR3.grown hg4 (by intro h; injection h with h; omega)
              have hb4 : Below w.heap.size w wr := hbz.grown hg4 hbz.size (fun q hq => by cases hq; exact hVb)
              go_wp2_with fail
              go_loopw [17] (fun i wq => ∃ k : Nat, k ≤ 8 ∧ i = .int .i64 k ∧ Blk wq V 23 (u32s (adds F sl k)).toArray ∧ wr.grownBy wq (some V)) (fun i _ => 8 - (intOf i).toNat)
              case atStart => exact ⟨0, by omega, rfl, hV4, World.grownBy.refl _ _⟩
              case round =>
                obtain ⟨j, hj, rfl, hV6, hg6⟩ := hrel
                have hal := adds_length F sl j
                rw [hFl] at hal
                have hS6 := hS4.grown hg6 (by intro h; injection h with h; omega)
                by_cases hj8 : j < 8
                · have c1 := u32s_at hV6 (i := j) (by omega)
                  have c2 := u32s_at hS6 (i := j) (by omega)
                  have f1 := hV6.frozen j
                  have h5 := hV6.set_ j (.int .u32 (((adds F sl j).getD j 0 + sl.getD j 0) % 4294967296))
                  rw [u32s_set] at h5
                  have H5 : Hid (Blk _ V 23 (u32s (adds F sl (j + 1))).toArray) := Lib.hid h5
                  clear h5
                  generalize (adds F sl j).getD j 0 = y at *
                  generalize sl.getD j 0 = x at *
                  have g1 : (0 : Int) ≤ (j : Int) := by omega
                  have g3 : (j : Int) < 8 := by omega
                  go_wp2_with fail
                  have hk1 := fun (v : Value) => cell_kept' (w := wr) (g := V) (i := j) (v := v) (b := w.heap.size) (j := j) hVS
                  refine wp_region_plan [(0, true), (1, true), (2, true), (4, true), (5, true), (6, true), (3, false), (7, true), (8, true), (9, false)]
                    (fun z => z.cell? ⟨w.heap.size, j, none⟩ = some (.int .u32 x)) (by kernel_rfl) (by kernel_rfl) (by kernel_rfl) (by kernel_rfl) (fun _ _ d _ _ h => by cases d <;> exact h) c2 ?_
                  simp only [planOps, List.getElem?_toArray, List.getElem?_cons_zero, List.getElem?_cons_succ]
                  repeat (first
                    | (refine wpS_skip (by rfl) ?_; simp only [Act.put, List.setIfInBounds_toArray, List.set_cons_zero, List.set_cons_succ])
                    | (refine wpS_q ?_ (by rfl) ?_ ?_; rotate_left; (focus (intro z hz; (try dsimp only at hz); go_simp; rfl)); simp only [Act.put, List.setIfInBounds_toArray, List.set_cons_zero, List.set_cons_succ]))
                  refine wpS_l (by rfl) (fun Kq hK => ?_)
                  go_wp2_with fail
                  refine hK _ _ (fun z => z.cell? ⟨w.heap.size, j, none⟩ = some (.int .u32 x)) c2 (fun _ h => h) ?_
                  clear hK
                  repeat (first
                    | (refine wpS_skip (by rfl) ?_; simp only [Act.put, List.setIfInBounds_toArray, List.set_cons_zero, List.set_cons_succ])
                    | (refine wpS_q ?_ (by rfl) ?_ ?_; rotate_left; (focus (intro z hz; (try dsimp only at hz); go_simp; rfl)); simp only [Act.put, List.setIfInBounds_toArray, List.set_cons_zero, List.set_cons_succ]))
                  refine wpS_l (by rfl) (fun Kq hK => ?_)
                  go_wp2_with fail
                  refine hK _ _ (fun z => z.cell? ⟨w.heap.size, j, none⟩ = some (.int .u32 x)) ((hk1 _).trans c2) (fun _ h => h) ?_
                  clear hK
                  refine wpS_nil ?_
                  go_wp2_with fail
                  exact ⟨⟨j + 1, by omega, by go_num, H5.out, hg6.trans (World.grownBy.trans (b := wr.drew) ⟨rfl, rfl, rfl, Nat.le_refl _, fun _ _ _ => rfl⟩ (grownBy_set _ V j _))⟩, by simp [intOf]; omega⟩
                · obtain ⟨G, hG⟩ : ∃ G, adds F sl j = G := ⟨_, rfl⟩
                  rw [hG] at hV6 hal
                  have HG := Lib.hid hG
                  clear hG
                  have g3 : ¬ (j : Int) < 8 := by omega
                  have hR6 := hR4.grown hg6 (by intro h; injection h with h; omega)
                  have hb6 : Below w.heap.size w _ := hb4.grown hg6 hb4.size (fun q hq => by cases hq; exact hVb)
                  repeat (first
                    | ((with_reducible refine wpl_load V _ _ Tryd.underlying23 i8x32 hV6 ((u32s_size _).trans hal) ?_ ?_); (focus rfl); simp only [Act.put, List.setIfInBounds_toArray, List.set_cons_zero, List.set_cons_succ])
                    | ((with_reducible refine wpl_store (w.heap.size + 1 + 1) _ _ _ i8x32 hR6 (by rw [u32s_size, List.length_replicate]) ((u32s_size _).trans hal) (u32s_one _) ?_ ?_ ?_); (focus rfl); (focus rfl))
                    | go_values | go_skip | go_guarded | go_step | go_upon | go_back | (simp only [Int.not_lt] at *; go_simp))
                  have hj8' : j = 8 := by omega
                  have hGt : G = tt := by
                    have := HN.out
                    have h64 : k = kn := by omega
                    rw [← HT.out, ← HG.out, hj8', blockF, HL.out, adds_comm8 hFl hs8, ← HF.out, ← hR8, h64]
                  refine bodyPost_ret (results_cell_row rfl _ _ (w.heap.size + 1 + 1) _ _ (0, 0) _ rfl (hR6.setRow _) Tryd.underlying23 rfl (by rw [u32s_size, hal]; exact i8x32)) rfl ?_
                  exact ⟨by rw [hGt], hb6.grown (grownBy_setRow _ _ _) hb6.size (fun q hq => by cases hq; omega)⟩
end Go.Proofs.YtohfgplaocgadaaDoor
