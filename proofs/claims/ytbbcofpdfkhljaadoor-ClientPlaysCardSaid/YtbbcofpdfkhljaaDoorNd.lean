/- message: a request's bytes, by the program. -/
import Derived.Test.YtbbcofpdfkhljaaDoorNc
namespace Go.Proofs.YtbbcofpdfkhljaaDoor
open Go.RowKit Go.Rat
set_option maxRecDepth 20000 in
set_option maxHeartbeats 4000000 in
theorem request_any (w : World) (r : RqV) (ha : r.asked) :
    Calls Tryd.prog 37 #[.slice none 0 0, .agg r.c.toArray] w fun e w' => ∃ A N c, e = .returned (.slice A N c) ∧ OB 5 w' w.heap.size A N c r.bytes ∧ Below w.heap.size w w' := by
  have hX := Blk.new w 44 r.c.toArray
  have hb := below_alloc w (.cells r.c.toArray 44)
  obtain ⟨a1, a2, a3, a4, a5, a6, a7, a8⟩ := ha
  have hhl := head_length r
  have hbd : r.bytes = r.head ++ textB r.op.key ++ textB r.op.val ++ textB r.op.old ++ textB r.op.tow := rfl
  have hhd : r.head = [UInt8.ofNat r.cl.toNat, r.op.kind] ++ be 8 r.tm ++ be 8 r.op.amt.toNat := rfl
  obtain ⟨L, hL⟩ : ∃ L, r.c.toArray = L := ⟨_, rfl⟩
  obtain ⟨c0, c1, c2, c3, c4, c5, c6, c7⟩ := rq_cells hX
  have hc2 := fun (z : World) (g : Nat) (h : Blk z g 44 r.c.toArray) => rq_cells h
  rw [hL] at hX hb c0 c1 c2 c3 c4 c5 c6 c7 ⊢
  simp only [hL] at hc2
  obtain ⟨B, hB⟩ : ∃ B, r.bytes = B := ⟨_, rfl⟩
  obtain ⟨HH, hH⟩ : ∃ B, r.head = B := ⟨_, rfl⟩
  rw [hB, hH] at hbd
  rw [hH] at hhd hhl
  rw [hB]
  have HBD := Lib.hid hbd
  have HHD := Lib.hid hhd
  clear hbd hhd hB hH hL
  obtain ⟨cl, tm, ⟨kind, key, val, old, tow, amt⟩, tag⟩ := r
  simp only at a1 a2 a3 a4 a5 a6 a7 a8 c0 c1 c2 c3 c4 c5 c6 c7 HBD HHD hc2
  obtain ⟨c8, hc8⟩ : ∃ c : UInt8, UInt8.ofNat cl.toNat = c := ⟨_, rfl⟩
  have hcl : cl = (c8.toNat : Int) := by rw [← hc8, UInt8.toNat_ofNat']; omega
  rw [hc8] at HHD
  clear hc8
  subst hcl
  have HC1 := Lib.hid hc2
  clear hc2
  have hw8 := wrap8 c8
  obtain ⟨w1, hw1⟩ : ∃ x, w.alloc (.cells L 44) = x := ⟨_, rfl⟩
  rw [hw1] at hX hb c0 c1 c2 c3 c4 c5 c6 c7
  go_enter Tryd.func37, Tryd.ntmps37
  go_upto_region 1 with (fail)
  try rw [hw1]
  obtain ⟨gx, hgx⟩ : ∃ x, w.heap.size = x := ⟨_, rfl⟩
  rw [hgx] at hX c0 c1 c2 c3 c4 c5 c6 c7 ⊢
  have HGX := Lib.hid hgx
  clear hw1 hgx
  have hs1 := hX.lt
  have HC2 : Hid (∀ z, Blk z gx 44 L → _) := Lib.hid (fun z h => HC1.out z gx h)
  have HC : Hid (∀ z, Blk z gx 44 L → z.cell? ⟨gx, 1, none⟩ = some (.int .u64 (tm : Int)) ∧ z.cell? ⟨gx, 7, none⟩ = some (.int .u64 (amt.toNat : Int))) := Lib.hid (fun z h => ⟨(HC1.out z gx h).2.1, (HC1.out z gx h).2.2.2.2.2.2.2⟩)
  have hs0 := hb.size
  have hz : RB (w1.alloc (.cells #[.int .u8 (c8.toNat : Int), .int .u8 (kind.toNat : Int)] 5)) (some ⟨w1.heap.size, 0, none⟩) 2 [c8, kind] := H.rb_lit w1 5 (0, 0) [c8, kind]
  go_wp2_with (at_builtin; refine app_bytes rfl _ _ rfl w.heap.size _ _ _ [] rfl (OB.nil_ _ _ _) _ _ _ [c8, kind] rfl hz (by omega) (by simp; omega) ?_; intro A2 N2 c2' w2 hc2 hc2' hO2 hG2; refine Hid.out ?_)
  refine Lib.hid ?_
  have hb2 : Below w.heap.size w w2 := hG2.own (below_next' hb (below_alloc w1 _)) (Nat.le_refl _) (OB.nil_ _ 5 _)
  have hX2 := hX.below (hG2.own (below_alloc w1 _) (Nat.le_refl _) (OB.nil_ _ 5 _)) hs1
  rw [List.nil_append] at hO2
  obtain rfl : N2 = 2 := hO2.len.symm
  clear hG2 hz hX hb hs0 c0 c2
  go_wp2_with fail
  have S1 : ∀ z, Blk z gx 44 L → z.cell? ⟨gx, 1, none⟩ = some (.int .u64 (tm : Int)) ∧ z.cell? ⟨gx, 7, none⟩ = some (.int .u64 (amt.toNat : Int)) := HC.out
  refine wp_region_plan [(0, true), (1, true), (2, true), (4, true), (5, true), (6, true), (3, false), (7, false), (8, true)] (fun z => z.cell? ⟨gx, 1, none⟩ = some (.int .u64 (tm : Int)) ∧ z.cell? ⟨gx, 7, none⟩ = some (.int .u64 (amt.toNat : Int))) (by kernel_rfl) (by kernel_rfl) (by kernel_rfl) (by kernel_rfl) (fun _ _ d _ _ h => by cases d <;> exact h) (S1 _ hX2) ?_
  simp only [planOps, List.getElem?_toArray, List.getElem?_cons_zero, List.getElem?_cons_succ]
  iterate 6 (refine wpS_q ?_ (by rfl) ?_ ?_; rotate_left; (focus (intro z hz; (try dsimp only at hz); go_simp; rfl)); simp only [Act.put, List.setIfInBounds_toArray, List.set_cons_zero, List.set_cons_succ])
  refine wpS_l (by rfl) (fun K hK => ?_)
  go_wp2_with fail
  refine (word_any w2.drew A2 2 c2' [c8, kind] tm (OB.reads (OB.below hO2 drew_below)) (by omega) (by omega)).mono ?_
  rintro e w3 ⟨A3, N3, c3', rfl, hO3, hb3⟩
  have hb3' : Below w2.heap.size w2 w3 := drew_below.trans hb3
  have hX3 := hX2.below hb3' hX2.lt
  refine hK _ _ _ (S1 _ hX3) (fun _ h => h) ?_
  clear hK
  refine wpS_l (by rfl) (fun K hK => ?_)
  have hN3 := hO3.len
  simp only [List.length_append, be_length, List.length_cons, List.length_nil] at hN3
  have ham := amt.toNat_lt
  go_wp2_with fail
  refine (word_any w3 A3 N3 c3' _ amt.toNat (OB.reads hO3) (by omega) (by omega)).mono ?_
  rintro e w4 ⟨A4, N4, c4', rfl, hO4, hb4⟩
  have hX4 := hX3.below hb4 hX3.lt
  refine hK _ _ _ (S1 _ hX4) (fun _ h => h) ?_
  clear hK
  have hb4 : Below w.heap.size w w4 := below_next' hb2 (below_next' hb3' hb4)
  have hO4 := OB.mono hO4 (show w.heap.size ≤ w3.heap.size by have := hb2.size; have := hb3'.size; omega)
  have hN4 := hO4.len
  rw [show [c8, kind] ++ be 8 tm ++ be 8 amt.toNat = HH from HHD.out.symm] at hO4 hN4
  rw [hhl] at hN4
  subst hN4
  clear hb2 hX2 hO2 hb3 hb3' hX3 hO3 hN3 S1
  iterate 1 (refine wpS_q ?_ (by rfl) ?_ ?_; rotate_left; (focus (intro z hz; (try dsimp only at hz); go_simp; rfl)); simp only [Act.put, List.setIfInBounds_toArray, List.set_cons_zero])
  refine wpS_nil ?_
  obtain ⟨d0, d1, d2, d3, d4, d5, d6, d7⟩ := HC2.out _ hX4
  go_upto_block 0 with (fail)
  have hY := Blk.new w4 9 #[.string key, .string val, .string old, .string tow]
  have hb5 := below_alloc w4 (.cells #[.string key, .string val, .string old, .string tow] 9)
  obtain ⟨w5, hw5⟩ : ∃ x, w4.alloc (.cells #[.string key, .string val, .string old, .string tow] 9) = x := ⟨_, rfl⟩
  rw [hw5] at hY hb5
  try rw [hw5]
  have hO5 := OB.below hO4 hb5
  have hb5 := below_next' hb4 hb5
  obtain ⟨gy, hgy⟩ : ∃ x, w4.heap.size = x := ⟨_, rfl⟩
  rw [hgy] at hY ⊢
  have HW : Hid (w.heap.size ≤ gy) := Lib.hid (by rw [← hgy]; exact hb4.size)
  clear hw5 hgy hX4 hO4 hb4 d0 d1 d2 d3 d4 d5 d6 d7 HC HC1 HC2 hw8 hs1
  have hhl' : (HH ++ ([key, val, old, tow].take 0).flatMap textB) = HH := by simp
  go_cut [0] (fun b wx => ∃ A N c, b = .slice A N c ∧ OB 5 wx w.heap.size A N c B ∧ Below w.heap.size w wx)
  case first =>
    go_wp2_with fail
    go_loopw [0, 6, 38] (fun b s i wr => ∃ (k : Nat) (A : Option Addr) (N c : Nat), k ≤ 4 ∧ i = .int .i64 (k : Int) ∧ b = .slice A N c ∧ OB 5 wr w.heap.size A N c (HH ++ ([key, val, old, tow].take k).flatMap textB) ∧ N ≤ 18 + 200 * k ∧ Below w.heap.size w wr ∧ Blk wr gy 9 #[.string key, .string val, .string old, .string tow]) (fun _ _ i _ => 4 - (intOf i).toNat)
    case atStart => exact ⟨0, A4, 18, c4', by omega, rfl, rfl, by rw [hhl']; exact hO5, by omega, hb5, hY⟩
    case round =>
      obtain ⟨k, A, N, c, hk, rfl, rfl, hO, hN, hbr, hYr⟩ := hrel
      by_cases hk4 : k < 4
      · obtain ⟨sk, hsk, hcell, hsz⟩ : ∃ sk, ([key, val, old, tow] : List ByteArray)[k]? = some sk ∧ wr.cell? ⟨gy, k, none⟩ = some (.string sk) ∧ sk.size ≤ 128 := by
          obtain rfl | rfl | rfl | rfl : k = 0 ∨ k = 1 ∨ k = 2 ∨ k = 3 := by omega
          · exact ⟨key, rfl, hYr.cell 0, by omega⟩
          · exact ⟨val, rfl, hYr.cell 1, by omega⟩
          · exact ⟨old, rfl, hYr.cell 2, by omega⟩
          · exact ⟨tow, rfl, hYr.cell 3, by omega⟩
        have hnx : HH ++ ([key, val, old, tow].take (k + 1)).flatMap textB = (HH ++ ([key, val, old, tow].take k).flatMap textB) ++ textB sk := by
          rw [List.take_add_one, hsk, List.flatMap_append, List.append_assoc]
          simp
        have HNX := Lib.hid hnx
        clear hnx hsk
        obtain ⟨xs, hxs⟩ : ∃ xs, HH ++ ([key, val, old, tow].take k).flatMap textB = xs := ⟨_, rfl⟩
        rw [hxs] at hO HNX
        clear hxs
        have g1 : (k : Int) < 4 := by omega
        have g2 : (0 : Int) ≤ (k : Int) := by omega
        go_wp2_with fail
        refine (text_any wr A N c xs sk (OB.reads hO) (by omega) (by omega)).mono ?_
        rintro e w6 ⟨A6, N6, c6', rfl, hO6, hb6⟩
        have hN6 := hO6.len
        have hNx := hO.len
        rw [List.length_append, textB_length, hNx] at hN6
        have hO6 := OB.mono hO6 hbr.size
        have hY6 := hYr.below hb6 hYr.lt
        have hb6 := below_next' hbr hb6
        clear hO hbr hYr hcell
        simp only []
        go_wp2_with fail
        rw [← HNX.out] at hO6
        exact ⟨⟨k + 1, A6, N6, c6', by omega, congrArg (Value.int .i64) (by omega), rfl, hO6, by omega, hb6, hY6⟩, by simp only [intOf]; omega⟩
      · obtain rfl : k = 4 := by omega
        have hfull : HH ++ ([key, val, old, tow].take 4).flatMap textB = B := by
          rw [HBD.out]
          simp
        rw [hfull] at hO
        have g1 : ¬ ((4 : Nat) : Int) < 4 := by omega
        go_wp2_with fail
        go_meet
        exact ⟨A, N, c, rfl, hO, hbr⟩
  case rest =>
    obtain ⟨A, N, c, rfl, hO, hbr⟩ := hcut
    go_wp2_with fail
    go_ret
    first | exact ⟨A, N, c, rfl, hO, hbr⟩ | exact ⟨hO, hbr⟩
end Go.Proofs.YtbbcofpdfkhljaaDoor
