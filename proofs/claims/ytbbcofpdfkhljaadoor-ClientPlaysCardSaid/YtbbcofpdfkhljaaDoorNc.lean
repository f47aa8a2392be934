/- message: a request's bytes. -/
import Derived.Test.YtbbcofpdfkhljaaDoorNb
import Derived.Test.YtbbcofpdfkhljaaDoorNt
import Derived.Test.YtbbcofpdfkhljaaDoorNh
namespace Go.Proofs.YtbbcofpdfkhljaaDoor
open Go.RowKit Go.Rat
/-- What a request says, as bytes: its head, its texts. -/
def RqV.head (r : RqV) : List UInt8 := [UInt8.ofNat r.cl.toNat, r.op.kind] ++ be 8 r.tm ++ be 8 r.op.amt.toNat
def RqV.bytes (r : RqV) : List UInt8 := r.head ++ textB r.op.key ++ textB r.op.val ++ textB r.op.old ++ textB r.op.tow
def RqV.upto (r : RqV) (k : Nat) : List UInt8 := r.head ++ (([r.op.key, r.op.val, r.op.old, r.op.tow] : List ByteArray).take k).flatMap textB
theorem upto_four (r : RqV) : r.upto 4 = r.bytes := by simp [RqV.upto, RqV.bytes]
theorem textB_length (s : ByteArray) : (textB s).length = 2 + s.size := by rw [textB, List.length_append, be_length]; rfl
theorem head_length (r : RqV) : r.head.length = 18 := by simp [RqV.head, be_length]
theorem wrap8 (x : UInt8) : IntKind.u8.wrap (x.toNat : Int) = (x.toNat : Int) := by
  have := x.toNat_lt
  simp [IntKind.wrap, IntKind.bits, IntKind.signed]
  omega
set_option maxRecDepth 20000 in
set_option maxHeartbeats 4000000 in
theorem rrequest_any (w : World) (r : RqV) (ha : r.asked) :
    Calls Tryd.prog 34 #[.slice none 0 0, .agg r.c.toArray] w fun e w' => ∃ A N c, e = .returned (.slice A N c) ∧ OB 5 w' w.heap.size A N c r.bytes ∧ Below w.heap.size w w' := by
  have hX := Blk.new w 44 r.c.toArray
  have hb := below_alloc w (.cells r.c.toArray 44)
  obtain ⟨a1, a2, a3, a4, a5, a6, a7, a8⟩ := ha
  have hhl := head_length r
  have hbd : r.bytes = r.head ++ textB r.op.key ++ textB r.op.val ++ textB r.op.old ++ textB r.op.tow := rfl
  have hhd : r.head = [UInt8.ofNat r.cl.toNat, r.op.kind] ++ be 8 r.tm ++ be 8 r.op.amt.toNat := rfl
  obtain ⟨L, hL⟩ : ∃ L, r.c.toArray = L := ⟨_, rfl⟩
  obtain ⟨c0, c1, c2, c3, c4, c5, c6, c7⟩ := rq_cells hX
  have hc2 := fun (z : World) (g : Nat) (h : Blk z g 44 r.c.toArray) => rq_cells h
  rw [hL] at hX hb c0 c1 c2 c3 c4 c5 c6 c7 ⊢
  simp only [hL] at hc2
  obtain ⟨B, hB⟩ : ∃ B, r.bytes = B := ⟨_, rfl⟩
  obtain ⟨HH, hH⟩ : ∃ B, r.head = B := ⟨_, rfl⟩
  rw [hB, hH] at hbd
  rw [hH] at hhd hhl
  rw [hB]
  have HBD := Lib.hid hbd
  have HHD := Lib.hid hhd
  clear hbd hhd hB hH hL
  obtain ⟨cl, tm, ⟨kind, key, val, old, tow, amt⟩, tag⟩ := r
  simp only at a1 a2 a3 a4 a5 a6 a7 a8 c0 c1 c2 c3 c4 c5 c6 c7 HBD HHD hc2
  obtain ⟨c8, hc8⟩ : ∃ c : UInt8, UInt8.ofNat cl.toNat = c := ⟨_, rfl⟩
  have hcl : cl = (c8.toNat : Int) := by rw [← hc8, UInt8.toNat_ofNat']; omega
  rw [hc8] at HHD
  clear hc8
  subst hcl
  have HC1 := Lib.hid hc2
  clear hc2
  have hw8 := wrap8 c8
  obtain ⟨w1, hw1⟩ : ∃ x, w.alloc (.cells L 44) = x := ⟨_, rfl⟩
  rw [hw1] at hX hb c0 c1 c2 c3 c4 c5 c6 c7
  go_enter Tryd.func34, Tryd.ntmps34
  go_upto_region 1 with (fail)
  try rw [hw1]
  obtain ⟨gx, hgx⟩ : ∃ x, w.heap.size = x := ⟨_, rfl⟩
  rw [hgx] at hX c0 c1 c2 c3 c4 c5 c6 c7 ⊢
  have HGX := Lib.hid hgx
  clear hw1 hgx
  have hs1 := hX.lt
  have HC2 : Hid (∀ z, Blk z gx 44 L → _) := Lib.hid (fun z h => HC1.out z gx h)
  have HC : Hid (∀ z, Blk z gx 44 L → z.cell? ⟨gx, 1, none⟩ = some (.int .u64 (tm : Int)) ∧ z.cell? ⟨gx, 7, none⟩ = some (.int .u64 (amt.toNat : Int))) := Lib.hid (fun z h => ⟨(HC1.out z gx h).2.1, (HC1.out z gx h).2.2.2.2.2.2.2⟩)
  have hs0 := hb.size
  have hz : RB (w1.alloc (.cells #[.int .u8 (c8.toNat : Int), .int .u8 (kind.toNat : Int)] 5)) (some ⟨w1.heap.size, 0, none⟩) 2 [c8, kind] := H.rb_lit w1 5 (0, 0) [c8, kind]
  go_wp2_with (at_builtin; refine app_bytes rfl _ _ rfl w.heap.size _ _ _ [] rfl (OB.nil_ _ _ _) _ _ _ [c8, kind] rfl hz (by omega) (by simp; omega) ?_; intro A2 N2 c2' w2 hc2 hc2' hO2 hG2; refine Hid.out ?_)
  refine Lib.hid ?_
  have hb2 : Below w.heap.size w w2 := hG2.own (below_next' hb (below_alloc w1 _)) (Nat.le_refl _) (OB.nil_ _ 5 _)
  have hX2 := hX.below (hG2.own (below_alloc w1 _) (Nat.le_refl _) (OB.nil_ _ 5 _)) hs1
  rw [List.nil_append] at hO2
  obtain rfl : N2 = 2 := hO2.len.symm
  clear hG2 hz hX hb hs0 c0 c2
  go_wp2_with fail
  have S1 : ∀ z, Blk z gx 44 L → z.cell? ⟨gx, 1, none⟩ = some (.int .u64 (tm : Int)) ∧ z.cell? ⟨gx, 7, none⟩ = some (.int .u64 (amt.toNat : Int)) := HC.out
  refine wp_region_plan [(0, true), (1, true), (2, true), (4, true), (5, true), (6, true), (3, false), (7, false), (8, true)] (fun z => z.cell? ⟨gx, 1, none⟩ = some (.int .u64 (tm : Int)) ∧ z.cell? ⟨gx, 7, none⟩ = some (.int .u64 (amt.toNat : Int))) (by kernel_rfl) (by kernel_rfl) (by kernel_rfl) (by kernel_rfl) (fun _ _ d _ _ h => by cases d <;> exact h) (S1 _ hX2) ?_
  simp only [planOps, List.getElem?_toArray, List.getElem?_cons_zero, List.getElem?_cons_succ]
  iterate 6 (refine wpS_q ?_ (by rfl) ?_ ?_; rotate_left; (focus (intro z hz; (try dsimp only at hz); go_simp; rfl)); simp only [Act.put, List.setIfInBounds_toArray, List.set_cons_zero, List.set_cons_succ])
  refine wpS_l (by rfl) (fun K hK => ?_)
  go_wp2_with fail
  refine (rword_any w2.drew A2 2 c2' [c8, kind] tm (OB.reads (OB.below hO2 drew_below)) (by omega) (by omega)).mono ?_
  rintro e w3 ⟨A3, N3, c3', rfl, hO3, hb3⟩
  have hb3' : Below w2.heap.size w2 w3 := drew_below.trans hb3
  have hX3 := hX2.below hb3' hX2.lt
  refine hK _ _ _ (S1 _ hX3) (fun _ h => h) ?_
  clear hK
  refine wpS_l (by rfl) (fun K hK => ?_)
  have hN3 := hO3.len
  simp only [List.length_append, be_length, List.length_cons, List.length_nil] at hN3
  have ham := amt.toNat_lt
  go_wp2_with fail
  refine (rword_any w3 A3 N3 c3' _ amt.toNat (OB.reads hO3) (by omega) (by omega)).mono ?_
  rintro e w4 ⟨A4, N4, c4', rfl, hO4, hb4⟩
  have hX4 := hX3.below hb4 hX3.lt
  refine hK _ _ _ (S1 _ hX4) (fun _ h => h) ?_
  clear hK
  have hb4 : Below w.heap.size w w4 := below_next' hb2 (below_next' hb3' hb4)
  have hO4 := OB.mono hO4 (show w.heap.size ≤ w3.heap.size by have := hb2.size; have := hb3'.size; omega)
  have hN4 := hO4.len
  rw [show [c8, kind] ++ be 8 tm ++ be 8 amt.toNat = HH from HHD.out.symm] at hO4 hN4
  rw [hhl] at hN4
  subst hN4
  clear hb2 hX2 hO2 hb3 hb3' hX3 hO3 hN3 S1
  iterate 1 (refine wpS_q ?_ (by rfl) ?_ ?_; rotate_left; (focus (intro z hz; (try dsimp only at hz); go_simp; rfl)); simp only [Act.put, List.setIfInBounds_toArray, List.set_cons_zero])
  refine wpS_nil ?_
  obtain ⟨d0, d1, d2, d3, d4, d5, d6, d7⟩ := HC2.out _ hX4
  go_wp2_with fail
  refine (rtext_any w4 A4 18 c4' _ key (OB.reads hO4) (by omega) (by omega)).mono ?_
  rintro e w5 ⟨A5, N5, c5', rfl, hO5, hb5⟩
  have hX5 := hX4.below hb5 hX4.lt
  have hO5 := OB.mono hO5 hb4.size
  have hb5 := below_next' hb4 hb5
  have hN5 := hO5.len
  simp only [List.length_append, textB_length, hhl] at hN5
  clear hX4 hO4 hb4 d0 d1 d2 d3 d4 d5 d6 d7
  simp only []
  obtain ⟨d0, d1, d2, d3, d4, d5, d6, d7⟩ := HC2.out _ hX5
  go_wp2_with fail
  refine (rtext_any w5 A5 N5 c5' _ val (OB.reads hO5) (by omega) (by omega)).mono ?_
  rintro e w6 ⟨A6, N6, c6', rfl, hO6, hb6⟩
  have hX6 := hX5.below hb6 hX5.lt
  have hO6 := OB.mono hO6 hb5.size
  have hb6 := below_next' hb5 hb6
  have hN6 := hO6.len
  simp only [List.length_append, textB_length, hhl] at hN6
  clear hX5 hO5 hb5 d0 d1 d2 d3 d4 d5 d6 d7
  simp only []
  obtain ⟨d0, d1, d2, d3, d4, d5, d6, d7⟩ := HC2.out _ hX6
  go_wp2_with fail
  refine (rtext_any w6 A6 N6 c6' _ old (OB.reads hO6) (by omega) (by omega)).mono ?_
  rintro e w7 ⟨A7, N7, c7', rfl, hO7, hb7⟩
  have hX7 := hX6.below hb7 hX6.lt
  have hO7 := OB.mono hO7 hb6.size
  have hb7 := below_next' hb6 hb7
  have hN7 := hO7.len
  simp only [List.length_append, textB_length, hhl] at hN7
  clear hX6 hO6 hb6 d0 d1 d2 d3 d4 d5 d6 d7
  simp only []
  obtain ⟨d0, d1, d2, d3, d4, d5, d6, d7⟩ := HC2.out _ hX7
  go_wp2_with fail
  refine (rtext_any w7 A7 N7 c7' _ tow (OB.reads hO7) (by omega) (by omega)).mono ?_
  rintro e w8 ⟨A8, N8, c8', rfl, hO8, hb8⟩
  have hX8 := hX7.below hb8 hX7.lt
  have hO8 := OB.mono hO8 hb7.size
  have hb8 := below_next' hb7 hb8
  have hN8 := hO8.len
  simp only [List.length_append, textB_length, hhl] at hN8
  clear hX7 hO7 hb7 d0 d1 d2 d3 d4 d5 d6 d7
  simp only []
  go_wp2_with fail
  go_ret
  rw [← HBD.out] at hO8
  first | exact ⟨A8, N8, c8', rfl, hO8, hb8⟩ | exact ⟨hO8, hb8⟩
end Go.Proofs.YtbbcofpdfkhljaaDoor
