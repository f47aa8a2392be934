/- ratchetref03: Of. -/
import Derived.Test.YtohfgplaocgadaaDoorTk
namespace Go.Proofs.YtohfgplaocgadaaDoor
open Go.RowKit Go.Rat
theorem wp_appB {w : World} {o : Oper} {a : Act} {K : Act → World → Prop} {Q : Exit → Act → World → Prop} (s x : Operand)
    (ho : o.op = .call { callee := .builtin .append, args := #[s, x], argTypes := #[28, 28] })
    (base : Nat) (A : Option Addr) (n c : Nat) (xs : List UInt8) (hs : a.eval s = .slice A n c) (hown : OB 5 w base A n c xs)
    (A' : Option Addr) (m c' : Nat) (news : List UInt8) (hx : a.eval x = .slice A' m c') (hr : RB w A' m news) (hbytes : n + m ≤ 140737488355328) (hbase : base ≤ w.heap.size)
    (h : ∀ A2 N2 c2 w2, N2 ≤ c2 → c2 ≤ 9223372036854775807 → OB 5 w2 base A2 N2 c2 (xs ++ news) → Grew w w2 A A2 → K (a.put o.dst (.slice A2 N2 c2)) w2) :
    o.wp Tryd.prog a w K Q := by
  obtain ⟨i0, hi, hz0, hz1, hz2⟩ := info_parts u8info
  obtain ⟨A2, c2, w2, hrun, h2, h3, h4⟩ := run_append_reads (P := Tryd.prog) w base 28 o.type 5 i0 _ 1 1 Tryd.underlying28 hi hz0 hz1 hz2 rfl (by omega) A n c (bvs xs) hown w.heap.size A' m c' (bvs news) hr (bvs_one _) (by simp only [maxLen]; omega) (by omega) hbase
  unfold Oper.wp
  simp only [execOp, ho, resolve, invoke, builtin, Sem.run_bind, Sem.run_pure, Result.andThen_ok, List.map_toArray, List.map_cons, List.map_nil, hs, hx, hrun]
  exact h _ _ _ _ (own_cap h2).1 (own_cap h2).2 (by unfold OB; rw [bvs_append]; exact h2) ⟨h3, h4.imp id fun h => ⟨_, h, Nat.le_refl _, (h2.lt _ (by cases A2 <;> simp_all [Value.ownBlock])).2⟩⟩
set_option maxRecDepth 8000 in
set_option maxHeartbeats 4000000 in
theorem rof_any (n : Nat) (hn64 : n = 64) (w : World) (A : Option Addr) (m c : Nat) (key : List UInt8) (hr : RB w A m key) (hm : m < 109951162777) (A' : Option Addr) (m' c' : Nat) (b : List UInt8) (hr' : RB w A' m' b) (hm' : m' < 549755813888) (tb : List Int) (htb : tblL = tb) :
    Calls Tryd.prog 20 #[.slice A m c, .slice A' m' c'] w fun e w' => e = .returned (.agg (bvs (ofF n tb key b)).toArray) ∧ Below w.heap.size w w' := by
  have HN := Lib.hid hn64
  have HTB := Lib.hid htb
  clear hn64 htb
  have hl := hr.len
  have hl' := hr'.len
  have hol := ofF_length n tb key b
  have htl1 := turnF_length n tb key 54
  have htl2 := turnF_length n tb key 92
  have hdl1 := digest_length n tb (turnF n tb key 54 ++ b)
  obtain ⟨F, hF⟩ : ∃ F, ofF n tb key b = F := ⟨_, rfl⟩
  unfold ofF at hF
  obtain ⟨T1, hT1⟩ : ∃ T1, turnF n tb key 54 = T1 := ⟨_, rfl⟩
  obtain ⟨T2, hT2⟩ : ∃ T2, turnF n tb key 92 = T2 := ⟨_, rfl⟩
  rw [show ofF n tb key b = F from hF] at hol ⊢
  rw [hT1, hT2] at hF
  rw [hT1] at htl1 hdl1
  rw [hT2] at htl2
  obtain ⟨D1, hD1⟩ : ∃ D1, digest n tb (T1 ++ b) = D1 := ⟨_, rfl⟩
  rw [hD1] at hF hdl1
  have HF := Lib.hid hF
  have HT1 := Lib.hid hT1
  have HT2 := Lib.hid hT2
  have HD1 := Lib.hid hD1
  have hd1s : (bvs D1).toArray.size = 32 := by rw [bvs_size, hdl1]
  have hfs : (bvs F).toArray.size = 32 := by rw [bvs_size, hol]
  clear hF hT1 hT2 hD1
  go_enter Tryd.func20, Tryd.ntmps20
  have hZ := Blk.new w 29 (bvs (List.replicate 32 0)).toArray
  have hb1 := below_alloc w (.cells (bvs (List.replicate 32 0)).toArray 29)
  obtain ⟨z32, hz32⟩ : ∃ z : Array Value, (bvs (List.replicate 32 0)).toArray = z := ⟨_, rfl⟩
  have hzs : z32.size = 32 := by rw [← hz32]; rfl
  rw [hz32] at hZ hb1
  have hzz : (#[.int .u8 0, .int .u8 0, .int .u8 0, .int .u8 0, .int .u8 0, .int .u8 0, .int .u8 0, .int .u8 0, .int .u8 0, .int .u8 0, .int .u8 0, .int .u8 0, .int .u8 0, .int .u8 0, .int .u8 0, .int .u8 0, .int .u8 0, .int .u8 0, .int .u8 0, .int .u8 0, .int .u8 0, .int .u8 0, .int .u8 0, .int .u8 0, .int .u8 0, .int .u8 0, .int .u8 0, .int .u8 0, .int .u8 0, .int .u8 0, .int .u8 0, .int .u8 0] : Array Value) = z32 := by rw [← hz32]; rfl
  clear hz32
  repeat (first
    | (go_at_call 40; refine (rwith_any n HN.out _ A m c key 54 (hr.below hb1) (by omega) tb HTB.out).mono ?_; rw [HT1.out]; rintro e w2 ⟨A2, c2, rfl, hO2, hb2⟩; simp only []; have hbb2 := hb1.trans (hb2.mono hb1.size); have hZ2 := hZ.below hb2 hZ.lt; have hr2 := hr'.below hbb2; have hO2b := OB.mono hO2 hb1.size; have hbs2 := hbb2.size)
    | (at_builtin; refine app_bytes rfl _ _ rfl w.heap.size _ _ _ T1 rfl hO2b _ _ _ b rfl hr2 (by omega) hbs2 ?_; intro A3 N3 c3 w3 hc3 hc4 hO3 hG3; have hbb3 := hG3.own hbb2 (Nat.le_refl _) hO2b; have hZ3 := Blk.grown hZ2 hG3.grown (by intro e; have := (OB.ge hO2 _ e.symm).1; simp at this; omega); have hr3 := OB.reads hO3; have hl3 : N3 ≤ m' + 64 := (by have := hr3.len; rw [List.length_append] at this; omega))
    | (go_at_call 15; refine (rsum_any n HN.out w3 A3 N3 c3 _ tb HTB.out hr3 (by omega)).mono ?_; rw [HD1.out]; rintro e w4 ⟨rfl, hb4⟩; simp only []; have hbb4 := hbb3.trans (hb4.mono hbb3.size); have hZ4 := hZ3.below hb4 hZ3.lt)
    | ((with_reducible refine wpl_store_fresh (bvs D1).toArray i32x8 ?_ hd1s (bvs_all _) ?_ ?_ ?_); (focus exact hzs); (focus rfl); (focus rfl); intro w5 hD5 hl5 hb5; have hbb5 := hbb4.trans (hb5.mono hbb4.size); have hZ5 := hZ4.below hb5 hZ4.lt)
    | go_values | go_skip | go_guarded | go_step | go_upon | go_back)
  have hr5 : RB w5.drew A m key := hr.below hbb5.drew
  have hD5' : Blk w5.drew w4.heap.size 29 (bvs D1).toArray := hD5
  have hlw3 : w.heap.size ≤ w4.heap.size := hbb4.size
  clear hzz hZ hb1 hb2 hZ2 hZ3 hZ4 hO2 hO2b hr2 hG3 hO3 hr3 hb4 hbb2 hbb3 hbb4 hb5 hD5 hl3 hbs2
  generalize w4.heap.size = GD at *
  refine wp_region_plan [(0, true), (2, true), (1, false), (3, false), (4, false), (5, false)]
    (fun _ => True) (by kernel_rfl) (by kernel_rfl) (by kernel_rfl) (by kernel_rfl) (fun _ _ d _ _ h => by cases d <;> exact h) trivial ?_
  simp only [planOps, List.getElem?_toArray, List.getElem?_cons_zero, List.getElem?_cons_succ]
  repeat (first
    | (refine wpS_skip (by rfl) ?_; simp only [Act.put, List.setIfInBounds_toArray, List.set_cons_zero, List.set_cons_succ])
    | (refine wpS_q ?_ (by rfl) ?_ ?_; rotate_left; (focus (intro z hz; (try dsimp only at hz); go_simp; rfl)); simp only [Act.put, List.setIfInBounds_toArray, List.set_cons_zero, List.set_cons_succ]))
  refine wpS_l (by rfl) (fun Kq hK => ?_)
  go_wp2_with fail
  refine (rwith_any n HN.out w5.drew A m c key 92 hr5 (by omega) tb HTB.out).mono ?_
  rw [HT2.out]
  rintro e w6 ⟨A6, c6, rfl, hO6, hb6⟩
  have hD6 := hD5'.below hb6 hD5'.lt
  have hbb6 : Below w.heap.size w w6 := hbb5.trans ((drew_below (w := w5)).trans hb6 |>.mono hbb5.size)
  have hO6b := OB.mono (B := w.heap.size) hO6 hbb5.size
  have hrD := rb_row hD6 32 hdl1
  have hZ6 : Blk w6 w.heap.size 29 z32 := Blk.below (w := w5.drew) hZ5 hb6 hZ5.lt
  refine hK _ _ (fun _ => True) trivial (fun _ _ => trivial) ?_
  clear hK
  refine wpS_l (by rfl) (fun Kq hK => ?_)
  refine wp_appB _ _ (by rfl) w.heap.size A6 64 c6 T2 (by rfl) hO6b (some ⟨GD, 0, none⟩) 32 32 D1 (by rfl) hrD (by omega) hbb6.size ?_
  intro A7 N7 c7 w7 hc7 hc8 hO7 hG7
  have hbb7 := hG7.own hbb6 (Nat.le_refl _) hO6b
  have hZ7 := Blk.grown hZ6 hG7.grown (by intro e; have := (OB.ge hO6 _ e.symm).1; have h5 : w.heap.size < w5.drew.heap.size := hZ5.lt; omega)
  have hr7 := OB.reads hO7
  have hl7 : N7 ≤ 96 := by have := hr7.len; rw [List.length_append] at this; omega
  refine hK _ _ (fun _ => True) trivial (fun _ _ => trivial) ?_
  clear hK
  simp only [Act.put, List.setIfInBounds_toArray, List.set_cons_zero, List.set_cons_succ]
  refine wpS_l (by rfl) (fun Kq hK => ?_)
  go_wp2_with fail
  refine (rsum_any n HN.out w7 A7 N7 c7 _ tb HTB.out hr7 (by omega)).mono ?_
  rw [HF.out]
  rintro e w8 ⟨rfl, hb8⟩
  have hZ8 := hZ7.below hb8 hZ7.lt
  have hbb8 := hbb7.trans (hb8.mono hbb7.size)
  refine hK _ _ (fun _ => True) trivial (fun _ _ => trivial) ?_
  clear hK
  refine wpS_l (by rfl) (fun Kq hK => ?_)
  have hz32l : z32.toList.length = 32 := by simpa using hzs
  have hZ8' : Blk w8 w.heap.size 29 z32.toList.toArray := by simpa using hZ8
  refine wp_store_midR rfl w.heap.size 0 z32.toList (bvs F) (by rw [bvs_length, hol]; exact i32x8) hZ8' (by rw [bvs_length, hol, hz32l]; omega) (bvs_one _) rfl rfl ?_
  have hsp : Go.splice z32.toList 0 (bvs F) = bvs F := by rw [Go.splice, List.take_zero, List.nil_append, bvs_length, hol, List.drop_of_length_le (by omega), List.append_nil]
  rw [hsp]
  have hZ9 := hZ8.setRow (bvs F).toArray
  have hbb9 := hbb8.grown (grownBy_setRow w8 w.heap.size (bvs F).toArray) hbb8.size (fun p hp => by cases hp; exact Nat.le_refl _)
  simp only [Act.put]
  refine hK _ _ (fun _ => True) trivial (fun _ _ => trivial) ?_
  clear hK
  refine wpS_nil ?_
  go_wp2_with fail
  refine bodyPost_ret (results_cell_row rfl _ _ w.heap.size _ _ (0, 0) _ rfl hZ9 Tryd.underlying29 rfl (by rw [hfs]; exact i32x8)) rfl ?_
  exact ⟨rfl, hbb9⟩
end Go.Proofs.YtohfgplaocgadaaDoor
