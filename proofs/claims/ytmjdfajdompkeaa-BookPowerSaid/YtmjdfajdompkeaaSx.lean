/- cell: the iterator's contract. -/
import Derived.Test.YtmjdfajdompkeaaSw
namespace Go.Proofs.Ytmjdfajdompkeaa
open Go.RowKit Go.Rat
attribute [local go_sem] Oper.semAt_some
theorem wp_appB {w : World} {o : Oper} {a : Act} {K : Act → World → Prop} {Q : Exit → Act → World → Prop} (s x : Operand)
    (ho : o.op = .call { callee := .builtin .append, args := #[s, x], argTypes := #[22, 22] })
    (base : Nat) (A : Option Addr) (n c : Nat) (xs : List UInt8) (hs : a.eval s = .slice A n c) (hown : OB 5 w base A n c xs)
    (A' : Option Addr) (m c' : Nat) (news : List UInt8) (hx : a.eval x = .slice A' m c') (hr : RB w A' m news) (hbytes : n + m ≤ 140737488355328) (hbase : base ≤ w.heap.size)
    (h : ∀ A2 N2 c2 w2, N2 ≤ c2 → c2 ≤ 9223372036854775807 → OB 5 w2 base A2 N2 c2 (xs ++ news) → Grew w w2 A A2 → K (a.put o.dst (.slice A2 N2 c2)) w2) :
    o.wp Try.prog a w K Q := by
  obtain ⟨i0, hi, hz0, hz1, hz2⟩ := info_parts u8info
  obtain ⟨A2, c2, w2, hrun, h2, h3, h4⟩ := run_append_reads (P := Try.prog) w base 22 o.type 5 i0 _ 1 1 Try.underlying22 hi hz0 hz1 hz2 rfl (by omega) A n c (bvs xs) hown w.heap.size A' m c' (bvs news) hr (bvs_one _) (by simp only [maxLen]; omega) (by omega) hbase
  unfold Oper.wp
  simp only [execOp, ho, resolve, invoke, builtin, Sem.run_bind, Sem.run_pure, Result.andThen_ok, List.map_toArray, List.map_cons, List.map_nil, hs, hx, hrun]
  exact h _ _ _ _ (own_cap h2).1 (own_cap h2).2 (by unfold OB; rw [bvs_append]; exact h2) ⟨h3, h4.imp id fun h => ⟨_, h, Nat.le_refl _, (h2.lt _ (by cases A2 <;> simp_all [Value.ownBlock])).2⟩⟩
theorem arrayAt_run {P : Program} {w : World} {t e : TypeId} {n len c : Nat} {A : Option Addr} (hu : P.underlying t = some (.array n e)) (h : n ≤ len) : (Instr.arrayAt t (.slice A len c)).run P w = .ok (.pointer A) w := by
  have hn : ¬ (len < n) := by omega
  simp [Instr.arrayAt, run_underlying hu, hn]
/-- The first k numbers. -/
def fr : Nat → List (Fin 10)
  | 0 => []
  | k + 1 => fr k ++ [⟨k % 10, Nat.mod_lt _ (by omega)⟩]
theorem fr_length : ∀ k, (fr k).length = k
  | 0 => rfl
  | k + 1 => by rw [fr, List.length_append, fr_length k]; rfl
def encS (c : Nat) (xs : List UInt8) (i : Fin 10) : Array Value := #[.int .i64 (i.1 : Int), .agg (bvs (secB c xs i.1)).toArray]
/-- What a round keeps of the iterator's own. -/
structure KpS (gc ga gb : Nat) (A B : World) : Prop where
  size : A.heap.size ≤ B.heap.size
  c : B.heap[gc]? = A.heap[gc]?
  a : B.heap[ga]? = A.heap[ga]?
  b : B.heap[gb]? = A.heap[gb]?
theorem KpS.refl (gc ga gb : Nat) (A : World) : KpS gc ga gb A A := ⟨Nat.le_refl _, rfl, rfl, rfl⟩
theorem KpS.trans {gc ga gb : Nat} {A B C : World} (h : KpS gc ga gb A B) (k : KpS gc ga gb B C) : KpS gc ga gb A C := ⟨Nat.le_trans h.size k.size, k.c.trans h.c, k.a.trans h.a, k.b.trans h.b⟩
theorem KpS.of_below {gc ga gb n : Nat} {A B : World} (h : Below n A B) (hs : A.heap.size ≤ B.heap.size) (hc : gc < n) (ha : ga < n) (hb : gb < n) : KpS gc ga gb A B := ⟨hs, h.block _ hc, h.block _ ha, h.block _ hb⟩
theorem Secs.keep {A B : World} {gc ga gb c : Nat} {xs : List UInt8} (h : Secs A gc ga gb c xs) (k : KpS gc ga gb A B) : Secs B gc ga gb c xs := by
  obtain ⟨cap, h1, h2, h3⟩ := h.hdr
  refine ⟨k.c.trans h.cnt, ⟨cap, k.a.trans h1, h2, h3⟩, h.row.1, fun hn => ?_⟩
  obtain ⟨ad, e, hb, hcell⟩ := h.row.2 hn
  cases e
  exact ⟨_, rfl, Nat.lt_of_lt_of_le hb k.size, fun j u hu => (World.cell?_of_block (by rw [block_of_add]; exact k.b)).trans (hcell j u hu)⟩
theorem partB_at (xs : List UInt8) (i : Nat) (h : xs.length ≤ 1198) (hi : i < 10) {w : World} {gb : Nat} (hr : RB w (some ⟨gb, 0, none⟩) 1200 (allB xs)) : RB w (some ⟨gb, i * 120, none⟩) 120 (partB xs i) := by
  have hl := allB_length h
  refine ⟨by rw [bvs_length, partB_length h hi], fun _ => ?_⟩
  obtain ⟨ad, e, hb, hc⟩ := hr.2 (by omega)
  cases e
  refine ⟨_, rfl, hb, fun j u hu => ?_⟩
  have hj : j < 120 := by
    have := (List.getElem?_eq_some_iff.1 hu).1
    rwa [bvs_length, partB_length h hi] at this
  have h2 : (bvs (allB xs))[i * 120 + j]? = some u := by
    rw [← hu, bvs, bvs, List.getElem?_map, List.getElem?_map, partB, List.getElem?_take, if_pos hj, List.getElem?_drop]
  have := hc _ _ h2
  rw [← this]
  congr 1
  simp only [Addr.add]
  split <;> split <;> simp_all <;> omega
set_option maxRecDepth 20000 in
set_option maxHeartbeats 4000000 in
theorem sectors1_stops (w : World) (gc ga gb c : Nat) (xs : List UInt8) (hS : Secs w gc ga gb c (allB xs)) (hxs : xs.length ≤ 1100) (hc : c < 2 ^ 64) (hgc : gc < w.heap.size) (hga : ga < w.heap.size) (hgb : gb < w.heap.size) :
    SeqStopsK Fence.wide 3 Try.prog 104 #[.pointer (some ⟨gc, 0, none⟩), .pointer (some ⟨ga, 0, none⟩)] (encS c xs) (KpS gc ga gb) (fun ys => ys = fr 10) (fun pre => ∃ k, k ≤ 10 ∧ pre = fr k) 10 w := fun l J Jx W hW hJ hJx hY h0 => by
  refine callsIn_wide.2 ?_
  have hS0 := hS.keep (KpS.of_below hW hW.size hgc hga hgb)
  have hws := hW.size
  go_enter Try.func104, Try.ntmps104
  go_wp2_with fail
  go_loopw [6] (fun i wr => ∃ k : Nat, k ≤ 10 ∧ i = .int .i64 (k : Int) ∧ J (fr k) wr ∧ KpS gc ga gb W wr) (fun i _ => 10 - (intOf i).toNat)
  case atStart => exact ⟨0, by omega, rfl, h0, KpS.refl _ _ _ _⟩
  case round =>
    obtain ⟨k, hk, rfl, hJk, hkp⟩ := hrel
    by_cases hk10 : k < 10
    · have hSk := hS0.keep hkp
      have hgw := hSk.row.at_ (show 0 < 1200 by omega)
      obtain ⟨_, e, hgbw, _⟩ := hgw
      cases e
      obtain ⟨cap, hH, hcap, hcap2⟩ := hSk.hdr
      have hrp := partB_at xs k (by omega) hk10 hSk.row
      have hpl := partB_length (b := xs) (by omega) hk10
      have c0 := hSk.cnt.cell 0
      have a0 := hH.cell 0
      simp only [List.getElem?_toArray, List.getElem?_cons_zero] at c0 a0
      have g1 : (k : Int) < 10 := by omega
      have g2 : (0 : Int) ≤ (k : Int) := by omega
      have hw1 : IntKind.i64.wrap ((k : Int) * 120) = (k : Int) * 120 := IntWalk.i64_in _ (by omega)
      have hw2 : IntKind.i64.wrap ((k : Int) + 1) = (k : Int) + 1 := IntWalk.i64_in _ (by omega)
      have hw3 : IntKind.i64.wrap (((k : Int) + 1) * 120) = ((k : Int) + 1) * 120 := IntWalk.i64_in _ (by omega)
      clear hS hS0 h0 hW
      go_wp2_with fail
      refine wp_region_plan [(0, true), (2, true), (3, true), (4, true), (5, true), (6, true), (7, true), (8, true), (1, false), (9, false), (10, true)]
        (fun z => z.cell? ⟨gc, 0, none⟩ = some (.int .u64 (c : Int)) ∧ z.cell? ⟨ga, 0, none⟩ = some (.slice (some ⟨gb, 0, none⟩) 1200 cap)) (by kernel_rfl) (by kernel_rfl) (by kernel_rfl) (by kernel_rfl) (fun _ _ d _ _ h => by cases d <;> exact h) ⟨c0, a0⟩ ?_
      simp only [planOps, List.getElem?_toArray, List.getElem?_cons_zero, List.getElem?_cons_succ]
      repeat (first
        | (refine wpS_skip (by rfl) ?_; simp only [Act.put, List.setIfInBounds_toArray, List.set_cons_zero, List.set_cons_succ])
        | (refine wpS_q ?_ (by rfl) ?_ ?_; rotate_left; (focus (intro z hz; (try dsimp only at hz); go_simp; rfl)); simp only [Act.put, List.setIfInBounds_toArray, List.set_cons_zero, List.set_cons_succ]))
      refine wpS_q (.slice (some ⟨gb, k * 120, none⟩) 120 (cap - k * 120)) (by rfl) (fun z hz => ?_) ?_
      · clear hY
        have t1 : ((k : Int) * 120).toNat = k * 120 := by omega
        have t2 : (((k : Int) + 1) * 120).toNat - k * 120 = 120 := by omega
        go_simp
        rw [if_pos ⟨by omega, by omega⟩, if_pos ⟨by omega, by omega⟩, if_neg (by omega)]
      simp only [Act.put, List.setIfInBounds_toArray, List.set_cons_zero, List.set_cons_succ]
      refine wpS_l (by rfl) (fun K hK => ?_)
      go_wp2_with fail
      refine (word_any _ none 0 0 [] c (RB.nil_ _ _) (by omega) hc).mono ?_
      rintro e w2 ⟨A2, N2, c2, rfl, hO2, hb2⟩
      rw [List.nil_append] at hO2
      have hN2 := hO2.len
      rw [be_length] at hN2
      subst hN2
      have hb2 : Below wr.heap.size wr w2 := drew_below.trans hb2
      have hO2 : OB 5 w2 wr.heap.size A2 8 c2 (be 8 c) := hO2
      refine hK _ _ _ ⟨((hSk.cnt.below hb2 hSk.cnt.lt).cell 0).trans rfl, ((hH.below hb2 hH.lt).cell 0).trans rfl⟩ (fun _ h => h) ?_
      clear hK
      refine wpS_l (by rfl) (fun K hK => ?_)
      refine wp_appB _ _ (by rfl) wr.heap.size A2 8 c2 (be 8 c) (by rfl) hO2 (some ⟨gb, k * 120, none⟩) 120 (cap - k * 120) (partB xs k) (by rfl) (hrp.below hb2) (by omega) hb2.size ?_
      intro A3 N3 c3 w3 hc3 hc3' hO3 hG3
      have hb3 : Below wr.heap.size wr w3 := hG3.own hb2 (Nat.le_refl _) hO2
      refine hK _ _ _ ⟨((hSk.cnt.below hb3 hSk.cnt.lt).cell 0).trans rfl, ((hH.below hb3 hH.lt).cell 0).trans rfl⟩ (fun _ h => h) ?_
      clear hK
      iterate 1 (refine wpS_q ?_ (by rfl) ?_ ?_; rotate_left; (focus (intro z hz; (try dsimp only at hz); go_simp; rfl)); simp only [Act.put, List.setIfInBounds_toArray, List.set_cons_zero, List.set_cons_succ])
      refine wpS_nil ?_
      have hO3 : OB 5 w3 wr.heap.size A3 N3 c3 (secB c xs k) := hO3
      have hN3 := hO3.len
      have hsl := secB_length c (b := xs) (by omega) hk10
      rw [hsl] at hN3
      subst hN3
      clear hO2 hG3 hb2 hrp hw1 hw2 hw3
      go_upto_region 4 with (fail)
      obtain ⟨g3, L, rfl, hB3, hL3⟩ : ∃ (g3 : Nat) (L : List Value), A3 = some ⟨g3, 0, none⟩ ∧ Blk w3 g3 5 L.toArray ∧ (L.drop 0).take 128 = bvs (secB c xs k) := by
        rcases hO3.2 with ⟨h, _⟩ | ⟨g, cap, cur, hv, _, hgB, _, _, _, htk⟩
        · injection h with h1 h2 h3
          cases h2
        · injection hv with h3 h4 h5
          exact ⟨g, cur.toList, h3, hgB, by simpa using htk⟩
      have hbl : (bvs (secB c xs k)).length = 128 := by rw [bvs_length, hsl]
      have hJ3 : J (fr k) w3 := hJ _ _ _ none hJk (grownBy_of_below hb3 none) (fun r e => by cases e)
      obtain ⟨fn, tmps, assign, body, hy, hR⟩ := hY (fr k) ⟨k % 10, Nat.mod_lt _ (by omega)⟩ w3 hJ3 (by rw [fr_length]; exact hk10)
      have hkm : k % 10 = k := Nat.mod_eq_of_lt hk10
      simp only [encS, hkm] at hy
      have hkp3 : KpS gc ga gb wr w3 := KpS.of_below hb3 hb3.size (by have := hkp.size; omega) (by have := hkp.size; omega) hgbw
      have HKM := Lib.hid hkm
      have HK3 := Lib.hid (hkp.trans hkp3)
      clear hO3 hJ hJx hJk hY hJ3 hSk hH hsl hkm hkp hkp3 hb3 c0 a0
      refine (wpIn_wide (n := 3)).1 ?_
      refine wpIn_region_lit ?_
      have hat := arrayAt_run (w := w3) (A := some ⟨g3, 0, none⟩) (c := c3) Try.underlying28 (Nat.le_refl 128)
      repeat (first | ((with_reducible refine wplIn_value rfl rfl rfl (.agg (bvs (secB c xs k)).toArray) ?_ ?_); (focus exact load_mid_run rfl g3 0 L (bvs (secB c xs k)) Try.underlying28 rfl i128 hB3 hL3 hbl rfl); simp only [Act.put, List.setIfInBounds_toArray, List.set_cons_zero, List.set_cons_succ]) | gi_step)
      refine hR.mono ?_
      clear hR hy hat
      rintro e W3 (⟨rfl, hJ4, hk4⟩ | ⟨rfl, hJx4⟩)
      · have hJ5 : J (fr (k + 1)) W3 := hJ4
        clear hJ4
        simp only []
        repeat gi_step
        go_wp2_with fail
        exact ⟨⟨k + 1, by omega, congrArg (Value.int .i64) (by omega), hJ5, HK3.out.trans hk4⟩, by simp [intOf]; omega⟩
      · have hJ5 : Jx (fr (k + 1)) W3 := hJx4
        clear hJx4
        simp only []
        repeat gi_step
        go_wp2_with fail
        refine bodyPost_ret (results_none rfl _ _ _) rfl ?_
        exact ⟨⟨_, rfl⟩, .inr ⟨_, ⟨k + 1, by omega, rfl⟩, hJ5⟩⟩
    · obtain rfl : k = 10 := by omega
      have g1 : ¬ ((10 : Nat) : Int) < 10 := by omega
      go_wp2_with fail
      go_end0
      exact ⟨⟨_, rfl⟩, .inl hJk⟩
end Go.Proofs.Ytmjdfajdompkeaa
