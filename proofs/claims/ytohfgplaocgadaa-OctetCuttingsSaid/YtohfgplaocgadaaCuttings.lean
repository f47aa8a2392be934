/- OctetCuttings: the plain law and the walk. -/
import Derived.Test.YtohfgplaocgadaaBack

namespace Go.Proofs.Ytohfgplaocgadaa
open Go.RowKit Go.Rat
theorem cutsF_app (ys : List UInt8) : ∀ (l : List Item), (∀ it ∈ l, it.2.2.size ≤ 65535) → cutsF l (encs l ++ ys) false = (true, ys, false)
  | [], _ => rfl
  | it :: l, h => by
    rw [encs_cons, List.append_assoc, cutsF, itemF_enc it _ (h _ (by simp))]
    simp only [if_true, and_self]
    exact cutsF_app ys l fun i hi => h i (by simp [hi])
theorem flatMap_take {α : Type} (f : α → List Value) (s : Nat) (hf : ∀ a, (f a).length = s) : ∀ (l : List α) (k : Nat), (l.take k).flatMap f = (l.flatMap f).take (k * s)
  | [], k => by simp
  | a :: l, 0 => by simp
  | a :: l, k + 1 => by
    rw [List.take_succ_cons, List.flatMap_cons, List.flatMap_cons, flatMap_take f s hf l k, Nat.add_mul, Nat.one_mul, List.take_append, hf a, Nat.add_sub_cancel, List.take_of_length_le (l := f a) (by rw [hf]; omega)]
theorem flatMap_drop {α : Type} (f : α → List Value) (s : Nat) (hf : ∀ a, (f a).length = s) : ∀ (l : List α) (k : Nat), (l.drop k).flatMap f = (l.flatMap f).drop (k * s)
  | [], k => by simp
  | a :: l, 0 => by simp
  | a :: l, k + 1 => by
    rw [List.drop_succ_cons, List.flatMap_cons, flatMap_drop f s hf l k, Nat.add_mul, Nat.one_mul, List.drop_append, hf a, Nat.add_sub_cancel, List.drop_of_length_le (l := f a) (by rw [hf]; omega), List.nil_append]
theorem encs_snoc (l : List Item) (it : Item) : encs (l ++ [it]) = encs l ++ encF it := by simp [encs]
theorem cut_lo {l : List Item} {k K : Nat} {it : Item} (h : l[k]? = some it) (hk : k < K) : (l.take (k + 1)).take K = (l.take k).take K ++ [it] ∧ (l.take (k + 1)).drop K = (l.take k).drop K := by
  have hl : k < l.length := (List.getElem?_eq_some_iff.1 h).1
  have h1 : (l.take (k + 1)).length ≤ K := by rw [List.length_take]; omega
  have h2 : (l.take k).length ≤ K := by rw [List.length_take]; omega
  rw [List.take_of_length_le h1, List.take_of_length_le h2, List.drop_of_length_le h1, List.drop_of_length_le h2, List.take_add_one, h]
  exact ⟨rfl, rfl⟩
theorem cut_hi {l : List Item} {k K : Nat} {it : Item} (h : l[k]? = some it) (hk : K ≤ k) : (l.take (k + 1)).take K = (l.take k).take K ∧ (l.take (k + 1)).drop K = (l.take k).drop K ++ [it] := by
  have hl : k < l.length := (List.getElem?_eq_some_iff.1 h).1
  have h2 : K ≤ (l.take k).length := by rw [List.length_take]; omega
  rw [List.take_add_one, h]
  exact ⟨List.take_append_of_le_length h2, List.drop_append_of_le_length h2⟩
theorem store_keep {w wr w1 : World} {T : TypeId} {cs : Array Value} {p : Nat} {v : Value} (hP : Blk wr w.heap.size T cs) (hb : Below w.heap.size w wr) (hb1 : Below wr.heap.size wr w1) :
    Blk (w1.setCell ⟨w.heap.size, p, none⟩ v) w.heap.size T (cs.setIfInBounds p v) ∧ Below w.heap.size w (w1.setCell ⟨w.heap.size, p, none⟩ v) ∧
    (∀ B N xs, RB wr B N xs → B.map (·.block) ≠ some w.heap.size → RB (w1.setCell ⟨w.heap.size, p, none⟩ v) B N xs) ∧
    (∀ e B N C xs, OB e w1 wr.heap.size B N C xs → RB (w1.setCell ⟨w.heap.size, p, none⟩ v) B N xs ∧ B.map (·.block) ≠ some w.heap.size) := by
  have hg := grownBy_set w1 w.heap.size p v
  refine ⟨(hP.below hb1 hP.lt).set_ p v, (hb.trans (hb1.mono hb.size)).grown hg (Nat.le_trans hb.size hb1.size) (fun g h => by cases h; exact Nat.le_refl _), fun B N xs h hne => (h.below hb1).grown hg (.inl hne), fun e B N C xs h => ?_⟩
  have hne : B.map (·.block) ≠ some w.heap.size := fun he => by
    have := (h.ge _ he).1
    have := hP.lt
    omega
  exact ⟨h.reads.grown hg (.inl hne), hne⟩
theorem flat_take (l : List Item) (k : Nat) : (l.take k).flatMap itemCells = (l.flatMap itemCells).take (k * 3) := by
  rw [flatMap_take itemCells 3 (fun _ => rfl)]
theorem flat_drop (l : List Item) (k : Nat) : (l.drop k).flatMap itemCells = (l.flatMap itemCells).drop (k * 3) := by
  rw [flatMap_drop itemCells 3 (fun _ => rfl)]
/-- append, as one loud operation of a drawn region. -/
theorem app_w {w : World} {o : Oper} {a : Act} {K : Act → World → Prop} {Q : Exit → Act → World → Prop} (s x : Operand)
    (ho : o.op = .call { callee := .builtin .append, args := #[s, x], argTypes := #[22, 22] })
    (base : Nat) (A : Option Addr) (n c : Nat) (xs : List UInt8) (hs : a.eval s = .slice A n c) (hown : OB 5 w base A n c xs)
    (A' : Option Addr) (m c' : Nat) (news : List UInt8) (hx : a.eval x = .slice A' m c') (hr : RB w A' m news)
    (hbytes : n + m ≤ 140737488355328) (hbase : base ≤ w.heap.size)
    (h : ∀ A2 N2 c2 w2, N2 ≤ c2 → c2 ≤ 9223372036854775807 → OB 5 w2 base A2 N2 c2 (xs ++ news) → Grew w w2 A A2 → K (a.put o.dst (.slice A2 N2 c2)) w2) :
    o.wp Try.prog a w K Q := by
  obtain ⟨i0, hi, hz0, hz1, hz2⟩ := info_parts u8info
  obtain ⟨A2, c2, w2, hrun, h2, h3, h4⟩ := run_append_reads (P := Try.prog) w base 22 o.type 5 i0 _ 1 1 Try.underlying22 hi hz0 hz1 hz2 rfl (by omega) A n c (bvs xs) hown w.heap.size A' m c' (bvs news) hr (bvs_one _) (by simp only [maxLen]; omega) (by omega) hbase
  unfold Oper.wp execOp
  simp only [ho, resolve, invoke, builtin, Sem.run_bind, Sem.run_pure, Result.andThen_ok, List.map_toArray, List.map_cons, List.map_nil, hs, hx, hrun]
  exact h _ _ _ _ (own_cap h2).1 (own_cap h2).2 (by unfold OB; rw [bvs_append]; exact h2) ⟨h3, h4.imp id fun h => ⟨_, h, Nat.le_refl _, (h2.lt _ (by cases A2 <;> simp_all [Value.ownBlock])).2⟩⟩
set_option maxRecDepth 8000 in
set_option maxHeartbeats 1000000 in
theorem octetCuttings_walk (w : World) (A : Option Addr) (n c : Nat) (l : List Item) (hl : l.length = n) (hr : Reads w w.heap.size 3 A n (l.flatMap itemCells)) (hnc : n ≤ c) (at_ : UInt8) (B : Option Addr) (m d : Nat) (ys : List UInt8) (_hl2 : ys.length = m) (hy : RB w B m ys) (_hmd : m ≤ d) (_hd : d ≤ 140737488351232) :
    Calls Try.prog 6 #[.slice A n c, .int .u8 (at_.toNat : Int), .slice B m d] w fun e w' => e = .returned (.bool true) ∧ Below w.heap.size w w' := by
  have hat := at_.toNat_lt
  generalize at_.toNat = at_ at *
  by_cases hbig : 40 < n ∨ 500 < m
  · have hd2 : (decide ((40 : Int) < (n : Int)) = true) ∨ (decide ((40 : Int) < (n : Int)) = false ∧ decide ((500 : Int) < (m : Int)) = true) := by simp; omega
    clear hbig
    rcases hd2 with h1 | ⟨h1, h2⟩
    all_goals
      go_enter Try.func6, Try.ntmps6
      go_wp2_with (go_at_call 9; refine (works_any _).mono ?_; rintro e w9 ⟨rfl, hb9⟩)
      go_ret
      exact ⟨rfl, hb9⟩
  · have h1 : decide ((40 : Int) < (n : Int)) = false := by simp; omega
    have h2 : decide ((500 : Int) < (m : Int)) = false := by simp; omega
    have hn : n ≤ 40 := by omega
    have hm : m ≤ 500 := by omega
    have HL := Lib.hid hl
    clear hl hbig
    go_enter Try.func6, Try.ntmps6
    go_wp2_with fail
    have hK1 : ((at_ : Int) % ((n : Int) + 1)) = ((at_ % (n + 1) : Nat) : Int) := by rw [Int.natCast_emod]; rfl
    rw [hK1]
    have hKn : at_ % (n + 1) ≤ n := by have := Nat.mod_lt at_ (show 0 < n + 1 by omega); omega
    generalize at_ % (n + 1) = K at *
    clear hK1
    have hlt0 := hr
    go_loopw [9] (fun i wr => ∃ (k N0 C0 N1 C1 : Nat) (B0 B1 : Option Addr), k ≤ n ∧ i = .int .i64 k ∧ Blk wr w.heap.size 42 #[.slice B0 N0 C0, .slice B1 N1 C1] ∧ B0.map (·.block) ≠ some w.heap.size ∧ B1.map (·.block) ≠ some w.heap.size ∧
      RB wr B0 N0 (encs ((l.take k).take K)) ∧ RB wr B1 N1 (encs ((l.take k).drop K)) ∧ N0 ≤ C0 ∧ N1 ≤ C1 ∧ N0 + N1 ≤ k * 1032 ∧ (∀ it ∈ l.take k, it.2.2.size ≤ 65535) ∧ Below w.heap.size w wr) (fun i _ => n - (intOf i).toNat)
    case atStart => exact ⟨0, 0, 0, 0, 0, none, none, Nat.zero_le _, rfl, Blk.new _ _ _, by simp, by simp, by simpa [encs] using RB.nil_ _ _, by simpa [encs] using RB.nil_ _ _, by omega, by omega, by omega, by simp, below_alloc _ _⟩
    case round =>
      obtain ⟨k, N0, C0, N1, C1, B0, B1, hkn, rfl, hP, hne0, hne1, hB0, hB1, hNC0, hNC1, hN, hT, hb⟩ := hrel
      have HT := Lib.hid hT
      have HB := Lib.hid hN
      clear hT hN
      by_cases hlt : k < n
      · obtain ⟨ad, kd, nn, st, rfl, hit, hbl, hc0, hc1, hc2⟩ := items_at hr hlt
        have e0 := (hb.cell hbl).trans hc0
        have e1 := (hb.cell (p := ⟨(ad.add (k * 3)).block, (ad.add (k * 3)).off + 1, none⟩) hbl).trans hc1
        have e2 := (hb.cell (p := ⟨(ad.add (k * 3)).block, (ad.add (k * 3)).off + 2, none⟩) hbl).trans hc2
        have hb' : (ad.add (k * 3)).block < wr.heap.size := Nat.lt_of_lt_of_le hbl hb.size
        by_cases hst : st.size ≤ 1024
        · have hsd : decide ((1024 : Int) < (st.size : Int)) = false := by simp; omega
          have HS := Lib.hid hst
          clear hc0 hc1 hc2 hst hlt0
          have p0 : wr.cell? ⟨w.heap.size, 0, none⟩ = some (.slice B0 N0 C0) := by simpa using hP.cell 0
          have p1 : wr.cell? ⟨w.heap.size, 1, none⟩ = some (.slice B1 N1 C1) := by simpa using hP.cell 1
          have f0 := hP.frozen 0
          have f1 := hP.frozen 1
          have hTn : ∀ it ∈ l.take (k + 1), it.2.2.size ≤ 65535 := by
            intro it hi
            rw [List.take_add_one, hit, List.mem_append] at hi
            rcases hi with hi | hi
            · exact HT.out _ hi
            · obtain rfl : it = (kd, nn, st) := by simpa using hi
              have := HS.out
              show st.size ≤ 65535
              omega
          have HT2 := Lib.hid hTn
          clear hTn
          by_cases hkK : K ≤ k
          · have hgd : decide ((K : Int) ≤ (k : Int)) = true := by simp; omega
            by_cases h03 : kd.toNat % 3 = 0
            · have hq0 : (((kd.toNat : Int) % 3) == 0) = true := by simp; omega
              go_wp2_with fail
              have hF : encF (kd, nn, st) = be 8 nn.toNat := if_pos h03
              refine wp_region_plan [(0, true), (1, true), (2, true), (4, true), (5, true), (6, true), (7, true), (8, true), (3, false), (9, false), (10, true), (11, false)]
                (fun z => z.cell? ⟨(ad.add (k * 3)).block, (ad.add (k * 3)).off + 1, none⟩ = some (.int .u64 (nn.toNat : Int))) (by kernel_rfl) (by kernel_rfl) (by kernel_rfl) (by kernel_rfl) (fun _ _ d _ _ h => by cases d <;> exact h) e1 ?_
              simp only [planOps, List.getElem?_toArray, List.getElem?_cons_zero, List.getElem?_cons_succ]
              repeat (first
                | (refine wpS_skip (by rfl) ?_; simp only [Act.put, List.setIfInBounds_toArray, List.set_cons_zero, List.set_cons_succ])
                | (refine wpS_q ?_ (by rfl) ?_ ?_; rotate_left; (focus (intro z hz; (try dsimp only at hz); go_simp; rfl)); simp only [Act.put, List.setIfInBounds_toArray, List.set_cons_zero, List.set_cons_succ]))
              refine wpS_l (by rfl) (fun Kq hK => ?_)
              go_wp2_with fail
              refine hK _ _ (fun z => z.cell? ⟨(ad.add (k * 3)).block, (ad.add (k * 3)).off + 1, none⟩ = some (.int .u64 (nn.toNat : Int))) e1 (fun _ h => h) ?_
              clear hK
              repeat (first
                | (refine wpS_skip (by rfl) ?_; simp only [Act.put, List.setIfInBounds_toArray, List.set_cons_zero, List.set_cons_succ])
                | (refine wpS_q ?_ (by rfl) ?_ ?_; rotate_left; (focus (intro z hz; (try dsimp only at hz); go_simp; rfl)); simp only [Act.put, List.setIfInBounds_toArray, List.set_cons_zero, List.set_cons_succ]))
              refine wpS_l (by rfl) (fun Kq hK => ?_)
              go_wp2_with fail
              refine (word_any wr.drew B1 N1 C1 _ nn.toNat (by exact hB1) (by have := HB.out; omega) nn.toNat_lt).mono ?_
              rintro e w1 ⟨E1, M1, D1, rfl, hO1, hb1⟩
              have hs1 : Below wr.heap.size wr w1 := drew_below.trans hb1
              have hP1 := hP.below hs1 hP.lt
              have s1 : w1.cell? ⟨w.heap.size, 1, none⟩ = some (.slice B1 N1 C1) := by simpa using hP1.cell 1
              have s2 := hP1.frozen 1
              have s3 := (hs1.cell (p := ⟨(ad.add (k * 3)).block, (ad.add (k * 3)).off + 1, none⟩) hb').trans e1
              refine hK _ _ (fun z => z.cell? ⟨(ad.add (k * 3)).block, (ad.add (k * 3)).off + 1, none⟩ = some (.int .u64 (nn.toNat : Int))) s3 (fun _ h => h) ?_
              clear hK
              repeat (first
                | (refine wpS_skip (by rfl) ?_; simp only [Act.put, List.setIfInBounds_toArray, List.set_cons_zero, List.set_cons_succ])
                | (refine wpS_q ?_ (by rfl) ?_ ?_; rotate_left; (focus (intro z hz; (try dsimp only at hz); go_simp; rfl)); simp only [Act.put, List.setIfInBounds_toArray, List.set_cons_zero, List.set_cons_succ]))
              refine wpS_l (by rfl) (fun Kq hK => ?_)
              go_wp2_with fail
              refine hK _ _ (fun z => z.cell? ⟨(ad.add (k * 3)).block, (ad.add (k * 3)).off + 1, none⟩ = some (.int .u64 (nn.toNat : Int))) ?_ (fun _ h => h) ?_
              · rw [cell_kept (grownBy_set w1 w.heap.size 1 _) (by exact Nat.lt_of_lt_of_le hb' hs1.size) (by intro h; injection h with h; exact Nat.lt_irrefl _ (h ▸ hbl))]
                exact s3
              clear hK
              refine wpS_nil ?_
              go_wp2_with fail
              obtain ⟨hP2, hb2, hX, hY⟩ := store_keep (p := 1) (v := .slice E1 M1 D1) hP hb hs1
              have hR1 := hY _ _ _ _ _ hO1
              have hL := cut_hi (K := K) hit hkK
              have hm1 := hO1.len
              have hm0 := hB1.len
              rw [List.length_append, be_length] at hm1
              have := HB.out
              have := HS.out
              exact ⟨⟨k + 1, N0, C0, M1, D1, B0, E1, by omega, by go_num, hP2, hne0, hR1.2, by rw [hL.1]; exact hX _ _ _ hB0 hne0, by rw [hL.2, encs_snoc, hF]; exact hR1.1, hNC0, hO1.cap.1, by omega, HT2.out, hb2⟩, by simp [intOf]; omega⟩
            by_cases h13 : kd.toNat % 3 = 1
            · have hq0 : (((kd.toNat : Int) % 3) == 0) = false := by simp; omega
              have hq1 : (((kd.toNat : Int) % 3) == 1) = true := by simp; omega
              go_wp2_with fail
              have hF : encF (kd, nn, st) = be 2 (nn.toNat % 65536) := (if_neg h03).trans (if_pos h13)
              refine wp_region_plan [(0, true), (1, true), (2, true), (4, true), (5, true), (6, true), (7, true), (8, true), (9, true), (3, false), (10, false), (11, true), (12, false)]
                (fun z => z.cell? ⟨(ad.add (k * 3)).block, (ad.add (k * 3)).off + 1, none⟩ = some (.int .u64 (nn.toNat : Int))) (by kernel_rfl) (by kernel_rfl) (by kernel_rfl) (by kernel_rfl) (fun _ _ d _ _ h => by cases d <;> exact h) e1 ?_
              simp only [planOps, List.getElem?_toArray, List.getElem?_cons_zero, List.getElem?_cons_succ]
              repeat (first
                | (refine wpS_skip (by rfl) ?_; simp only [Act.put, List.setIfInBounds_toArray, List.set_cons_zero, List.set_cons_succ])
                | (refine wpS_q ?_ (by rfl) ?_ ?_; rotate_left; (focus (intro z hz; (try dsimp only at hz); go_simp; rfl)); simp only [Act.put, List.setIfInBounds_toArray, List.set_cons_zero, List.set_cons_succ]))
              refine wpS_l (by rfl) (fun Kq hK => ?_)
              go_wp2_with fail
              refine hK _ _ (fun z => z.cell? ⟨(ad.add (k * 3)).block, (ad.add (k * 3)).off + 1, none⟩ = some (.int .u64 (nn.toNat : Int))) e1 (fun _ h => h) ?_
              clear hK
              repeat (first
                | (refine wpS_skip (by rfl) ?_; simp only [Act.put, List.setIfInBounds_toArray, List.set_cons_zero, List.set_cons_succ])
                | (refine wpS_q ?_ (by rfl) ?_ ?_; rotate_left; (focus (intro z hz; (try dsimp only at hz); go_simp; rfl)); simp only [Act.put, List.setIfInBounds_toArray, List.set_cons_zero, List.set_cons_succ]))
              refine wpS_l (by rfl) (fun Kq hK => ?_)
              go_wp2_with fail
              rw [wrap16_nat]
              refine (half_any wr.drew B1 N1 C1 _ (nn.toNat % 65536) (by exact hB1) (by have := HB.out; omega) (by omega)).mono ?_
              rintro e w1 ⟨E1, M1, D1, rfl, hO1, hb1⟩
              have hs1 : Below wr.heap.size wr w1 := drew_below.trans hb1
              have hP1 := hP.below hs1 hP.lt
              have s1 : w1.cell? ⟨w.heap.size, 1, none⟩ = some (.slice B1 N1 C1) := by simpa using hP1.cell 1
              have s2 := hP1.frozen 1
              have s3 := (hs1.cell (p := ⟨(ad.add (k * 3)).block, (ad.add (k * 3)).off + 1, none⟩) hb').trans e1
              refine hK _ _ (fun z => z.cell? ⟨(ad.add (k * 3)).block, (ad.add (k * 3)).off + 1, none⟩ = some (.int .u64 (nn.toNat : Int))) s3 (fun _ h => h) ?_
              clear hK
              repeat (first
                | (refine wpS_skip (by rfl) ?_; simp only [Act.put, List.setIfInBounds_toArray, List.set_cons_zero, List.set_cons_succ])
                | (refine wpS_q ?_ (by rfl) ?_ ?_; rotate_left; (focus (intro z hz; (try dsimp only at hz); go_simp; rfl)); simp only [Act.put, List.setIfInBounds_toArray, List.set_cons_zero, List.set_cons_succ]))
              refine wpS_l (by rfl) (fun Kq hK => ?_)
              go_wp2_with fail
              refine hK _ _ (fun z => z.cell? ⟨(ad.add (k * 3)).block, (ad.add (k * 3)).off + 1, none⟩ = some (.int .u64 (nn.toNat : Int))) ?_ (fun _ h => h) ?_
              · rw [cell_kept (grownBy_set w1 w.heap.size 1 _) (by exact Nat.lt_of_lt_of_le hb' hs1.size) (by intro h; injection h with h; exact Nat.lt_irrefl _ (h ▸ hbl))]
                exact s3
              clear hK
              refine wpS_nil ?_
              go_wp2_with fail
              obtain ⟨hP2, hb2, hX, hY⟩ := store_keep (p := 1) (v := .slice E1 M1 D1) hP hb hs1
              have hR1 := hY _ _ _ _ _ hO1
              have hL := cut_hi (K := K) hit hkK
              have hm1 := hO1.len
              have hm0 := hB1.len
              rw [List.length_append, be_length] at hm1
              have := HB.out
              have := HS.out
              exact ⟨⟨k + 1, N0, C0, M1, D1, B0, E1, by omega, by go_num, hP2, hne0, hR1.2, by rw [hL.1]; exact hX _ _ _ hB0 hne0, by rw [hL.2, encs_snoc, hF]; exact hR1.1, hNC0, hO1.cap.1, by omega, HT2.out, hb2⟩, by simp [intOf]; omega⟩
            · have hq0 : (((kd.toNat : Int) % 3) == 0) = false := by simp; omega
              have hq1 : (((kd.toNat : Int) % 3) == 1) = false := by simp; omega
              go_wp2_with fail
              have hF : encF (kd, nn, st) = textB st := (if_neg h03).trans (if_neg h13)
              refine wp_region_plan [(0, true), (1, true), (2, true), (3, true), (4, true), (5, true), (6, true), (7, true), (8, false), (9, true), (10, true), (11, true), (12, true), (13, true)]
                (fun z => Below wr.heap.size wr z) (by kernel_rfl) (by kernel_rfl) (by kernel_rfl) (by kernel_rfl) (fun _ _ d _ _ h => by cases d <;> exact h) ((Below.refl _ _).drew) ?_
              simp only [planOps, List.getElem?_toArray, List.getElem?_cons_zero, List.getElem?_cons_succ]
              have q0 : ∀ z, Below wr.heap.size wr z → z.cell? ⟨w.heap.size, 1, none⟩ = some (.slice B1 N1 C1) := fun z hz => (hz.cell (p := ⟨w.heap.size, 1, none⟩) hP.lt).trans p1
              have q1 : ∀ z, Below wr.heap.size wr z → z.cell? ⟨(ad.add (k * 3)).block, (ad.add (k * 3)).off + 2, none⟩ = some (.string st) := fun z hz => (hz.cell (p := ⟨(ad.add (k * 3)).block, (ad.add (k * 3)).off + 2, none⟩) hb').trans e2
              repeat (first
                | (refine wpS_skip (by rfl) ?_; simp only [Act.put, List.setIfInBounds_toArray, List.set_cons_zero, List.set_cons_succ])
                | (refine wpS_q ?_ (by rfl) ?_ ?_; rotate_left; (focus (intro z hz; (try dsimp only at hz); go_simp; rfl)); simp only [Act.put, List.setIfInBounds_toArray, List.set_cons_zero, List.set_cons_succ]))
              clear q0 q1
              refine wpS_l (by rfl) (fun Kq hK => ?_)
              go_wp2_with fail
              refine (text_any wr.drew B1 N1 C1 _ st (by exact hB1) (by have := HB.out; omega) (by have := HS.out; omega)).mono ?_
              rintro e w1 ⟨E1, M1, D1, rfl, hO1, hb1⟩
              have hs1 : Below wr.heap.size wr w1 := drew_below.trans hb1
              refine hK _ _ (fun z => Below w1.heap.size w1 z) (Below.refl _ _) (below_step hs1) ?_
              clear hK
              repeat (first
                | (refine wpS_skip (by rfl) ?_; simp only [Act.put, List.setIfInBounds_toArray, List.set_cons_zero, List.set_cons_succ])
                | (refine wpS_q ?_ (by rfl) ?_ ?_; rotate_left; (focus (intro z hz; (try dsimp only at hz); go_simp; rfl)); simp only [Act.put, List.setIfInBounds_toArray, List.set_cons_zero, List.set_cons_succ]))
              refine wpS_nil ?_
              have hP1 := hP.below hs1 hP.lt
              have s1 : w1.cell? ⟨w.heap.size, 1, none⟩ = some (.slice B1 N1 C1) := by simpa using hP1.cell 1
              have s2 := hP1.frozen 1
              go_wp2_with fail
              obtain ⟨hP2, hb2, hX, hY⟩ := store_keep (p := 1) (v := .slice E1 M1 D1) hP hb hs1
              have hR1 := hY _ _ _ _ _ hO1
              have hL := cut_hi (K := K) hit hkK
              have hm1 := hO1.len
              have hm0 := hB1.len
              rw [List.length_append, textB_length] at hm1
              have := HB.out
              have := HS.out
              exact ⟨⟨k + 1, N0, C0, M1, D1, B0, E1, by omega, by go_num, hP2, hne0, hR1.2, by rw [hL.1]; exact hX _ _ _ hB0 hne0, by rw [hL.2, encs_snoc, hF]; exact hR1.1, hNC0, hO1.cap.1, by omega, HT2.out, hb2⟩, by simp [intOf]; omega⟩
          · have hgd : decide ((K : Int) ≤ (k : Int)) = false := by simp; omega
            by_cases h03 : kd.toNat % 3 = 0
            · have hq0 : (((kd.toNat : Int) % 3) == 0) = true := by simp; omega
              go_wp2_with fail
              have hF : encF (kd, nn, st) = be 8 nn.toNat := if_pos h03
              refine wp_region_plan [(0, true), (1, true), (2, true), (4, true), (5, true), (6, true), (7, true), (8, true), (3, false), (9, false), (10, true), (11, false)]
                (fun z => z.cell? ⟨(ad.add (k * 3)).block, (ad.add (k * 3)).off + 1, none⟩ = some (.int .u64 (nn.toNat : Int))) (by kernel_rfl) (by kernel_rfl) (by kernel_rfl) (by kernel_rfl) (fun _ _ d _ _ h => by cases d <;> exact h) e1 ?_
              simp only [planOps, List.getElem?_toArray, List.getElem?_cons_zero, List.getElem?_cons_succ]
              repeat (first
                | (refine wpS_skip (by rfl) ?_; simp only [Act.put, List.setIfInBounds_toArray, List.set_cons_zero, List.set_cons_succ])
                | (refine wpS_q ?_ (by rfl) ?_ ?_; rotate_left; (focus (intro z hz; (try dsimp only at hz); go_simp; rfl)); simp only [Act.put, List.setIfInBounds_toArray, List.set_cons_zero, List.set_cons_succ]))
              refine wpS_l (by rfl) (fun Kq hK => ?_)
              go_wp2_with fail
              refine hK _ _ (fun z => z.cell? ⟨(ad.add (k * 3)).block, (ad.add (k * 3)).off + 1, none⟩ = some (.int .u64 (nn.toNat : Int))) e1 (fun _ h => h) ?_
              clear hK
              repeat (first
                | (refine wpS_skip (by rfl) ?_; simp only [Act.put, List.setIfInBounds_toArray, List.set_cons_zero, List.set_cons_succ])
                | (refine wpS_q ?_ (by rfl) ?_ ?_; rotate_left; (focus (intro z hz; (try dsimp only at hz); go_simp; rfl)); simp only [Act.put, List.setIfInBounds_toArray, List.set_cons_zero, List.set_cons_succ]))
              refine wpS_l (by rfl) (fun Kq hK => ?_)
              go_wp2_with fail
              refine (word_any wr.drew B0 N0 C0 _ nn.toNat (by exact hB0) (by have := HB.out; omega) nn.toNat_lt).mono ?_
              rintro e w1 ⟨E1, M1, D1, rfl, hO1, hb1⟩
              have hs1 : Below wr.heap.size wr w1 := drew_below.trans hb1
              have hP1 := hP.below hs1 hP.lt
              have s1 : w1.cell? ⟨w.heap.size, 0, none⟩ = some (.slice B0 N0 C0) := by simpa using hP1.cell 0
              have s2 := hP1.frozen 0
              have s3 := (hs1.cell (p := ⟨(ad.add (k * 3)).block, (ad.add (k * 3)).off + 1, none⟩) hb').trans e1
              refine hK _ _ (fun z => z.cell? ⟨(ad.add (k * 3)).block, (ad.add (k * 3)).off + 1, none⟩ = some (.int .u64 (nn.toNat : Int))) s3 (fun _ h => h) ?_
              clear hK
              repeat (first
                | (refine wpS_skip (by rfl) ?_; simp only [Act.put, List.setIfInBounds_toArray, List.set_cons_zero, List.set_cons_succ])
                | (refine wpS_q ?_ (by rfl) ?_ ?_; rotate_left; (focus (intro z hz; (try dsimp only at hz); go_simp; rfl)); simp only [Act.put, List.setIfInBounds_toArray, List.set_cons_zero, List.set_cons_succ]))
              refine wpS_l (by rfl) (fun Kq hK => ?_)
              go_wp2_with fail
              refine hK _ _ (fun z => z.cell? ⟨(ad.add (k * 3)).block, (ad.add (k * 3)).off + 1, none⟩ = some (.int .u64 (nn.toNat : Int))) ?_ (fun _ h => h) ?_
              · rw [cell_kept (grownBy_set w1 w.heap.size 0 _) (by exact Nat.lt_of_lt_of_le hb' hs1.size) (by intro h; injection h with h; exact Nat.lt_irrefl _ (h ▸ hbl))]
                exact s3
              clear hK
              refine wpS_nil ?_
              go_wp2_with fail
              obtain ⟨hP2, hb2, hX, hY⟩ := store_keep (p := 0) (v := .slice E1 M1 D1) hP hb hs1
              have hR1 := hY _ _ _ _ _ hO1
              have hL := cut_lo (K := K) hit (by omega)
              have hm1 := hO1.len
              have hm0 := hB0.len
              rw [List.length_append, be_length] at hm1
              have := HB.out
              have := HS.out
              exact ⟨⟨k + 1, M1, D1, N1, C1, E1, B1, by omega, by go_num, hP2, hR1.2, hne1, by rw [hL.1, encs_snoc, hF]; exact hR1.1, by rw [hL.2]; exact hX _ _ _ hB1 hne1, hO1.cap.1, hNC1, by omega, HT2.out, hb2⟩, by simp [intOf]; omega⟩
            by_cases h13 : kd.toNat % 3 = 1
            · have hq0 : (((kd.toNat : Int) % 3) == 0) = false := by simp; omega
              have hq1 : (((kd.toNat : Int) % 3) == 1) = true := by simp; omega
              go_wp2_with fail
              have hF : encF (kd, nn, st) = be 2 (nn.toNat % 65536) := (if_neg h03).trans (if_pos h13)
              refine wp_region_plan [(0, true), (1, true), (2, true), (4, true), (5, true), (6, true), (7, true), (8, true), (9, true), (3, false), (10, false), (11, true), (12, false)]
                (fun z => z.cell? ⟨(ad.add (k * 3)).block, (ad.add (k * 3)).off + 1, none⟩ = some (.int .u64 (nn.toNat : Int))) (by kernel_rfl) (by kernel_rfl) (by kernel_rfl) (by kernel_rfl) (fun _ _ d _ _ h => by cases d <;> exact h) e1 ?_
              simp only [planOps, List.getElem?_toArray, List.getElem?_cons_zero, List.getElem?_cons_succ]
              repeat (first
                | (refine wpS_skip (by rfl) ?_; simp only [Act.put, List.setIfInBounds_toArray, List.set_cons_zero, List.set_cons_succ])
                | (refine wpS_q ?_ (by rfl) ?_ ?_; rotate_left; (focus (intro z hz; (try dsimp only at hz); go_simp; rfl)); simp only [Act.put, List.setIfInBounds_toArray, List.set_cons_zero, List.set_cons_succ]))
              refine wpS_l (by rfl) (fun Kq hK => ?_)
              go_wp2_with fail
              refine hK _ _ (fun z => z.cell? ⟨(ad.add (k * 3)).block, (ad.add (k * 3)).off + 1, none⟩ = some (.int .u64 (nn.toNat : Int))) e1 (fun _ h => h) ?_
              clear hK
              repeat (first
                | (refine wpS_skip (by rfl) ?_; simp only [Act.put, List.setIfInBounds_toArray, List.set_cons_zero, List.set_cons_succ])
                | (refine wpS_q ?_ (by rfl) ?_ ?_; rotate_left; (focus (intro z hz; (try dsimp only at hz); go_simp; rfl)); simp only [Act.put, List.setIfInBounds_toArray, List.set_cons_zero, List.set_cons_succ]))
              refine wpS_l (by rfl) (fun Kq hK => ?_)
              go_wp2_with fail
              rw [wrap16_nat]
              refine (half_any wr.drew B0 N0 C0 _ (nn.toNat % 65536) (by exact hB0) (by have := HB.out; omega) (by omega)).mono ?_
              rintro e w1 ⟨E1, M1, D1, rfl, hO1, hb1⟩
              have hs1 : Below wr.heap.size wr w1 := drew_below.trans hb1
              have hP1 := hP.below hs1 hP.lt
              have s1 : w1.cell? ⟨w.heap.size, 0, none⟩ = some (.slice B0 N0 C0) := by simpa using hP1.cell 0
              have s2 := hP1.frozen 0
              have s3 := (hs1.cell (p := ⟨(ad.add (k * 3)).block, (ad.add (k * 3)).off + 1, none⟩) hb').trans e1
              refine hK _ _ (fun z => z.cell? ⟨(ad.add (k * 3)).block, (ad.add (k * 3)).off + 1, none⟩ = some (.int .u64 (nn.toNat : Int))) s3 (fun _ h => h) ?_
              clear hK
              repeat (first
                | (refine wpS_skip (by rfl) ?_; simp only [Act.put, List.setIfInBounds_toArray, List.set_cons_zero, List.set_cons_succ])
                | (refine wpS_q ?_ (by rfl) ?_ ?_; rotate_left; (focus (intro z hz; (try dsimp only at hz); go_simp; rfl)); simp only [Act.put, List.setIfInBounds_toArray, List.set_cons_zero, List.set_cons_succ]))
              refine wpS_l (by rfl) (fun Kq hK => ?_)
              go_wp2_with fail
              refine hK _ _ (fun z => z.cell? ⟨(ad.add (k * 3)).block, (ad.add (k * 3)).off + 1, none⟩ = some (.int .u64 (nn.toNat : Int))) ?_ (fun _ h => h) ?_
              · rw [cell_kept (grownBy_set w1 w.heap.size 0 _) (by exact Nat.lt_of_lt_of_le hb' hs1.size) (by intro h; injection h with h; exact Nat.lt_irrefl _ (h ▸ hbl))]
                exact s3
              clear hK
              refine wpS_nil ?_
              go_wp2_with fail
              obtain ⟨hP2, hb2, hX, hY⟩ := store_keep (p := 0) (v := .slice E1 M1 D1) hP hb hs1
              have hR1 := hY _ _ _ _ _ hO1
              have hL := cut_lo (K := K) hit (by omega)
              have hm1 := hO1.len
              have hm0 := hB0.len
              rw [List.length_append, be_length] at hm1
              have := HB.out
              have := HS.out
              exact ⟨⟨k + 1, M1, D1, N1, C1, E1, B1, by omega, by go_num, hP2, hR1.2, hne1, by rw [hL.1, encs_snoc, hF]; exact hR1.1, by rw [hL.2]; exact hX _ _ _ hB1 hne1, hO1.cap.1, hNC1, by omega, HT2.out, hb2⟩, by simp [intOf]; omega⟩
            · have hq0 : (((kd.toNat : Int) % 3) == 0) = false := by simp; omega
              have hq1 : (((kd.toNat : Int) % 3) == 1) = false := by simp; omega
              go_wp2_with fail
              have hF : encF (kd, nn, st) = textB st := (if_neg h03).trans (if_neg h13)
              refine wp_region_plan [(0, true), (1, true), (2, true), (3, true), (4, true), (5, true), (6, true), (7, true), (8, false), (9, true), (10, true), (11, true), (12, true), (13, true)]
                (fun z => Below wr.heap.size wr z) (by kernel_rfl) (by kernel_rfl) (by kernel_rfl) (by kernel_rfl) (fun _ _ d _ _ h => by cases d <;> exact h) ((Below.refl _ _).drew) ?_
              simp only [planOps, List.getElem?_toArray, List.getElem?_cons_zero, List.getElem?_cons_succ]
              have q0 : ∀ z, Below wr.heap.size wr z → z.cell? ⟨w.heap.size, 0, none⟩ = some (.slice B0 N0 C0) := fun z hz => (hz.cell (p := ⟨w.heap.size, 0, none⟩) hP.lt).trans p0
              have q1 : ∀ z, Below wr.heap.size wr z → z.cell? ⟨(ad.add (k * 3)).block, (ad.add (k * 3)).off + 2, none⟩ = some (.string st) := fun z hz => (hz.cell (p := ⟨(ad.add (k * 3)).block, (ad.add (k * 3)).off + 2, none⟩) hb').trans e2
              repeat (first
                | (refine wpS_skip (by rfl) ?_; simp only [Act.put, List.setIfInBounds_toArray, List.set_cons_zero, List.set_cons_succ])
                | (refine wpS_q ?_ (by rfl) ?_ ?_; rotate_left; (focus (intro z hz; (try dsimp only at hz); go_simp; rfl)); simp only [Act.put, List.setIfInBounds_toArray, List.set_cons_zero, List.set_cons_succ]))
              clear q0 q1
              refine wpS_l (by rfl) (fun Kq hK => ?_)
              go_wp2_with fail
              refine (text_any wr.drew B0 N0 C0 _ st (by exact hB0) (by have := HB.out; omega) (by have := HS.out; omega)).mono ?_
              rintro e w1 ⟨E1, M1, D1, rfl, hO1, hb1⟩
              have hs1 : Below wr.heap.size wr w1 := drew_below.trans hb1
              refine hK _ _ (fun z => Below w1.heap.size w1 z) (Below.refl _ _) (below_step hs1) ?_
              clear hK
              repeat (first
                | (refine wpS_skip (by rfl) ?_; simp only [Act.put, List.setIfInBounds_toArray, List.set_cons_zero, List.set_cons_succ])
                | (refine wpS_q ?_ (by rfl) ?_ ?_; rotate_left; (focus (intro z hz; (try dsimp only at hz); go_simp; rfl)); simp only [Act.put, List.setIfInBounds_toArray, List.set_cons_zero, List.set_cons_succ]))
              refine wpS_nil ?_
              have hP1 := hP.below hs1 hP.lt
              have s1 : w1.cell? ⟨w.heap.size, 0, none⟩ = some (.slice B0 N0 C0) := by simpa using hP1.cell 0
              have s2 := hP1.frozen 0
              go_wp2_with fail
              obtain ⟨hP2, hb2, hX, hY⟩ := store_keep (p := 0) (v := .slice E1 M1 D1) hP hb hs1
              have hR1 := hY _ _ _ _ _ hO1
              have hL := cut_lo (K := K) hit (by omega)
              have hm1 := hO1.len
              have hm0 := hB0.len
              rw [List.length_append, textB_length] at hm1
              have := HB.out
              have := HS.out
              exact ⟨⟨k + 1, M1, D1, N1, C1, E1, B1, by omega, by go_num, hP2, hR1.2, hne1, by rw [hL.1, encs_snoc, hF]; exact hR1.1, by rw [hL.2]; exact hX _ _ _ hB1 hne1, hO1.cap.1, hNC1, by omega, HT2.out, hb2⟩, by simp [intOf]; omega⟩
        · have hsd : decide ((1024 : Int) < (st.size : Int)) = true := by simp; omega
          clear hc0 hc1 hc2 hit hst
          go_wp2_with (go_at_call 9; refine (works_any _).mono ?_; rintro e w9 ⟨rfl, hb9⟩)
          go_ret
          exact ⟨rfl, hb.trans (hb9.mono hb.size)⟩
      · obtain rfl : k = n := by omega
        have hkl : l.take k = l := List.take_of_length_le (by have := HL.out; omega)
        rw [hkl] at hB0 hB1
        have hT := HT.out
        rw [hkl] at hT
        have HT2 := Lib.hid hT
        have hp0 := by simpa using hP.cell 0
        have hp1 := by simpa using hP.cell 1
        have hNs : N0 + N1 ≤ 41280 := by have := HB.out; omega
        have HN := Lib.hid hNs
        clear hT HT hkl hNs HB
        go_wp2_with fail
        refine wp_region_plan [(1, true), (2, true), (4, true), (5, true), (7, true), (0, false), (3, false), (6, false), (8, false), (9, false), (10, true)]
          (fun z => Below wr.heap.size wr z) (by kernel_rfl) (by kernel_rfl) (by kernel_rfl) (by kernel_rfl) (fun _ _ d _ _ h => by cases d <;> exact h) ((Below.refl _ _).drew) ?_
        simp only [planOps, List.getElem?_toArray, List.getElem?_cons_zero, List.getElem?_cons_succ]
        have q0 : ∀ z, Below wr.heap.size wr z → z.cell? ⟨w.heap.size, 0, none⟩ = some (.slice B0 N0 C0) := fun z hz => (hz.cell (p := ⟨w.heap.size, 0, none⟩) hP.lt).trans hp0
        have q1 : ∀ z, Below wr.heap.size wr z → z.cell? ⟨w.heap.size, 1, none⟩ = some (.slice B1 N1 C1) := fun z hz => (hz.cell (p := ⟨w.heap.size, 1, none⟩) hP.lt).trans hp1
        repeat (first
          | (refine wpS_skip (by rfl) ?_; simp only [Act.put, List.setIfInBounds_toArray, List.set_cons_zero, List.set_cons_succ])
          | (refine wpS_q ?_ (by rfl) ?_ ?_; rotate_left; (focus (intro z hz; (try dsimp only at hz); go_simp; rfl)); simp only [Act.put, List.setIfInBounds_toArray, List.set_cons_zero, List.set_cons_succ]))
        clear q0 q1
        refine wpS_l (by rfl) (fun Kq hK => ?_)
        go_wp2_with fail
        refine hK _ _ (fun z => Below wr.heap.size wr z) (below_alloc2 drew_below (Nat.le_refl _) _) (fun _ h => h) ?_
        clear hK
        have hO0 := OB.empty wr.drew 5
        have hb0 : Below wr.heap.size wr (wr.drew.alloc (.cells #[] 5)) := below_alloc2 drew_below (Nat.le_refl _) _
        refine wpS_l (by rfl) (fun Kq hK => ?_)
        refine app_w _ _ rfl _ _ _ _ _ rfl hO0 _ _ _ _ rfl (hB0.below hb0) (by have := HN.out; omega) hb0.size (fun A2 N2 c2 w2 hc2 hc3 hO2 hg2 => ?_)
        have hb2 : Below wr.heap.size wr w2 := hg2.own hb0 (Nat.le_refl _) hO0
        refine hK _ _ (fun z => Below wr.heap.size wr z) hb2 (fun _ h => h) ?_
        clear hK
        simp only [Act.put, List.setIfInBounds_toArray, List.set_cons_zero, List.set_cons_succ]
        refine wpS_l (by rfl) (fun Kq hK => ?_)
        have hn0 := hB0.len
        have hn1 := hB1.len
        have hn2 := hO2.len
        rw [List.nil_append] at hn2
        refine app_w _ _ rfl _ _ _ _ _ rfl hO2 _ _ _ _ rfl (hB1.below hb2) (by have := HN.out; omega) hb2.size (fun A3 N3 c3' w3 hc4 hc5 hO3 hg3 => ?_)
        have hb3 : Below wr.heap.size wr w3 := hg3.own hb2 (Nat.le_refl _) hO2
        refine hK _ _ (fun z => Below wr.heap.size wr z) hb3 (fun _ h => h) ?_
        clear hK
        simp only [Act.put, List.setIfInBounds_toArray, List.set_cons_zero, List.set_cons_succ]
        have hn3 := hO3.len
        rw [List.nil_append, List.length_append] at hn3
        refine wpS_l (by rfl) (fun Kq hK => ?_)
        refine app_w _ _ rfl _ _ _ _ _ rfl hO3 _ _ _ _ rfl (hy.below (hb.trans (hb3.mono hb.size))) (by have := HN.out; omega) hb3.size (fun A4 N4 c4 w4 hc6 hc7 hO4 hg4 => ?_)
        have hb4 : Below wr.heap.size wr w4 := hg4.own hb3 (Nat.le_refl _) hO3
        refine hK _ _ (fun z => Below wr.heap.size wr z) hb4 (fun _ h => h) ?_
        clear hK
        simp only [Act.put, List.setIfInBounds_toArray, List.set_cons_zero, List.set_cons_succ]
        have hn4 := hO4.len
        have hyl := hy.len
        rw [List.nil_append, List.length_append, List.length_append] at hn4
        refine wpS_l (by rfl) (fun Kq hK => ?_)
        go_wp2_with fail
        refine (cnew_any w4 A4 N4 c4 _ hO4.reads (by have := HN.out; omega)).mono ?_
        have hee : ([] ++ encs (l.take K)) ++ encs (l.drop K) = encs l := by rw [List.nil_append]; unfold encs; rw [← List.flatMap_append, List.take_append_drop]
        rw [hee]
        rintro e w5 ⟨g, gb, rfl, hC5, hg5, hgl5, hgb5, hb5⟩
        have hb5' := hb4.trans (hb5.mono hb4.size)
        refine hK _ _ (fun z => Below wr.heap.size wr z) hb5' (fun _ h => h) ?_
        clear hK hO0 hO2 hO3 hO4 hg2 hg3 hg4 hb0 hb2 hb3 hc2 hc3 hc4 hc5 hc6 hc7 hn2 hn3 hn4 hee
        repeat (first
          | (refine wpS_skip (by rfl) ?_; simp only [Act.put, List.setIfInBounds_toArray, List.set_cons_zero, List.set_cons_succ])
          | (refine wpS_q ?_ (by rfl) ?_ ?_; rotate_left; (focus (intro z hz; (try dsimp only at hz); go_simp; rfl)); simp only [Act.put, List.setIfInBounds_toArray, List.set_cons_zero, List.set_cons_succ]))
        refine wpS_nil ?_
        have hP5 := hP.below hb5' hP.lt
        have r0 : w5.cell? ⟨w.heap.size, 0, none⟩ = some (.slice B0 N0 C0) := by simpa using hP5.cell 0
        have r1 : w5.cell? ⟨w.heap.size, 1, none⟩ = some (.slice B1 N1 C1) := by simpa using hP5.cell 1
        go_wp2_with fail
        refine (cnew_any w5 B0 N0 C0 _ (hB0.below hb5') (by have := HN.out; omega)).mono ?_
        rintro e w6 ⟨g6, gb6, rfl, hC6, hg6, hgl6, hgb6, hb6⟩
        have hb6' := hb5'.trans (hb6.mono hb5'.size)
        have hP6 := hP.below hb6' hP.lt
        have r60 : w6.cell? ⟨w.heap.size, 0, none⟩ = some (.slice B0 N0 C0) := by simpa using hP6.cell 0
        have r61 : w6.cell? ⟨w.heap.size, 1, none⟩ = some (.slice B1 N1 C1) := by simpa using hP6.cell 1
        go_wp2_with fail
        refine (cnew_any w6 B1 N1 C1 _ (hB1.below hb6') (by have := HN.out; omega)).mono ?_
        rintro e w7 ⟨g7, gb7, rfl, hC7, hg7, hgl7, hgb7, hb7⟩
        have hb7' := hb6'.trans (hb7.mono hb6'.size)
        go_wp2_with fail
        have hC5 := (hC5.grown (grownBy_of_below hb6 none) (by simp) (.inr rfl)).grown (grownBy_of_below hb7 none) (by simp) (.inr rfl)
        have hC6 := hC6.grown (grownBy_of_below hb7 none) (by simp) (.inr rfl)
        have hs4 := hb4.size
        have hs5 := hb5.size
        have hs6 := hb6.size
        have hs7 := hb7.size
        have hsb := hb.size
        have b7 : Below w.heap.size w w7 := hb.trans (hb7'.mono hb.size)
        have hr7 := (hr.below b7).more (B' := w7.heap.size) b7.size
        have hAne : ∀ g, wr.heap.size ≤ g → 0 < k → A.map (·.block) ≠ some g := by
          intro g hg h0 he
          obtain ⟨ad, rfl, hlt, _⟩ := hr.2 h0
          simp only [Option.map_some, Option.some.injEq] at he
          omega
        have hc1 := cutsF_app ys l HT2.out
        refine (cuts_any w7 g gb _ false A k c l hC5 (by omega) hr7 (hAne g (by omega))).mono ?_
        rw [hc1]
        rintro e w8 ⟨rfl, hC8, hg8⟩
        dsimp only at hC8
        have hC6 := hC6.grown hg8 (by intro h; injection h with h; omega) (.inl (by intro h; have := hgb6 _ h; omega))
        have hC7 := hC7.grown hg8 (by intro h; injection h with h; omega) (.inl (by intro h; have := hgb7 _ h; omega))
        have hs8 := hg8.size
        have b8 : Below w.heap.size w w8 := b7.trans ((below_of_grownBy hg8 (B := w.heap.size) (fun k hk => by cases hk; omega) (by omega)))
        have hyl2 : (ys.length : Int) = (m : Int) := by omega
        have hKc : K ≤ c := by omega
        clear hC5 hc1 hP5 hP6 r0 r1 r60 r61 hp0 hp1 hb7' hb6' hb5' hb5 hb6 hb7
        go_wp2_with (first
          | (go_at_call 19; refine (cleft_any w8 g gb _ _ hC8).mono ?_; rw [hyl2]; rintro e w' ⟨rfl, rfl⟩))
        have hc2 := cutsF_enc (l.take K) (fun it hi => HT2.out it (List.mem_of_mem_take hi))
        have hr8 := (hr.below b8).more (B' := w8.heap.size) b8.size
        have hr8a := hr8.take_ (k := K) hKn
        have hr8b : Reads w8 w8.heap.size 3 A K ((l.take K).flatMap itemCells) := by rw [flat_take]; exact hr8a
        refine (cuts_any w8 g6 gb6 _ false A K c (l.take K) hC6 (by omega) hr8b (fun h => hAne g6 (by omega) (by omega))).mono ?_
        rw [hc2]
        rintro e w9 ⟨rfl, hC9, hg9⟩
        dsimp only at hC9
        have hC7 := hC7.grown hg9 (by intro h; injection h with h; omega) (.inl (by intro h; have := hgb7 _ h; omega))
        have hs9 := hg9.size
        have b9 : Below w.heap.size w w9 := b8.trans ((below_of_grownBy hg9 (B := w.heap.size) (fun k hk => by cases hk; omega) (by omega)))
        have hl0 : (([] : List UInt8).length : Int) = 0 := rfl
        have hr9 := (hr.below b9).more (B' := w9.heap.size) b9.size
        have hcut := hr9.cut (k := K) (cap := c) hKn hnc
        rw [← flat_drop] at hcut
        have hc3 := cutsF_enc (l.drop K) (fun it hi => HT2.out it (List.mem_of_mem_drop hi))
        clear hC6 hC8 hc2 hr8 hr8a hr8b hg8 hr7
        by_cases hcK : c = K
        all_goals
         first | rw [if_pos hcK] at hcut | rw [if_neg hcK] at hcut
         go_wp2_with (first
          | (go_at_call 19; refine (cleft_any w9 g6 gb6 _ _ hC9).mono ?_; rw [hl0]; rintro e w' ⟨rfl, rfl⟩))
         refine (cuts_any w9 g7 gb7 _ false _ (k - K) _ (l.drop K) hC7 (by omega) hcut (by intro h; first | exact absurd h (by omega) | (intro h2; exact hAne g7 (by omega) (by omega) (by rw [← h2]; cases A <;> simp [block_of_add])))).mono ?_
         rw [hc3]
         rintro e w10 ⟨rfl, hC10, hg10⟩
         dsimp only at hC10
         have b10 : Below w.heap.size w w10 := b9.trans ((below_of_grownBy hg10 (B := w.heap.size) (fun k hk => by cases hk; omega) (by omega)))
         go_wp2_with (first
          | (go_at_call 19; refine (cleft_any w10 g7 gb7 _ _ hC10).mono ?_; rw [hl0]; rintro e w' ⟨rfl, rfl⟩)
          | (go_at_call 9; refine (works_any _).mono ?_; rintro e w11 ⟨rfl, hb11⟩))
         go_ret
         exact ⟨rfl, b10.trans (hb11.mono b10.size)⟩
end Go.Proofs.Ytohfgplaocgadaa
