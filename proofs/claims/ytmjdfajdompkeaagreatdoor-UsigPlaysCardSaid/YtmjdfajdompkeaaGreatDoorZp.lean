/- ratchetref05: Put, of a cell whose bytes nobody asks. -/
import Derived.Test.YtmjdfajdompkeaaGreatDoorZs
namespace Go.Proofs.YtmjdfajdompkeaaGreatDoor
open Go.RowKit Go.Rat
/-- A cell of the document's, beside its disk; of its bytes nothing is said. -/
structure RCellW (w : World) (base : Nat) (l : RL) (k : Nat) (s : CS) : Prop where
  blk : ∃ v, Blk w k 83 #[.pointer (some ⟨l.g, 0, none⟩), .int .i64 s.p, v, .int .i64 (s.which : Int), .bool s.dead]
  out : ¬ l.fp k
  bk : base ≤ k
  wh : s.which ≤ 1
theorem RCellAt.weak {w : World} {base : Nat} {l : RL} {k : Nat} {s : CS} (h : RCellAt w base l k s) : RCellW w base l k s := by
  obtain ⟨A, N, c, h1, _⟩ := h.blk
  exact ⟨⟨_, h1⟩, h.out, h.bk, h.wh⟩
theorem RCellW.lt {w : World} {base : Nat} {l : RL} {k : Nat} {s : CS} (h : RCellW w base l k s) : k < w.heap.size := by
  obtain ⟨_, h1⟩ := h.blk
  exact h1.lt
theorem RCellW.kept {w w' : World} {base : Nat} {l l' : RL} {k : Nat} {s : CS} {F : Nat → Prop} (h : RCellW w base l k s) (hc : Chg F w w') (hk : ¬ F k) (hg : l'.g = l.g) (hfp : ∀ x, l'.fp x → l.fp x ∨ w.heap.size ≤ x) : RCellW w' base l' k s := by
  obtain ⟨v, h1⟩ := h.blk
  refine ⟨⟨v, by rw [hg]; exact hc.blk h1 hk⟩, fun hf => ?_, h.bk, h.wh⟩
  rcases hfp k hf with h4 | h4
  · exact h.out h4
  · have := h1.lt
    omega
theorem RCellW.moved {w w' : World} {base : Nat} {l l' : RL} {k : Nat} {s : CS} (h : RCellW w base l k s) (hm : RMoved w w' l l') : RCellW w' base l' k s := h.kept hm.chg h.out hm.g hm.fp
theorem RCellW.below {w w' : World} {base : Nat} {l : RL} {k : Nat} {s : CS} (h : RCellW w base l k s) (hb : Below w.heap.size w w') : RCellW w' base l k s := h.moved (RMoved.of_below hb)
theorem rput5W_dead (w : World) (base : Nat) (l : RL) (k : Nat) (s : CS) (hC : RCellW w base l k s) (hd : s.dead = true) (A : Option Addr) (n c : Nat) (hn : n ≤ 1100) :
    Calls Tryz.prog 24 #[.pointer (some ⟨k, 0, none⟩), .slice A n c] w fun e w' => e = .returned (.int .i64 8) ∧ w = w' := by
  obtain ⟨v, hB⟩ := hC.blk
  have c4 := hB.cell 4
  simp only [List.getElem?_toArray, List.getElem?_cons_zero, List.getElem?_cons_succ, hd] at c4
  have hn' : ¬ (1100 : Int) < (n : Int) := by omega
  clear hB hC hd
  go_enter Tryz.func24, Tryz.ntmps24
  go_wp2_with fail
  go_ret
  exact ⟨rfl, rfl⟩
set_option maxRecDepth 20000 in
set_option maxHeartbeats 8000000 in
theorem rput5W_any (w : World) (base : Nat) (l : RL) (d : DS) (hD : RDk w base l d) (g : Nat) (hg : l.g = g) (hbase : base ≤ w.heap.size) (hlo : d.loose.length < 800000000) (k : Nat) (s : CS) (hC : RCellW w base l k s) (hp : 0 ≤ s.p ∧ s.p + 20 ≤ 32768) (hdead : s.dead = false)
    (A : Option Addr) (n cap : Nat) (b : List UInt8) (hr : RB w A n b) (hn : n ≤ 1100) (hap : n ≠ 0 → ∀ x, A.map (·.block) = some x → ¬ l.fp x ∧ x ≠ k) :
    Calls Tryz.prog 24 #[.pointer (some ⟨k, 0, none⟩), .slice A n cap] w fun e w' => ∃ l', e = .returned (.int .i64 (ptF d s.p s.which b).2) ∧ l'.g = g ∧ RDk w' base l' (ptF d s.p s.which b).1 ∧ RCellW w' base l' k (putCell s b (ptF d s.p s.which b).2) ∧ RCMoved w w' l l' k := by
  obtain ⟨vv, hB⟩ := hC.blk
  rw [hg, hdead] at hB
  have hout := hC.out
  have hbk := hC.bk
  have hwh := hC.wh
  obtain ⟨p, which, dead, b0, hpe, hwe, hbe⟩ : ∃ p which dead b0, s.p = p ∧ s.which = which ∧ s.b = b0 := ⟨_, _, s.dead, _, rfl, rfl, rfl⟩
  rw [hpe] at hB hp ⊢
  rw [hwe] at hB hwh ⊢
  have HPE := Lib.hid hpe
  have HWE := Lib.hid hwe
  have HBE := Lib.hid hbe
  obtain ⟨F, hF⟩ : ∃ F, viewD d p = F := ⟨_, rfl⟩
  have hFv : ∀ i : Nat, F i = if readE d (p + (i : Int)) = 0 then some (readB d (p + (i : Int))) else none := fun i => by rw [← hF]; rfl
  have hnx : nextF d p = (topF F 20 + 1) % 2 ^ 64 := by rw [nextF, hF]
  have HFV := Lib.hid hFv
  have HNX := Lib.hid hnx
  have c0 := hB.cell 0
  have c1 := hB.cell 1
  have c3 := hB.cell 3
  have c4 := hB.cell 4
  simp only [List.getElem?_toArray, List.getElem?_cons_zero, List.getElem?_cons_succ] at c0 c1 c3 c4
  have hn' : ¬ (1100 : Int) < (n : Int) := by omega
  have hto : (1 : Int) - (which : Int) = ((1 - which : Nat) : Int) := by omega
  have hnlt : nextF d p < 2 ^ 64 := Nat.mod_lt _ (by omega)
  obtain ⟨tw, hte⟩ : ∃ tw, 1 - which = tw := ⟨_, rfl⟩
  rw [hte] at hto
  have hto1 : tw ≤ 1 := by omega
  have HTE := Lib.hid hte
  have HTO := Lib.hid hto
  clear hC hdead hpe hwe hbe hte hF hFv hnx
  go_enter Tryz.func24, Tryz.ntmps24
  go_upto_block 0 with (fail)
  go_cut [5] (fun n wx => n = .int .u64 (topF F 20 : Int) ∧ Below w.heap.size w wx)
  case first =>
    clear c3 c4 hto HTO hnlt
    go_wp2_with fail
    go_loopw [5, 6] (fun n i wr => ∃ kk : Nat, kk ≤ 20 ∧ i = .int .i64 (kk : Int) ∧ n = .int .u64 (topF F kk : Int) ∧ Below w.heap.size w wr) (fun _ i _ => 20 - (intOf i).toNat)
    case atStart => exact ⟨0, by omega, rfl, rfl, Below.refl _ _⟩
    case round =>
      obtain ⟨kk, hk, rfl, rfl, hbk⟩ := hrel
      by_cases hk20 : kk < 20
      · have hBk := hB.below hbk hB.lt
        have hDk := hD.below hbk
        clear c0 c1
        have c0 := hBk.cell 0
        have c1 := hBk.cell 1
        simp only [List.getElem?_toArray, List.getElem?_cons_zero, List.getElem?_cons_succ] at c0 c1
        have hFk := HFV.out kk
        have hsl : (readB d (p + (kk : Int))).length = 128 := hDk.len _
        obtain ⟨b, hb⟩ : ∃ s, readB d (p + (kk : Int)) = s := ⟨_, rfl⟩
        obtain ⟨E, hE⟩ : ∃ E, readE d (p + (kk : Int)) = E := ⟨_, rfl⟩
        rw [hb] at hFk hsl
        rw [hE] at hFk
        have HB := Lib.hid hb
        have HE := Lib.hid hE
        have HFK := Lib.hid hFk
        have hsz : (bvs b).toArray.size = 128 := by rw [bvs_size, hsl]
        have htn := topF_lt F kk
        have hcb := cntB_lt b
        have htop : topF F (kk + 1) = match F kk with | some s => max (topF F kk) (cntB s) | none => topF F kk := rfl
        have HTOP := Lib.hid htop
        obtain ⟨T, hT⟩ : ∃ T, topF F kk = T := ⟨_, rfl⟩
        rw [hT] at HTOP htn ⊢
        have g1 : (kk : Int) < 20 := by omega
        have g2 : (0 : Int) ≤ (kk : Int) := by omega
        have hw1 : IntKind.i64.wrap (p + (kk : Int)) = p + (kk : Int) := IntWalk.i64_in _ (by omega)
        clear hb hE hFk htop hT
        go_wp2_with fail
        have hB0 := hB
        refine wp_region_planT ((.q 0 (.q 1 (.q 2 (.q 3 (.q 4 (.q 5 (.q 6 (.q 7 (.q 8 (.q 9 (.two 10 14 (.q 11 (.q 12 (.q 13 (.l 14 (.l 15 (.q 16 .done)))))) (.l 10 (.q 11 (.q 12 (.q 13 (.l 15 (.q 16 .done))))))))))))))))))
          (fun z => z.cell? ⟨k, 0, none⟩ = some (.pointer (some ⟨g, 0, none⟩)) ∧ z.cell? ⟨k, 1, none⟩ = some (.int .i64 p)) (by kernel_rfl) (by kernel_rfl) (by kernel_rfl) (by kernel_rfl) (by kernel_rfl) (fun _ _ d _ _ h => by cases d <;> exact h) ⟨c0, c1⟩ ?_
        iterate 10 (refine wpT_q (by rfl) ?_ (by rfl) ?_ ?_; rotate_left; (focus (intro z hz; (try dsimp only at hz); go_simp; rfl)); simp only [Act.put])
        refine wpT_two (by rfl) (by rfl) (by rfl) (by rfl) (fun K hK => ?_) (fun K hK => ?_)
        · go_wp2_with fail
          refine (rgread _ base g _ _ (hDk.below drew_below) hg (p + (kk : Int))).mono ?_
          rw [HB.out, HE.out]
          rintro e w3 ⟨rfl, hb⟩
          have hb3 : Below wr.heap.size wr w3 := drew_below.trans hb
          have hbk := hbk.trans (hb3.mono hbk.size)
          have hB := hB0.below hbk hB0.lt
          clear c0 c1
          have c0 := hB.cell 0
          have c1 := hB.cell 1
          simp only [List.getElem?_toArray, List.getElem?_cons_zero, List.getElem?_cons_succ] at c0 c1
          refine hK _ _ _ ⟨c0, c1⟩ (fun _ h => h) ?_
          clear hK hb hb3
          iterate 3 (refine wpT_q (by rfl) ?_ (by rfl) ?_ ?_; rotate_left; (focus (intro z hz; (try dsimp only at hz); go_simp; rfl)); simp only [Act.put])
          refine wpT_l (by rfl) (by rfl) (fun K hK => ?_)
          go_simp
          have hZ := Blk.new w3 89 Tryz.zeroCells89
          rw [zc128] at hZ
          have hal := below_alloc w3 (.cells (bvs zs).toArray 89)
          have hgz : w.heap.size ≤ w3.heap.size := hbk.size
          have hbk := hbk.trans (hal.mono hbk.size)
          rw [zc128]
          obtain ⟨gz, hgze⟩ : ∃ x, w3.heap.size = x := ⟨_, rfl⟩
          obtain ⟨w4, hw4⟩ : ∃ x, w3.alloc (.cells (bvs zs).toArray 89) = x := ⟨_, rfl⟩
          rw [hw4] at hZ hbk ⊢
          rw [hgze] at hZ hgz ⊢
          clear hal hgze hw4 c0 c1 hB
          have hB := hB0.below hbk hB0.lt
          have c0 := hB.cell 0
          have c1 := hB.cell 1
          simp only [List.getElem?_toArray, List.getElem?_cons_zero, List.getElem?_cons_succ] at c0 c1
          refine hK _ _ _ ⟨c0, c1⟩ (fun _ h => h) ?_
          clear hK c0 c1 hB
          try simp only [Act.put, List.setIfInBounds_toArray, List.set_cons_zero, List.set_cons_succ]
          refine wpT_l (by rfl) (by rfl) (fun K hK => ?_)
          refine wp_storeRow rfl gz 89 (bvs zs).toArray (bvs b).toArray i128 hZ zsA_size hsz (by simpa using bvs_one b) rfl rfl ?_
          have hZ := hZ.setRow (bvs b).toArray
          have hbk := hbk.grown (grownBy_setRow _ gz (bvs b).toArray) hbk.size (fun q hq => by cases hq; exact hgz)
          have hB := hB0.below hbk hB0.lt
          have c0 := hB.cell 0
          have c1 := hB.cell 1
          simp only [List.getElem?_toArray, List.getElem?_cons_zero, List.getElem?_cons_succ] at c0 c1
          refine hK _ _ _ ⟨c0, c1⟩ (fun _ h => h) ?_
          clear hK c0 c1 hB
          iterate 1 (refine wpT_q (by rfl) ?_ (by rfl) ?_ ?_; rotate_left; (focus (intro z hz; (try dsimp only at hz); go_simp; rfl)); simp only [Act.put])
          refine wpT_done ?_
          by_cases hE0 : E = 0
          · subst hE0
            have hsome : F kk = some b := HFK.out.trans (if_pos rfl)
            have htop : topF F (kk + 1) = max T (cntB b) := by have := HTOP.out; rw [hsome] at this; exact this
            have HT := Lib.hid htop
            have hmx : max (T : Int) (cntB b : Int) = ((max T (cntB b) : Nat) : Int) := by omega
            clear hsome htop
            repeat (first | ((with_reducible refine wpl_load gz _ _ Tryz.underlying89 i128 hZ hsz ?_ ?_); (focus rfl); simp only [Act.put, List.setIfInBounds_toArray, List.set_cons_zero, List.set_cons_succ]) | go_values | go_skip | go_guarded | go_step | go_upon | go_back)
            refine (rcount_any _ b hsl).mono ?_
            rintro e w9 ⟨rfl, hb⟩
            simp only []
            have hbk := hbk.trans (hb.mono hbk.size)
            clear hb hZ
            go_wp2_with fail
            exact ⟨⟨kk + 1, by omega, congrArg (Value.int .i64) (by omega), congrArg (Value.int .u64) (by rw [HT.out]; omega), hbk⟩, by simp [intOf]; omega⟩
          · have hne : (E == 0) = false := by simpa using hE0
            have htop : topF F (kk + 1) = T := by have := HTOP.out; rw [HFK.out, if_neg hE0] at this; exact this
            have HT := Lib.hid htop
            clear htop hE0
            go_wp2_with fail
            exact ⟨⟨kk + 1, by omega, congrArg (Value.int .i64) (by omega), congrArg (Value.int .u64) (by rw [HT.out]), hbk⟩, by simp [intOf]; omega⟩
        · go_simp
          have hZ : Blk (wr.alloc (.cells (bvs zs).toArray 89)).drew wr.heap.size 89 (bvs zs).toArray := Blk.new wr 89 (bvs zs).toArray
          have hgz : w.heap.size ≤ wr.heap.size := hbk.size
          have hbw : Below wr.heap.size wr (wr.alloc (.cells (bvs zs).toArray 89)).drew := (below_alloc wr (.cells (bvs zs).toArray 89)).drew
          have hbk := hbk.trans (hbw.mono hbk.size)
          have hDk := hDk.below hbw
          rw [zc128]
          obtain ⟨w4, hw4⟩ : ∃ x, (wr.alloc (.cells (bvs zs).toArray 89)).drew = x := ⟨_, rfl⟩
          rw [hw4] at hZ hbk hDk ⊢
          obtain ⟨gz, hgze⟩ : ∃ x, wr.heap.size = x := ⟨_, rfl⟩
          rw [hgze] at hZ hgz ⊢
          clear hgze hw4 c0 c1 hbw
          have hB := hB0.below hbk hB0.lt
          have c0 := hB.cell 0
          have c1 := hB.cell 1
          simp only [List.getElem?_toArray, List.getElem?_cons_zero, List.getElem?_cons_succ] at c0 c1
          refine hK _ _ _ ⟨c0, c1⟩ (fun _ h => h) ?_
          clear hK c0 c1 hB
          try simp only [Act.put, List.setIfInBounds_toArray, List.set_cons_zero, List.set_cons_succ]
          refine wpT_l (by rfl) (by rfl) (fun K hK => ?_)
          go_wp2_with fail
          refine (rgread _ base g _ _ hDk hg (p + (kk : Int))).mono ?_
          rw [HB.out, HE.out]
          rintro e w3 ⟨rfl, hb⟩
          have hbk := hbk.trans (hb.mono hbk.size)
          have hZ := hZ.below hb hZ.lt
          have hB := hB0.below hbk hB0.lt
          have c0 := hB.cell 0
          have c1 := hB.cell 1
          simp only [List.getElem?_toArray, List.getElem?_cons_zero, List.getElem?_cons_succ] at c0 c1
          refine hK _ _ _ ⟨c0, c1⟩ (fun _ h => h) ?_
          clear hK hb c0 c1 hB
          iterate 3 (refine wpT_q (by rfl) ?_ (by rfl) ?_ ?_; rotate_left; (focus (intro z hz; (try dsimp only at hz); go_simp; rfl)); simp only [Act.put])
          refine wpT_l (by rfl) (by rfl) (fun K hK => ?_)
          refine wp_storeRow rfl gz 89 (bvs zs).toArray (bvs b).toArray i128 hZ zsA_size hsz (by simpa using bvs_one b) rfl rfl ?_
          have hZ := hZ.setRow (bvs b).toArray
          have hbk := hbk.grown (grownBy_setRow _ gz (bvs b).toArray) hbk.size (fun q hq => by cases hq; exact hgz)
          have hB := hB0.below hbk hB0.lt
          have c0 := hB.cell 0
          have c1 := hB.cell 1
          simp only [List.getElem?_toArray, List.getElem?_cons_zero, List.getElem?_cons_succ] at c0 c1
          refine hK _ _ _ ⟨c0, c1⟩ (fun _ h => h) ?_
          clear hK c0 c1 hB
          iterate 1 (refine wpT_q (by rfl) ?_ (by rfl) ?_ ?_; rotate_left; (focus (intro z hz; (try dsimp only at hz); go_simp; rfl)); simp only [Act.put])
          refine wpT_done ?_
          by_cases hE0 : E = 0
          · subst hE0
            have hsome : F kk = some b := HFK.out.trans (if_pos rfl)
            have htop : topF F (kk + 1) = max T (cntB b) := by have := HTOP.out; rw [hsome] at this; exact this
            have HT := Lib.hid htop
            have hmx : max (T : Int) (cntB b : Int) = ((max T (cntB b) : Nat) : Int) := by omega
            clear hsome htop
            repeat (first | ((with_reducible refine wpl_load gz _ _ Tryz.underlying89 i128 hZ hsz ?_ ?_); (focus rfl); simp only [Act.put, List.setIfInBounds_toArray, List.set_cons_zero, List.set_cons_succ]) | go_values | go_skip | go_guarded | go_step | go_upon | go_back)
            refine (rcount_any _ b hsl).mono ?_
            rintro e w9 ⟨rfl, hb⟩
            simp only []
            have hbk := hbk.trans (hb.mono hbk.size)
            clear hb hZ
            go_wp2_with fail
            exact ⟨⟨kk + 1, by omega, congrArg (Value.int .i64) (by omega), congrArg (Value.int .u64) (by rw [HT.out]; omega), hbk⟩, by simp [intOf]; omega⟩
          · have hne : (E == 0) = false := by simpa using hE0
            have htop : topF F (kk + 1) = T := by have := HTOP.out; rw [HFK.out, if_neg hE0] at this; exact this
            have HT := Lib.hid htop
            clear htop hE0
            go_wp2_with fail
            exact ⟨⟨kk + 1, by omega, congrArg (Value.int .i64) (by omega), congrArg (Value.int .u64) (by rw [HT.out]), hbk⟩, by simp [intOf]; omega⟩
      · obtain rfl : kk = 20 := by omega
        have g1 : ¬ ((20 : Nat) : Int) < 20 := by omega
        go_wp2_with fail
        go_meet
        exact ⟨rfl, hbk⟩
  case rest =>
    obtain ⟨rfl, hb0⟩ := hcut
    have htn := topF_lt F 20
    have hwr := wrap64u (topF F 20)
    have hnx := HNX.out
    rw [← hnx] at hwr
    obtain ⟨T, hT⟩ : ∃ T, topF F 20 = T := ⟨_, rfl⟩
    rw [hT] at htn hwr ⊢
    have HWR := Lib.hid hwr
    have hB := hB.below hb0 hB.lt
    have hD := hD.below hb0
    have hr := hr.below hb0
    have hm0 : RCMoved w wc l l k := RCMoved.of_moved (RMoved.of_below hb0) k
    have hbase := Nat.le_trans hbase hb0.size
    clear hb0 hT hwr hnx HNX HFV c0 c1 c3 c4
    have c0 := hB.cell 0
    have c1 := hB.cell 1
    have c3 := hB.cell 3
    simp only [List.getElem?_toArray, List.getElem?_cons_zero, List.getElem?_cons_succ] at c0 c1 c3
    go_wp2_with fail
    refine wp_region_plan [(0, true), (1, true), (2, true), (3, true), (4, true), (5, true), (6, true), (7, true), (8, true), (9, true), (10, true), (11, true), (12, true), (13, true), (14, false), (15, true)]
      (fun z => z.cell? ⟨k, 0, none⟩ = some (.pointer (some ⟨g, 0, none⟩)) ∧ z.cell? ⟨k, 1, none⟩ = some (.int .i64 p)) (by kernel_rfl) (by kernel_rfl) (by kernel_rfl) (by kernel_rfl) (fun _ _ d _ _ h => by cases d <;> exact h) ⟨c0, c1⟩ ?_
    simp only [planOps, List.getElem?_toArray, List.getElem?_cons_zero, List.getElem?_cons_succ]
    repeat (first
      | (refine wpS_skip (by rfl) ?_; simp only [Act.put, List.setIfInBounds_toArray, List.set_cons_zero, List.set_cons_succ])
      | (refine wpS_q ?_ (by rfl) ?_ ?_; rotate_left; (focus (intro z hz; (try dsimp only at hz); go_simp; rfl)); simp only [Act.put, List.setIfInBounds_toArray, List.set_cons_zero, List.set_cons_succ]))
    obtain ⟨r, hre⟩ : ∃ r, wrS d (p + (tw : Int) * 10) (nextF d p) b 10 = r := ⟨_, rfl⟩
    have hpt : ptF d p which b = if r.2 = 0 then (syncAll r.1, syncE r.1) else r := by
      have h1 := HTE.out
      rw [ptF, h1, hre]
    have HRE := Lib.hid hre
    have HPT := Lib.hid hpt
    clear hre hpt
    refine wpS_l (by rfl) (fun K hK => ?_)
    go_wp2_with fail
    rw [HWR.out]
    refine (rwrite5_any wc.drew base l d (hD.below drew_below) g hg hbase (by omega) (p + (tw : Int) * 10) (by omega) (nextF d p) hnlt A n cap b (hr.below drew_below) hn).mono ?_
    rw [HRE.out]
    rintro e w4 ⟨l4, rfl, hlg4, hD4, hm4⟩
    have hm4 : RMoved wc w4 l l4 := (RMoved.of_below drew_below).trans hm4
    have hB4 := hm4.chg.blk hB hout
    have hr4 := hm4.chg.rbN hr (fun hn0 x hx => (hap hn0 x hx).1)
    have hm4' := hm0.trans (RCMoved.of_moved hm4 k)
    have hs4 := hm4.chg.size
    have c0 := hB4.cell 0
    have c1 := hB4.cell 1
    simp only [List.getElem?_toArray, List.getElem?_cons_zero, List.getElem?_cons_succ] at c0 c1
    have hout4 : ¬ l4.fp k := fun hf => by
      rcases hm4.fp k hf with h | h
      · exact hout h
      · have := hB.lt
        omega
    have hap4 : n ≠ 0 → ∀ x, A.map (·.block) = some x → ¬ l4.fp x ∧ x ≠ k := fun hn0 x hx => ⟨fun hf => by
      rcases hm4.fp x hf with h | h
      · exact (hap hn0 x hx).1 h
      · obtain ⟨ad, hA, hlt, _⟩ := hr.2 (by omega)
        rw [hA] at hx
        have : ad.block = x := Option.some.inj hx
        omega, (hap hn0 x hx).2⟩
    refine hK _ _ _ ⟨c0, c1⟩ (fun _ h => h) ?_
    clear hK hm4 hB hD hr hm0 hap HWR
    iterate 1 (refine wpS_q ?_ (by rfl) ?_ ?_; rotate_left; (focus (intro z hz; (try dsimp only at hz); go_simp; rfl)); simp only [Act.put, List.setIfInBounds_toArray, List.set_cons_zero, List.set_cons_succ])
    refine wpS_nil ?_
    clear c0 c1 c3
    by_cases he : r.2 = 0
    · have he' : (r.2 == 0) = true := by simpa using he
      have c0 := hB4.cell 0
      simp only [List.getElem?_toArray, List.getElem?_cons_zero] at c0
      have hpt := HPT.out
      rw [if_pos he] at hpt
      have HPT2 := Lib.hid hpt
      rw [he]
      clear hpt he he'
      go_wp2_with fail
      refine (rgsync _ base g _ _ hD4 hlg4 (by omega)).mono ?_
      rintro e w5 ⟨l5, rfl, hlg5, hD5, hm5⟩
      simp only []
      obtain ⟨E, hE⟩ : ∃ E, syncE r.1 = E := ⟨_, rfl⟩
      rw [hE]
      have hpt := HPT2.out
      rw [hE] at hpt
      have HPT3 := Lib.hid hpt
      have hB5 := hm5.chg.blk hB4 hout4
      have hr5 := hm5.chg.rbN hr4 (fun hn0 x hx => (hap4 hn0 x hx).1)
      have hm5' := hm4'.trans (RCMoved.of_moved hm5 k)
      have hs5 := hm5.chg.size
      have hout5 : ¬ l5.fp k := fun hf => by
        rcases hm5.fp k hf with h | h
        · exact hout4 h
        · have := hB4.lt
          omega
      clear hE hpt HPT2 c0 hm5 hB4 hD4 hm4' hr4
      by_cases hE0 : E = 0
      · subst hE0
        have f3 := hB5.frozen 3
        have c3 := hB5.cell 3
        simp only [List.getElem?_toArray, List.getElem?_cons_zero, List.getElem?_cons_succ] at c3
        have hB6 := hB5.set_ 3 (.int .i64 (tw : Int))
        simp only [List.setIfInBounds_toArray, List.set_cons_zero, List.set_cons_succ] at hB6
        have hg6 := grownBy_set w5 k 3 (.int .i64 (tw : Int))
        have hD6 : RDk (w5.setCell ⟨k, 3, none⟩ (.int .i64 (tw : Int))) base l5 (syncAll r.1) := hD5.beside hout5
        have hr6 := (Chg.of_grown (F := fun x => x = k) hg6 rfl).rbN hr5 (fun hn0 x hx e => (hap4 hn0 x hx).2 e)
        have hm6 := hm5'.set 3 (.int .i64 (tw : Int))
        have hlt5 := hB5.lt
        clear hB5 hD5 hm5' hr5 hap4
        go_upto_region 20 with (fail)
        have hs6 := hg6.size
        obtain ⟨w6, hw6⟩ : ∃ x, w5.setCell ⟨k, 3, none⟩ (.int .i64 (tw : Int)) = x := ⟨_, rfl⟩
        rw [hw6] at hB6 hD6 hr6 hm6 hs6 ⊢
        have hbl := hr6.len
        clear hw6 f3 c3 hg6
        go_wp2_with (at_builtin; refine app_bytes rfl _ _ rfl w6.heap.size _ _ _ [] rfl (OB.empty _ _) _ _ _ b rfl (hr6.below (below_alloc _ _)) (by omega) (by simp) ?_; intro A7 N7 c7 w7 hc2 hc3 hO7 hG7; refine Hid.out ?_)
        refine Lib.hid ?_
        have hb7 : Below w6.heap.size w6 w7 := hG7.below (below_alloc _ _) (by simp) (by simp)
        have hB7 := hB6.below hb7 hB6.lt
        have hD7 := hD6.below hb7
        have hm7 := hm6.trans (RCMoved.of_moved (RMoved.of_below (l := l5) hb7) k)
        have hs7 := hb7.size
        have f2 := hB7.frozen 2
        have c2 := hB7.cell 2
        simp only [List.getElem?_toArray, List.getElem?_cons_zero, List.getElem?_cons_succ] at c2
        have hB9 := hB7.set_ 2 (.slice A7 N7 c7)
        simp only [List.setIfInBounds_toArray, List.set_cons_zero, List.set_cons_succ] at hB9
        have hg9 := grownBy_set w7 k 2 (.slice A7 N7 c7)
        have hs9 := hg9.size
        have hD9 : RDk (w7.setCell ⟨k, 2, none⟩ (.slice A7 N7 c7)) base l5 (syncAll r.1) := hD7.beside hout5
        have hm9 := hm7.set 2 (.slice A7 N7 c7)
        clear hB6 hD6 hr6 hm6 hb7 hB7 hD7 hm7 hO7 hg9 hG7
        go_wp2_with fail
        go_ret
        exact ⟨l5, by rw [HPT3.out]; rfl, hlg5, by rw [HPT3.out]; exact hD9, ⟨⟨_, by rw [hlg5, HPT3.out]; simp only [putCell, if_pos, HPE.out, HWE.out, HTE.out]; exact hB9⟩, hout5, hbk, by rw [HPT3.out]; simp only [putCell, if_pos, HWE.out, HTE.out]; exact hto1⟩, hm9⟩
      · skip
        have hne : (E != 0) = true := by simpa using hE0
        have hfin : ptF d p which b = (syncAll r.1, E) := HPT3.out
        have HFIN := Lib.hid hfin
        have HE0 := Lib.hid hE0
        have f4 := hB5.frozen 4
        have c4 := hB5.cell 4
        simp only [List.getElem?_toArray, List.getElem?_cons_zero, List.getElem?_cons_succ] at c4
        have hB6 := hB5.set_ 4 (.bool true)
        simp only [List.setIfInBounds_toArray, List.set_cons_zero, List.set_cons_succ] at hB6
        have hg6 := grownBy_set w5 k 4 (.bool true)
        have hs6 := hg6.size
        have hD6 : RDk (w5.setCell ⟨k, 4, none⟩ (.bool true)) base l5 (syncAll r.1) := hD5.beside hout5
        have hm6 := hm5'.set 4 (.bool true)
        clear hfin hE0 hB5 hD5 hm5' hap4 hg6
        go_wp2_with fail
        go_ret
        exact ⟨l5, by rw [HFIN.out]; rfl, hlg5, by rw [HFIN.out]; exact hD6, ⟨⟨_, by rw [hlg5, HFIN.out]; simp only [putCell, if_neg HE0.out, HPE.out, HWE.out]; exact hB6⟩, hout5, hbk, by rw [HFIN.out]; simp only [putCell, if_neg HE0.out, HWE.out]; exact hwh⟩, hm6⟩
    · have he' : (r.2 == 0) = false := by simpa using he
      have hne : (r.2 != 0) = true := by simpa using he
      have hfin : ptF d p which b = (r.1, r.2) := by rw [HPT.out, if_neg he]
      have HFIN := Lib.hid hfin
      have HE0 := Lib.hid he
      have f4 := hB4.frozen 4
      have c4 := hB4.cell 4
      simp only [List.getElem?_toArray, List.getElem?_cons_zero, List.getElem?_cons_succ] at c4
      have hB6 := hB4.set_ 4 (.bool true)
      simp only [List.setIfInBounds_toArray, List.set_cons_zero, List.set_cons_succ] at hB6
      have hg6 := grownBy_set w4 k 4 (.bool true)
      have hs6 := hg6.size
      have hD6 : RDk (w4.setCell ⟨k, 4, none⟩ (.bool true)) base l4 r.1 := hD4.beside hout4
      have hm6 := hm4'.set 4 (.bool true)
      clear hfin he hB4 hD4 hm4' hr4 hap4 hg6
      go_wp2_with fail
      go_ret
      exact ⟨l4, by rw [HFIN.out]; rfl, hlg4, by rw [HFIN.out]; exact hD6, ⟨⟨_, by rw [hlg4, HFIN.out]; simp only [putCell, if_neg HE0.out, HPE.out, HWE.out]; exact hB6⟩, hout4, hbk, by rw [HFIN.out]; simp only [putCell, if_neg HE0.out, HWE.out]; exact hwh⟩, hm6⟩
end Go.Proofs.YtmjdfajdompkeaaGreatDoor
