/- cell: next, Get. -/
import Derived.Test.YtmjdfajdompkeaaCh
import Derived.Test.YtmjdfajdompkeaaPlt
namespace Go.Proofs.Ytmjdfajdompkeaa
open Go.RowKit Go.Rat
theorem wrap64u (n : Nat) : IntKind.u64.wrap ((n : Int) + 1) = (((n + 1) % 2 ^ 64 : Nat) : Int) := by
  simp [IntKind.wrap, IntKind.signed, IntKind.bits]
set_option maxRecDepth 20000 in
set_option maxHeartbeats 8000000 in
theorem cnext_any (w : World) (base : Nat) (l : DL) (d : DS) (hD : DiskAt w base l d) (g : Nat) (hg : l.g = g) (k : Nat) (s : CS) (hC : CellAt w base l k s) (hp : 0 ≤ s.p ∧ s.p + 20 ≤ 32768) :
    Calls Try.prog 65 #[.pointer (some ⟨k, 0, none⟩)] w fun e w' => e = .returned (.int .u64 (nextF d s.p : Int)) ∧ Below w.heap.size w w' := by
  obtain ⟨A, N, c, hB, _, _⟩ := hC.blk
  rw [hg] at hB
  obtain ⟨p, hpe⟩ : ∃ p, s.p = p := ⟨_, rfl⟩
  rw [hpe] at hB hp ⊢
  obtain ⟨F, hF⟩ : ∃ F, viewD d p = F := ⟨_, rfl⟩
  have hFv : ∀ i : Nat, F i = if readE d (p + (i : Int)) = 0 then some (readB d (p + (i : Int))) else none := fun i => by rw [← hF]; rfl
  have hnx : nextF d p = (topF F 20 + 1) % 2 ^ 64 := by rw [nextF, hF]
  have HFV := Lib.hid hFv
  have HNX := Lib.hid hnx
  clear hF hFv hnx hC hpe
  go_enter Try.func65, Try.ntmps65
  go_upto_block 0 with (fail)
  go_cut [2] (fun n wx => n = .int .u64 (topF F 20 : Int) ∧ Below w.heap.size w wx)
  case first =>
    go_wp2_with fail
    go_loopw [2, 6] (fun n i wr => ∃ kk : Nat, kk ≤ 20 ∧ i = .int .i64 (kk : Int) ∧ n = .int .u64 (topF F kk : Int) ∧ Below w.heap.size w wr) (fun _ i _ => 20 - (intOf i).toNat)
    case atStart => exact ⟨0, by omega, rfl, rfl, Below.refl _ _⟩
    case round =>
      obtain ⟨kk, hk, rfl, rfl, hbk⟩ := hrel
      by_cases hk20 : kk < 20
      · have hBk := hB.below hbk hB.lt
        have hDk := hD.below hbk
        have c0 := hBk.cell 0
        have c1 := hBk.cell 1
        simp only [List.getElem?_toArray, List.getElem?_cons_zero, List.getElem?_cons_succ] at c0 c1
        have hFk := HFV.out kk
        have hsl : (readB d (p + (kk : Int))).length = 128 := readB_length hDk.ok _
        obtain ⟨b, hb⟩ : ∃ s, readB d (p + (kk : Int)) = s := ⟨_, rfl⟩
        obtain ⟨E, hE⟩ : ∃ E, readE d (p + (kk : Int)) = E := ⟨_, rfl⟩
        rw [hb] at hFk hsl
        rw [hE] at hFk
        have HB := Lib.hid hb
        have HE := Lib.hid hE
        have HFK := Lib.hid hFk
        have hsz : (bvs b).toArray.size = 128 := by rw [bvs_size, hsl]
        have htn := topF_lt F kk
        have hcb := cntB_lt b
        have htop : topF F (kk + 1) = match F kk with | some s => max (topF F kk) (cntB s) | none => topF F kk := rfl
        have HTOP := Lib.hid htop
        obtain ⟨T, hT⟩ : ∃ T, topF F kk = T := ⟨_, rfl⟩
        rw [hT] at HTOP htn ⊢
        have g1 : (kk : Int) < 20 := by omega
        have g2 : (0 : Int) ≤ (kk : Int) := by omega
        have hw1 : IntKind.i64.wrap (p + (kk : Int)) = p + (kk : Int) := IntWalk.i64_in _ (by omega)
        clear hb hE hFk htop hT
        go_wp2_with fail
        have hB0 := hB
        refine wp_region_planT ((.q 0 (.q 1 (.q 2 (.q 3 (.q 4 (.q 5 (.q 6 (.q 7 (.q 8 (.q 9 (.q 10 (.q 11 (.two 12 16 (.q 13 (.q 14 (.q 15 (.l 16 (.l 17 (.q 18 .done)))))) (.l 12 (.q 13 (.q 14 (.q 15 (.l 17 (.q 18 .done))))))))))))))))))))
          (fun z => z.cell? ⟨k, 0, none⟩ = some (.pointer (some ⟨g, 0, none⟩)) ∧ z.cell? ⟨k, 1, none⟩ = some (.int .i64 p)) (by kernel_rfl) (by kernel_rfl) (by kernel_rfl) (by kernel_rfl) (by kernel_rfl) (fun _ _ d _ _ h => by cases d <;> exact h) ⟨c0, c1⟩ ?_
        iterate 12 (refine wpT_q (by rfl) ?_ (by rfl) ?_ ?_; rotate_left; (focus (intro z hz; (try dsimp only at hz); go_simp; rfl)); simp only [Act.put])
        refine wpT_two (by rfl) (by rfl) (by rfl) (by rfl) (fun K hK => ?_) (fun K hK => ?_)
        · go_wp2_with fail
          refine (gread _ base g _ _ (hDk.below drew_below) hg (p + (kk : Int))).mono ?_
          rw [HB.out, HE.out]
          rintro e w3 ⟨rfl, hb⟩
          have hb3 : Below wr.heap.size wr w3 := drew_below.trans hb
          have hbk := hbk.trans (hb3.mono hbk.size)
          have hB := hB0.below hbk hB0.lt
          clear c0 c1
          have c0 := hB.cell 0
          have c1 := hB.cell 1
          simp only [List.getElem?_toArray, List.getElem?_cons_zero, List.getElem?_cons_succ] at c0 c1
          refine hK _ _ _ ⟨c0, c1⟩ (fun _ h => h) ?_
          clear hK hb hb3
          iterate 3 (refine wpT_q (by rfl) ?_ (by rfl) ?_ ?_; rotate_left; (focus (intro z hz; (try dsimp only at hz); go_simp; rfl)); simp only [Act.put])
          refine wpT_l (by rfl) (by rfl) (fun K hK => ?_)
          go_simp
          have hZ := Blk.new w3 28 Try.zeroCells28
          rw [zc128] at hZ
          have hal := below_alloc w3 (.cells (bvs zs).toArray 28)
          have hgz : w.heap.size ≤ w3.heap.size := hbk.size
          have hbk := hbk.trans (hal.mono hbk.size)
          rw [zc128]
          obtain ⟨gz, hgze⟩ : ∃ x, w3.heap.size = x := ⟨_, rfl⟩
          obtain ⟨w4, hw4⟩ : ∃ x, w3.alloc (.cells (bvs zs).toArray 28) = x := ⟨_, rfl⟩
          rw [hw4] at hZ hbk ⊢
          rw [hgze] at hZ hgz ⊢
          clear hal hgze hw4 c0 c1 hB
          have hB := hB0.below hbk hB0.lt
          have c0 := hB.cell 0
          have c1 := hB.cell 1
          simp only [List.getElem?_toArray, List.getElem?_cons_zero, List.getElem?_cons_succ] at c0 c1
          refine hK _ _ _ ⟨c0, c1⟩ (fun _ h => h) ?_
          clear hK c0 c1 hB
          try simp only [Act.put, List.setIfInBounds_toArray, List.set_cons_zero, List.set_cons_succ]
          refine wpT_l (by rfl) (by rfl) (fun K hK => ?_)
          refine wp_storeRow rfl gz 28 (bvs zs).toArray (bvs b).toArray i128 hZ zsA_size hsz (by simpa using bvs_one b) rfl rfl ?_
          have hZ := hZ.setRow (bvs b).toArray
          have hbk := hbk.grown (grownBy_setRow _ gz (bvs b).toArray) hbk.size (fun q hq => by cases hq; exact hgz)
          have hB := hB0.below hbk hB0.lt
          have c0 := hB.cell 0
          have c1 := hB.cell 1
          simp only [List.getElem?_toArray, List.getElem?_cons_zero, List.getElem?_cons_succ] at c0 c1
          refine hK _ _ _ ⟨c0, c1⟩ (fun _ h => h) ?_
          clear hK c0 c1 hB
          iterate 1 (refine wpT_q (by rfl) ?_ (by rfl) ?_ ?_; rotate_left; (focus (intro z hz; (try dsimp only at hz); go_simp; rfl)); simp only [Act.put])
          refine wpT_done ?_
          by_cases hE0 : E = 0
          · subst hE0
            have hsome : F kk = some b := HFK.out.trans (if_pos rfl)
            have htop : topF F (kk + 1) = max T (cntB b) := by have := HTOP.out; rw [hsome] at this; exact this
            have HT := Lib.hid htop
            have hmx : max (T : Int) (cntB b : Int) = ((max T (cntB b) : Nat) : Int) := by omega
            clear hsome htop
            repeat (first | ((with_reducible refine wpl_load gz _ _ Try.underlying28 i128 hZ hsz ?_ ?_); (focus rfl); simp only [Act.put, List.setIfInBounds_toArray, List.set_cons_zero, List.set_cons_succ]) | go_values | go_skip | go_guarded | go_step | go_upon | go_back)
            refine (ccount_any _ b hsl).mono ?_
            rintro e w9 ⟨rfl, hb⟩
            simp only []
            have hbk := hbk.trans (hb.mono hbk.size)
            clear hb hZ
            go_wp2_with fail
            exact ⟨⟨kk + 1, by omega, congrArg (Value.int .i64) (by omega), congrArg (Value.int .u64) (by rw [HT.out]; omega), hbk⟩, by simp [intOf]; omega⟩
          · have hne : (E == 0) = false := by simpa using hE0
            have htop : topF F (kk + 1) = T := by have := HTOP.out; rw [HFK.out, if_neg hE0] at this; exact this
            have HT := Lib.hid htop
            clear htop hE0
            go_wp2_with fail
            exact ⟨⟨kk + 1, by omega, congrArg (Value.int .i64) (by omega), congrArg (Value.int .u64) (by rw [HT.out]), hbk⟩, by simp [intOf]; omega⟩
        · go_simp
          have hZ : Blk (wr.alloc (.cells (bvs zs).toArray 28)).drew wr.heap.size 28 (bvs zs).toArray := Blk.new wr 28 (bvs zs).toArray
          have hgz : w.heap.size ≤ wr.heap.size := hbk.size
          have hbw : Below wr.heap.size wr (wr.alloc (.cells (bvs zs).toArray 28)).drew := (below_alloc wr (.cells (bvs zs).toArray 28)).drew
          have hbk := hbk.trans (hbw.mono hbk.size)
          have hDk := hDk.below hbw
          rw [zc128]
          obtain ⟨w4, hw4⟩ : ∃ x, (wr.alloc (.cells (bvs zs).toArray 28)).drew = x := ⟨_, rfl⟩
          rw [hw4] at hZ hbk hDk ⊢
          obtain ⟨gz, hgze⟩ : ∃ x, wr.heap.size = x := ⟨_, rfl⟩
          rw [hgze] at hZ hgz ⊢
          clear hgze hw4 c0 c1 hbw
          have hB := hB0.below hbk hB0.lt
          have c0 := hB.cell 0
          have c1 := hB.cell 1
          simp only [List.getElem?_toArray, List.getElem?_cons_zero, List.getElem?_cons_succ] at c0 c1
          refine hK _ _ _ ⟨c0, c1⟩ (fun _ h => h) ?_
          clear hK c0 c1 hB
          try simp only [Act.put, List.setIfInBounds_toArray, List.set_cons_zero, List.set_cons_succ]
          refine wpT_l (by rfl) (by rfl) (fun K hK => ?_)
          go_wp2_with fail
          refine (gread _ base g _ _ hDk hg (p + (kk : Int))).mono ?_
          rw [HB.out, HE.out]
          rintro e w3 ⟨rfl, hb⟩
          have hbk := hbk.trans (hb.mono hbk.size)
          have hZ := hZ.below hb hZ.lt
          have hB := hB0.below hbk hB0.lt
          have c0 := hB.cell 0
          have c1 := hB.cell 1
          simp only [List.getElem?_toArray, List.getElem?_cons_zero, List.getElem?_cons_succ] at c0 c1
          refine hK _ _ _ ⟨c0, c1⟩ (fun _ h => h) ?_
          clear hK hb c0 c1 hB
          iterate 3 (refine wpT_q (by rfl) ?_ (by rfl) ?_ ?_; rotate_left; (focus (intro z hz; (try dsimp only at hz); go_simp; rfl)); simp only [Act.put])
          refine wpT_l (by rfl) (by rfl) (fun K hK => ?_)
          refine wp_storeRow rfl gz 28 (bvs zs).toArray (bvs b).toArray i128 hZ zsA_size hsz (by simpa using bvs_one b) rfl rfl ?_
          have hZ := hZ.setRow (bvs b).toArray
          have hbk := hbk.grown (grownBy_setRow _ gz (bvs b).toArray) hbk.size (fun q hq => by cases hq; exact hgz)
          have hB := hB0.below hbk hB0.lt
          have c0 := hB.cell 0
          have c1 := hB.cell 1
          simp only [List.getElem?_toArray, List.getElem?_cons_zero, List.getElem?_cons_succ] at c0 c1
          refine hK _ _ _ ⟨c0, c1⟩ (fun _ h => h) ?_
          clear hK c0 c1 hB
          iterate 1 (refine wpT_q (by rfl) ?_ (by rfl) ?_ ?_; rotate_left; (focus (intro z hz; (try dsimp only at hz); go_simp; rfl)); simp only [Act.put])
          refine wpT_done ?_
          by_cases hE0 : E = 0
          · subst hE0
            have hsome : F kk = some b := HFK.out.trans (if_pos rfl)
            have htop : topF F (kk + 1) = max T (cntB b) := by have := HTOP.out; rw [hsome] at this; exact this
            have HT := Lib.hid htop
            have hmx : max (T : Int) (cntB b : Int) = ((max T (cntB b) : Nat) : Int) := by omega
            clear hsome htop
            repeat (first | ((with_reducible refine wpl_load gz _ _ Try.underlying28 i128 hZ hsz ?_ ?_); (focus rfl); simp only [Act.put, List.setIfInBounds_toArray, List.set_cons_zero, List.set_cons_succ]) | go_values | go_skip | go_guarded | go_step | go_upon | go_back)
            refine (ccount_any _ b hsl).mono ?_
            rintro e w9 ⟨rfl, hb⟩
            simp only []
            have hbk := hbk.trans (hb.mono hbk.size)
            clear hb hZ
            go_wp2_with fail
            exact ⟨⟨kk + 1, by omega, congrArg (Value.int .i64) (by omega), congrArg (Value.int .u64) (by rw [HT.out]; omega), hbk⟩, by simp [intOf]; omega⟩
          · have hne : (E == 0) = false := by simpa using hE0
            have htop : topF F (kk + 1) = T := by have := HTOP.out; rw [HFK.out, if_neg hE0] at this; exact this
            have HT := Lib.hid htop
            clear htop hE0
            go_wp2_with fail
            exact ⟨⟨kk + 1, by omega, congrArg (Value.int .i64) (by omega), congrArg (Value.int .u64) (by rw [HT.out]), hbk⟩, by simp [intOf]; omega⟩
      · obtain rfl : kk = 20 := by omega
        have g1 : ¬ ((20 : Nat) : Int) < 20 := by omega
        go_wp2_with fail
        go_meet
        exact ⟨rfl, hbk⟩
  case rest =>
    obtain ⟨rfl, hbk⟩ := hcut
    have htn := topF_lt F 20
    have hwr := wrap64u (topF F 20)
    have HWR := Lib.hid hwr
    obtain ⟨T, hT⟩ : ∃ T, topF F 20 = T := ⟨_, rfl⟩
    rw [hT] at HNX htn HWR ⊢
    clear hwr hT
    go_wp2_with fail
    go_ret
    exact ⟨congrArg (fun i => Ending.returned (.int .u64 i)) (by rw [HWR.out, HNX.out]), hbk⟩
end Go.Proofs.Ytmjdfajdompkeaa
