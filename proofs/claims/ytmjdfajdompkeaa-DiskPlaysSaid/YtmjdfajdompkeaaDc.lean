/- disk: Write. -/
import Derived.Test.YtmjdfajdompkeaaDca
namespace Go.Proofs.Ytmjdfajdompkeaa
open Go.RowKit Go.Rat
set_option maxRecDepth 20000 in
set_option maxHeartbeats 4000000 in
theorem dwrite_any (w : World) (base : Nat) (l : DL) (d : DS) (h : DiskAt w base l d) (hbase : base ≤ w.heap.size) (a : Int) (b : List UInt8) (hb : b.length = 128) (hlo : d.loose.length < 1000000000) :
    Calls Try.prog 21 #[.pointer (some ⟨l.g, 0, none⟩), .int .i64 a, .agg (bvs b).toArray] w fun e w' => ∃ l', e = .returned (.int .i64 (writeE d a)) ∧ DiskAt w' base l' (writeD d a b) ∧ Moved w w' l l' := by
  have hB0 := Blk.new w 28 (bvs b).toArray
  have hb1 := below_alloc w (.cells (bvs b).toArray 28)
  have hbs : (bvs b).toArray.size = 128 := by rw [bvs_size, hb]
  have h1 := h.below hb1
  have hgw := h.blk.lt
  go_enter Try.func21, Try.ntmps21
  go_upto_region 1 with (fail)
  generalize w.alloc (.cells (bvs b).toArray 28) = w1 at *
  by_cases hr : readyE d.off a = 0
  · obtain ⟨hoff, hra⟩ := readyE_zero hr
    have HR := Lib.hid hr
    go_upto_region 4 with (go_at_call 57; refine (dready_any _ base l d h1 a).mono ?_; rw [HR.out]; rintro e w2 ⟨rfl, rfl⟩; simp only [])
    have c1 := h1.blk.cell 1
    simp only [List.getElem?_toArray, List.getElem?_cons_zero, List.getElem?_cons_succ] at c1
    refine wp_region_plan [(0, true), (1, true), (2, true), (3, true), (4, true), (5, true), (6, true), (7, false)]
      (fun z => z.cell? ⟨l.g, 1, none⟩ = some (.map (some l.gn)) ∧ Blk z w.heap.size 28 (bvs b).toArray) (by kernel_rfl) (by kernel_rfl) (by kernel_rfl) (by kernel_rfl) (fun _ _ d _ _ h => by cases d <;> exact h) ⟨c1, hB0⟩ ?_
    simp only [planOps, List.getElem?_toArray, List.getElem?_cons_zero, List.getElem?_cons_succ]
    repeat (first
      | (refine wpS_skip (by rfl) ?_; simp only [Act.put, List.setIfInBounds_toArray, List.set_cons_zero, List.set_cons_succ])
      | (refine wpS_q ?_ (by rfl) ?_ ?_; rotate_left; (focus (intro z hz; (try dsimp only at hz); go_simp; rfl)); simp only [Act.put, List.setIfInBounds_toArray, List.set_cons_zero, List.set_cons_succ]))
    refine wpS_q (.agg (bvs b).toArray) (by rfl) (fun z hz => load_row_run rfl w.heap.size (bvs b).toArray Try.underlying28 rfl i128 hz.2 hbs rfl) ?_
    simp only [Act.put, List.setIfInBounds_toArray, List.set_cons_zero, List.set_cons_succ]
    refine wpS_q (.agg (secL ⟨b, false⟩).toArray) (by rfl) (fun z _ => build_sec b hb rfl) ?_
    simp only [Act.put, List.setIfInBounds_toArray, List.set_cons_zero, List.set_cons_succ]
    refine wpS_l (by rfl) (fun K hK => ?_)
    refine wp_mapStore _ _ _ rfl (h1.now.below drew_below h1.now.lt) Try.underlying3 Try.underlying104 a (wf64 hra) (.agg (secL ⟨b, false⟩).toArray) rfl rfl rfl ?_
    intro w3 hM3 hg3
    have hB1 : Blk w1.drew w.heap.size 28 (bvs b).toArray := hB0
    have hB3 := hB1.grown hg3 (by intro e; injection e with e; have := h.now.lt; omega)
    have hD3 := (Blk.below (w := w1) h1.blk drew_below h1.blk.lt).grown hg3 (by intro e; injection e with e; exact h.ne2 e)
    have c13 := hD3.cell 1
    have c23 := hD3.cell 2
    have f23 := hD3.frozen 2
    simp only [List.getElem?_toArray, List.getElem?_cons_zero, List.getElem?_cons_succ] at c13 c23
    refine hK _ _ (fun z => z.cell? ⟨l.g, 1, none⟩ = some (.map (some l.gn)) ∧ Blk z w.heap.size 28 (bvs b).toArray) ⟨c13, hB3⟩ (fun _ h => h) ?_
    clear hK c1 c13
    refine wpS_nil ?_
    have hS3 := (h1.sure.below drew_below h1.sure.lt).grown hg3 (by intro e; injection e with e; exact h.ne3 e)
    have hR3 : w3.ownsRow base 112 129 (.slice l.A d.loose.length l.c) d.loose.length (looseC d.loose) := (Chg.of_grown (F := fun x => x = l.gn) hg3 rfl).own (w := w1.drew) h1.row (fun x hx e => h.rn (by rw [hx, e]))
    have hc3 : Chg l.fp w w3 := (Chg.of_below l.fp hb1).trans ((Chg.of_below l.fp (drew_below (w := w1))).trans (Chg.of_grown (F := l.fp) hg3 (.inr (.inr (.inl rfl)))) (fun x hx => .inl hx)) (fun x hx => .inl hx)
    clear hg3 hb1 hB0 h1
    go_wp2_with fail
    refine wp_region_barb [(0, 0), (1, 0), (2, 0), (3, 0), (4, 1), (5, 0), (6, 0), (7, 0), (8, 2)] 9 [(10, true), (11, true), (12, false)] (fun z => Blk z w.heap.size 28 (bvs b).toArray) (fun z => z.cell? ⟨l.g, 2, none⟩ = some (.slice l.A d.loose.length l.c)) _ (by rfl) (by kernel_rfl) (by kernel_rfl) (by kernel_rfl) (by kernel_rfl) (fun _ _ d _ _ h => by cases d <;> exact h) hB3 c23 ?_
    simp only [planOpsN, List.getElem?_toArray, List.getElem?_cons_zero, List.getElem?_cons_succ]
    iterate 4 (refine wpC_0 ?_ (by rfl) ?_ ?_; rotate_left; (focus (intro z hz; (try dsimp only at hz); go_simp; rfl)); simp only [Act.put, List.setIfInBounds_toArray, List.set_cons_zero, List.set_cons_succ])
    refine wpC_1 (.slice l.A d.loose.length l.c) (by rfl) (fun z hz => by go_simp) ?_
    simp only [Act.put, List.setIfInBounds_toArray, List.set_cons_zero, List.set_cons_succ]
    iterate 1 (refine wpC_0 ?_ (by rfl) ?_ ?_; rotate_left; (focus (intro z hz; (try dsimp only at hz); go_simp; rfl)); simp only [Act.put, List.setIfInBounds_toArray, List.set_cons_zero, List.set_cons_succ])
    refine wpC_0 (.agg (bvs b).toArray) (by rfl) (fun z hz => load_row_run rfl w.heap.size (bvs b).toArray Try.underlying28 rfl i128 hz hbs rfl) ?_
    simp only [Act.put, List.setIfInBounds_toArray, List.set_cons_zero, List.set_cons_succ]
    refine wpC_0 (.agg (.int .i64 a :: bvs b).toArray) (by rfl) (fun z _ => build_wr a b hb rfl rfl) ?_
    simp only [Act.put, List.setIfInBounds_toArray, List.set_cons_zero, List.set_cons_succ]
    refine wpC_2 (by rfl) (fun K hK => ?_)
    refine wp_runO _ (buildS_wr a b hb rfl) ?_
    simp only [Act.put, List.setIfInBounds_toArray, List.set_cons_zero, List.set_cons_succ]
    have hB4 : Blk (w3.drew.alloc (.cells (.int .i64 a :: bvs b).toArray 112)) w.heap.size 28 (bvs b).toArray := Blk.alloc (w := w3.drew) hB3 _
    have hD4 := Blk.alloc (w := w3.drew) hD3 (.cells (.int .i64 a :: bvs b).toArray 112)
    have c24 := hD4.cell 2
    simp only [List.getElem?_toArray, List.getElem?_cons_zero, List.getElem?_cons_succ] at c24
    have hW4 := Blk.new w3.drew 112 (.int .i64 a :: bvs b).toArray
    have hR4 := World.ownsRow.alloc (w := w3.drew) hR3 (.cells (.int .i64 a :: bvs b).toArray 112)
    have hS4 := MapV.grown (w := w3.drew) hS3 (World.grownBy_alloc w3.drew (.cells (.int .i64 a :: bvs b).toArray 112) none) (by simp)
    have hM4 := MapV.grown (w := w3.drew) hM3 (World.grownBy_alloc w3.drew (.cells (.int .i64 a :: bvs b).toArray 112) none) (by simp)
    have hc4 : Chg l.fp w (w3.drew.alloc (.cells (.int .i64 a :: bvs b).toArray 112)) := hc3.trans (Chg.of_below l.fp ((drew_below (w := w3)).alloc (Nat.le_refl _) _)) (fun x hx => .inl hx)
    have hbs4 := hc4.size
    refine hK _ _ hB4 c24 ?_
    clear hK hB3 c23 f23 hD3 hR3 hS3 hM3 hc3
    generalize w3.drew.alloc (.cells (.int .i64 a :: bvs b).toArray 112) = w4 at *
    generalize w3.drew.heap.size = g4 at *
    refine wpC_nil ⟨by rfl, ?_⟩
    refine wp_appW _ _ (by rfl) base l.A d.loose.length l.c (looseC d.loose) (by rfl) hR4 a b hb g4 (by rfl) hW4 hlo (by omega) ?_
    intro A2 c2 w5 hR5 hG5
    have hlA : ∀ g, l.A.map (·.block) = some g → g < w.heap.size := fun g hg => (h.fp_lt (.inr (.inr (.inr hg)))).2
    have hB5 := hB4.grown hG5.grown (by intro e; have := hlA _ e.symm; omega)
    have hD5 := hD4.grown hG5.grown (fun e => h.rg e.symm)
    have hS5 := hS4.grown hG5.grown (fun e => h.rs e.symm)
    have hM5 := hM4.grown hG5.grown (fun e => h.rn e.symm)
    have hc5 : Chg l.fp w w5 := hc4.trans (Chg.of_grown' (F := l.fp) hG5.grown (fun g hg => .inr (.inr (.inr hg)))) (fun x hx => .inl hx)
    have hA2 : ∀ g, A2.map (·.block) = some g → l.A.map (·.block) = some g ∨ w.heap.size ≤ g := fun g hg => by
      rcases hG5.lies with h1 | ⟨g', h1, h2, _⟩
      · exact .inl (h1 ▸ hg)
      · rw [h1] at hg
        cases hg
        exact .inr (by omega)
    have c25 := hD5.cell 2
    have f25 := hD5.frozen 2
    simp only [List.getElem?_toArray, List.getElem?_cons_zero, List.getElem?_cons_succ] at c25
    refine ⟨fun z => Blk z w.heap.size 28 (bvs b).toArray, hB5, fun _ h => h, ?_⟩
    clear hB4 hD4 hS4 hM4 hR4 hW4 hG5 hc4 hbs4 c24
    simp only [planOps, List.getElem?_toArray, List.getElem?_cons_zero, List.getElem?_cons_succ]
    iterate 2 (refine wpS_q ?_ (by rfl) ?_ ?_; rotate_left; (focus (intro z hz; (try dsimp only at hz); go_simp; rfl)))
    simp only [Act.put, List.setIfInBounds_toArray]
    refine wpS_l (by rfl) (fun K hK => ?_)
    go_wp2_with fail
    have hg6 := grownBy_set w5 l.g 2 (.slice A2 (d.loose.length + 1) c2)
    have hB6 := hB5.grown hg6 (by intro e; injection e with e; omega)
    have hD6 := hD5.set_ 2 (.slice A2 (d.loose.length + 1) c2)
    simp only [List.setIfInBounds_toArray, List.set_cons_zero, List.set_cons_succ] at hD6
    have hS6 := hS5.grown hg6 (by intro e; injection e with e; exact h.ne1 e.symm)
    have hM6 := hM5.grown hg6 (by intro e; injection e with e; exact h.ne2 e.symm)
    have hne : ∀ x, A2.map (·.block) = some x → l.A.map (·.block) ≠ some x → w.heap.size ≤ x := fun x hx hn => (hA2 x hx).resolve_left hn
    have hrg : A2.map (·.block) ≠ some l.g := fun e => by have := hne _ e h.rg; omega
    have hrs : A2.map (·.block) ≠ some l.gs := fun e => by have := hne _ e h.rs; have := h.sure.lt; omega
    have hrn : A2.map (·.block) ≠ some l.gn := fun e => by have := hne _ e h.rn; have := h.now.lt; omega
    have hR6 := (Chg.of_grown (F := fun x => x = l.g) hg6 rfl).own hR5 (fun x hx e => hrg (by rw [hx, e]))
    have hc6 : Chg l.fp w (w5.setCell ⟨l.g, 2, none⟩ (.slice A2 (d.loose.length + 1) c2)) := hc5.trans (Chg.of_grown (F := l.fp) hg6 (.inl rfl)) (fun x hx => .inl hx)
    refine hK _ _ (fun z => Blk z w.heap.size 28 (bvs b).toArray) hB6 (fun _ h => h) ?_
    clear hK hB5 hD5 hS5 hM5 hR5 hc5 c25 f25 hg6
    refine wpS_nil ?_
    generalize w5.setCell ⟨l.g, 2, none⟩ (.slice A2 (d.loose.length + 1) c2) = w6 at *
    have hfin : DiskAt w6 base { l with A := A2, c := c2 } (putD d a b) := DiskAt.put hD6 hS6 hM6 (fun q => by
      show (if q = a then _ else _) = secV (if q = a then _ else _)
      split <;> rfl) hR6 h.ne1 h.ne2 h.ne3 hrg hrs hrn h.bg h.bs h.bn (putD_ok h.ok hra hb)
    have hwD : writeD d a b = burnD (putD d a b) := by rw [writeD, if_pos hr]
    have hwE : writeE d a = if burnB (putD d a b) = true then 8 else 0 := by rw [writeE, if_pos hr]; rfl
    have hmv : Moved w w6 l { l with A := A2, c := c2 } := ⟨rfl, hc6, fun x hx => by
      rcases hx with hx | hx | hx | hx
      · exact .inl (.inl hx)
      · exact .inl (.inr (.inl hx))
      · exact .inl (.inr (.inr (.inl hx)))
      · rcases hA2 x hx with h1 | h1
        · exact .inl (.inr (.inr (.inr h1)))
        · exact .inr h1⟩
    obtain ⟨v, hv⟩ : ∃ v, burnB (putD d a b) = v := ⟨_, rfl⟩
    rw [hv] at hwE
    have HV := Lib.hid hv
    have HWD := Lib.hid hwD
    have HWE := Lib.hid hwE
    clear hwD hwE hv hr hoff hD6 hS6 hM6 hR6 hc6 hB6 hne hrg hrs hrn hA2 hlA hB1
    cases v
    all_goals
      go_wp2_with (go_at_call 58; refine (dburns_any w6 base { l with A := A2, c := c2 } (putD d a b) hfin).mono ?_; rw [HV.out]; rintro e w7 ⟨rfl, hD7, hg7⟩)
      go_ret
      exact ⟨_, by rw [HWE.out]; rfl, by rw [HWD.out]; exact hD7, hmv.trans (Moved.of_grown hg7)⟩
  · have hwD : writeD d a b = d := by rw [writeD, if_neg hr]
    have hwE : writeE d a = readyE d.off a := by rw [writeE, if_neg hr]
    obtain ⟨E, hE⟩ : ∃ E, readyE d.off a = E := ⟨_, rfl⟩
    rw [hE] at hr hwE
    have hr' : (E != 0) = true := by simpa using hr
    have HE := Lib.hid hE
    have HWD := Lib.hid hwD
    have HWE := Lib.hid hwE
    clear hE hwD hwE
    go_wp2_with (go_at_call 57; refine (dready_any _ base l d h1 a).mono ?_; rw [HE.out]; rintro e w2 ⟨rfl, rfl⟩)
    go_ret
    exact ⟨l, by rw [HWE.out]; rfl, by rw [HWD.out]; exact h1, Moved.of_below hb1⟩
end Go.Proofs.Ytmjdfajdompkeaa
