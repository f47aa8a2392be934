/- The document's disk: put. -/
import Derived.Test.YtmjdfajdompkeaaRgd
namespace Go.Proofs.Ytmjdfajdompkeaa
open Go.RowKit Go.Rat
theorem putL_ok {l : List RW} {x : RW} (h : ∀ y ∈ l, RWok y) (hx : RWok x) : ∀ y ∈ putL l x, RWok y := fun y hy => by
  rcases putL_mem hy with rfl | h1
  · exact hx
  · exact h y h1
theorem putL_ne {l : List RW} {x : RW} : putL l x ≠ [] := by
  cases l with
  | nil => simp [putL]
  | cons y l => rw [putL]; split <;> simp
/-- The row of sure writes has turned. -/
theorem RefAt.setSure {w w' : World} {base : Nat} {l : RL} {r : RS} (h : RefAt w base l r) {x : RW} (hx : RWok x) {A : Option Addr} {c : Nat} (hrow : RWs w' base A c (putL r.sure x))
    (hB : Blk w' l.g 51 #[.slice A (putL r.sure x).length c, .slice l.A2 r.soft.length l.c2, .bool r.off, .int .i64 r.fuse])
    (h2 : RWs w' base l.A2 l.c2 r.soft) (hA : ∀ q, A.map (·.block) = some q → l.A1.map (·.block) = some q ∨ w.heap.size ≤ q) : RefAt w' base { l with A1 := A, c1 := c } { r with sure := putL r.sure x } :=
  ⟨hB, hrow, h2, fun e => by
    rcases hA l.g e with h1 | h1
    · exact h.n1 h1
    · have := h.blk.lt
      omega, h.n2, fun q hq e => by
    rcases hA q hq with h1 | h1
    · exact h.n12 q h1 e
    · have := (h.row2.lt q e).2
      omega, h.bg, ⟨putL_ok h.ok.sure hx, h.ok.soft, h.ok.fuse, putL_nod x h.ok.nod⟩⟩
theorem rmoved_sure {w w' : World} {l : RL} {A : Option Addr} {c : Nat} (hc : Chg l.fp w w') (hA : ∀ q, A.map (·.block) = some q → l.A1.map (·.block) = some q ∨ w.heap.size ≤ q) : RMoved w w' l { l with A1 := A, c1 := c } :=
  ⟨rfl, hc, fun x hx => by
    rcases hx with hx | hx | hx
    · exact .inl (.inl hx)
    · rcases hA x hx with h1 | h1
      · exact .inl (.inr (.inl h1))
      · exact .inr h1
    · exact .inl (.inr (.inr hx))⟩
set_option maxRecDepth 20000 in
set_option maxHeartbeats 4000000 in
theorem rput_any (w : World) (base : Nat) (l : RL) (r : RS) (h : RefAt w base l r) (hbase : base ≤ w.heap.size) (x : RW) (hx : RWok x) :
    Calls Try.prog 61 #[.pointer (some ⟨l.g, 0, none⟩), .agg (rwC x).toArray] w fun e w' => ∃ l', e = .returned (.tuple #[]) ∧ RefAt w' base l' { r with sure := putL r.sure x } ∧ RMoved w w' l l' := by
  have hX := Blk.new w 114 (rwC x).toArray
  have hb1 := below_alloc w (.cells (rwC x).toArray 114)
  have hxl := rwC_length hx.2
  have hxs : (rwC x).toArray.size = 130 := by simpa using hxl
  have hsl := h.ok.sure_len
  have hxc : (rwC x)[0]? = some (.int .i64 x.at_) := rfl
  have hgx : ¬ l.fp w.heap.size := fun hf => by have := (h.fp_lt hf).2; omega
  have hxo : ∀ v ∈ rwC x, v.oneCell' = true := rwC_one x
  obtain ⟨cx, hcx⟩ : ∃ cx, rwC x = cx := ⟨_, rfl⟩
  have HCX := Lib.hid hcx
  rw [hcx] at hX hb1 hxl hxs hxc hxo ⊢
  clear hcx
  go_enter Try.func61, Try.ntmps61
  go_upto_region 1 with (fail)
  generalize w.alloc (.cells cx.toArray 114) = w1 at *
  have h1 := h.below hb1
  have hb1 := Lib.hid hb1
  obtain ⟨G, hG⟩ : ∃ G, w.heap.size = G := ⟨_, rfl⟩
  rw [hG] at hX hgx ⊢
  have HG := Lib.hid hG
  clear hG
  obtain ⟨n, hn⟩ : ∃ n, r.sure.length = n := ⟨_, rfl⟩
  rw [hn] at hsl
  have HN := Lib.hid hn
  clear hn
  go_wp2_with fail
  go_loopw [4] (fun i wr => ∃ k : Nat, k ≤ n ∧ i = .int .i64 (k : Int) ∧ Hid (Below w.heap.size w wr) ∧ RefAt wr base l r ∧ Blk wr G 114 cx.toArray ∧ ∀ y ∈ r.sure.take k, y.at_ ≠ x.at_) (fun i _ => n - (intOf i).toNat)
  case atStart => exact ⟨0, Nat.zero_le _, rfl, hb1, h1, hX, by simp⟩
  case round =>
    clear hb1 h1 hX
    obtain ⟨k, hk, rfl, hb1, h1, hX, hnone⟩ := hrel
    have HNONE := Lib.hid hnone
    have xc := hX.cell 0
    have c0 := h1.blk.cell 0
    simp only [List.getElem?_toArray, List.getElem?_cons_zero, hxc, HN.out] at c0 xc
    clear hnone
    by_cases hkn : k < n
    · have hkl : k < r.sure.length := by have := HN.out; omega
      obtain ⟨g, L, hA, hgB, hgL, hLl⟩ := h1.row1.at_ h1.ok.sure hkl
      have hset := putL_set hkl HNONE.out
      have htake : r.sure.take (k + 1) = r.sure.take k ++ [r.sure[k]] := by rw [List.take_add_one, List.getElem?_eq_getElem hkl]; rfl
      have h0 : L[k * 130]? = some (.int .i64 r.sure[k].at_) := by
        have := congrArg (fun q => q[0]?) hgL
        simp only [List.getElem?_take, List.getElem?_drop, Nat.add_zero] at this
        simpa [rwC] using this
      have hc0 := hgB.cell (k * 130)
      rw [List.getElem?_toArray, h0] at hc0
      have hgG : g ≠ G := fun e => hgx (.inr (.inl (by rw [hA, e]; rfl)))
      generalize r.sure[k] = y at *
      have HSET := Lib.hid hset
      have HTAKE := Lib.hid htake
      have HA := Lib.hid hA
      rw [hA] at c0
      have g1 : (k : Int) < (n : Int) := by omega
      have g0 : (0 : Int) ≤ (k : Int) := by omega
      clear hset htake h0 hgL hA
      by_cases hxa : y.at_ = x.at_
      · rw [hxa] at hc0
        go_wp2_with fail
        refine wp_region_plan [(0, true), (1, true), (2, true), (3, true), (4, true), (5, true), (6, true), (7, true), (8, true), (9, true), (10, true)]
          (fun z => z.cell? ⟨l.g, 0, none⟩ = some (.slice (some ⟨g, 0, none⟩) n l.c1) ∧ z.cell? ⟨g, k * 130, none⟩ = some (.int .i64 x.at_) ∧ z.cell? ⟨G, 0, none⟩ = some (.int .i64 x.at_)) (by kernel_rfl) (by kernel_rfl) (by kernel_rfl) (by kernel_rfl) (fun _ _ d _ _ h => by cases d <;> exact h) ⟨c0, hc0, xc⟩ ?_
        simp only [planOps, List.getElem?_toArray, List.getElem?_cons_zero, List.getElem?_cons_succ]
        iterate 11 (refine wpS_q ?_ (by rfl) ?_ ?_; rotate_left; (focus (intro z hz; (try dsimp only at hz); go_simp; rfl)); simp only [Act.put, List.setIfInBounds_toArray, List.set_cons_zero, List.set_cons_succ])
        refine wpS_nil ?_
        go_wp2_with fail
        have hXd : Blk wr.drew G 114 cx.toArray := hX
        refine wp_region_plan [(0, true), (1, true), (2, true), (3, true), (4, true), (5, true), (6, true), (7, false)]
          (fun z => z.cell? ⟨l.g, 0, none⟩ = some (.slice (some ⟨g, 0, none⟩) n l.c1) ∧ Blk z G 114 cx.toArray) (by kernel_rfl) (by kernel_rfl) (by kernel_rfl) (by kernel_rfl) (fun _ _ d _ _ h => by cases d <;> exact h) ⟨c0, hXd⟩ ?_
        simp only [planOps, List.getElem?_toArray, List.getElem?_cons_zero, List.getElem?_cons_succ]
        iterate 5 (refine wpS_q ?_ (by rfl) ?_ ?_; rotate_left; (focus (intro z hz; (try dsimp only at hz); go_simp; rfl)); simp only [Act.put, List.setIfInBounds_toArray, List.set_cons_zero, List.set_cons_succ])
        refine wpS_q (.agg cx.toArray) (by rfl) (fun z hz => load_row_run rfl G cx.toArray Try.underlying114 rfl r130 hz.2 hxs rfl) ?_
        simp only [Act.put, List.setIfInBounds_toArray, List.set_cons_zero, List.set_cons_succ]
        iterate 1 (refine wpS_q ?_ (by rfl) ?_ ?_; rotate_left; (focus (intro z hz; (try dsimp only at hz); go_simp; rfl)); simp only [Act.put, List.setIfInBounds_toArray, List.set_cons_zero, List.set_cons_succ])
        refine wpS_l (by rfl) (fun K hK => ?_)
        have h2 : RefAt wr.drew.drew base l r := (h1.below drew_below).below drew_below
        have hgBd : Blk wr.drew.drew g 114 L.toArray := hgB
        have hXdd : Blk wr.drew.drew G 114 cx.toArray := hX
        have hst := h2.row1.store HA.out hgBd h2.ok.sure hkl x hx.2
        have hbd : Below w.heap.size w wr.drew.drew := below_next' (below_next' hb1.out drew_below) drew_below
        rw [HCX.out, ← HSET.out hxa] at hst
        refine wp_store_midR rfl g (k * 130) L cx (by rw [hxl]; exact r130) hgBd (by rw [hxl]; omega) hxo rfl rfl ?_
        have hgs := grownBy_setRow wr.drew.drew g (Go.splice L (k * 130) cx).toArray
        obtain ⟨w5, hw5⟩ : ∃ x, wr.drew.drew.setRow g (Go.splice L (k * 130) cx).toArray = x := ⟨_, rfl⟩
        rw [hw5] at hst hgs ⊢
        have hgl : g ≠ l.g := fun e => h.n1 (by rw [HA.out, e]; rfl)
        have hX5 := hXdd.grown hgs (by intro e; injection e with e; exact hgG e.symm)
        have hB5 := h2.blk.grown hgs (by intro e; injection e with e; exact hgl e.symm)
        have c05 := hB5.cell 0
        simp only [List.getElem?_toArray, List.getElem?_cons_zero, HN.out, HA.out] at c05
        have hc5 : Chg l.fp wr.drew.drew w5 := Chg.of_grown hgs (.inr (.inl (by rw [HA.out]; rfl)))
        have hR25 := (Chg.of_grown (F := fun q => q = g) hgs rfl).own h2.row2 (fun q hq e => h.n12 g (by rw [HA.out]; rfl) (by rw [hq, e]))
        have hfin := h2.setSure hx (A := l.A1) (c := l.c1) hst (by rw [HSET.out hxa, List.length_set]; exact hB5) hR25 (fun q hq => .inl hq)
        have hmv : RMoved w w5 l l := ⟨rfl, (Chg.of_below l.fp hbd).trans hc5 (fun x hx => .inl hx), fun x hx => .inl hx⟩
        refine hK _ _ (fun z => z.cell? ⟨l.g, 0, none⟩ = some (.slice (some ⟨g, 0, none⟩) n l.c1) ∧ Blk z G 114 cx.toArray) ⟨c05, hX5⟩ (fun _ h => h) ?_
        clear hK hw5 hB5 hc5 hR25 hst hgs h2 hgBd hXdd hXd
        refine wpS_nil ?_
        go_wp2_with fail
        refine bodyPost_ret (results_none rfl _ _ _) rfl ?_
        exact ⟨l, rfl, hfin, hmv⟩
      · go_wp2_with fail
        refine wp_region_plan [(0, true), (1, true), (2, true), (3, true), (4, true), (5, true), (6, true), (7, true), (8, true), (9, true), (10, true)]
          (fun z => z.cell? ⟨l.g, 0, none⟩ = some (.slice (some ⟨g, 0, none⟩) n l.c1) ∧ z.cell? ⟨g, k * 130, none⟩ = some (.int .i64 y.at_) ∧ z.cell? ⟨G, 0, none⟩ = some (.int .i64 x.at_)) (by kernel_rfl) (by kernel_rfl) (by kernel_rfl) (by kernel_rfl) (fun _ _ d _ _ h => by cases d <;> exact h) ⟨c0, hc0, xc⟩ ?_
        simp only [planOps, List.getElem?_toArray, List.getElem?_cons_zero, List.getElem?_cons_succ]
        iterate 11 (refine wpS_q ?_ (by rfl) ?_ ?_; rotate_left; (focus (intro z hz; (try dsimp only at hz); go_simp; rfl)); simp only [Act.put, List.setIfInBounds_toArray, List.set_cons_zero, List.set_cons_succ])
        refine wpS_nil ?_
        have h2 : RefAt wr.drew base l r := h1.below drew_below
        have hX2 : Blk wr.drew G 114 cx.toArray := hX
        have hb2 := Lib.hid (below_next' hb1.out drew_below)
        go_wp2_with fail
        exact ⟨⟨k + 1, by omega, by first | omega | exact congrArg (Value.int .i64) (by omega), hb2, h2, hX2, fun z hz => by
          rw [HTAKE.out] at hz
          rcases List.mem_append.1 hz with hz | hz
          · exact HNONE.out z hz
          · rw [List.mem_singleton.1 hz]; exact hxa⟩, by simp only [intOf]; omega⟩
    · obtain rfl : k = n := by omega
      go_wp2_with fail
      have hbw : base ≤ wr.heap.size := Nat.le_trans hbase hb1.out.size
      have hXd : Blk wr.drew G 114 cx.toArray := hX
      refine wp_region_barb [(0, 0), (1, 0), (2, 0), (3, 0), (4, 1), (5, 0), (6, 2)] 7 [(8, true), (9, true), (10, false)] (fun z => Blk z G 114 cx.toArray) (fun z => z.cell? ⟨l.g, 0, none⟩ = some (.slice l.A1 k l.c1)) _ (by rfl) (by kernel_rfl) (by kernel_rfl) (by kernel_rfl) (by kernel_rfl) (fun _ _ d _ _ h => by cases d <;> exact h) hXd c0 ?_
      simp only [planOpsN, List.getElem?_toArray, List.getElem?_cons_zero, List.getElem?_cons_succ]
      iterate 4 (refine wpC_0 ?_ (by rfl) ?_ ?_; rotate_left; (focus (intro z hz; (try dsimp only at hz); go_simp; rfl)); simp only [Act.put, List.setIfInBounds_toArray, List.set_cons_zero, List.set_cons_succ])
      refine wpC_1 (.slice l.A1 k l.c1) (by rfl) (fun z hz => by go_simp) ?_
      simp only [Act.put, List.setIfInBounds_toArray, List.set_cons_zero, List.set_cons_succ]
      refine wpC_0 (.agg cx.toArray) (by rfl) (fun z hz => load_row_run rfl G cx.toArray Try.underlying114 rfl r130 hz hxs rfl) ?_
      simp only [Act.put, List.setIfInBounds_toArray, List.set_cons_zero, List.set_cons_succ]
      refine wpC_2 (by rfl) (fun K hK => ?_)
      refine wp_runO _ (buildS_r cx hxl rfl) ?_
      simp only [Act.put, List.setIfInBounds_toArray, List.set_cons_zero, List.set_cons_succ]
      have h4 : RefAt (wr.drew.alloc (.cells cx.toArray 114)) base l r := (h1.below drew_below).below (below_alloc wr.drew _)
      have hX4 : Blk (wr.drew.alloc (.cells cx.toArray 114)) G 114 cx.toArray := Blk.alloc (w := wr.drew) hXd _
      have hW4 := Blk.new wr.drew 114 cx.toArray
      have hb4 : Below w.heap.size w (wr.drew.alloc (.cells cx.toArray 114)) := below_next' (below_next' hb1.out drew_below) (below_alloc wr.drew _)
      have hs4 : wr.heap.size < (wr.drew.alloc (.cells cx.toArray 114)).heap.size := hW4.lt
      have hg4 : wr.drew.heap.size = wr.heap.size := rfl
      have c04 := h4.blk.cell 0
      simp only [List.getElem?_toArray, List.getElem?_cons_zero, HN.out] at c04
      refine hK _ _ hX4 c04 ?_
      clear hK hX hXd c0 xc
      obtain ⟨w4, hw4⟩ : ∃ x, wr.drew.alloc (.cells cx.toArray 114) = x := ⟨_, rfl⟩
      rw [hw4] at h4 hX4 hW4 hb4 hs4 c04 ⊢
      rw [hg4] at hW4 ⊢
      clear hw4
      obtain ⟨g4, hg4'⟩ : ∃ x, wr.heap.size = x := ⟨_, rfl⟩
      rw [hg4'] at hW4 hs4 ⊢
      have HG4 := Lib.hid hg4'
      clear hg4 hg4'
      refine wpC_nil ⟨by rfl, ?_⟩
      refine wp_appR _ _ (by rfl) base l.A1 l.c1 r.sure k HN.out (by rfl) h4.row1 x hx.2 g4 (by rfl) (by rw [HCX.out]; exact hW4) (by omega) (by have := HG4.out; omega) ?_
      intro A2 c2 w5 hR5 hG5
      have hA2 : ∀ g, A2.map (·.block) = some g → l.A1.map (·.block) = some g ∨ w.heap.size ≤ g := fun g hg => by
        rcases hG5.lies with h1 | ⟨g', h1, h2, _⟩
        · exact .inl (h1 ▸ hg)
        · rw [h1] at hg
          cases hg
          have := hb4.size
          exact .inr (by omega)
      have hX5 := hX4.grown hG5.grown (fun e => hgx (.inr (.inl e.symm)))
      have hD5 := h4.blk.grown hG5.grown (fun e => h.n1 e.symm)
      have hc5 : Chg l.fp w w5 := (Chg.of_below l.fp hb4).trans (Chg.of_grown' (F := l.fp) hG5.grown (fun g hg => .inr (.inl hg))) (fun x hx => .inl hx)
      have hR25 := (Chg.of_grown' (F := fun q => l.A1.map (·.block) = some q) hG5.grown (fun g hg => hg)).own h4.row2 (fun q hq e => h.n12 q e hq)
      have c05 := hD5.cell 0
      have f05 := hD5.frozen 0
      simp only [List.getElem?_toArray, List.getElem?_cons_zero, HN.out] at c05
      refine ⟨fun z => Blk z G 114 cx.toArray, hX5, fun _ h => h, ?_⟩
      clear hX4 hW4 hG5 hb4 c04 h4
      simp only [planOps, List.getElem?_toArray, List.getElem?_cons_zero, List.getElem?_cons_succ]
      iterate 2 (refine wpS_q ?_ (by rfl) ?_ ?_; rotate_left; (focus (intro z hz; (try dsimp only at hz); go_simp; rfl)))
      simp only [Act.put, List.setIfInBounds_toArray]
      refine wpS_l (by rfl) (fun K hK => ?_)
      go_wp2_with fail
      have hg6 := grownBy_set w5 l.g 0 (.slice A2 (k + 1) c2)
      have hX6 := hX5.grown hg6 (by intro e; injection e with e; exact hgx (.inl e))
      have hD6 := hD5.set_ 0 (.slice A2 (k + 1) c2)
      simp only [List.setIfInBounds_toArray, List.set_cons_zero] at hD6
      have hrg : A2.map (·.block) ≠ some l.g := fun e => by
        rcases hA2 _ e with h2 | h2
        · exact h.n1 h2
        · have := h.blk.lt
          omega
      have hR6 := (Chg.of_grown (F := fun x => x = l.g) hg6 rfl).own hR5 (fun x hx e => hrg (by rw [hx, e]))
      have hR26 := (Chg.of_grown (F := fun x => x = l.g) hg6 rfl).own hR25 (fun x hx e => h.n2 (by rw [hx, e]))
      have hc6 : Chg l.fp w (w5.setCell ⟨l.g, 0, none⟩ (.slice A2 (k + 1) c2)) := hc5.trans (Chg.of_grown (F := l.fp) hg6 (.inl rfl)) (fun x hx => .inl hx)
      have hput : putL r.sure x = r.sure ++ [x] := putL_none (by
        have := HNONE.out
        rwa [← HN.out, List.take_length] at this)
      have hfin := h.setSure hx (A := A2) (c := c2) (by rw [hput]; exact hR6) (by rw [hput, List.length_append, HN.out]; exact hD6) hR26 hA2
      have hmv := rmoved_sure hc6 (c := c2) hA2
      refine hK _ _ (fun z => Blk z G 114 cx.toArray) hX6 (fun _ h => h) ?_
      clear hK hX5 hD5 hR5 hR25 hc5 c05 f05 hg6 hD6 hR6 hR26
      refine wpS_nil ?_
      generalize w5.setCell ⟨l.g, 0, none⟩ (.slice A2 (k + 1) c2) = w6 at *
      go_end0
      exact ⟨_, rfl, hfin, hmv⟩
end Go.Proofs.Ytmjdfajdompkeaa
