/- The document's disk: Write, Sync. -/
import Derived.Test.YtmjdfajdompkeaaRgf
namespace Go.Proofs.Ytmjdfajdompkeaa
open Go.RowKit Go.Rat
def softR (r : RS) (x : RW) : RS := { r with soft := r.soft ++ [x] }
def writeR (r : RS) (a : Int) (b : List UInt8) : RS := if readyE r.off a = 0 then burnR (softR r ⟨a, b, false⟩) else r
def writeRE (r : RS) (a : Int) : Int := if readyE r.off a = 0 then (if r.fuse = 0 then 8 else 0) else readyE r.off a
def syncR (r : RS) : RS := if r.off = true then r else if r.fuse = 0 then burnR r else { burnR r with sure := r.soft.foldl putL r.sure, soft := [] }
def syncRE (r : RS) : Int := if r.off = true then 8 else if r.fuse = 0 then 8 else 0
theorem burnR_soft (r : RS) : (burnR r).soft = r.soft ∧ (burnR r).sure = r.sure := by
  unfold burnR
  split
  · exact ⟨rfl, rfl⟩
  · split <;> exact ⟨rfl, rfl⟩
theorem rburns_g (w : World) (base g : Nat) (l : RL) (r : RS) (h : RefAt w base l r) (hg : l.g = g) :
    Calls Try.prog 60 #[.pointer (some ⟨g, 0, none⟩)] w fun e w' => e = .returned (.bool (decide (r.fuse = 0))) ∧ RefAt w' base l (burnR r) ∧ w.grownBy w' (some l.g) := by
  subst hg
  exact rburns_any w base l r h
theorem rput_g (w : World) (base g : Nat) (l : RL) (r : RS) (h : RefAt w base l r) (hg : l.g = g) (hbase : base ≤ w.heap.size) (x : RW) (hx : RWok x) (L : List Value) (hL : rwC x = L) :
    Calls Try.prog 61 #[.pointer (some ⟨g, 0, none⟩), .agg L.toArray] w fun e w' => ∃ l', e = .returned (.tuple #[]) ∧ l'.g = g ∧ RefAt w' base l' { r with sure := putL r.sure x } ∧ RMoved w w' l l' := by
  subst hg hL
  refine (rput_any w base l r h hbase x hx).mono ?_
  rintro e w' ⟨l', h1, h2, h3⟩
  exact ⟨l', h1, h3.g, h2, h3⟩
/-- The row of loose writes has grown. -/
theorem RefAt.setSoft {w w' : World} {base : Nat} {l : RL} {r : RS} (h : RefAt w base l r) {x : RW} (hx : RWok x) {A : Option Addr} {c : Nat} (hrow : RWs w' base A c (r.soft ++ [x]))
    (hB : Blk w' l.g 51 #[.slice l.A1 r.sure.length l.c1, .slice A (r.soft ++ [x]).length c, .bool r.off, .int .i64 r.fuse])
    (h1 : RWs w' base l.A1 l.c1 r.sure) (hA : ∀ q, A.map (·.block) = some q → l.A2.map (·.block) = some q ∨ w.heap.size ≤ q) : RefAt w' base { l with A2 := A, c2 := c } (softR r x) :=
  ⟨hB, h1, hrow, h.n1, fun e => by
    rcases hA l.g e with h1 | h1
    · exact h.n2 h1
    · have := h.blk.lt
      omega, fun q hq e => by
    rcases hA q e with h1 | h1
    · exact h.n12 q hq h1
    · have := (h.row1.lt q hq).2
      omega, h.bg, ⟨h.ok.sure, fun y hy => by
    rcases List.mem_append.1 hy with h1 | h1
    · exact h.ok.soft y h1
    · rw [List.mem_singleton.1 h1]; exact hx, h.ok.fuse, h.ok.nod⟩⟩
theorem rmoved_soft {w w' : World} {l : RL} {A : Option Addr} {c : Nat} (hc : Chg l.fp w w') (hA : ∀ q, A.map (·.block) = some q → l.A2.map (·.block) = some q ∨ w.heap.size ≤ q) : RMoved w w' l { l with A2 := A, c2 := c } :=
  ⟨rfl, hc, fun x hx => by
    rcases hx with hx | hx | hx
    · exact .inl (.inl hx)
    · exact .inl (.inr (.inl hx))
    · rcases hA x hx with h1 | h1
      · exact .inl (.inr (.inr h1))
      · exact .inr h1⟩
set_option maxRecDepth 20000 in
set_option maxHeartbeats 4000000 in
theorem rwrite_any (w : World) (base : Nat) (l : RL) (r : RS) (h : RefAt w base l r) (hbase : base ≤ w.heap.size) (a : Int) (b : List UInt8) (hb : b.length = 128) (hlo : r.soft.length < 1000000000) :
    Calls Try.prog 31 #[.pointer (some ⟨l.g, 0, none⟩), .int .i64 a, .agg (bvs b).toArray] w fun e w' => ∃ l', e = .returned (.int .i64 (writeRE r a)) ∧ RefAt w' base l' (writeR r a b) ∧ RMoved w w' l l' := by
  have hX := Blk.new w 28 (bvs b).toArray
  have hb1 := below_alloc w (.cells (bvs b).toArray 28)
  have hbs : (bvs b).toArray.size = 128 := by rw [bvs_size, hb]
  have h1 := h.below hb1
  have hgx : ¬ l.fp w.heap.size := fun hf => by have := (h.fp_lt hf).2; omega
  go_enter Try.func31, Try.ntmps31
  go_upto_region 1 with (fail)
  generalize w.alloc (.cells (bvs b).toArray 28) = w1 at *
  obtain ⟨G, hG⟩ : ∃ G, w.heap.size = G := ⟨_, rfl⟩
  rw [hG] at hX hgx ⊢
  have HG := Lib.hid hG
  clear hG
  obtain ⟨k, hn⟩ : ∃ n, r.soft.length = n := ⟨_, rfl⟩
  have HN := Lib.hid hn
  rw [hn] at hlo
  have c1 := h1.blk.cell 1
  have c2 := h1.blk.cell 2
  simp only [List.getElem?_toArray, List.getElem?_cons_zero, List.getElem?_cons_succ, hn] at c1 c2
  clear hn
  have hbad : ∀ E : Int, readyE r.off a = E → E ≠ 0 → writeRE r a = E ∧ writeR r a b = r := fun E hE hne => by
    rw [writeRE, writeR, hE, if_neg hne, if_neg hne]
    exact ⟨rfl, rfl⟩
  have HBAD := Lib.hid hbad
  clear hbad
  cases hoff : r.off
  · by_cases hra : 0 ≤ a ∧ a < 32768
    · have hr : readyE r.off a = 0 := by rw [hoff]; exact readyE_ok hra
      have hwE : writeRE r a = if r.fuse = 0 then 8 else 0 := by rw [writeRE, if_pos hr]
      have hwR : writeR r a b = burnR (softR r ⟨a, b, false⟩) := by rw [writeR, if_pos hr]
      have HWE := Lib.hid hwE
      have HWR := Lib.hid hwR
      rw [hoff] at c2
      have g1 : ¬ a < 0 := by omega
      have g2 : ¬ 32768 ≤ a := by omega
      have hx : RWok ⟨a, b, false⟩ := ⟨hra, hb⟩
      have hxl := rwC_length hx.2
      clear hr hwE hwR HBAD hoff
      go_wp2_with fail
      have hbw : base ≤ w1.heap.size := Nat.le_trans hbase hb1.size
      have hXd : Blk w1.drew G 28 (bvs b).toArray := hX
      refine wp_region_barb [(0, 0), (1, 0), (2, 0), (3, 0), (4, 1), (5, 0), (6, 0), (7, 0), (8, 2)] 9 [(10, true), (11, true), (12, false)] (fun z => Blk z G 28 (bvs b).toArray) (fun z => z.cell? ⟨l.g, 1, none⟩ = some (.slice l.A2 k l.c2)) _ (by rfl) (by kernel_rfl) (by kernel_rfl) (by kernel_rfl) (by kernel_rfl) (fun _ _ d _ _ h => by cases d <;> exact h) hXd c1 ?_
      simp only [planOpsN, List.getElem?_toArray, List.getElem?_cons_zero, List.getElem?_cons_succ]
      iterate 4 (refine wpC_0 ?_ (by rfl) ?_ ?_; rotate_left; (focus (intro z hz; (try dsimp only at hz); go_simp; rfl)); simp only [Act.put, List.setIfInBounds_toArray, List.set_cons_zero, List.set_cons_succ])
      refine wpC_1 (.slice l.A2 k l.c2) (by rfl) (fun z hz => by go_simp) ?_
      simp only [Act.put, List.setIfInBounds_toArray, List.set_cons_zero, List.set_cons_succ]
      iterate 1 (refine wpC_0 ?_ (by rfl) ?_ ?_; rotate_left; (focus (intro z hz; (try dsimp only at hz); go_simp; rfl)); simp only [Act.put, List.setIfInBounds_toArray, List.set_cons_zero, List.set_cons_succ])
      refine wpC_0 (.agg (bvs b).toArray) (by rfl) (fun z hz => load_row_run rfl G (bvs b).toArray Try.underlying28 rfl i128 hz hbs rfl) ?_
      simp only [Act.put, List.setIfInBounds_toArray, List.set_cons_zero, List.set_cons_succ]
      refine wpC_0 (.agg (rwC ⟨a, b, false⟩).toArray) (by rfl) (fun z _ => build_r a b hb rfl rfl) ?_
      simp only [Act.put, List.setIfInBounds_toArray, List.set_cons_zero, List.set_cons_succ]
      refine wpC_2 (by rfl) (fun K hK => ?_)
      refine wp_runO _ (buildS_r (rwC ⟨a, b, false⟩) hxl rfl) ?_
      simp only [Act.put, List.setIfInBounds_toArray, List.set_cons_zero, List.set_cons_succ]
      obtain ⟨x, hxe⟩ : ∃ x : RW, (⟨a, b, false⟩ : RW) = x := ⟨_, rfl⟩
      rw [hxe] at hx HWR hxl ⊢
      clear hxe
      have h4 : RefAt (w1.drew.alloc (.cells (rwC x).toArray 114)) base l r := (h1.below drew_below).below (below_alloc w1.drew _)
      have hX4 : Blk (w1.drew.alloc (.cells (rwC x).toArray 114)) G 28 (bvs b).toArray := Blk.alloc (w := w1.drew) hXd _
      have hW4 := Blk.new w1.drew 114 (rwC x).toArray
      have hb4 : Below w.heap.size w (w1.drew.alloc (.cells (rwC x).toArray 114)) := below_next' (below_next' hb1 drew_below) (below_alloc w1.drew _)
      have hs4 : w1.heap.size < (w1.drew.alloc (.cells (rwC x).toArray 114)).heap.size := hW4.lt
      have hg4 : w1.drew.heap.size = w1.heap.size := rfl
      have c14 := h4.blk.cell 1
      simp only [List.getElem?_toArray, List.getElem?_cons_zero, List.getElem?_cons_succ, HN.out] at c14
      refine hK _ _ hX4 c14 ?_
      clear hK hX hXd c1 c2
      obtain ⟨w4, hw4⟩ : ∃ q, w1.drew.alloc (.cells (rwC x).toArray 114) = q := ⟨_, rfl⟩
      rw [hw4] at h4 hX4 hW4 hb4 hs4 c14 ⊢
      rw [hg4] at hW4 ⊢
      clear hw4
      obtain ⟨g4, hg4'⟩ : ∃ x, w1.heap.size = x := ⟨_, rfl⟩
      rw [hg4'] at hW4 hs4 ⊢
      have HG4 := Lib.hid hg4'
      clear hg4 hg4'
      refine wpC_nil ⟨by rfl, ?_⟩
      refine wp_appR _ _ (by rfl) base l.A2 l.c2 r.soft k HN.out (by rfl) h4.row2 x hx.2 g4 (by rfl) hW4 (by omega) (by have := HG4.out; omega) ?_
      intro A2 c2 w5 hR5 hG5
      have hA2 : ∀ g, A2.map (·.block) = some g → l.A2.map (·.block) = some g ∨ w.heap.size ≤ g := fun g hg => by
        rcases hG5.lies with h1 | ⟨g', h1, h2, _⟩
        · exact .inl (h1 ▸ hg)
        · rw [h1] at hg
          cases hg
          have := hb4.size
          exact .inr (by omega)
      have hX5 := hX4.grown hG5.grown (fun e => hgx (.inr (.inr e.symm)))
      have hD5 := h4.blk.grown hG5.grown (fun e => h.n2 e.symm)
      have hc5 : Chg l.fp w w5 := (Chg.of_below l.fp hb4).trans (Chg.of_grown' (F := l.fp) hG5.grown (fun g hg => .inr (.inr hg))) (fun x hx => .inl hx)
      have hR15 := (Chg.of_grown' (F := fun q => l.A2.map (·.block) = some q) hG5.grown (fun g hg => hg)).own h4.row1 (fun q hq e => h.n12 q hq e)
      have c15 := hD5.cell 1
      have f15 := hD5.frozen 1
      simp only [List.getElem?_toArray, List.getElem?_cons_zero, List.getElem?_cons_succ, HN.out] at c15
      refine ⟨fun z => Blk z G 28 (bvs b).toArray, hX5, fun _ h => h, ?_⟩
      clear hX4 hW4 hG5 hb4 c14 h4
      simp only [planOps, List.getElem?_toArray, List.getElem?_cons_zero, List.getElem?_cons_succ]
      iterate 2 (refine wpS_q ?_ (by rfl) ?_ ?_; rotate_left; (focus (intro z hz; (try dsimp only at hz); go_simp; rfl)))
      simp only [Act.put, List.setIfInBounds_toArray]
      refine wpS_l (by rfl) (fun K hK => ?_)
      go_wp2_with fail
      have hg6 := grownBy_set w5 l.g 1 (.slice A2 (k + 1) c2)
      have hX6 := hX5.grown hg6 (by intro e; injection e with e; exact hgx (.inl e))
      have hD6 := hD5.set_ 1 (.slice A2 (k + 1) c2)
      simp only [List.setIfInBounds_toArray, List.set_cons_zero, List.set_cons_succ] at hD6
      have hrg : A2.map (·.block) ≠ some l.g := fun e => by
        rcases hA2 _ e with h2 | h2
        · exact h.n2 h2
        · have := h.blk.lt
          omega
      have hR6 := (Chg.of_grown (F := fun x => x = l.g) hg6 rfl).own hR5 (fun x hx e => hrg (by rw [hx, e]))
      have hR16 := (Chg.of_grown (F := fun x => x = l.g) hg6 rfl).own hR15 (fun x hx e => h.n1 (by rw [hx, e]))
      have hc6 : Chg l.fp w (w5.setCell ⟨l.g, 1, none⟩ (.slice A2 (k + 1) c2)) := hc5.trans (Chg.of_grown (F := l.fp) hg6 (.inl rfl)) (fun x hx => .inl hx)
      have hfin := h.setSoft hx (A := A2) (c := c2) hR6 (by rw [List.length_append, HN.out]; exact hD6) hR16 hA2
      have hmv := rmoved_soft hc6 (c := c2) hA2
      refine hK _ _ (fun z => Blk z G 28 (bvs b).toArray) hX6 (fun _ h => h) ?_
      clear hK hX5 hD5 hR5 hR15 hc5 c15 f15 hg6 hD6 hR6 hR16
      refine wpS_nil ?_
      generalize w5.setCell ⟨l.g, 1, none⟩ (.slice A2 (k + 1) c2) = w6 at *
      have hfu : (softR r x).fuse = r.fuse := rfl
      obtain ⟨v, hv⟩ : ∃ v, decide (r.fuse = 0) = v := ⟨_, rfl⟩
      have HV := Lib.hid hv
      have hwE2 : writeRE r a = if v = true then 8 else 0 := by
        rw [HWE.out, ← hv]
        by_cases hf : r.fuse = 0
        · simp [hf]
        · simp [hf]
      have HWE2 := Lib.hid hwE2
      clear hv hwE2 HWE hX6 hrg hc6 hA2
      cases v
      all_goals
        go_wp2_with (go_at_call 60; refine (rburns_g w6 base l.g { l with A2 := A2, c2 := c2 } (softR r x) hfin rfl).mono ?_; rw [hfu, HV.out]; rintro e w7 ⟨rfl, hD7, hg7⟩)
        go_ret
        first
          | exact ⟨_, by rw [HWE2.out]; rfl, by rw [HWR.out]; exact hD7, hmv.trans (RMoved.of_grown hg7)⟩
          | exact ⟨by rw [HWE2.out]; rfl, _, by rw [HWR.out]; exact hD7, hmv.trans (RMoved.of_grown hg7)⟩
    · have hfin := HBAD.out 1 (by rw [hoff]; exact readyE_bad hra) (by decide)
      have HFIN := Lib.hid hfin
      rw [hoff] at c2
      clear hfin HBAD hoff
      by_cases hlt : a < 0
      · go_wp2_with fail
        go_ret
        first
          | exact ⟨l, by rw [HFIN.out.1]; rfl, by rw [HFIN.out.2]; exact h1, RMoved.of_below hb1⟩
          | exact ⟨by rw [HFIN.out.1]; rfl, l, by rw [HFIN.out.2]; exact h1, RMoved.of_below hb1⟩
      · have g2 : 32768 ≤ a := by omega
        go_wp2_with fail
        go_ret
        first
          | exact ⟨l, by rw [HFIN.out.1]; rfl, by rw [HFIN.out.2]; exact h1, RMoved.of_below hb1⟩
          | exact ⟨by rw [HFIN.out.1]; rfl, l, by rw [HFIN.out.2]; exact h1, RMoved.of_below hb1⟩
  · have hfin := HBAD.out 8 (by rw [hoff]; rfl) (by decide)
    have HFIN := Lib.hid hfin
    rw [hoff] at c2
    clear hfin HBAD hoff
    go_wp2_with fail
    go_ret
    first
          | exact ⟨l, by rw [HFIN.out.1]; rfl, by rw [HFIN.out.2]; exact h1, RMoved.of_below hb1⟩
          | exact ⟨by rw [HFIN.out.1]; rfl, l, by rw [HFIN.out.2]; exact h1, RMoved.of_below hb1⟩
end Go.Proofs.Ytmjdfajdompkeaa
