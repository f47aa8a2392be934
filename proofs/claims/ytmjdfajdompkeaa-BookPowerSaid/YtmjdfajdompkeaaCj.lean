/- cell: Get, Put. -/
import Derived.Test.YtmjdfajdompkeaaCi
namespace Go.Proofs.Ytmjdfajdompkeaa
open Go.RowKit Go.Rat
theorem cget_any (w : World) (base : Nat) (l : DL) (k : Nat) (s : CS) (hC : CellAt w base l k s) :
    Calls Try.prog 40 #[.pointer (some ⟨k, 0, none⟩)] w fun e w' => ∃ A c, e = .returned (.slice A s.b.length c) ∧ OB 5 w' w.heap.size A s.b.length c s.b ∧ Below w.heap.size w w' := by
  obtain ⟨A, N, c, hB, hO, _⟩ := hC.blk
  have hl := hC.len
  have hr := hO.reads
  have hN := hO.len
  have c2 := hB.cell 2
  simp only [List.getElem?_toArray, List.getElem?_cons_zero, List.getElem?_cons_succ] at c2
  subst hN
  clear hB hO hC
  go_enter Try.func40, Try.ntmps40
  go_wp2_with fail
  refine (clone_any w A _ c s.b hr (by omega)).mono ?_
  rintro e w2 ⟨A2, c2', rfl, hO2, hb2⟩
  simp only []
  go_wp2_with fail
  go_ret
  exact ⟨A2, c2', rfl, hO2, hb2⟩
theorem cget_nil (w : World) : Calls Try.prog 40 #[.pointer none] w fun e w' => e = .returned (.slice none 0 0) ∧ w = w' := by
  go_enter Try.func40, Try.ntmps40
  go_wp2_with fail
  go_ret
  exact ⟨rfl, rfl⟩
theorem cput_nil (w : World) (A : Option Addr) (n c : Nat) : Calls Try.prog 39 #[.pointer none, .slice A n c] w fun e w' => e = .returned (.int .i64 2) ∧ w = w' := by
  go_enter Try.func39, Try.ntmps39
  go_wp2_with fail
  go_ret
  exact ⟨rfl, rfl⟩
theorem cput_dead (w : World) (base : Nat) (l : DL) (k : Nat) (s : CS) (hC : CellAt w base l k s) (hd : s.dead = true) (A : Option Addr) (n c : Nat) (hn : n ≤ 1100) :
    Calls Try.prog 39 #[.pointer (some ⟨k, 0, none⟩), .slice A n c] w fun e w' => e = .returned (.int .i64 8) ∧ w = w' := by
  obtain ⟨A', N, c', hB, _, _⟩ := hC.blk
  have c4 := hB.cell 4
  simp only [List.getElem?_toArray, List.getElem?_cons_zero, List.getElem?_cons_succ, hd] at c4
  have hn' : ¬ (1100 : Int) < (n : Int) := by omega
  clear hB hC hd
  go_enter Try.func39, Try.ntmps39
  go_wp2_with fail
  go_ret
  exact ⟨rfl, rfl⟩
theorem cput_many (w : World) (k : Nat) (A : Option Addr) (n c : Nat) (hn : 1100 < n) :
    Calls Try.prog 39 #[.pointer (some ⟨k, 0, none⟩), .slice A n c] w fun e w' => e = .returned (.int .i64 6) ∧ w = w' := by
  have hn' : (1100 : Int) < (n : Int) := by omega
  go_enter Try.func39, Try.ntmps39
  go_wp2_with fail
  go_ret
  exact ⟨rfl, rfl⟩
def putCell (s : CS) (b : List UInt8) (E : Int) : CS := if E = 0 then ⟨s.p, b, 1 - s.which, false⟩ else { s with dead := true }
/-- A disk and a cell have moved on. -/
structure CMoved (w w' : World) (l l' : DL) (k : Nat) : Prop where
  g : (l'.g, l'.gs, l'.gn) = (l.g, l.gs, l.gn)
  chg : Chg (fun x => l.fp x ∨ x = k) w w'
  fp : ∀ x, l'.fp x → l.fp x ∨ w.heap.size ≤ x
theorem CMoved.of_moved {w w' : World} {l l' : DL} (h : Moved w w' l l') (k : Nat) : CMoved w w' l l' k := ⟨h.g, h.chg.mono (fun _ hx => .inl hx), h.fp⟩
theorem CMoved.trans {a b c : World} {l m n : DL} {k : Nat} (h : CMoved a b l m k) (q : CMoved b c m n k) : CMoved a c l n k :=
  ⟨q.g.trans h.g, h.chg.trans q.chg (fun x hx => by
    rcases hx with hx | hx
    · rcases h.fp x hx with h1 | h1
      · exact .inl (.inl h1)
      · exact .inr h1
    · exact .inl (.inr hx)), fun x hx => by
    rcases q.fp x hx with h1 | h1
    · exact h.fp x h1
    · exact .inr (Nat.le_trans h.chg.size h1)⟩
theorem CMoved.set {w w' : World} {l l' : DL} {k : Nat} (h : CMoved w w' l l' k) (i : Nat) (v : Value) : CMoved w (w'.setCell ⟨k, i, none⟩ v) l l' k :=
  ⟨h.g, h.chg.trans (Chg.of_grown (F := fun x => x = k) (grownBy_set w' k i v) rfl) (fun _ hx => .inl (.inr hx)), h.fp⟩
set_option maxRecDepth 20000 in
set_option maxHeartbeats 8000000 in
theorem cput_any (w : World) (base : Nat) (l : DL) (d : DS) (hD : DiskAt w base l d) (g : Nat) (hg : l.g = g) (hbase : base ≤ w.heap.size) (hlo : d.loose.length < 900000000) (k : Nat) (s : CS) (hC : CellAt w base l k s) (hp : 0 ≤ s.p ∧ s.p + 20 ≤ 32768) (hdead : s.dead = false)
    (A : Option Addr) (n cap : Nat) (b : List UInt8) (hr : RB w A n b) (hn : n ≤ 1100) (hap : n ≠ 0 → ∀ x, A.map (·.block) = some x → ¬ l.fp x ∧ x ≠ k) :
    Calls Try.prog 39 #[.pointer (some ⟨k, 0, none⟩), .slice A n cap] w fun e w' => ∃ l', e = .returned (.int .i64 (ptF d s.p s.which b).2) ∧ l'.g = g ∧ DiskAt w' base l' (ptF d s.p s.which b).1 ∧ CellAt w' base l' k (putCell s b (ptF d s.p s.which b).2) ∧ CMoved w w' l l' k := by
  obtain ⟨A', N, c', hB, hO, hA'⟩ := hC.blk
  rw [hg, hdead] at hB
  have hout := hC.out
  have hbk := hC.bk
  have hwh := hC.wh
  have hln := hC.len
  obtain ⟨p, which, dead, b0, hpe, hwe, hbe⟩ : ∃ p which dead b0, s.p = p ∧ s.which = which ∧ s.b = b0 := ⟨_, _, s.dead, _, rfl, rfl, rfl⟩
  rw [hpe] at hB hp ⊢
  rw [hwe] at hB hwh ⊢
  rw [hbe] at hO hln
  have HPE := Lib.hid hpe
  have HWE := Lib.hid hwe
  have HBE := Lib.hid hbe
  have hnx := (cnext_any w.drew base l d (hD.below drew_below) g hg k s (hC.below drew_below) (by rw [hpe]; exact hp))
  rw [hpe] at hnx
  have c0 := hB.cell 0
  have c1 := hB.cell 1
  have c3 := hB.cell 3
  have c4 := hB.cell 4
  simp only [List.getElem?_toArray, List.getElem?_cons_zero, List.getElem?_cons_succ] at c0 c1 c3 c4
  have hn' : ¬ (1100 : Int) < (n : Int) := by omega
  have hto : (1 : Int) - (which : Int) = ((1 - which : Nat) : Int) := by omega
  have hnlt : nextF d p < 2 ^ 64 := Nat.mod_lt _ (by omega)
  obtain ⟨tw, hte⟩ : ∃ tw, 1 - which = tw := ⟨_, rfl⟩
  rw [hte] at hto
  have hto1 : tw ≤ 1 := by omega
  have HTE := Lib.hid hte
  have HTO := Lib.hid hto
  clear hC hdead hpe hwe hbe hte
  go_enter Try.func39, Try.ntmps39
  go_wp2_with fail
  refine wp_region_plan [(0, true), (1, true), (2, true), (3, true), (4, true), (5, true), (7, true), (6, false), (8, false), (9, true)]
    (fun z => z.cell? ⟨k, 0, none⟩ = some (.pointer (some ⟨g, 0, none⟩)) ∧ z.cell? ⟨k, 1, none⟩ = some (.int .i64 p)) (by kernel_rfl) (by kernel_rfl) (by kernel_rfl) (by kernel_rfl) (fun _ _ d _ _ h => by cases d <;> exact h) ⟨c0, c1⟩ ?_
  simp only [planOps, List.getElem?_toArray, List.getElem?_cons_zero, List.getElem?_cons_succ]
  repeat (first
    | (refine wpS_skip (by rfl) ?_; simp only [Act.put, List.setIfInBounds_toArray, List.set_cons_zero, List.set_cons_succ])
    | (refine wpS_q ?_ (by rfl) ?_ ?_; rotate_left; (focus (intro z hz; (try dsimp only at hz); go_simp; rfl)); simp only [Act.put, List.setIfInBounds_toArray, List.set_cons_zero, List.set_cons_succ]))
  refine wpS_l (by rfl) (fun K hK => ?_)
  go_wp2_with fail
  refine hnx.mono ?_
  rintro e w3 ⟨rfl, hb⟩
  have hb3 : Below w.heap.size w w3 := drew_below.trans hb
  have hB3 := hB.below hb3 hB.lt
  have hD3 := hD.below hb3
  have hr3 := hr.below hb3
  have hO3 : OB 5 w3 base A' N c' b0 := OB.grown hO (grownBy_of_below hb3 none) (.inr rfl)
  have hm3 : CMoved w w3 l l k := CMoved.of_moved (Moved.of_below hb3) k
  have c0 := hB3.cell 0
  have c1 := hB3.cell 1
  simp only [List.getElem?_toArray, List.getElem?_cons_zero, List.getElem?_cons_succ] at c0 c1
  refine hK _ _ _ ⟨c0, c1⟩ (fun _ h => h) ?_
  clear hK hb hB hD hr hO c3 c4 hnx
  obtain ⟨r, hre⟩ : ∃ r, wrS d (p + (tw : Int) * 10) (nextF d p) b 10 = r := ⟨_, rfl⟩
  have hpt : ptF d p which b = if r.2 = 0 then (syncAll r.1, syncE r.1) else r := by
    have h1 := HTE.out
    rw [ptF, h1, hre]
  have hw3 := hb3.size
  have hbs3 : base ≤ w3.heap.size := Nat.le_trans hbase hb3.size
  have HRE := Lib.hid hre
  have HPT := Lib.hid hpt
  clear hre hpt hb3
  refine wpS_l (by rfl) (fun K hK => ?_)
  go_wp2_with fail
  refine (cwrite_any w3 base l d hD3 g hg hbs3 hlo p tw hto1 hp (nextF d p) hnlt A n cap b hr3 hn).mono ?_
  rw [HRE.out]
  rintro e w4 ⟨l4, rfl, hlg4, hD4, hm4⟩
  have hB4 := hm4.chg.blk hB3 hout
  have hr4 := hm4.chg.rbN hr3 (fun hn0 x hx => (hap hn0 x hx).1)
  have hO4 : OB 5 w4 base A' N c' b0 := hm4.chg.own hO3 hA'
  have hm4' := hm3.trans (CMoved.of_moved hm4 k)
  have c0 := hB4.cell 0
  have c1 := hB4.cell 1
  simp only [List.getElem?_toArray, List.getElem?_cons_zero, List.getElem?_cons_succ] at c0 c1
  have hout4 : ¬ l4.fp k := fun hf => by
    rcases hm4.fp k hf with h | h
    · exact hout h
    · have := hB3.lt
      omega
  have hA4 : ∀ x, A'.map (·.block) = some x → ¬ l4.fp x := fun x hx hf => by
    rcases hm4.fp x hf with h | h
    · exact hA' x hx h
    · have := (hO3.ge x hx).2
      omega
  have hap4 : n ≠ 0 → ∀ x, A.map (·.block) = some x → ¬ l4.fp x ∧ x ≠ k := fun hn0 x hx => ⟨fun hf => by
    rcases hm4.fp x hf with h | h
    · exact (hap hn0 x hx).1 h
    · obtain ⟨ad, hA, hlt, _⟩ := hr3.2 (by omega)
      rw [hA] at hx
      have : ad.block = x := Option.some.inj hx
      omega, (hap hn0 x hx).2⟩
  refine hK _ _ _ ⟨c0, c1⟩ (fun _ h => h) ?_
  clear hK hm4 hB3 hD3 hr3 hO3 hm3
  iterate 1 (refine wpS_q ?_ (by rfl) ?_ ?_; rotate_left; (focus (intro z hz; (try dsimp only at hz); go_simp; rfl)); simp only [Act.put, List.setIfInBounds_toArray, List.set_cons_zero, List.set_cons_succ])
  refine wpS_nil ?_
  clear c0 c1
  by_cases he : r.2 = 0
  · have he' : (r.2 == 0) = true := by simpa using he
    have c0 := hB4.cell 0
    simp only [List.getElem?_toArray, List.getElem?_cons_zero] at c0
    have hpt := HPT.out
    rw [if_pos he] at hpt
    have HPT2 := Lib.hid hpt
    rw [he]
    clear hpt he he'
    go_wp2_with fail
    refine (gsync _ base g _ _ hD4 hlg4).mono ?_
    rintro e w5 ⟨l5, rfl, hlg5, hD5, hm5⟩
    simp only []
    obtain ⟨E, hE⟩ : ∃ E, syncE r.1 = E := ⟨_, rfl⟩
    rw [hE]
    have hpt := HPT2.out
    rw [hE] at hpt
    have HPT3 := Lib.hid hpt
    have hB5 := hm5.chg.blk hB4 hout4
    have hr5 := hm5.chg.rbN hr4 (fun hn0 x hx => (hap4 hn0 x hx).1)
    have hO5 : OB 5 w5 base A' N c' b0 := hm5.chg.own hO4 hA4
    have hm5' := hm4'.trans (CMoved.of_moved hm5 k)
    have hout5 : ¬ l5.fp k := fun hf => by
      rcases hm5.fp k hf with h | h
      · exact hout4 h
      · have := hB4.lt
        omega
    have hA5 : ∀ x, A'.map (·.block) = some x → ¬ l5.fp x := fun x hx hf => by
      rcases hm5.fp x hf with h | h
      · exact hA4 x hx h
      · have := (hO4.ge x hx).2
        omega
    clear hE hpt HPT2 c0 hm5 hB4 hO4 hD4 hm4'
    by_cases hE0 : E = 0
    · subst hE0
      have f4 := hB5.frozen 4
      have c4 := hB5.cell 4
      simp only [List.getElem?_toArray, List.getElem?_cons_zero, List.getElem?_cons_succ] at c4
      have hB6 := hB5.set_ 4 (.bool false)
      simp only [List.setIfInBounds_toArray, List.set_cons_zero, List.set_cons_succ] at hB6
      have hg6 := grownBy_set w5 k 4 (.bool false)
      have hD6 := hD5.beside hg6 hout5
      have hr6 := (Chg.of_grown (F := fun x => x = k) hg6 rfl).rbN hr5 (fun hn0 x hx e => (hap4 hn0 x hx).2 e)
      have hm6 := hm5'.set 4 (.bool false)
      clear hB5 hO5 hD5 hm5' hr4 hr5 hg6
      go_upto_region 13 with (fail)
      obtain ⟨w6, hw6⟩ : ∃ x, w5.setCell ⟨k, 4, none⟩ (.bool false) = x := ⟨_, rfl⟩
      rw [hw6] at hB6 hD6 hr6 hm6 ⊢
      clear hw6 f4 c4
      go_wp2_with fail
      refine (clone_any w6 A n cap b hr6 (by omega)).mono ?_
      rintro e w7 ⟨A7, c7, rfl, hO7, hb7⟩
      simp only []
      have hB7 := hB6.below hb7 hB6.lt
      have hD7 := hD6.below hb7
      have hm7 := hm6.trans (CMoved.of_moved (Moved.of_below (l := l5) hb7) k)
      have hb6s : base ≤ w6.heap.size := Nat.le_trans hbase hm6.chg.size
      have hA7 : ∀ x, A7.map (·.block) = some x → ¬ l5.fp x := fun x hx hf => by
        have h1 := (hO7.ge x hx).1
        have h2 := (hD6.fp_lt hf).2
        omega
      have f3 := hB7.frozen 3
      have c3 := hB7.cell 3
      have f2 := hB7.frozen 2
      have c2 := hB7.cell 2
      simp only [List.getElem?_toArray, List.getElem?_cons_zero, List.getElem?_cons_succ] at c2 c3
      have hB8 := hB7.set_ 3 (.int .i64 (tw : Int))
      have hB9 := hB8.set_ 2 (.slice A7 n c7)
      simp only [List.setIfInBounds_toArray, List.set_cons_zero, List.set_cons_succ] at hB9
      have hg8 := grownBy_set w7 k 3 (.int .i64 (tw : Int))
      have hg9 := grownBy_set (w7.setCell ⟨k, 3, none⟩ (.int .i64 (tw : Int))) k 2 (.slice A7 n c7)
      have hD9 := (hD7.beside hg8 hout5).beside hg9 hout5
      have hO9 := (OB.grown (OB.grown hO7 hg8 (.inl (OB_ne hO7 hB7 cell_ne8))) hg9 (.inl (OB_ne hO7 hB7 cell_ne8))).mono (B := base) hb6s
      have hm9 := (hm7.set 3 (.int .i64 (tw : Int))).set 2 (.slice A7 n c7)
      have hbl := hr6.len
      clear hB6 hD6 hr6 hm6 hb7 hB7 hD7 hm7 hO7 hB8 hg8 hg9
      go_wp2_with fail
      go_ret
      exact ⟨l5, by rw [HPT3.out]; rfl, hlg5, by rw [HPT3.out]; exact hD9, ⟨⟨A7, n, c7, by rw [hlg5, HPT3.out]; simp only [putCell, if_pos, HPE.out, HWE.out, HTE.out]; exact hB9, by rw [HPT3.out]; simp only [putCell, if_pos]; exact hO9, hA7⟩, hout5, hbk, by rw [HPT3.out]; simp only [putCell, if_pos, HWE.out, HTE.out]; exact hto1, by rw [HPT3.out]; simp only [putCell, if_pos]; omega⟩, hm9⟩
    · skip
      have hne : (E != 0) = true := by simpa using hE0
      have hfin : ptF d p which b = (syncAll r.1, E) := HPT3.out
      have HFIN := Lib.hid hfin
      have HE0 := Lib.hid hE0
      have f4 := hB5.frozen 4
      have c4 := hB5.cell 4
      simp only [List.getElem?_toArray, List.getElem?_cons_zero, List.getElem?_cons_succ] at c4
      have hB6 := hB5.set_ 4 (.bool true)
      simp only [List.setIfInBounds_toArray, List.set_cons_zero, List.set_cons_succ] at hB6
      have hg6 := grownBy_set w5 k 4 (.bool true)
      have hD6 := hD5.beside hg6 hout5
      have hO6 : OB 5 _ base A' N c' b0 := OB.grown hO5 hg6 (.inl (OB_ne hO5 hB5 cell_ne8))
      have hm6 := hm5'.set 4 (.bool true)
      clear hfin hE0 hB5 hO5 hD5 hm5' hr4 hap4 hg6
      go_wp2_with fail
      go_ret
      exact ⟨l5, by rw [HFIN.out]; rfl, hlg5, by rw [HFIN.out]; exact hD6, ⟨⟨A', N, c', by rw [hlg5, HFIN.out]; simp only [putCell, if_neg HE0.out, HPE.out, HWE.out]; exact hB6, by rw [HFIN.out]; simp only [putCell, if_neg HE0.out, HBE.out]; exact hO6, hA5⟩, hout5, hbk, by rw [HFIN.out]; simp only [putCell, if_neg HE0.out, HWE.out]; exact hwh, by rw [HFIN.out]; simp only [putCell, if_neg HE0.out, HBE.out]; exact hln⟩, hm6⟩
  · have he' : (r.2 == 0) = false := by simpa using he
    have hne : (r.2 != 0) = true := by simpa using he
    have hfin : ptF d p which b = (r.1, r.2) := by rw [HPT.out, if_neg he]
    have HFIN := Lib.hid hfin
    have HE0 := Lib.hid he
    have f4 := hB4.frozen 4
    have c4 := hB4.cell 4
    simp only [List.getElem?_toArray, List.getElem?_cons_zero, List.getElem?_cons_succ] at c4
    have hB6 := hB4.set_ 4 (.bool true)
    simp only [List.setIfInBounds_toArray, List.set_cons_zero, List.set_cons_succ] at hB6
    have hg6 := grownBy_set w4 k 4 (.bool true)
    have hD6 := hD4.beside hg6 hout4
    have hO6 : OB 5 _ base A' N c' b0 := OB.grown hO4 hg6 (.inl (OB_ne hO4 hB4 cell_ne8))
    have hm6 := hm4'.set 4 (.bool true)
    clear hfin he hB4 hO4 hD4 hm4' hr4 hap4 hg6
    go_wp2_with fail
    go_ret
    exact ⟨l4, by rw [HFIN.out]; rfl, hlg4, by rw [HFIN.out]; exact hD6, ⟨⟨A', N, c', by rw [hlg4, HFIN.out]; simp only [putCell, if_neg HE0.out, HPE.out, HWE.out]; exact hB6, by rw [HFIN.out]; simp only [putCell, if_neg HE0.out, HBE.out]; exact hO6, hA4⟩, hout4, hbk, by rw [HFIN.out]; simp only [putCell, if_neg HE0.out, HWE.out]; exact hwh, by rw [HFIN.out]; simp only [putCell, if_neg HE0.out, HBE.out]; exact hln⟩, hm6⟩
end Go.Proofs.Ytmjdfajdompkeaa
