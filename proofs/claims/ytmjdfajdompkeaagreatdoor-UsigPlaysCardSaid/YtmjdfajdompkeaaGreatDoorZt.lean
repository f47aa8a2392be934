/- What the law UsigPlays takes of the texts of the book and the disk: the document's cut; structs that stand anywhere; lengths. -/
import Derived.Test.YtmjdfajdompkeaaGreatDoorZs
import Derived.Test.YtmjdfajdompkeaaGreatDoorZv
namespace Go.Proofs.YtmjdfajdompkeaaGreatDoor
open Go.RowKit Go.Rat
/-- A cut goes on. -/
theorem cut_on {w : World} {g : Nat} {T : TypeId} {gb : Option Nat} {xs : List UInt8} {A : Option Addr} {n c : Nat} (hB : Blk w g T #[.slice A n c, .bool false]) (hR : RB w A n xs) (hnc : n ≤ c) (hcc : c ≤ 9223372036854775807) (hgb : A.map (·.block) = gb) (hne : gb ≠ some g) (k : Nat) (hk : k ≤ xs.length)
    (A2 : Option Addr) (n2 c2 : Nat) (hA : A2 = if c = k then A else A.map (·.add k)) (hn : n2 = n - k) (hc : c2 = c - k) :
    CutAt (w.setCell ⟨g, 0, none⟩ (.slice A2 n2 c2)) g T gb (xs.drop k) false ∧ w.grownBy (w.setCell ⟨g, 0, none⟩ (.slice A2 n2 c2)) (some g) := by
  have hl := hR.len
  subst hA hn hc
  have hg := grownBy_set w g 0 (.slice (if c = k then A else A.map (·.add k)) (n - k) (c - k))
  have hcut := Reads.cut (hR.grown hg (.inl (by rw [hgb]; exact hne))) (k := k) (cap := c) (by omega) hnc
  simp only [Nat.mul_one] at hcut
  refine ⟨⟨_, n - k, c - k, hB.set_ 0 _, ?_, by omega, by omega, ?_, hne⟩, hg⟩
  · simpa [RB, bvs, List.map_drop] using hcut
  · split
    · exact hgb
    · rw [← hgb]; cases A <;> simp [block_of_add]
set_option maxHeartbeats 400000 in
/-- ratchetref01: the same of the document's cut. -/
theorem rnumber_any (w : World) (g : Nat) (gb : Option Nat) (xs : List UInt8) (bad : Bool) (k : Nat) (hC : CutAt w g 86 gb xs bad) (hk8 : k ≤ 8) :
    Calls Tryz.prog 62 #[.pointer (some ⟨g, 0, none⟩), .int .i64 k] w fun e w' => e = .returned (.int .u64 (num (takeF xs bad k).1)) ∧
      CutAt w' g 86 gb (takeF xs bad k).2.1 (takeF xs bad k).2.2 ∧ w.grownBy w' (some g) := by
  obtain ⟨A, n, c, hB, hR, hnc, hcc, hgb, hne, h0, h1, f0, f1⟩ := hC.open_
  have hl := hR.len
  by_cases hbad : bad = true ∨ (k : Int) < 0 ∨ (xs.length : Int) < k
  · rw [takeF_bad hbad]
    have FIN : Hid (∀ v, v = Value.bool true → CutAt (w.setCell ⟨g, 1, none⟩ v) g 86 gb xs true ∧ w.grownBy (w.setCell ⟨g, 1, none⟩ v) (some g)) := by
      rintro v rfl
      exact ⟨⟨A, n, c, hB.set_ 1 _, hR.grown (grownBy_set w g 1 _) (.inl (by rw [hgb]; exact hne)), hnc, hcc, hgb, hne⟩, grownBy_set w g 1 _⟩
    clear hB hR hne hgb hC
    cases bad with
    | true =>
      go_enter Tryz.func62, Tryz.ntmps62
      go_wp2_with fail
      go_ret
      exact ⟨rfl, FIN.out _ rfl⟩
    | false =>
      have hk2 : n < k := by simp at hbad; omega
      clear hbad
      go_enter Tryz.func62, Tryz.ntmps62
      go_wp2_with fail
      go_ret
      exact ⟨rfl, FIN.out _ rfl⟩
  · obtain rfl : bad = false := by cases bad <;> simp_all
    have hk : k ≤ xs.length := by omega
    rw [takeF_ok hk]
    have hmn : ¬ n < k := by omega
    clear hbad hC
    go_enter Tryz.func62, Tryz.ntmps62
    go_wp2_with fail
    go_loop [5, 6] (fun v i => ∃ j : Nat, j ≤ k ∧ i = .int .i64 j ∧ v = .int .u64 (num (xs.take j))) (fun _ i => k - (intOf i).toNat)
    case atStart => exact ⟨0, Nat.zero_le _, rfl, rfl⟩
    case round =>
      obtain ⟨j, hj, rfl, rfl⟩ := hrel
      by_cases hlt : j < k
      · obtain ⟨ad, rfl, hb, hc⟩ := hR.at_ (k := j) (by omega)
        have HN := Lib.hid (num_next (ys := xs) (j := j) (by omega) (by omega))
        go_wp2_with fail
        exact ⟨⟨j + 1, by omega, by go_num, by rw [← HN.out]; simp [List.getD_eq_getElem?_getD]⟩, by simp [intOf]; omega⟩
      · obtain rfl : j = k := by omega
        have FIN := Lib.hid (@cut_on w g _ gb xs A n c hB hR hnc hcc hgb hne j hk)
        clear hB hR hgb hne
        go_wp2_with fail
        · go_ret
          exact ⟨rfl, FIN.out _ _ _ (by simp [*]) rfl (by omega)⟩
        · go_ret
          exact ⟨rfl, FIN.out _ _ _ (by rw [if_neg (by assumption)]) rfl rfl⟩
set_option maxHeartbeats 400000 in
theorem rcword_any (w : World) (g : Nat) (gb : Option Nat) (xs : List UInt8) (bad : Bool) (hC : CutAt w g 86 gb xs bad) :
    Calls Tryz.prog 38 #[.pointer (some ⟨g, 0, none⟩)] w fun e w' => e = .returned (.int .u64 (num (takeF xs bad 8).1)) ∧
      CutAt w' g 86 gb (takeF xs bad 8).2.1 (takeF xs bad 8).2.2 ∧ w.grownBy w' (some g) := by
  go_enter Tryz.func38, Tryz.ntmps38
  go_wp2_with (go_at_call 62; refine (rnumber_any w g gb xs bad 8 hC (by omega)).mono ?_; rintro e w1 ⟨rfl, hC1, hg1⟩)
  go_ret
  exact ⟨rfl, hC1, hg1⟩
/-- A struct that stands anywhere. -/
theorem wpl_load_any {P : Program} {w : World} {ops : Array Oper} {rest : List Oper} {a : Act} {Q : Exit → Act → World → Prop} {d : Option Tmp} {ty : TypeId} {x : Operand} {t : TypeId} {p : String} {af : Array Edge} (ad : Addr) (cs : List Value) {D : TypeDesc}
    (hu : P.underlying ty = some D) (hd : D.isRow = true) {n : Nat} (hi : (P.info? ty).map (·.size) = some n) (hl : cs.length = n) (hc : ∀ j u, cs[j]? = some u → w.cell? (ad.add j) = some u)
    (hx : a.eval x = .pointer (some ad)) (h : wpList P ops Q rest (a.put d (.agg cs.toArray)) w) :
    wpList P ops Q ({ dst := d, op := .load ty x, type := t, pos := p, after := af, guard := none } :: rest) a w := by
  subst hl
  have hrun : (loadVar ty ad).run P w = .ok (.agg cs.toArray) w := by
    have hl : (loadCells ad cs.length).run P w = .ok cs.toArray w := run_loadCells_list (P := P) w ad cs hc
    cases hq : P.info? ty with
    | none => simp [hq] at hi
    | some i =>
      have hs : i.size = cs.length := by simpa [hq] using hi
      have hagg : (isAgg ty).run P w = .ok true w := by
        unfold isAgg
        rw [Sem.run_bind, run_underlying hu w]
        cases D <;> simp_all
      simp [loadVar, Sem.run_bind, hagg, sizeOf, typeInfo, hq, hs, hl]
  refine wpList_plain rfl fun _ hK => ?_
  unfold Oper.wp execOp
  simp only [hx, Instr.loadAt, Instr.sureAddr, Sem.run_bind, Sem.run_pure, Result.andThen_ok, hrun]
  exact hK _ _ h
theorem RWs.mono {w : World} {base b2 c : Nat} {A : Option Addr} {l : List RW} (h : RWs w base A c l) (hb : b2 ≤ base) : RWs w b2 A c l := by
  obtain ⟨h1, h2⟩ := h
  refine ⟨h1, ?_⟩
  rcases h2 with h3 | ⟨g, cap, cur, hv, hbg, rest⟩
  · exact .inl h3
  · exact .inr ⟨g, cap, cur, hv, Nat.le_trans hb hbg, rest⟩
theorem RDk.mono {w : World} {base b2 : Nat} {l : RL} {d : DS} (h : RDk w base l d) (hb : b2 ≤ base) : RDk w b2 l d := by
  obtain ⟨r, h1, h2⟩ := h
  exact ⟨r, ⟨h1.blk, h1.row1.mono hb, h1.row2.mono hb, h1.n1, h1.n2, h1.n12, Nat.le_trans hb h1.bg, h1.ok⟩, h2⟩
theorem writeD_len (d : DS) (a : Int) (b : List UInt8) : (writeD d a b).loose.length ≤ d.loose.length + 1 := by
  unfold writeD
  split
  · unfold burnD
    split
    · simp [offD, putD]
    · split <;> simp [putD]
  · omega
theorem syncAll_len (d : DS) : (syncAll d).loose.length ≤ d.loose.length := by
  unfold syncAll
  split
  · exact Nat.le_refl _
  · split
    · unfold burnD
      split
      · exact Nat.le_refl _
      · split <;> exact Nat.le_refl _
    · simp [syncD]
theorem onAll_len (d : DS) (ps : List UInt8) : (onAll d ps).loose.length ≤ d.loose.length := by
  unfold onAll
  split
  · simp [onD]
  · exact Nat.le_refl _
theorem Two.rfp {w : World} {base : Nat} {l : DL} {L : RL} {d : DS} (h : Two w base l L d) {x : Nat} (hx : L.fp x) : base ≤ x ∧ x < w.heap.size := h.r.fp_lt hx
theorem below_rmoved {w a b : World} {l l' : RL} {d : DS} {base : Nat} (h : Below w.heap.size w a ∧ base ≤ a.heap.size) (hw : w.heap.size ≤ base) (hD : RDk a base l d) (hm : RMoved a b l l') : Below w.heap.size w b ∧ base ≤ b.heap.size :=
  ⟨h.1.trans (hm.chg.below (fun _ hx => Nat.le_trans hw (hD.fp_lt hx).1) h.1.size), Nat.le_trans h.2 hm.chg.size⟩
theorem blk_ne {w : World} {g g' : Nat} {T T' : TypeId} {cs cs' : Array Value} (h1 : Blk w g T cs) (h2 : Blk w g' T' cs') (hT : T ≠ T') : g ≠ g' := by
  intro e
  subst e
  have := h1.symm.trans h2
  injection this with h3
  injection h3 with _ h4
  exact hT h4
theorem ptF_len (d : DS) (p : Int) (which : Nat) (b : List UInt8) : (ptF d p which b).1.loose.length ≤ d.loose.length + 10 := by
  have h := wrS_loose d (p + ((1 - which : Nat) : Int) * 10) (nextF d p) b 10
  unfold ptF
  split
  · have := syncAll_len (wrS d (p + ((1 - which : Nat) : Int) * 10) (nextF d p) b 10).1
    simp only
    omega
  · exact h
theorem fmF_len (d : DS) (p : Int) : (fmF d p).1.loose.length ≤ d.loose.length + 20 := by
  have h1 := wrS_loose d p 2 [] 10
  have h2 := wrS_loose (wrS d p 2 [] 10).1 (p + 10) 1 [] 10
  unfold fmF
  split
  · split
    · have := syncAll_len (wrS (wrS d p 2 [] 10).1 (p + 10) 1 [] 10).1
      simp only
      omega
    · omega
  · omega
end Go.Proofs.YtmjdfajdompkeaaGreatDoor
