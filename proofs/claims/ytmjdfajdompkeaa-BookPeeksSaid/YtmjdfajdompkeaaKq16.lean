/- book: all records are read. -/
import Derived.Test.YtmjdfajdompkeaaKq15
namespace Go.Proofs.Ytmjdfajdompkeaa
open Go.RowKit Go.Rat
theorem Row.chg {w w' : World} {l : DL} {base N c : Nat} {A : Option Addr} {ps : List Pt} {F : Nat → Prop} (h : Row w l base A N c ps) (hc : Chg F w w') (hF : ∀ g, base ≤ g → ¬ F g) (hge : ∀ p ∈ ps, ∀ g, p.A.map (·.block) = some g → base ≤ g) : Row w' l base A N c ps :=
  ⟨hc.own h.own (fun x hx => hF x (h.ltA x hx).1), h.len, fun p hp => ⟨hc.rb (h.ok p hp).r (fun x hx => hF x (hge p hp x hx)), (h.ok p hp).c⟩, h.apart, fun p hp g hg => Nat.lt_of_lt_of_le (h.lt p hp g hg) hc.size, h.out, h.outA⟩
theorem andThen_grown {a b' c : World} {row row' : Option Nat} (h : a.grownBy b' row) (k : b'.grownBy c row') (hr : ∀ j, row' = some j → a.heap.size ≤ j ∨ row = some j) : a.grownBy c row :=
  ⟨k.os.trans h.os, k.tape.trans h.tape, k.output.trans h.output, Nat.le_trans h.size k.size, fun i hi hne =>
    (k.block i (Nat.lt_of_lt_of_le hi h.size) (fun e => by
      rcases hr i e.symm with h1 | h1
      · omega
      · exact hne h1.symm)).trans (h.block i hi hne)⟩
def lenOf : Value → Nat
  | .slice _ n _ => n
  | _ => 0
theorem allF_none {V : Int → Option (List UInt8)} {lim p : Int} {n fr life : Nat} (h : readF V lim p n fr life = none) : ∀ f, allF V lim life f p n fr = ([], p, n)
  | 0 => rfl
  | f + 1 => by rw [allF, h]
theorem allF_some {V : Int → Option (List UInt8)} {lim p : Int} {n fr life : Nat} {r : List UInt8} {h : PH} (hr : readF V lim p n fr life = some (r, h)) (f : Nat) : allF V lim life (f + 1) p n fr = (r :: (allF V lim life f (p + (h.pages : Int)) (n + 1) h.life).1, (allF V lim life f (p + (h.pages : Int)) (n + 1) h.life).2) := by rw [allF, hr]
set_option maxRecDepth 20000 in
set_option maxHeartbeats 8000000 in
theorem ball_any (w : World) (base : Nat) (l : DL) (d : DS) (hD : DiskAt w base l d) (k : Nat) (s : BS) (hB : BookAt w base l k s) (hs : 0 ≤ s.next ∧ s.next ≤ 32768 ∧ s.lim ≤ 32768 ∧ (s.n : Int) ≤ s.next ∧ s.life < 2 ^ 64) (f : Nat) (hf : (s.lim - s.next).toNat ≤ f) :
    Calls Try.prog 69 #[.pointer (some ⟨k, 0, none⟩)] w fun e w' => ∃ A N c ps, e = .returned (.slice A N c) ∧ Row w' l w.heap.size A N c ps ∧ ps.map (·.xs) = (allF (seeD d) s.lim s.life f s.next s.n 1).1 ∧
      BookAt w' base l k { s with next := (allF (seeD d) s.lim s.life f s.next s.n 1).2.1, n := (allF (seeD d) s.lim s.life f s.next s.n 1).2.2 } ∧ w.grownBy w' (some k) := by
  obtain ⟨TOT, hT⟩ : ∃ T, allF (seeD d) s.lim s.life f s.next s.n 1 = T := ⟨_, rfl⟩
  rw [hT]
  have HT := Lib.hid hT
  clear hT
  have hkf : ∀ x, l.fp x → ¬ x = k := fun x hx e => hB.out (e ▸ hx)
  have hlt : ∀ x, l.fp x → x < w.heap.size := fun x hx => (hD.fp_lt hx).2
  have hkw : k < w.heap.size := hB.blk.lt
  go_enter Try.func69, Try.ntmps69
  go_wp2_with fail
  go_loopw [2, 3] (fun rv fv wr => ∃ (p : Int) (n fr f' : Nat) (A : Option Addr) (N c : Nat) (ps : List Pt), rv = .slice A N c ∧ fv = .int .u64 (fr : Int) ∧ fr < 2 ^ 64 ∧ Row wr l w.heap.size A N c ps ∧ BookAt wr base l k { s with next := p, n := n } ∧ (s.lim - p).toNat ≤ f' ∧
    ps.map (·.xs) ++ (allF (seeD d) s.lim s.life f' p n fr).1 = TOT.1 ∧ (allF (seeD d) s.lim s.life f' p n fr).2 = TOT.2 ∧ w.grownBy wr (some k) ∧ 0 ≤ p ∧ p ≤ 32768 ∧ (n : Int) ≤ p ∧ N ≤ n ∧ ∀ q ∈ ps, ∀ g, q.A.map (·.block) = some g → w.heap.size ≤ g) (fun rv _ _ => 40000 - lenOf rv)
  case atStart => exact ⟨s.next, s.n, 1, f, none, 0, 0, [], rfl, rfl, by decide, Row.nil _ _ _, hB, hf, by rw [HT.out]; rfl, by rw [HT.out], World.grownBy.refl _ _, hs.1, hs.2.1, hs.2.2.2.1, Nat.zero_le _, by simp⟩
  case round =>
    obtain ⟨p, n, fr, f', A, N, c, ps, rfl, rfl, hfr, hR, hBr, hf', ht1, ht2, hg, hp0, hp1, hnp, hNn, hge⟩ := hrel
    have hDr : DiskAt wr base l d := hD.kept (Chg.of_grown (F := fun x => x = k) hg rfl) (fun x hx e => hkf x hx e)
    have HT1 := Lib.hid ht1
    have HT2 := Lib.hid ht2
    have hsz := hg.size
    have hR0 := hR
    clear ht1 ht2
    go_wp2_with fail
    refine (bread_any wr base l d hDr k _ hBr ⟨hp0, hp1, by simp only; omega, hs.2.2.2.2⟩ fr hfr).mono ?_
    rintro e wa ⟨(⟨hrf, h, rfl⟩ | ⟨r, h, A1, N1, c1, hrf, rfl, hO⟩), hba⟩
    · have hRF := allF_none hrf f'
      have hx1 := HT1.out
      have hx2 := HT2.out
      rw [hRF] at hx1 hx2
      rw [List.append_nil] at hx1
      have HX1 := Lib.hid hx1
      have HX2 := Lib.hid hx2
      have hR := hR.below hba
      have hBr := hBr.below hba
      have hg := hg.trans (grownBy_of_below hba (some k))
      simp only []
      clear hrf hRF hx1 hx2 hba hDr
      repeat (first | ((with_reducible refine wpl_store_fresh (headL h).toArray i4 ?_ rfl (headL_ones _) ?_ ?_ ?_); (focus rfl); (focus rfl); (focus rfl); intro wb hG hlb hbb; simp only [Act.put]; refine Hid.out ?_) | go_values | go_skip | go_guarded | go_step | go_upon | go_back)
      refine Lib.hid ?_
      have hR := hR.below hbb
      have hBr := hBr.below hbb
      have hg := hg.trans (grownBy_of_below hbb (some k))
      clear hbb hG hlb
      go_wp2_with fail
      go_ret
      exact ⟨A, N, c, rfl, ps, hR, HX1.out, by rw [← HX2.out]; exact hBr, hg⟩
    · have hrf0 := hrf
      obtain ⟨b1, b2, b3, b4, b5, _, _, _⟩ := readF_pages hrf
      simp only at b2 b5
      obtain ⟨f2, rfl⟩ : ∃ f2, f' = f2 + 1 := ⟨f' - 1, by omega⟩
      have hRF := allF_some hrf f2
      have hx1 := HT1.out
      have hx2 := HT2.out
      rw [hRF] at hx1 hx2
      simp only at hx1 hx2
      have HX1 := Lib.hid hx1
      have HX2 := Lib.hid hx2
      have hhl : h.life < 2 ^ 64 := by have := hs.2.2.2.2; omega
      have hR := hR.below hba
      have hBr := hBr.below hba
      have hg := hg.trans (grownBy_of_below hba (some k))
      have hsa : wr.heap.size ≤ wa.heap.size := hba.size
      have hAA1 : Apart A A1 := fun x hx hx1 => by
        have h1 := (hR0.ltA x hx).2
        have h2 := (hO.ge x hx1).1
        omega
      have hA1l : ∀ x, A1.map (·.block) = some x → x < wa.heap.size ∧ wr.heap.size ≤ x := fun x hx => ⟨(hO.ge x hx).2, (hO.ge x hx).1⟩
      simp only []
      clear hrf hRF hx1 hx2 hba hDr HT1 HT2
      repeat (first | ((with_reducible refine wpl_store_fresh (headL h).toArray i4 ?_ rfl (headL_ones _) ?_ ?_ ?_); (focus rfl); (focus rfl); (focus rfl); intro wb hG hlb hbb; simp only [Act.put]; refine Hid.out ?_) | go_values | go_skip | go_guarded | go_step | go_upon | go_back)
      refine Lib.hid ?_
      have hR := hR.below hbb
      have hBr := hBr.below hbb
      have hO := OB.below hO hbb
      have hg := hg.trans (grownBy_of_below hbb (some k))
      have hsb : wa.heap.size ≤ wb.heap.size := hbb.size
      obtain ⟨gh, hgh⟩ : ∃ x, wa.heap.size = x := ⟨_, rfl⟩
      rw [hgh] at hG hlb hsa hA1l hsb ⊢
      clear hbb hgh
      have hltb : ∀ x, l.fp x → x < wb.heap.size := fun x hx => by have := hlt x hx; omega
      have hpt : PtOk wb ⟨A1, N1, c1, r⟩ := ⟨hO.reads, hO.cap.1⟩
      have hpn : ∀ g, A1.map (·.block) = some g → g < wb.heap.size ∧ ¬ l.fp g := fun x hx => ⟨by have := (hA1l x hx).1; omega, fun hf => by have h1 := hlt x hf; have h2 := (hA1l x hx).2; omega⟩
      have hAgh : A.map (·.block) ≠ some gh := fun e => by have := (hR0.ltA _ e).2; omega
      have hAk : A.map (·.block) ≠ some k := fun e => by have := (hR0.ltA _ e).1; omega
      have hNl : N < 1000000 := by omega
      have hwb : w.heap.size ≤ wb.heap.size := by omega
      have hhp := (readF_pages hrf0).2.2.2.1
      go_wp2_with (at_builtin; refine app_slice rfl _ _ rfl l hltb w.heap.size A N c ps rfl hR ⟨A1, N1, c1, r⟩ hpt hpn hAA1 22 _ rfl rfl hNl hwb ?_; intro A2 c2 wc hR2 hbc hgc; have hGc := (Blk.alloc hG _).grown hgc (Ne.symm hAgh); have hBc := (Blk.alloc hBr.blk _).grown hgc (Ne.symm hAk); have e0 := hGc.cell 0; simp only [headL, List.getElem?_toArray, List.getElem?_cons_zero] at e0)
      have e3 := hGc.cell 3
      have c1' := hBc.cell 1
      have f1 := hBc.frozen 1
      simp only [headL, List.getElem?_toArray, List.getElem?_cons_zero, List.getElem?_cons_succ] at e3 c1'
      have hw1 : IntKind.i64.wrap (h.pages : Int) = (h.pages : Int) := IntWalk.i64_in _ (by omega)
      have hw2 : IntKind.i64.wrap (p + (h.pages : Int)) = p + (h.pages : Int) := IntWalk.i64_in _ (by omega)
      refine wp_region_barrier [(0, false), (1, false), (2, false), (3, true), (4, false), (5, true), (6, false), (7, false), (8, false), (9, false)] 10 [] (fun z => z.cell? ⟨k, 1, none⟩ = some (.int .i64 p) ∧ z.cell? ⟨gh, 3, none⟩ = some (.int .u16 (h.pages : Int))) _ rfl (by kernel_rfl) (by kernel_rfl) (by kernel_rfl) (by kernel_rfl) (fun _ _ d _ _ h => by cases d <;> exact h) ⟨c1', e3⟩ ?_
      simp only [planOps, List.getElem?_toArray, List.getElem?_cons_zero, List.getElem?_cons_succ]
      iterate 3 (refine wpQ_q ?_ (by rfl) ?_ ?_; rotate_left; (focus (intro z hz; (try dsimp only at hz); go_simp; rfl)); simp only [Act.put, List.setIfInBounds_toArray, List.set_cons_zero, List.set_cons_succ])
      refine wpQ_q (.int .i64 p) (by rfl) (fun z hz => by have hz := (hz rfl).1; go_simp) ?_
      simp only [Act.put, List.setIfInBounds_toArray, List.set_cons_zero, List.set_cons_succ]
      iterate 1 (refine wpQ_q ?_ (by rfl) ?_ ?_; rotate_left; (focus (intro z hz; (try dsimp only at hz); go_simp; rfl)); simp only [Act.put, List.setIfInBounds_toArray, List.set_cons_zero, List.set_cons_succ])
      refine wpQ_q (.int .u16 (h.pages : Int)) (by rfl) (fun z hz => by have hz := (hz rfl).2; go_simp) ?_
      simp only [Act.put, List.setIfInBounds_toArray, List.set_cons_zero, List.set_cons_succ]
      iterate 4 (refine wpQ_q ?_ (by rfl) ?_ ?_; rotate_left; (focus (intro z hz; (try dsimp only at hz); go_simp; rfl)); simp only [Act.put, List.setIfInBounds_toArray, List.set_cons_zero, List.set_cons_succ])
      refine wpQ_nil ⟨by rfl, ?_⟩
      go_wp2_with fail
      have hB2 := hBc.set_ 1 (.int .i64 (p + (h.pages : Int)))
      have hg2 := grownBy_set wc k 1 (.int .i64 (p + (h.pages : Int)))
      obtain ⟨wd, hwd⟩ : ∃ x, wc.setCell ⟨k, 1, none⟩ (.int .i64 (p + (h.pages : Int))) = x := ⟨_, rfl⟩
      rw [hwd] at hB2 hg2 ⊢
      refine ⟨fun _ => True, trivial, ?_⟩
      refine wpS_nil ?_
      have hg3 : w.grownBy wd (some k) := andThen_grown (andThen_grown (hg.trans (grownBy_of_below (below_alloc wb _) (some k))) hgc (fun x hx => .inl (hR0.ltA x hx).1)) hg2 (fun x hx => .inr hx)
      have hge2 : ∀ q ∈ ps ++ [⟨A1, N1, c1, r⟩], ∀ g, q.A.map (·.block) = some g → w.heap.size ≤ g := by
        intro q hq x hx
        rcases List.mem_append.1 hq with h1 | h1
        · exact hge q h1 x hx
        · obtain rfl : q = ⟨A1, N1, c1, r⟩ := by simpa using h1
          have := (hA1l x hx).2
          omega
      have hR3 := hR2.chg (Chg.of_grown (F := fun x => x = k) hg2 rfl) (fun x hx e => by omega) hge2
      simp only [List.setIfInBounds_toArray, List.set_cons_zero, List.set_cons_succ] at hB2
      have c4 := hB2.cell 4
      have f4 := hB2.frozen 4
      simp only [List.getElem?_toArray, List.getElem?_cons_zero, List.getElem?_cons_succ] at c4
      clear hwd hR2 hGc hBc hbc hgc hg2 hg e0 e3 c1' f1 hR hBr hO hpt hpn
      go_wp2_with fail
      have hg4 := grownBy_set wd k 4 (.int .i64 ((n : Int) + 1))
      have hR4 := hR3.chg (Chg.of_grown (F := fun x => x = k) hg4 rfl) (fun x hx e => by omega) hge2
      have hB4 := hB2.set_ 4 (.int .i64 ((n : Int) + 1))
      simp only [List.setIfInBounds_toArray, List.set_cons_zero, List.set_cons_succ] at hB4
      refine ⟨⟨p + (h.pages : Int), n + 1, h.life, f2, A2, N + 1, c2, ps ++ [⟨A1, N1, c1, r⟩], rfl, rfl, hhl, hR4.below drew_below, ⟨hB4, hB.out, hB.bk⟩, by omega, ?_, HX2.out, (hg3.trans hg4).trans (grownBy_of_below drew_below (some k)), by omega, by omega, by omega, by omega, hge2⟩, by simp only [lenOf]; omega⟩
      rw [List.map_append, List.append_assoc]
      exact HX1.out
end Go.Proofs.Ytmjdfajdompkeaa
namespace Go.Proofs.Ytmjdfajdompkeaa
open Go.RowKit Go.Rat
theorem wpl_load_atB {P : Program} {w : World} {ops : Array Oper} {rest : List Oper} {a : Act} {Q : Exit → Act → World → Prop} {d : Option Tmp} {ty : TypeId} {x : Operand} {t : TypeId} {p : String} {af : Array Edge} (ad : Addr) (cs : List Value) {D : TypeDesc}
    (hu : P.underlying ty = some D) (hd : D.isRow = true) {n : Nat} (hi : (P.info? ty).map (·.size) = some n) (hl : cs.length = n) (hc : ∀ j u, cs[j]? = some u → w.cell? (ad.add j) = some u)
    (hx : a.eval x = .pointer (some ad)) (h : wpList P ops Q rest (a.put d (.agg cs.toArray)) w) :
    wpList P ops Q ({ dst := d, op := .load ty x, type := t, pos := p, after := af, guard := none } :: rest) a w := by
  subst hl
  have hrun : (loadVar ty ad).run P w = .ok (.agg cs.toArray) w := by
    have hl : (loadCells ad cs.length).run P w = .ok cs.toArray w := run_loadCells_list (P := P) w ad cs hc
    cases hq : P.info? ty with
    | none => simp [hq] at hi
    | some i =>
      have hs : i.size = cs.length := by simpa [hq] using hi
      have hagg : (isAgg ty).run P w = .ok true w := by
        unfold isAgg
        rw [Sem.run_bind, run_underlying hu w]
        cases D <;> simp_all
      simp [loadVar, Sem.run_bind, hagg, sizeOf, typeInfo, hq, hs, hl]
  refine wpList_plain rfl fun _ hK => ?_
  unfold Oper.wp execOp
  simp only [hx, Instr.loadAt, Instr.sureAddr, Sem.run_bind, Sem.run_pure, Result.andThen_ok, hrun]
  exact hK _ _ h
theorem OB.at0 {w : World} {base n c : Nat} {e : TypeId} {A : Option Addr} {xs : List UInt8} (h : OB e w base A n c xs) (hn : 0 < n) : ∃ g, A = some ⟨g, 0, none⟩ := by
  obtain ⟨g, cap, hv, _, _⟩ := World.ownsRow.form h (by omega)
  exact ⟨g, by injection hv⟩
theorem zc128b : Try.zeroCells28 = (bvs zs).toArray := by kernel_rfl
set_option maxRecDepth 20000 in
set_option maxHeartbeats 8000000 in
theorem bpg_any (w : World) (base : Nat) (l : DL) (kk : Nat) (s : BS) (hB : BookAt w base l kk s) (hs : s.life < 2 ^ 64 ∧ s.n ≤ 32768) (gb gn ga : Nat) (Tb Tn Ta : TypeId) (m : Nat) (hm : m < 65536) (A : Option Addr) (N c : Nat) (all : List UInt8)
    (hb : Blk w gb Tb #[.pointer (some ⟨kk, 0, none⟩)]) (hn : Blk w gn Tn #[.int .i64 (m : Int)]) (ha : Blk w ga Ta #[.slice A N c]) (hr : RB w A N all) (hNc : N ≤ c) (j : Nat) (hj : (j + 1) * 108 ≤ N) (hN : N ≤ 5000) :
    Calls Try.prog 72 #[.int .i64 (j : Int), .pointer (some ⟨gb, 0, none⟩), .pointer (some ⟨gn, 0, none⟩), .pointer (some ⟨ga, 0, none⟩)] w fun e w' => e = .returned (.agg (bvs (pageB ⟨s.life, s.n + 1, j, m⟩ (partP all j))).toArray) ∧ Below w.heap.size w w' := by
  have hlen := hr.len
  have hpl := partP_length (all := all) (k := j) (by omega)
  go_enter Try.func72, Try.ntmps72
  go_upto_region 1 with (fail)
  have hZ := Blk.new w 28 (bvs zs).toArray
  have hb1 := below_alloc w (.cells (bvs zs).toArray 28)
  rw [zc128b]
  obtain ⟨w1, hw1⟩ : ∃ x, w.alloc (.cells (bvs zs).toArray 28) = x := ⟨_, rfl⟩
  rw [hw1] at hZ hb1 ⊢
  have hB1 := hB.below hb1
  have hb' := hb.below hb1 hb.lt
  have hn' := hn.below hb1 hn.lt
  have ha' := ha.below hb1 ha.lt
  have hr1 := hr.below hb1
  have hs1 : w.heap.size < w1.heap.size := hZ.lt
  have hlb := hb.lt
  have hln := hn.lt
  have hla := ha.lt
  have hlk := hB.blk.lt
  obtain ⟨z0, hz0⟩ : ∃ x, w.heap.size = x := ⟨_, rfl⟩
  rw [hz0] at hZ hs1 hlb hln hla hlk ⊢
  have HZ0 := Lib.hid hz0
  clear hw1 hB hb hn ha hr hz0
  have c3 := hB1.blk.cell 3
  have c4 := hB1.blk.cell 4
  have cb := hb'.cell 0
  simp only [List.getElem?_toArray, List.getElem?_cons_zero, List.getElem?_cons_succ] at c3 c4 cb
  have hw0 : IntKind.i64.wrap ((s.n : Int) + 1) = (s.n : Int) + 1 := IntWalk.i64_in _ (by omega)
  have hw1 : IntKind.u64.wrap ((s.n : Int) + 1) = (s.n : Int) + 1 := IntWalk.u64_in _ (by omega)
  refine wp_region_plan [(0, true), (1, true), (2, true), (3, true), (5, true), (6, true), (7, true), (8, true), (9, true), (10, true), (4, false), (11, false), (12, true)] (fun z => z.cell? ⟨gb, 0, none⟩ = some (.pointer (some ⟨kk, 0, none⟩)) ∧ z.cell? ⟨kk, 3, none⟩ = some (.int .u64 (s.life : Int)) ∧ z.cell? ⟨kk, 4, none⟩ = some (.int .i64 (s.n : Int))) (by kernel_rfl) (by kernel_rfl) (by kernel_rfl) (by kernel_rfl) (fun _ _ d _ _ h => by cases d <;> exact h) ⟨cb, c3, c4⟩ ?_
  simp only [planOps, List.getElem?_toArray, List.getElem?_cons_zero, List.getElem?_cons_succ]
  iterate 10 (refine wpS_q ?_ (by rfl) ?_ ?_; rotate_left; (focus (intro z hz; (try dsimp only at hz); go_simp; rfl)); simp only [Act.put, List.setIfInBounds_toArray, List.set_cons_zero, List.set_cons_succ])
  refine wpS_l (by rfl) (fun K hK => ?_)
  go_wp2_with fail
  refine (word_any w1.drew none 0 0 [] s.life (RB.nil_ _ _) (by omega) hs.1).mono ?_
  rintro e w2 ⟨A1, N1, c1, rfl, hO1, hb2⟩
  have hb2 : Below w1.heap.size w1 w2 := (drew_below (w := w1)).trans hb2
  have hB2 := hB1.below hb2
  have hb := hb'.below hb2 hb'.lt
  have hn := hn'.below hb2 hn'.lt
  have ha := ha'.below hb2 ha'.lt
  have hr2 := hr1.below hb2
  have hZ2 := hZ.below hb2 hZ.lt
  have hbb2 := hb1.trans (hb2.mono (Nat.le_of_lt (by have := HZ0.out; omega)))
  have hs2 : w1.heap.size ≤ w2.heap.size := hb2.size
  have c3 := hB2.blk.cell 3
  have c4 := hB2.blk.cell 4
  have cb := hb.cell 0
  simp only [List.getElem?_toArray, List.getElem?_cons_zero, List.getElem?_cons_succ] at c3 c4 cb
  have hO1 : OB 5 w2 w1.heap.size A1 N1 c1 (be 8 s.life) := hO1
  have hN1 := hO1.len
  rw [be_length] at hN1
  obtain rfl : N1 = 8 := by omega
  clear hN1
  refine hK _ _ (fun z => z.cell? ⟨gb, 0, none⟩ = some (.pointer (some ⟨kk, 0, none⟩)) ∧ z.cell? ⟨kk, 3, none⟩ = some (.int .u64 (s.life : Int)) ∧ z.cell? ⟨kk, 4, none⟩ = some (.int .i64 (s.n : Int))) ⟨cb, c3, c4⟩ (fun _ h => h) ?_
  clear hK hb1 hb2 hB1 hb' hn' ha' hr1 hZ c3 c4 cb
  refine wpS_l (by rfl) (fun K hK => ?_)
  go_wp2_with fail
  have hwd := word_any w2 A1 8 c1 (be 8 s.life) (s.n + 1) hO1.reads (by omega) (by omega)
  rw [show ((s.n + 1 : Nat) : Int) = (s.n : Int) + 1 by omega] at hwd
  refine hwd.mono ?_
  clear hwd
  rintro e w3 ⟨A2, N2, c2, rfl, hO2, hb3⟩
  have hB3 := hB2.below hb3
  have hb' := hb.below hb3 hb.lt
  have hn' := hn.below hb3 hn.lt
  have ha' := ha.below hb3 ha.lt
  have hr3 := hr2.below hb3
  have hZ3 := hZ2.below hb3 hZ2.lt
  have hbb3 := below_next' hbb2 hb3
  have hs3 : w2.heap.size ≤ w3.heap.size := hb3.size
  have c3 := hB3.blk.cell 3
  have c4 := hB3.blk.cell 4
  have cb := hb'.cell 0
  simp only [List.getElem?_toArray, List.getElem?_cons_zero, List.getElem?_cons_succ] at c3 c4 cb
  have hN2 := hO2.len
  rw [List.length_append, be_length, be_length] at hN2
  obtain rfl : N2 = 16 := by omega
  clear hN2
  refine hK _ _ (fun z => z.cell? ⟨gb, 0, none⟩ = some (.pointer (some ⟨kk, 0, none⟩)) ∧ z.cell? ⟨kk, 3, none⟩ = some (.int .u64 (s.life : Int)) ∧ z.cell? ⟨kk, 4, none⟩ = some (.int .i64 (s.n : Int))) ⟨cb, c3, c4⟩ (fun _ h => h) ?_
  clear hK hb3 hB2 hb hn ha hr2 hZ2 c3 c4 cb hbb2 hO1 hw0 hw1
  iterate 1 (refine wpS_q ?_ (by rfl) ?_ ?_; rotate_left; (focus (intro z hz; (try dsimp only at hz); go_simp; rfl)); simp only [Act.put, List.setIfInBounds_toArray, List.set_cons_zero, List.set_cons_succ])
  refine wpS_nil ?_
  go_wp2_with fail
  have cn := hn'.cell 0
  simp only [List.getElem?_toArray, List.getElem?_cons_zero] at cn
  have hwj : IntKind.u16.wrap (j : Int) = (j : Int) := IntWalk.u16_in _ (by omega)
  have hwm : IntKind.u16.wrap (m : Int) = (m : Int) := IntWalk.u16_in _ (by omega)
  refine wp_region_plan [(0, true), (1, true), (2, true), (4, true), (5, true), (3, false), (6, false), (7, true)] (fun z => z.cell? ⟨gn, 0, none⟩ = some (.int .i64 (m : Int))) (by kernel_rfl) (by kernel_rfl) (by kernel_rfl) (by kernel_rfl) (fun _ _ d _ _ h => by cases d <;> exact h) cn ?_
  simp only [planOps, List.getElem?_toArray, List.getElem?_cons_zero, List.getElem?_cons_succ]
  iterate 5 (refine wpS_q ?_ (by rfl) ?_ ?_; rotate_left; (focus (intro z hz; (try dsimp only at hz); go_simp; rfl)); simp only [Act.put, List.setIfInBounds_toArray, List.set_cons_zero, List.set_cons_succ])
  refine wpS_l (by rfl) (fun K hK => ?_)
  go_wp2_with fail
  refine (half_any w3.drew A2 16 c2 (be 8 s.life ++ be 8 (s.n + 1)) j hO2.reads (by omega) (by omega)).mono ?_
  rintro e w4 ⟨A3, N3, c3, rfl, hO3, hb4⟩
  have hb4 : Below w3.heap.size w3 w4 := (drew_below (w := w3)).trans hb4
  have hn := hn'.below hb4 hn'.lt
  have ha := ha'.below hb4 ha'.lt
  have hr4 := hr3.below hb4
  have hZ4 := hZ3.below hb4 hZ3.lt
  have hbb4 := below_next' hbb3 hb4
  have hs4 : w3.heap.size ≤ w4.heap.size := hb4.size
  have cn := hn.cell 0
  simp only [List.getElem?_toArray, List.getElem?_cons_zero] at cn
  have hN3 := hO3.len
  rw [List.length_append, List.length_append, be_length, be_length, be_length] at hN3
  obtain rfl : N3 = 18 := by omega
  clear hN3
  refine hK _ _ (fun z => z.cell? ⟨gn, 0, none⟩ = some (.int .i64 (m : Int))) cn (fun _ h => h) ?_
  clear hK hb4 hB3 hb' hn' ha' hr3 hZ3 cn hbb3 hO2
  refine wpS_l (by rfl) (fun K hK => ?_)
  go_wp2_with fail
  refine (half_any w4 A3 18 c3 _ m hO3.reads (by omega) hm).mono ?_
  rintro e w5 ⟨A4, N4, c4, rfl, hO4, hb5⟩
  have hn' := hn.below hb5 hn.lt
  have ha' := ha.below hb5 ha.lt
  have hr5 := hr4.below hb5
  have hZ5 := hZ4.below hb5 hZ4.lt
  have hbb5 := below_next' hbb4 hb5
  have hs5 : w4.heap.size ≤ w5.heap.size := hb5.size
  have cn := hn'.cell 0
  simp only [List.getElem?_toArray, List.getElem?_cons_zero] at cn
  have hN4 := hO4.len
  rw [List.length_append, List.length_append, List.length_append, be_length, be_length, be_length, be_length] at hN4
  obtain rfl : N4 = 20 := by omega
  clear hN4
  refine hK _ _ (fun z => z.cell? ⟨gn, 0, none⟩ = some (.int .i64 (m : Int))) cn (fun _ h => h) ?_
  clear hK hb5 hn ha hr4 hZ4 cn hbb4 hO3 hwj hwm hn'
  iterate 1 (refine wpS_q ?_ (by rfl) ?_ ?_; rotate_left; (focus (intro z hz; (try dsimp only at hz); go_simp; rfl)); simp only [Act.put, List.setIfInBounds_toArray, List.set_cons_zero, List.set_cons_succ])
  refine wpS_nil ?_
  have ca := ha'.cell 0
  simp only [List.getElem?_toArray, List.getElem?_cons_zero] at ca
  obtain ⟨ad, rfl, hadl, hcells⟩ := hr5.2 (by omega)
  have g1 : (j : Int) ≤ 50 := by omega
  have g2 : (0 : Int) ≤ (j : Int) := by omega
  have g3 : ((j : Int) + 1) * 108 ≤ (c : Int) := by omega
  have hRp : RB w5 (some (ad.add (j * 108))) ((j + 1) * 108 - j * 108) (partP all j) := by
    refine ⟨by rw [bvs_length]; omega, fun _ => ⟨_, rfl, by rw [block_of_add]; exact hadl, fun i u hu => ?_⟩⟩
    have h1 : (bvs all)[j * 108 + i]? = some u := by
      rw [bvs, List.getElem?_map] at hu ⊢
      rw [partP] at hu
      have hi : i < 108 := by
        rcases Nat.lt_or_ge i 108 with h | h
        · exact h
        · rw [List.getElem?_eq_none (by rw [List.length_take]; omega)] at hu
          cases hu
      rw [List.getElem?_take, if_pos hi, List.getElem?_drop] at hu
      exact hu
    have h2 := hcells _ _ h1
    rw [← h2]
    congr 1
    rw [Addr.add_add]
  clear hcells hlen hNc hj
  have hfull : be 8 s.life ++ be 8 (s.n + 1) ++ be 2 j ++ be 2 m ++ partP all j = pageB ⟨s.life, s.n + 1, j, m⟩ (partP all j) := by simp only [pageB, List.append_assoc]
  have hpgl := pageB_length ⟨s.life, s.n + 1, j, m⟩ hpl
  have hz4 : ∀ x, A4.map (·.block) = some x → x ≠ z0 := fun x hx => by have := (hO4.ge x hx).1; omega
  have HFU := Lib.hid hfull
  clear hfull
  have hzz : (bvs zs).toArray.size = 128 := by rw [bvs_size, zs_length]
  have hps : (bvs (pageB ⟨s.life, s.n + 1, j, m⟩ (partP all j))).toArray.size = 128 := by rw [bvs_size, hpgl]
  obtain ⟨pg, hpg⟩ : ∃ x, pageB ⟨s.life, s.n + 1, j, m⟩ (partP all j) = x := ⟨_, rfl⟩
  rw [hpg] at hpgl HFU hps
  have HPG := Lib.hid hpg
  clear hpg
  repeat (first
    | (at_builtin; refine app_bytes rfl _ _ rfl w4.heap.size A4 20 c4 _ rfl hO4 _ _ _ (partP all j) rfl hRp (by omega) hs5 ?_; intro A5 N5 c5 w6 hc5 hc5' hO5 hG5; rw [HFU.out] at hO5; have hN5 : N5 = 128 := hO5.len.symm.trans hpgl; subst hN5; obtain ⟨gA, hAe⟩ := OB.at0 hO5 (by decide); subst hAe; have hRd := (hO5.reads.2 (by omega)); have hZ6 := hZ5.grown hG5.grown (fun e => hz4 _ e.symm rfl); have har := fun z => run_arrayAt (P := Try.prog) (w := z) 28 5 128 (some ⟨gA, 0, none⟩) 128 c5 Try.underlying28 (Nat.le_refl _); simp only [Act.put])
    | ((with_reducible refine wpl_load_atB ⟨gA, 0, none⟩ (bvs pg) Try.underlying28 rfl i128 ?_ ?_ ?_ ?_); (focus rw [bvs_length]; exact hpgl); (focus obtain ⟨ad5, had5, _, hcc⟩ := hRd; cases had5; exact hcc); (focus rfl); simp only [Act.put])
    | ((with_reducible refine wpl_store z0 _ _ (bvs pg).toArray i128 hZ6 hzz hps (bvs_all _) ?_ ?_ ?_); (focus rfl); (focus rfl))
    | go_values | go_skip | go_guarded | go_step | go_upon | go_back)
  refine bodyPost_ret (results_cell_row rfl _ _ z0 _ _ (0, 0) _ rfl (hZ6.setRow _) Try.underlying28 rfl (by rw [hps]; exact i128)) rfl ?_
  have hbb6 := hbb5.grown hG5.grown hbb5.size (fun q hq => by
    have h1 := (hO4.ge q hq).1
    have h2 := HZ0.out
    omega)
  exact ⟨by rw [HPG.out], hbb6.grown (grownBy_setRow _ _ _) hbb6.size (fun q hq => by cases hq; exact Nat.le_of_eq HZ0.out)⟩
end Go.Proofs.Ytmjdfajdompkeaa
namespace Go.Proofs.Ytmjdfajdompkeaa
open Go.RowKit Go.Rat
/-- Open: the error; the records and the book. -/
def bopE (d : DS) (p size : Int) : Int := if bmayE p size ≠ 0 then bmayE p size else (liveF d p).2.1
def bopD (d : DS) (p size : Int) : DS := if bmayE p size ≠ 0 then d else (liveF d p).1
def bopA (d : DS) (p size : Int) : List (List UInt8) × Int × Nat := allF (seeD (liveF d p).1) (p + size) (liveF d p).2.2 size.toNat (p + 20) 0 1
def bopS (d : DS) (p size : Int) : BS := ⟨(bopA d p size).2.1, p + size, (liveF d p).2.2, (bopA d p size).2.2, false⟩
theorem liveF_lt (d : DS) (p : Int) : (liveF d p).2.2 < 2 ^ 64 := by
  unfold liveF
  split
  · exact (by decide : (0 : Nat) < 2 ^ 64)
  · exact Nat.mod_lt _ (by decide)
set_option maxRecDepth 20000 in
set_option maxHeartbeats 8000000 in
theorem bopen_any (w : World) (base : Nat) (l : DL) (d : DS) (hD : DiskAt w base l d) (g : Nat) (hg : l.g = g) (hbase : base ≤ w.heap.size) (hlo : d.loose.length < 900000000) (p size : Int) :
    Calls Try.prog 44 #[.pointer (some ⟨g, 0, none⟩), .int .i64 p, .int .i64 size] w fun e w' => ∃ l', l'.g = g ∧ DiskAt w' base l' (bopD d p size) ∧ Moved w w' l l' ∧
      ((bopE d p size ≠ 0 ∧ e = .returned (.tuple #[.pointer none, .slice none 0 0, .int .i64 (bopE d p size)])) ∨
       (bopE d p size = 0 ∧ ∃ k A N c ps, e = .returned (.tuple #[.pointer (some ⟨k, 0, none⟩), .slice A N c, .int .i64 0]) ∧ w.heap.size ≤ k ∧ BookAt w' base l' k (bopS d p size) ∧ Row w' l' w.heap.size A N c ps ∧ ps.map (·.xs) = (bopA d p size).1)) := by
  have hE : bopE d p size = if bmayE p size ≠ 0 then bmayE p size else (liveF d p).2.1 := rfl
  have hDD : bopD d p size = if bmayE p size ≠ 0 then d else (liveF d p).1 := rfl
  by_cases hm : bmayE p size = 0
  · rw [if_neg (by rw [hm]; decide)] at hE hDD
    rw [hE, hDD]
    have hpb : 21 ≤ size ∧ size ≤ 32768 ∧ 0 ≤ p ∧ p ≤ 32768 - size := by
      unfold bmayE at hm
      split at hm
      · cases hm
      · omega
    have hlt := liveF_lt d p
    have hA : bopA d p size = allF (seeD (liveF d p).1) (p + size) (liveF d p).2.2 size.toNat (p + 20) 0 1 := rfl
    have hS : bopS d p size = ⟨(bopA d p size).2.1, p + size, (liveF d p).2.2, (bopA d p size).2.2, false⟩ := rfl
    rw [hS, hA]
    obtain ⟨⟨d', E, life⟩, hR⟩ : ∃ R, liveF d p = R := ⟨_, rfl⟩
    rw [hR] at hlt ⊢
    have HR := Lib.hid hR
    have HM := Lib.hid hm
    clear hR hm hE hDD hA hS
    simp only at hlt ⊢
    go_enter Try.func44, Try.ntmps44
    go_wp2_with fail
    refine (bmay_any w g p size).mono ?_
    rw [HM.out]
    rintro e w2 ⟨rfl, rfl⟩
    simp only []
    go_wp2_with fail
    refine (blive_any w base l d hD g hg hbase hlo p (by omega)).mono ?_
    rw [HR.out]
    rintro e w3 ⟨l', rfl, hlg, hD', hmv⟩
    simp only [] at hD' ⊢
    by_cases hE0 : E = 0
    · subst hE0
      go_upto_region 8 with (fail)
      have hK := Blk.new w3 131 #[.pointer (some ⟨g, 0, none⟩), .int .i64 (p + 20), .int .i64 (p + size), .int .u64 (life : Int), .int .i64 0, .bool false]
      have hb4 := below_alloc w3 (.cells #[.pointer (some ⟨g, 0, none⟩), .int .i64 (p + 20), .int .i64 (p + size), .int .u64 (life : Int), .int .i64 0, .bool false] 131)
      have hout : ¬ l'.fp w3.heap.size := fun hf => by have := (hD'.fp_lt hf).2; omega
      have hw3 : w.heap.size ≤ w3.heap.size := hmv.chg.size
      obtain ⟨w4, hw4⟩ : ∃ x, w3.alloc (.cells #[.pointer (some ⟨g, 0, none⟩), .int .i64 (p + 20), .int .i64 (p + size), .int .u64 (life : Int), .int .i64 0, .bool false] 131) = x := ⟨_, rfl⟩
      rw [hw4] at hK hb4 ⊢
      have hD4 := hD'.below hb4
      have hs4 := hb4.size
      obtain ⟨k, hk⟩ : ∃ x, w3.heap.size = x := ⟨_, rfl⟩
      rw [hk] at hK hout hw3 ⊢
      have hB4 : BookAt w4 base l' k ⟨p + 20, p + size, life, 0, false⟩ := ⟨by rw [hlg]; exact hK, hout, by omega⟩
      clear hw4 hK hout
      go_wp2_with fail
      refine (ball_any w4 base l' d' hD4 k _ hB4 ⟨by simp only; omega, by simp only; omega, by simp only; omega, by simp only; omega, hlt⟩ size.toNat (by simp only; omega)).mono ?_
      rintro e w5 ⟨A, N, c, ps, rfl, hR, hxs, hB5, hg5⟩
      simp only [] at hR hxs hB5 ⊢
      go_wp2_with fail
      go_ret3
      have hb5 : Below w3.heap.size w3 w5 := hb4.grown hg5 hs4 (fun q hq => by cases hq; exact Nat.le_of_eq hk)
      have hm5 := hmv.trans (Moved.of_below (l := l') hb5)
      exact ⟨l', hlg, hD'.below hb5, hm5, k, A, N, c, rfl, hw3, hB5, ps, hR.mono (by omega), hxs⟩
    · have hne : (E != 0) = true := by simpa using hE0
      go_wp2_with fail
      go_ret3
      exact ⟨l', hlg, hD', hmv, .inl ⟨hE0, rfl⟩⟩
  · rw [if_pos hm] at hE hDD
    rw [hE, hDD]
    obtain ⟨E, hEe⟩ : ∃ E, bmayE p size = E := ⟨_, rfl⟩
    rw [hEe] at hm ⊢
    have HE := Lib.hid hEe
    have hne : (E != 0) = true := by simpa using hm
    clear hE hDD hEe
    go_enter Try.func44, Try.ntmps44
    go_wp2_with fail
    refine (bmay_any w g p size).mono ?_
    rw [HE.out]
    rintro e w2 ⟨rfl, rfl⟩
    simp only []
    go_wp2_with fail
    go_ret3
    exact ⟨l, hg, hD, .of_below (Below.refl _ _), .inl ⟨hm, rfl⟩⟩
end Go.Proofs.Ytmjdfajdompkeaa
namespace Go.Proofs.Ytmjdfajdompkeaa
open Go.RowKit Go.Rat
/-- Append, of a book that is there: the disk, the book, the error. -/
def bapR (d : DS) (s : BS) (r : List UInt8) : DS × BS × Int :=
  if 4096 < r.length then (d, s, 6) else if s.dead = true then (d, s, 8) else if s.lim < s.next + (pagesN r.length : Int) then (d, s, 7) else
  ((apL d s.next (recP s.life (s.n + 1) r) (pagesN r.length)).1,
    if (apL d s.next (recP s.life (s.n + 1) r) (pagesN r.length)).2 = 0 then ⟨s.next + (pagesN r.length : Int), s.lim, s.life, s.n + 1, false⟩ else ⟨s.next, s.lim, s.life, s.n, true⟩,
    (apL d s.next (recP s.life (s.n + 1) r) (pagesN r.length)).2)
theorem run_append_zero0 (w : World) (t ti ty e : TypeId) (i : TypeInfo) (z : Value) (ht : Try.prog.underlying t = some (.slice e)) (hti : ∃ k, Try.prog.underlying ti = some (.int k)) (hi : Try.prog.info? e = some i) (hz : i.zero = some z) (hsize : i.size = 1) (hzs : z.cells = #[z]) (A : Option Addr) (n c : Nat) (hnc : n ≤ c) :
    (Builtin.append_ #[t, ti] ty #[.slice A n c, .int .i64 0]).run Try.prog w = .ok (.slice A n c) w := by
  obtain ⟨ki, hti⟩ := hti
  have hwk : IntKind.i64.wrap 0 = 0 := by decide
  simp [Builtin.append_, run_underlying ht, run_underlying hti, sizeOf, typeInfo, zeroValue, hi, hz, hsize, asInt, asIntOf, hwk, hzs, hnc]
  cases A <;> simp [storeCells]
theorem app_noughts0 {w : World} {ops : Array Oper} {rest : List Oper} {o : Oper} {a : Act} {Q : Exit → Act → World → Prop} (hgd : o.guard = none) (s x : Operand)
    (ho : o.op = .call { callee := .builtin .append, args := #[s, x], argTypes := #[22, 3] })
    (base : Nat) (A : Option Addr) (n c : Nat) (xs : List UInt8) (hs : a.eval s = .slice A n c) (hown : OB 5 w base A n c xs)
    (k : Nat) (hx : a.eval x = .int .i64 (k : Int)) (hbytes : n + k ≤ 140737488355328) (hbase : base ≤ w.heap.size)
    (h : ∀ A2 N2 c2 w2, N2 ≤ c2 → OB 5 w2 base A2 N2 c2 (xs ++ List.replicate k 0) → Grew w w2 A A2 → wpList Try.prog ops Q rest (a.put o.dst (.slice A2 N2 c2)) w2) :
    wpList Try.prog ops Q (o :: rest) a w := by
  by_cases hk : 0 < k
  · exact app_noughts hgd s x ho base A n c xs hs hown k hx hk hbytes hbase (fun A2 N2 c2 w2 h1 _ h2 h3 => h A2 N2 c2 w2 h1 h2 h3)
  · obtain rfl : k = 0 := by omega
    obtain ⟨i0, hi, hz0, hz1, hz2⟩ := info_parts u8info
    refine wpList_plain hgd fun K hK => ?_
    have hrun := run_append_zero0 w 22 3 o.type 5 i0 _ Try.underlying22 ⟨_, Try.underlying3⟩ hi hz0 hz1 rfl A n c hown.cap.1
    have hx : a.eval x = .int .i64 0 := hx
    unfold Oper.wp execOp
    simp only [ho, resolve, invoke, builtin, Sem.run_bind, Sem.run_pure, Result.andThen_ok, List.map_toArray, List.map_cons, List.map_nil, hs, hx, hrun]
    exact hK _ _ (h _ _ _ _ hown.cap.1 (by rw [List.replicate_zero, List.append_nil]; exact hown) ⟨World.grownBy.refl _ _, .inl rfl⟩)
theorem wrK_loose (d : DS) (p : Int) (B : Nat → List UInt8) : ∀ k, (wrK d p B k).1.loose.length ≤ d.loose.length + k
  | 0 => Nat.le_refl _
  | k + 1 => by
    have ih := wrK_loose d p B k
    rw [wrK]
    split
    · have : ∀ (d : DS) (a : Int) (b : List UInt8), (writeD d a b).loose.length ≤ d.loose.length + 1 := fun d a b => by
        unfold writeD burnD offD putD
        split
        · split
          · simp
          · split <;> simp
        · omega
      have := this (wrK d p B k).1 (p + (k : Int)) (B k)
      simp only
      omega
    · omega
set_option maxRecDepth 20000 in
set_option maxHeartbeats 8000000 in
theorem bappend_any (w : World) (base : Nat) (l : DL) (d : DS) (hD : DiskAt w base l d) (hbase : base ≤ w.heap.size) (hlo : d.loose.length < 800000000) (k : Nat) (s : BS) (hB : BookAt w base l k s) (hs : 0 ≤ s.next ∧ s.next ≤ 32768 ∧ s.lim ≤ 32768 ∧ s.n ≤ 32767 ∧ s.life < 2 ^ 64)
    (A : Option Addr) (n c : Nat) (r : List UInt8) (hr : RB w A n r) (hn : n ≤ 140737488000000) :
    Calls Try.prog 45 #[.pointer (some ⟨k, 0, none⟩), .slice A n c] w fun e w' => ∃ l', e = .returned (.int .i64 (bapR d s r).2.2) ∧ l'.g = l.g ∧ DiskAt w' base l' (bapR d s r).1 ∧ BookAt w' base l' k (bapR d s r).2.1 ∧ CMoved w w' l l' k := by
  obtain ⟨R, hR⟩ : ∃ R, bapR d s r = R := ⟨_, rfl⟩
  rw [hR]
  rw [bapR] at hR
  have hlen := hr.len
  obtain ⟨m, hm⟩ : ∃ m, pagesN r.length = m := ⟨_, rfl⟩
  rw [hm] at hR
  have hpr := pagesN_room r.length
  rw [hm] at hpr
  have hpm : r.length ≤ 4096 → m ≤ 38 := fun h => by rw [← hm]; unfold pagesN; omega
  have hmr : m ≤ n + 2 := by rw [← hm, hlen]; unfold pagesN; omega
  have hkl := hB.blk.lt
  have HM := Lib.hid hm
  have HR := Lib.hid hR
  clear hR hm
  go_enter Try.func45, Try.ntmps45
  go_upto_region 1 with (fail)
  have hP := Blk.new w 75 #[.pointer (some ⟨k, 0, none⟩)]
  have hb1 := below_alloc w (.cells #[.pointer (some ⟨k, 0, none⟩)] 75)
  obtain ⟨w1, hw1⟩ : ∃ x, w.alloc (.cells #[.pointer (some ⟨k, 0, none⟩)] 75) = x := ⟨_, rfl⟩
  rw [hw1] at hP hb1 ⊢
  have hs1 : w.heap.size < w1.heap.size := hP.lt
  obtain ⟨gb, hgb⟩ : ∃ x, w.heap.size = x := ⟨_, rfl⟩
  rw [hgb] at hP hs1 hkl ⊢
  have HGB := Lib.hid hgb
  clear hw1 hgb
  go_wp2_with fail
  refine (bpages_any w1 n (by omega)).mono ?_
  rintro e w1' ⟨rfl, rfl⟩
  simp only []
  go_upto_block 0 with (fail)
  have hmn : pagesN n = m := by rw [← HM.out, hlen]
  rw [hmn]
  clear hmn
  have hN := Blk.new w1 3 #[.int .i64 (m : Int)]
  have hb2 := below_alloc w1 (.cells #[.int .i64 (m : Int)] 3)
  obtain ⟨w2, hw2⟩ : ∃ x, w1.alloc (.cells #[.int .i64 (m : Int)] 3) = x := ⟨_, rfl⟩
  rw [hw2] at hN hb2 ⊢
  have hs2 : w1.heap.size < w2.heap.size := hN.lt
  have hP2 := hP.below hb2 hP.lt
  have hbw := below_next' hb1 hb2
  obtain ⟨gn, hgn⟩ : ∃ x, w1.heap.size = x := ⟨_, rfl⟩
  rw [hgn] at hN hs1 hs2 ⊢
  clear hw2 hgn hb1 hb2 hP
  have hB2 := hB.below hbw
  have hD2 := hD.below hbw
  have hr2 := hr.below hbw
  have c0 := hB2.blk.cell 0
  have c1 := hB2.blk.cell 1
  have c2 := hB2.blk.cell 2
  have c3 := hB2.blk.cell 3
  have c4 := hB2.blk.cell 4
  have c5 := hB2.blk.cell 5
  have cb := hP2.cell 0
  have cn := hN.cell 0
  simp only [List.getElem?_toArray, List.getElem?_cons_zero, List.getElem?_cons_succ] at c0 c1 c2 c3 c4 c5 cb cn
  have hRn : R = if 4096 < n then (d, s, 6) else if s.dead = true then (d, s, 8) else if s.lim < s.next + (m : Int) then (d, s, 7) else ((apL d s.next (recP s.life (s.n + 1) r) m).1, if (apL d s.next (recP s.life (s.n + 1) r) m).2 = 0 then ⟨s.next + (m : Int), s.lim, s.life, s.n + 1, false⟩ else ⟨s.next, s.lim, s.life, s.n, true⟩, (apL d s.next (recP s.life (s.n + 1) r) m).2) := by rw [← HR.out, hlen]
  have HRN := Lib.hid hRn
  clear hRn HR
  by_cases h1 : 4096 < n
  · have hR := HRN.out
    rw [if_pos h1] at hR
    subst hR
    have h1' : (4096 : Int) < (n : Int) := by omega
    go_wp2_with fail
    go_ret
    exact ⟨rfl, l, rfl, hD2, hB2, .of_moved (Moved.of_below hbw) k⟩
  have hR1 := HRN.out
  rw [if_neg h1] at hR1
  have h1' : ¬ (4096 : Int) < (n : Int) := by omega
  cases hd : s.dead
  rotate_left
  · rw [if_pos hd] at hR1
    subst hR1
    rw [hd] at c5
    go_wp2_with fail
    go_ret
    exact ⟨rfl, l, rfl, hD2, hB2, .of_moved (Moved.of_below hbw) k⟩
  rw [if_neg (by rw [hd]; decide)] at hR1
  rw [hd] at c5
  have HR1 := Lib.hid hR1
  clear hR1 HRN
  have hm38 := hpm (by omega)
  have hwm : IntKind.i64.wrap (s.next + (m : Int)) = s.next + (m : Int) := IntWalk.i64_in _ (by omega)
  go_wp2_with fail
  refine wp_region_plan [(0, true), (1, true), (2, true), (3, true), (4, true), (5, true), (6, true), (7, true), (8, true), (9, true), (10, true), (11, true)] (fun z => z.cell? ⟨gb, 0, none⟩ = some (.pointer (some ⟨k, 0, none⟩)) ∧ z.cell? ⟨gn, 0, none⟩ = some (.int .i64 (m : Int)) ∧ z.cell? ⟨k, 1, none⟩ = some (.int .i64 s.next) ∧ z.cell? ⟨k, 2, none⟩ = some (.int .i64 s.lim)) (by kernel_rfl) (by kernel_rfl) (by kernel_rfl) (by kernel_rfl) (fun _ _ d _ _ h => by cases d <;> exact h) ⟨cb, cn, c1, c2⟩ ?_
  simp only [planOps, List.getElem?_toArray, List.getElem?_cons_zero, List.getElem?_cons_succ]
  by_cases h2 : s.lim < s.next + (m : Int)
  · have hR := HR1.out
    rw [if_pos h2] at hR
    subst hR
    repeat (first
      | (refine wpS_skip (by rfl) ?_; simp only [Act.put, List.setIfInBounds_toArray, List.set_cons_zero, List.set_cons_succ])
      | (refine wpS_q ?_ (by rfl) ?_ ?_; rotate_left; (focus (intro z hz; (try dsimp only at hz); go_simp; rfl)); simp only [Act.put, List.setIfInBounds_toArray, List.set_cons_zero, List.set_cons_succ]))
    refine wpS_nil ?_
    go_wp2_with fail
    go_ret
    exact ⟨rfl, l, rfl, hD2.below drew_below, hB2.below drew_below, .of_moved (Moved.of_below (below_next' hbw drew_below)) k⟩
  have hR := HR1.out
  rw [if_neg h2] at hR
  have HR := Lib.hid hR
  repeat (first
    | (refine wpS_skip (by rfl) ?_; simp only [Act.put, List.setIfInBounds_toArray, List.set_cons_zero, List.set_cons_succ])
    | (refine wpS_q ?_ (by rfl) ?_ ?_; rotate_left; (focus (intro z hz; (try dsimp only at hz); go_simp; rfl)); simp only [Act.put, List.setIfInBounds_toArray, List.set_cons_zero, List.set_cons_succ]))
  refine wpS_nil ?_
  clear hR HR1
  go_wp2_with fail
  have hD3 := hD2.below (drew_below (w := w2))
  have hB3 := hB2.below (drew_below (w := w2))
  have hP3 := hP2.below (drew_below (w := w2)) hP2.lt
  have hN3 := hN.below (drew_below (w := w2)) hN.lt
  have hr3 := hr2.below (drew_below (w := w2))
  have hbw3 := below_next' hbw (drew_below (w := w2))
  have hs3 : gn < w2.drew.heap.size := hN3.lt
  obtain ⟨w3, hw3⟩ : ∃ x, w2.drew = x := ⟨_, rfl⟩
  rw [hw3] at hD3 hB3 hP3 hN3 hr3 hbw3 hs3 ⊢
  clear hw3 hD2 hB2 hP2 hN hr2 hbw hs2 c0 c1 c2 c3 c4 c5 cb cn
  refine (half_any w3 none 0 0 [] n (RB.nil_ _ _) (by omega) (by omega)).mono ?_
  rintro e w4 ⟨A4, N4, c4, rfl, hO4, hb4⟩
  have hN4 := hO4.len
  rw [List.nil_append, be_length] at hN4
  subst hN4
  have hO4 : OB 5 w4 w3.heap.size A4 2 c4 (be 2 n) := hO4
  have hr4 := hr3.below hb4
  have hD4 := hD3.below hb4
  have hB4 := hB3.below hb4
  have hP4 := hP3.below hb4 hP3.lt
  have hN4 := hN3.below hb4 hN3.lt
  have hbw4 := below_next' hbw3 hb4
  have hs4 : w3.heap.size ≤ w4.heap.size := hb4.size
  simp only []
  clear hr3 hD3 hB3 hP3 hN3 hbw3 hb4 h1' hwm
  go_upto_region 11 with (at_builtin; refine app_bytes rfl _ _ rfl w3.heap.size A4 2 c4 _ rfl hO4 A n c r rfl hr4 (by omega) hs4 ?_; intro A5 N5 c5 w5 hc5 _ hO5 hG5)
  have hA4 : ∀ q, A4.map (·.block) = some q → w3.heap.size ≤ q := fun q hq => (hO4.ge q hq).1
  have hG := HGB.out
  have hbw5 := hbw4.grown hG5.grown hbw4.size (fun q hq => by have h1 := hA4 q hq; omega)
  have hP5 := hP4.grown hG5.grown (fun e => by have := hA4 _ e.symm; omega)
  have hN5 := hN4.grown hG5.grown (fun e => by have := hA4 _ e.symm; omega)
  have hl5 : N5 = 2 + n := by
    have := hO5.len
    rw [List.length_append, be_length] at this
    omega
  subst hl5
  have hA5 := Blk.new w5 22 #[.slice A5 (2 + n) c5]
  have hb6 := below_alloc w5 (.cells #[.slice A5 (2 + n) c5] 22)
  have hs5 : w4.heap.size ≤ w5.heap.size := hG5.grown.size
  obtain ⟨w6, hw6⟩ : ∃ x, w5.alloc (.cells #[.slice A5 (2 + n) c5] 22) = x := ⟨_, rfl⟩
  rw [hw6] at hA5 hb6 ⊢
  have hP6 := hP5.below hb6 hP5.lt
  have hN6 := hN5.below hb6 hN5.lt
  have hO6 := OB.below hO5 hb6
  have hbw6 := below_next' hbw5 hb6
  have hs6 : w5.heap.size < w6.heap.size := hA5.lt
  have hOl : ∀ q, A5.map (·.block) = some q → q < w5.heap.size := fun q hq => (hO5.ge q hq).2
  obtain ⟨ga, hga⟩ : ∃ x, w5.heap.size = x := ⟨_, rfl⟩
  rw [hga] at hA5 hs5 hs6 hOl ⊢
  clear hw6 hP5 hN5 hO5 hbw5 hb6 hP4 hN4 hO4 hbw4 hG5 hD4 hB4 hr4 hA4
  have ca := hA5.cell 0
  have cn := hN6.cell 0
  simp only [List.getElem?_toArray, List.getElem?_cons_zero] at ca cn
  have hO5l : ∀ q, A5.map (·.block) = some q → w3.heap.size ≤ q := fun q hq => (hO6.ge q hq).1
  have hAga : ∀ q, some q = A5.map (·.block) → q ≠ ga := fun q e => by have := hOl q e.symm; omega
  have hkz : (m : Int) * 108 - ((2 + n : Nat) : Int) = ((m * 108 - (2 + n) : Nat) : Int) := by omega
  have HKZ := Lib.hid hkz
  clear hkz
  go_upto_region 12 with (at_builtin; refine app_noughts0 rfl _ _ rfl w3.heap.size A5 (2 + n) c5 _ rfl hO6 (m * 108 - (2 + n)) (by rw [← HKZ.out]; rfl) (by omega) (by omega) ?_; intro A7 N7 c7 w7 hc7 hO7 hG7; have hA7 := hA5.grown hG7.grown (fun e => hAga _ e rfl); have fa := hA7.frozen 0; have ca7 := hA7.cell 0; simp only [List.getElem?_toArray, List.getElem?_cons_zero] at ca7)
  have hA8 := hA7.set_ 0 (.slice A7 N7 c7)
  simp only [List.setIfInBounds_toArray, List.set_cons_zero] at hA8
  have hg8 := grownBy_set w7 ga 0 (.slice A7 N7 c7)
  have hA7ga : ∀ q, A7.map (·.block) = some q → q ≠ ga ∧ w3.heap.size ≤ q := fun q hq => by
    rcases hG7.lies with h | ⟨q', h, h', _⟩
    · rw [h] at hq
      exact ⟨hAga q hq.symm, hO5l q hq⟩
    · rw [h] at hq
      cases hq
      omega
  have hO8 := OB.grown hO7 hg8 (.inl (fun e => (hA7ga _ e).1 rfl))
  have hbw8 := (hbw6.grown hG7.grown hbw6.size (fun q hq => by have := hO5l q hq; omega)).grown hg8 (by have := hbw6.size; have := hG7.grown.size; omega) (fun q hq => by cases hq; omega)
  have hP8 := (hP6.grown hG7.grown (fun e => by have := hO5l _ e.symm; omega)).grown hg8 (by intro e; injection e with e; omega)
  have hN8 := (hN6.grown hG7.grown (fun e => by have := hO5l _ e.symm; omega)).grown hg8 (by intro e; injection e with e; omega)
  have hrec : be 2 n ++ r ++ List.replicate (m * 108 - (2 + n)) 0 = recB r := by rw [recB, hlen, show pagesN n = m from by rw [← hlen]; exact HM.out, List.append_assoc]
  rw [hrec] at hO8
  have hN7 : N7 = m * 108 := by
    have h := hO8.len
    rw [recB_length, HM.out] at h
    omega
  have hBl : ∀ j, j < m → (recP s.life (s.n + 1) r j).length = 128 := fun j hj => recP_length _ _ _ (by rw [HM.out]; exact hj)
  have hBe : ∀ j, pageB ⟨s.life, s.n + 1, j, m⟩ (partP (recB r) j) = recP s.life (s.n + 1) r j := fun j => by rw [recP, HM.out]
  obtain ⟨w8, hw8⟩ : ∃ x, w7.setCell ⟨ga, 0, none⟩ (.slice A7 N7 c7) = x := ⟨_, rfl⟩
  rw [hw8] at hA8 hO8 hbw8 hP8 hN8 ⊢
  have hr8 := hO8.reads
  have hD8 := hD.below hbw8
  have hB8 := hB.below hbw8
  have hfl : ∀ x, l.fp x → x < gb := fun x hx => by have := (hD.fp_lt hx).2; omega
  have hog : ¬ l.fp gb ∧ ¬ l.fp gn ∧ ¬ l.fp ga := ⟨fun h => by have := hfl _ h; omega, fun h => by have := hfl _ h; omega, fun h => by have := hfl _ h; omega⟩
  have hoA : ∀ q, A7.map (·.block) = some q → ¬ l.fp q := fun q hq h => by have h1 := (hA7ga q hq).2; have := hfl _ h; omega
  have hb8 : base ≤ w8.heap.size := Nat.le_trans hbase hbw8.size
  obtain ⟨Bf, hBf⟩ : ∃ B, recP s.life (s.n + 1) r = B := ⟨_, rfl⟩
  rw [hBf] at HR hBl hBe
  obtain ⟨al, hal⟩ : ∃ x, recB r = x := ⟨_, rfl⟩
  rw [hal] at hr8 hBe
  have HBL := Lib.hid hBl
  have HBE := Lib.hid hBe
  have HN7 := Lib.hid hN7
  clear hN7 hw8 hrec hO8 hO7 hG7 hg8 hA7 hA7ga fa ca7 ca cn hP6 hN6 hO6 hbw6 hA5 hAga hO5l hOl HKZ hBl hBe hBf hal hD hB hr
  go_upto_block 1 with (fail)
  go_cut [8] (fun ev wx => ∃ lr, lr.g = l.g ∧ ev = .int .i64 (wrK d s.next Bf m).2 ∧ DiskAt wx base lr (wrK d s.next Bf m).1 ∧ Moved w8 wx l lr)
  case first =>
    go_wp2_with fail
    go_loopw [8, 9] (fun ev jv wr => ∃ (j : Nat) (lr : DL), j ≤ m ∧ jv = .int .i64 (j : Int) ∧ ev = .int .i64 (wrK d s.next Bf j).2 ∧ lr.g = l.g ∧ DiskAt wr base lr (wrK d s.next Bf j).1 ∧ Moved w8 wr l lr) (fun _ jv _ => m - (intOf jv).toNat)
    case atStart => exact ⟨0, l, by omega, rfl, rfl, rfl, hD8, Moved.refl _ _⟩
    case round =>
      obtain ⟨j, lr, hjm, rfl, rfl, hlr, hDr, hmv⟩ := hrel
      have hlo' := wrK_loose d s.next Bf j
      have hPr := hmv.chg.blk hP8 hog.1
      have hNr := hmv.chg.blk hN8 hog.2.1
      have cn := hNr.cell 0
      simp only [List.getElem?_toArray, List.getElem?_cons_zero] at cn
      have hwr : ∀ j, wrK d s.next Bf (j + 1) = if (wrK d s.next Bf j).2 = 0 then (writeD (wrK d s.next Bf j).1 (s.next + (j : Int)) (Bf j), writeE (wrK d s.next Bf j).1 (s.next + (j : Int))) else wrK d s.next Bf j := fun j => rfl
      have hst := fun (h : (wrK d s.next Bf j).2 ≠ 0) => wrK_end h hjm
      obtain ⟨⟨dj, ej⟩, hdj⟩ : ∃ x, wrK d s.next Bf j = x := ⟨_, rfl⟩
      have hw1 := hwr j
      rw [hdj] at hDr hlo' hst hw1
      simp only at hDr hlo' hst hw1
      rw [hdj]
      have HST := Lib.hid hst
      have HW1 := Lib.hid hw1
      have HDJ := Lib.hid hdj
      clear hst hw1 hdj hwr
      simp only []
      by_cases hj : j < m
      · have g1 : (j : Int) < (m : Int) := by omega
        by_cases he : ej = 0
        · subst he
          have hw1 := HW1.out
          rw [if_pos rfl] at hw1
          have HW1 := Lib.hid hw1
          clear hw1
          have hBr := hB8.moved hmv
          have hAr := hmv.chg.blk hA8 hog.2.2
          have hrr := hmv.chg.rb hr8 hoA
          have cb := hPr.cell 0
          have c0 := hBr.blk.cell 0
          have c1 := hBr.blk.cell 1
          simp only [List.getElem?_toArray, List.getElem?_cons_zero, List.getElem?_cons_succ] at cb c0 c1
          rw [hlr] at c0
          have hwj : IntKind.i64.wrap (s.next + (j : Int)) = s.next + (j : Int) := IntWalk.i64_in _ (by omega)
          have hjN : (j + 1) * 108 ≤ N7 := by rw [HN7.out]; exact Nat.mul_le_mul_right _ hj
          have hN5k : N7 ≤ 5000 := by have := HN7.out; omega
          go_wp2_with fail
          refine wp_region_plan [(0, true), (1, true), (2, true), (3, true), (4, true), (5, true), (6, true), (7, true), (8, true), (9, true), (10, true), (11, true), (12, false), (13, false), (14, true)] (fun z => z.cell? ⟨gb, 0, none⟩ = some (.pointer (some ⟨k, 0, none⟩)) ∧ z.cell? ⟨k, 0, none⟩ = some (.pointer (some ⟨l.g, 0, none⟩)) ∧ z.cell? ⟨k, 1, none⟩ = some (.int .i64 s.next)) (by kernel_rfl) (by kernel_rfl) (by kernel_rfl) (by kernel_rfl) (fun _ _ d _ _ h => by cases d <;> exact h) ⟨cb, c0, c1⟩ ?_
          simp only [planOps, List.getElem?_toArray, List.getElem?_cons_zero, List.getElem?_cons_succ]
          iterate 12 (refine wpS_q ?_ (by rfl) ?_ ?_; rotate_left; (focus (intro z hz; (try dsimp only at hz); go_simp; rfl)); simp only [Act.put, List.setIfInBounds_toArray, List.set_cons_zero, List.set_cons_succ])
          refine wpS_l (by rfl) (fun K hK => ?_)
          go_wp2_with fail
          refine (bpg_any wr.drew base lr k s (hBr.below drew_below) ⟨hs.2.2.2.2, by omega⟩ gb gn ga _ _ _ m (by omega) A7 N7 c7 al (hPr.below drew_below hPr.lt) (hNr.below drew_below hNr.lt) (hAr.below drew_below hAr.lt) (hrr.below drew_below) hc7 j hjN hN5k).mono ?_
          rw [HBE.out j]
          rintro e wa ⟨rfl, hba⟩
          have hba : Below wr.heap.size wr wa := drew_below.trans hba
          have hDa := hDr.below hba
          have hma := hmv.trans (Moved.of_below (l := lr) hba)
          have hPa := hPr.below hba hPr.lt
          have hBa := hBr.below hba
          have cb := hPa.cell 0
          have c0 := hBa.blk.cell 0
          have c1 := hBa.blk.cell 1
          simp only [List.getElem?_toArray, List.getElem?_cons_zero, List.getElem?_cons_succ] at cb c0 c1
          rw [hlr] at c0
          refine hK _ _ (fun z => z.cell? ⟨gb, 0, none⟩ = some (.pointer (some ⟨k, 0, none⟩)) ∧ z.cell? ⟨k, 0, none⟩ = some (.pointer (some ⟨l.g, 0, none⟩)) ∧ z.cell? ⟨k, 1, none⟩ = some (.int .i64 s.next)) ⟨cb, c0, c1⟩ (fun _ h => h) ?_
          clear hK hba hBr hAr hrr hPr hNr hDr hmv cn hBa
          refine wpS_l (by rfl) (fun K hK => ?_)
          have hBlj := HBL.out j hj
          go_wp2_with fail
          refine (gwrite wa base l.g lr dj hDa hlr (Nat.le_trans hb8 hma.chg.size) (s.next + (j : Int)) (Bf j) hBlj (by omega)).mono ?_
          rintro e wb ⟨lb, rfl, hlb, hDb, hmb⟩
          have hmb' := hma.trans hmb
          have hPb := hmb'.chg.blk hP8 hog.1
          have hBb := hB8.moved hmb'
          have cb := hPb.cell 0
          have c0 := hBb.blk.cell 0
          have c1 := hBb.blk.cell 1
          simp only [List.getElem?_toArray, List.getElem?_cons_zero, List.getElem?_cons_succ] at cb c0 c1
          rw [hlb] at c0
          refine hK _ _ (fun z => z.cell? ⟨gb, 0, none⟩ = some (.pointer (some ⟨k, 0, none⟩)) ∧ z.cell? ⟨k, 0, none⟩ = some (.pointer (some ⟨l.g, 0, none⟩)) ∧ z.cell? ⟨k, 1, none⟩ = some (.int .i64 s.next)) ⟨cb, c0, c1⟩ (fun _ h => h) ?_
          clear hK cb c0 c1 hPb hBb hDa hma hPa
          iterate 1 (refine wpS_q ?_ (by rfl) ?_ ?_; rotate_left; (focus (intro z hz; (try dsimp only at hz); go_simp; rfl)); simp only [Act.put, List.setIfInBounds_toArray, List.set_cons_zero, List.set_cons_succ])
          refine wpS_nil ?_
          go_wp2_with fail
          go_roundw
          case rel => exact ⟨j + 1, lb, by omega, congrArg (Value.int .i64) (by omega), congrArg (fun x => Value.int .i64 x.2) HW1.out.symm, hlb, by rw [HW1.out]; exact hDb, hmb'⟩
          case measure => simp only [intOf]; omega
        · have he' : (ej == 0) = false := by simpa using he
          have hh := HST.out he
          go_wp2_with fail
          go_meet
          exact ⟨lr, hlr, by rw [hh], by rw [hh]; exact hDr, hmv⟩
      · obtain rfl : j = m := by omega
        have g1 : ¬ (j : Int) < (j : Int) := by omega
        have hh := HDJ.out
        go_wp2_with fail
        go_meet
        exact ⟨lr, hlr, by rw [hh], by rw [hh]; exact hDr, hmv⟩
  case rest =>
    obtain ⟨lr, hlr, rfl, hDr, hmv⟩ := hcut
    obtain ⟨⟨dm, em⟩, hdm⟩ : ∃ x, wrK d s.next Bf m = x := ⟨_, rfl⟩
    have hap : apL d s.next Bf m = if em = 0 then (syncAll dm, syncE dm) else (dm, em) := by rw [apL, hdm]
    rw [hdm] at hDr
    simp only at hDr
    have hR := HR.out
    rw [hap] at hR
    have HDM := Lib.hid hdm
    rw [hdm]
    simp only []
    have hBr := hB8.moved hmv
    have hPr := hmv.chg.blk hP8 hog.1
    have hNr := hmv.chg.blk hN8 hog.2.1
    clear hap hdm HR hA8 hr8 HBL HBE
    by_cases he : em = 0
    · subst he
      rw [if_pos rfl] at hR
      obtain ⟨es, hes⟩ : ∃ x, syncE dm = x := ⟨_, rfl⟩
      rw [hes] at hR
      simp only at hR
      have HES := Lib.hid hes
      have HR := Lib.hid hR
      clear hR hes
      have c0 := hBr.blk.cell 0
      have cb := hPr.cell 0
      simp only [List.getElem?_toArray, List.getElem?_cons_zero] at c0 cb
      rw [hlr] at c0
      go_wp2_with fail
      refine (gsync wc base l.g lr dm hDr hlr).mono ?_
      rw [HES.out]
      rintro e wb ⟨lb, rfl, hlb, hDb, hmb⟩
      have hmb' := hmv.trans hmb
      have hBb := hB8.moved hmb'
      have hPb := hmb'.chg.blk hP8 hog.1
      have hNb := hmb'.chg.blk hN8 hog.2.1
      simp only []
      clear c0 cb hBr hPr hNr hDr hmv hmb
      by_cases he : es = 0
      · subst he
        have hR := HR.out
        rw [if_pos rfl] at hR
        subst hR
        have c5 := hBb.blk.cell 5
        have f5 := hBb.blk.frozen 5
        have cb := hPb.cell 0
        simp only [List.getElem?_toArray, List.getElem?_cons_zero, List.getElem?_cons_succ] at c5 cb
        go_upto_region 21 with (fail)
        have hK9 := hBb.blk.set_ 5 (.bool false)
        simp only [List.setIfInBounds_toArray, List.set_cons_zero, List.set_cons_succ] at hK9
        have hg9 := grownBy_set wb k 5 (.bool false)
        have hP9 := hPb.grown hg9 (by intro e; injection e with e; omega)
        obtain ⟨w9, hw9⟩ : ∃ x, wb.setCell ⟨k, 5, none⟩ (.bool false) = x := ⟨_, rfl⟩
        rw [hw9] at hK9 hg9 hP9 ⊢
        clear hw9 c5 f5 cb
        have c5 := hK9.cell 5
        have cb := hP9.cell 0
        simp only [List.getElem?_toArray, List.getElem?_cons_zero, List.getElem?_cons_succ] at c5 cb
        go_wp2_with fail
        have hN9 := hNb.grown hg9 (by intro e; injection e with e; omega)
        have c1 := hK9.cell 1
        have f1 := hK9.frozen 1
        have cn := hN9.cell 0
        simp only [List.getElem?_toArray, List.getElem?_cons_zero, List.getElem?_cons_succ] at c1 cn
        have hwm : IntKind.i64.wrap (s.next + (m : Int)) = s.next + (m : Int) := IntWalk.i64_in _ (by omega)
        refine wp_region_barrier [(0, true), (1, false), (2, false), (3, true), (4, true), (5, false), (6, false), (7, false)] 8 [] (fun z => z.cell? ⟨gb, 0, none⟩ = some (.pointer (some ⟨k, 0, none⟩)) ∧ z.cell? ⟨k, 1, none⟩ = some (.int .i64 s.next) ∧ z.cell? ⟨gn, 0, none⟩ = some (.int .i64 (m : Int))) _ rfl (by kernel_rfl) (by kernel_rfl) (by kernel_rfl) (by kernel_rfl) (fun _ _ d _ _ h => by cases d <;> exact h) ⟨cb, c1, cn⟩ ?_
        simp only [planOps, List.getElem?_toArray, List.getElem?_cons_zero, List.getElem?_cons_succ]
        refine wpQ_q (.pointer (some ⟨k, 0, none⟩)) (by rfl) (fun z hz => by have hz := (hz rfl).1; go_simp) ?_
        simp only [Act.put, List.setIfInBounds_toArray, List.set_cons_zero, List.set_cons_succ]
        iterate 2 (refine wpQ_q ?_ (by rfl) ?_ ?_; rotate_left; (focus (intro z hz; (try dsimp only at hz); go_simp; rfl)); simp only [Act.put, List.setIfInBounds_toArray, List.set_cons_zero, List.set_cons_succ])
        refine wpQ_q (.int .i64 s.next) (by rfl) (fun z hz => by have hz := (hz rfl).2.1; go_simp) ?_
        simp only [Act.put, List.setIfInBounds_toArray, List.set_cons_zero, List.set_cons_succ]
        refine wpQ_q (.int .i64 (m : Int)) (by rfl) (fun z hz => by have hz := (hz rfl).2.2; go_simp) ?_
        simp only [Act.put, List.setIfInBounds_toArray, List.set_cons_zero, List.set_cons_succ]
        iterate 3 (refine wpQ_q ?_ (by rfl) ?_ ?_; rotate_left; (focus (intro z hz; (try dsimp only at hz); go_simp; rfl)); simp only [Act.put, List.setIfInBounds_toArray, List.set_cons_zero, List.set_cons_succ])
        refine wpQ_nil ⟨by rfl, ?_⟩
        go_wp2_with fail
        have hK10 := hK9.set_ 1 (.int .i64 (s.next + (m : Int)))
        simp only [List.setIfInBounds_toArray, List.set_cons_zero, List.set_cons_succ] at hK10
        have hg10 := grownBy_set w9 k 1 (.int .i64 (s.next + (m : Int)))
        have hP10 := hP9.grown hg10 (by intro e; injection e with e; omega)
        obtain ⟨w10, hw10⟩ : ∃ x, w9.setCell ⟨k, 1, none⟩ (.int .i64 (s.next + (m : Int))) = x := ⟨_, rfl⟩
        rw [hw10] at hK10 hg10 hP10 ⊢
        refine ⟨fun _ => True, trivial, ?_⟩
        refine wpS_nil ?_
        clear hw10 c1 f1 cn cb c5 hN9
        have cb := hP10.cell 0
        have c4 := hK10.cell 4
        have f4 := hK10.frozen 4
        simp only [List.getElem?_toArray, List.getElem?_cons_zero, List.getElem?_cons_succ] at cb c4
        go_wp2_with fail
        go_ret
        have hg11 := grownBy_set w10 k 4 (.int .i64 ((s.n : Int) + 1))
        have hK11 := hK10.set_ 4 (.int .i64 ((s.n : Int) + 1))
        simp only [List.setIfInBounds_toArray, List.set_cons_zero, List.set_cons_succ] at hK11
        have hgA := ((hg9.trans hg10).trans hg11).trans (grownBy_of_below (drew_below (w := w10.setCell ⟨k, 4, none⟩ (.int .i64 ((s.n : Int) + 1)))) (some k))
        have hcm : CMoved w _ l lb k := (CMoved.of_moved ((Moved.of_below hbw8).trans hmb') k).trans ⟨rfl, Chg.of_grown (F := fun x => lb.fp x ∨ x = k) hgA (.inr rfl), fun _ h => .inl h⟩
        exact ⟨rfl, lb, hlb, hDb.kept (Chg.of_grown (F := fun x => x = k) hgA rfl) (fun x hx e => hBb.out (e ▸ hx)), ⟨hK11, hBb.out, hBb.bk⟩, hcm⟩
      · have hne : (es != 0) = true := by simpa using he
        have hR := HR.out
        rw [if_neg he] at hR
        subst hR
        have c5 := hBb.blk.cell 5
        have f5 := hBb.blk.frozen 5
        have cb := hPb.cell 0
        simp only [List.getElem?_toArray, List.getElem?_cons_zero, List.getElem?_cons_succ] at c5 cb
        go_upto_region 21 with (fail)
        have hK9 := hBb.blk.set_ 5 (.bool true)
        simp only [List.setIfInBounds_toArray, List.set_cons_zero, List.set_cons_succ] at hK9
        have hg9 := grownBy_set wb k 5 (.bool true)
        have hP9 := hPb.grown hg9 (by intro e; injection e with e; omega)
        obtain ⟨w9, hw9⟩ : ∃ x, wb.setCell ⟨k, 5, none⟩ (.bool true) = x := ⟨_, rfl⟩
        rw [hw9] at hK9 hg9 hP9 ⊢
        clear hw9 c5 f5 cb
        have c5 := hK9.cell 5
        have cb := hP9.cell 0
        simp only [List.getElem?_toArray, List.getElem?_cons_zero, List.getElem?_cons_succ] at c5 cb
        go_wp2_with fail
        go_ret
        have hcm : CMoved w w9 l lb k := (CMoved.of_moved ((Moved.of_below hbw8).trans hmb') k).trans ⟨rfl, Chg.of_grown (F := fun x => lb.fp x ∨ x = k) hg9 (.inr rfl), fun _ h => .inl h⟩
        exact ⟨rfl, lb, hlb, hDb.kept (Chg.of_grown (F := fun x => x = k) hg9 rfl) (fun x hx e => hBb.out (e ▸ hx)), ⟨hK9, hBb.out, hBb.bk⟩, hcm⟩
    · have hne : (em != 0) = true := by simpa using he
      have heq : (em == 0) = false := by simpa using he
      rw [if_neg he] at hR
      simp only at hR
      rw [if_neg he] at hR
      subst hR
      have c5 := hBr.blk.cell 5
      have f5 := hBr.blk.frozen 5
      have cb := hPr.cell 0
      simp only [List.getElem?_toArray, List.getElem?_cons_zero, List.getElem?_cons_succ] at c5 cb
      go_upto_region 21 with (fail)
      have hK9 := hBr.blk.set_ 5 (.bool true)
      simp only [List.setIfInBounds_toArray, List.set_cons_zero, List.set_cons_succ] at hK9
      have hg9 := grownBy_set wc k 5 (.bool true)
      have hP9 := hPr.grown hg9 (by intro e; injection e with e; omega)
      obtain ⟨w9, hw9⟩ : ∃ x, wc.setCell ⟨k, 5, none⟩ (.bool true) = x := ⟨_, rfl⟩
      rw [hw9] at hK9 hg9 hP9 ⊢
      clear hw9 c5 f5 cb
      have c5 := hK9.cell 5
      have cb := hP9.cell 0
      simp only [List.getElem?_toArray, List.getElem?_cons_zero, List.getElem?_cons_succ] at c5 cb
      go_wp2_with fail
      go_ret
      have hcm : CMoved w w9 l lr k := (CMoved.of_moved ((Moved.of_below hbw8).trans hmv) k).trans ⟨rfl, Chg.of_grown (F := fun x => lr.fp x ∨ x = k) hg9 (.inr rfl), fun _ h => .inl h⟩
      exact ⟨rfl, lr, hlr, hDr.kept (Chg.of_grown (F := fun x => x = k) hg9 rfl) (fun x hx e => hBr.out (e ▸ hx)), ⟨hK9, hBr.out, hBr.bk⟩, hcm⟩
end Go.Proofs.Ytmjdfajdompkeaa
