/- disk: Sync. -/
import Derived.Test.YtmjdfajdompkeaaDc
import Derived.Test.YtmjdfajdompkeaaDd
namespace Go.Proofs.Ytmjdfajdompkeaa
open Go.RowKit Go.Rat
/-- What Sync leaves, and answers. -/
def syncAll (d : DS) : DS := if d.off = true then d else if burnB d = true then burnD d else syncD (burnD d)
def syncE (d : DS) : Int := if d.off = true then 8 else if burnB d = true then 8 else 0
set_option maxRecDepth 20000 in
set_option maxHeartbeats 4000000 in
theorem dsync_any (w : World) (base : Nat) (l : DL) (d : DS) (h : DiskAt w base l d) :
    Calls Try.prog 23 #[.pointer (some ⟨l.g, 0, none⟩)] w fun e w' => ∃ l', e = .returned (.int .i64 (syncE d)) ∧ DiskAt w' base l' (syncAll d) ∧ Moved w w' l l' := by
  cases hoff : d.off
  · have hrE : readyE d.off 0 = 0 := by rw [hoff]; exact readyE_ok (by omega)
    obtain ⟨v, hv⟩ : ∃ v, burnB d = v := ⟨_, rfl⟩
    have HV := Lib.hid hv
    cases v
    · have hfin : syncE d = 0 ∧ syncAll d = syncD (burnD d) := by simp [syncE, syncAll, hoff, hv]
      have HFIN := Lib.hid hfin
      have HR := Lib.hid hrE
      clear hfin hrE hv hoff
      go_enter Try.func23, Try.ntmps23
      go_upto_region 6 with (first
        | (go_at_call 57; refine (dready_any _ base l d h 0).mono ?_; rw [HR.out]; rintro e w2 ⟨rfl, rfl⟩; simp only [])
        | (go_at_call 58; refine (dburns_any w base l d h).mono ?_; rw [HV.out]; rintro e w1 ⟨rfl, h1, hg1⟩; simp only []))
      have hmv1 := Moved.of_grown hg1
      clear h hg1 HV HR
      obtain ⟨d1, hd1⟩ : ∃ d1, burnD d = d1 := ⟨_, rfl⟩
      rw [hd1] at h1
      have HD1 := Lib.hid hd1
      clear hd1
      have c2 := h1.blk.cell 2
      simp only [List.getElem?_toArray, List.getElem?_cons_zero, List.getElem?_cons_succ] at c2
      go_wp2_with fail
      go_loopw [18] (fun i wr => ∃ k : Nat, k ≤ d1.loose.length ∧ i = .int .i64 (k : Int) ∧ DiskAt wr base l { d1 with sure := syncF d1.now (d1.loose.take k) d1.sure } ∧ Moved w wr l l) (fun i _ => d1.loose.length - (intOf i).toNat)
      case atStart => exact ⟨0, Nat.zero_le _, rfl, h1, hmv1⟩
      case round =>
        obtain ⟨k, hk, rfl, hk1, hmk⟩ := hrel
        clear h1 c2 hmv1
        by_cases hkl : k < d1.loose.length
        · obtain ⟨g, L, hA, hgB, hgL, hne1, hne2, hne3⟩ := hk1.loose_at hkl
          have hA' : l.A = some ⟨g, 0, none⟩ := hA
          have hx := hk1.ok.loose _ (List.getElem_mem hkl)
          have hstep : syncF d1.now (d1.loose.take (k + 1)) d1.sure = upd (syncF d1.now (d1.loose.take k) d1.sure) d1.loose[k].1 (d1.now d1.loose[k].1) := by
            rw [List.take_add_one, List.getElem?_eq_getElem hkl, Option.toList_some, syncF_snoc]
          have hgL' : (L.drop (k * 129)).take 129 = .int .i64 d1.loose[k].1 :: bvs d1.loose[k].2 := hgL
          generalize d1.loose[k] = x at *
          obtain ⟨i, b⟩ := x
          simp only at hx hstep hgL'
          have HSTEP := Lib.hid hstep
          have HGL := Lib.hid hgL'
          clear hstep hgL hgL'
          have hcl := cells_len (i := i) hx.2
          have hcs : (.int .i64 i :: bvs b : List Value).toArray.size = 129 := by simpa using hcl
          have hcap := own_cap hk1.row
          have hlen : d1.loose.length ≤ 9223372036854775807 := Nat.le_trans hcap.1 hcap.2
          clear hcap
          have g1 : (k : Int) < (d1.loose.length : Int) := by omega
          have g0 : (0 : Int) ≤ (k : Int) := by omega
          clear hA'
          repeat (first
            | ((with_reducible refine wpl_load_mid g (k * 129) L (.int .i64 i :: bvs b) Try.underlying112 rfl w129 hgB HGL.out hcl ?_ ?_); (focus rfl); simp only [Act.put, List.setIfInBounds_toArray, List.set_cons_zero, List.set_cons_succ])
            | ((with_reducible refine wpl_store_fresh (.int .i64 i :: bvs b).toArray w129 ?_ hcs cells_one ?_ ?_ ?_); (focus kernel_rfl); (focus rfl); (focus rfl); intro w3 hW3 hl3 hb3; simp only [Act.put])
            | go_values | go_skip | go_guarded | go_step | go_upon | go_back)
          have h3 := hk1.below hb3
          have hw3 := hW3.cell 0
          have c0 := h3.blk.cell 0
          have c1 := h3.blk.cell 1
          simp only [List.getElem?_toArray, List.getElem?_cons_zero, List.getElem?_cons_succ] at c0 c1 hw3
          have hneG : wr.heap.size ≠ l.gs := by have := hk1.sure.lt; omega
          have hm3 : Moved w w3 l l := hmk.trans (Moved.of_below hb3)
          refine wp_region_plan [(0, true), (1, true), (2, true), (3, true), (4, true), (5, true), (6, true), (7, true), (8, true), (9, true), (10, true), (11, true), (12, true), (13, false)]
            (fun z => z.cell? ⟨l.g, 0, none⟩ = some (.map (some l.gs)) ∧ z.cell? ⟨l.g, 1, none⟩ = some (.map (some l.gn)) ∧ z.cell? ⟨wr.heap.size, 0, none⟩ = some (.int .i64 i) ∧ MapV (secV zsec) z l.gn (fun a => secV (d1.now a))) (by kernel_rfl) (by kernel_rfl) (by kernel_rfl) (by kernel_rfl) (fun _ _ d _ _ h => by cases d <;> exact h) ⟨c0, c1, hw3, h3.now.below drew_below h3.now.lt⟩ ?_
          simp only [planOps, List.getElem?_toArray, List.getElem?_cons_zero, List.getElem?_cons_succ]
          iterate 12 (refine wpS_q ?_ (by rfl) ?_ ?_; rotate_left; (focus (intro z hz; (try dsimp only at hz); go_simp; rfl)); simp only [Act.put, List.setIfInBounds_toArray, List.set_cons_zero, List.set_cons_succ])
          refine wpS_q (secV (d1.now i)) (by rfl) (fun z hz => look_run hz.2.2.2 Try.underlying3 Try.underlying104 (zerosec z) i (wf64 hx.1) rfl rfl) ?_
          simp only [Act.put, List.setIfInBounds_toArray, List.set_cons_zero, List.set_cons_succ]
          refine wpS_l (by rfl) (fun K hK => ?_)
          refine wp_mapStore _ _ _ rfl (h3.sure.below drew_below h3.sure.lt) Try.underlying3 Try.underlying104 i (wf64 hx.1) (secV (d1.now i)) rfl rfl rfl ?_
          intro w4 hM4 hg4
          have h3d : DiskAt w3.drew base l { d1 with sure := syncF d1.now (d1.loose.take k) d1.sure } := h3.below drew_below
          have h4 := h3d.setSure hg4 (f := syncF d1.now (d1.loose.take (k + 1)) d1.sure) (hM4.ext (fun q => by
            rw [HSTEP.out]
            show (if q = i then _ else _) = secV (if q = i then _ else _)
            split <;> rfl)) (by rw [HSTEP.out]; exact upd_len h3.ok.sure (h3.ok.now i) i)
          have c04 := h4.blk.cell 0
          have c14 := h4.blk.cell 1
          simp only [List.getElem?_toArray, List.getElem?_cons_zero, List.getElem?_cons_succ] at c04 c14
          have hW4 : w4.cell? ⟨wr.heap.size, 0, none⟩ = some (.int .i64 i) := (World.cell?_of_block (hg4.block wr.heap.size hl3 (by intro e; injection e with e; exact hneG e))).trans hw3
          refine hK _ _ _ ⟨c04, c14, hW4, h4.now⟩ (fun _ h => h) ?_
          clear hK
          refine wpS_nil ?_
          have hm4 : Moved w w4 l l := hm3.trans ⟨rfl, (Chg.of_below l.fp (drew_below (w := w3))).trans (Chg.of_grown (F := l.fp) hg4 (.inr (.inl rfl))) (fun x hx => .inl hx), fun x hx => .inl hx⟩
          clear h3 c0 c1 hw3 hm3 h3d c04 c14 hW4 hg4 hM4 hmk hk1 hgB hb3 hW3
          go_wp2_with fail
          exact ⟨⟨k + 1, by omega, by omega, h4⟩, by simp only [intOf]; omega⟩
        · obtain rfl : k = d1.loose.length := by omega
          rw [List.take_of_length_le (Nat.le_refl _)] at hk1
          have g1 : ¬ (d1.loose.length : Int) < (d1.loose.length : Int) := by omega
          have c2 := hk1.blk.cell 2
          have f2 := hk1.blk.frozen 2
          simp only [List.getElem?_toArray, List.getElem?_cons_zero, List.getElem?_cons_succ] at c2
          have hg := grownBy_set wr l.g 2 (.slice none 0 0)
          have hB := hk1.blk.set_ 2 (.slice none 0 0)
          simp only [List.setIfInBounds_toArray, List.set_cons_zero, List.set_cons_succ] at hB
          have hfin := hk1.clear d1.off d1.fuse hk1.ok.fuse hg hB
          have hmf : Moved w (wr.setCell ⟨l.g, 2, none⟩ (.slice none 0 0)) l { l with A := none, c := 0 } := ⟨rfl, hmk.chg.trans (Chg.of_grown (F := l.fp) hg (.inl rfl)) (fun x hx => .inl hx), fun x hx => by
            rcases hx with hx | hx | hx | hx
            · exact .inl (.inl hx)
            · exact .inl (.inr (.inl hx))
            · exact .inl (.inr (.inr (.inl hx)))
            · cases hx⟩
          clear hk1 hB
          go_wp2_with fail
          go_ret
          exact ⟨by rw [HFIN.out.1]; rfl, { l with A := none, c := 0 }, by rw [HFIN.out.2, HD1.out]; exact hfin, hmf⟩
    · have hfin : syncE d = 8 ∧ syncAll d = burnD d := by simp [syncE, syncAll, hoff, hv]
      have HFIN := Lib.hid hfin
      have HR := Lib.hid hrE
      clear hfin hrE hv hoff
      go_enter Try.func23, Try.ntmps23
      go_wp2_with (first
        | (go_at_call 57; refine (dready_any _ base l d h 0).mono ?_; rw [HR.out]; rintro e w2 ⟨rfl, rfl⟩; simp only [])
        | (go_at_call 58; refine (dburns_any w base l d h).mono ?_; rw [HV.out]; rintro e w1 ⟨rfl, h1, hg1⟩; simp only []))
      go_ret
      exact ⟨l, by rw [HFIN.out.1]; rfl, by rw [HFIN.out.2]; exact h1, Moved.of_grown hg1⟩
  · have hrE : readyE d.off 0 = 8 := by rw [hoff]; rfl
    have hfin : syncE d = 8 ∧ syncAll d = d := by simp [syncE, syncAll, hoff]
    have HFIN := Lib.hid hfin
    have HR := Lib.hid hrE
    clear hfin hrE hoff
    go_enter Try.func23, Try.ntmps23
    go_wp2_with (go_at_call 57; refine (dready_any _ base l d h 0).mono ?_; rw [HR.out]; rintro e w2 ⟨rfl, rfl⟩; simp only [])
    go_ret
    exact ⟨l, by rw [HFIN.out.1]; rfl, by rw [HFIN.out.2]; exact h, Moved.refl _ _⟩
end Go.Proofs.Ytmjdfajdompkeaa
