/- The document's disk: Sync. -/
import Derived.Test.YtmjdfajdompkeaaRgg
namespace Go.Proofs.Ytmjdfajdompkeaa
open Go.RowKit Go.Rat
/-- The loose writes are gone. -/
theorem RefAt.clear {w w' : World} {base : Nat} {l : RL} {r : RS} (h : RefAt w base l r) (off : Bool) (fuse : Int) (hf : -1 ≤ fuse ∧ fuse ≤ 9223372036854775807) (hg : w.grownBy w' (some l.g))
    (hB : Blk w' l.g 51 #[.slice l.A1 r.sure.length l.c1, .slice none 0 0, .bool off, .int .i64 fuse]) : RefAt w' base { l with A2 := none, c2 := 0 } { r with soft := [], off := off, fuse := fuse } :=
  have hc := Chg.of_grown (F := fun x => x = l.g) hg rfl
  ⟨hB, hc.own h.row1 (fun x hx e => h.n1 (by rw [hx, e])), World.ownsRow_nil _ _ _ _, h.n1, by simp, by simp, h.bg, ⟨h.ok.sure, by simp, hf, h.ok.nod⟩⟩
theorem rmoved_clear {w w' wr : World} {l l1 : RL} (hm : RMoved w wr l l1) (hg : wr.grownBy w' (some l1.g)) : RMoved w w' l { l1 with A2 := none, c2 := 0 } :=
  ⟨hm.g, hm.chg.trans (Chg.of_grown (F := l1.fp) hg (.inl rfl)) hm.fp, fun x hx => by
    rcases hx with hx | hx | hx
    · exact hm.fp x (.inl hx)
    · exact hm.fp x (.inr (.inl hx))
    · cases hx⟩
theorem putL_foldl (l : List RW) (k : Nat) (hk : k < l.length) (s : List RW) : (l.take (k + 1)).foldl putL s = putL ((l.take k).foldl putL s) l[k] := by
  rw [List.take_add_one, List.getElem?_eq_getElem hk, Option.toList_some, List.foldl_append]
  rfl
set_option maxRecDepth 20000 in
set_option maxHeartbeats 4000000 in
theorem rsync_any (w : World) (base : Nat) (l : RL) (r : RS) (h : RefAt w base l r) (hbase : base ≤ w.heap.size) :
    Calls Try.prog 32 #[.pointer (some ⟨l.g, 0, none⟩)] w fun e w' => ∃ l', e = .returned (.int .i64 (syncRE r)) ∧ RefAt w' base l' (syncR r) ∧ RMoved w w' l l' := by
  have c2 := h.blk.cell 2
  simp only [List.getElem?_toArray, List.getElem?_cons_zero, List.getElem?_cons_succ] at c2
  cases hoff : r.off
  · rw [hoff] at c2
    obtain ⟨v, hv⟩ : ∃ v, decide (r.fuse = 0) = v := ⟨_, rfl⟩
    have HV := Lib.hid hv
    cases v
    · have hf0 : ¬ r.fuse = 0 := by simpa using hv
      have hfin : syncRE r = 0 ∧ syncR r = { burnR r with sure := r.soft.foldl putL r.sure, soft := [] } := by
        simp [syncRE, syncR, hoff, hf0]
      have HFIN := Lib.hid hfin
      have hbu := burnR_soft r
      have HBU := Lib.hid hbu
      obtain ⟨g, hg⟩ : ∃ g, l.g = g := ⟨_, rfl⟩
      rw [hg] at c2 ⊢
      have HG := Lib.hid hg
      clear hfin hoff hf0 hv hbu hg
      go_enter Try.func32, Try.ntmps32
      go_upto_region 3 with (go_at_call 60; refine (rburns_g w base g l r h HG.out).mono ?_; rw [HV.out]; rintro e w1 ⟨rfl, h1, hg1⟩; simp only [])
      have hbw : base ≤ w1.heap.size := Nat.le_trans hbase hg1.size
      have hmv1 := RMoved.of_grown hg1
      obtain ⟨r1, hr1⟩ : ∃ r1, burnR r = r1 := ⟨_, rfl⟩
      rw [hr1] at h1 HBU HFIN
      obtain ⟨n, hn⟩ : ∃ n, r1.soft.length = n := ⟨_, rfl⟩
      have HN := Lib.hid hn
      clear h hg1 HV hr1 c2 hn
      go_wp2_with fail
      go_loopw [3] (fun i wr => ∃ (k : Nat) (l1 : RL), k ≤ n ∧ i = .int .i64 (k : Int) ∧ l1.g = g ∧ RefAt wr base l1 { r1 with sure := (r1.soft.take k).foldl putL r1.sure } ∧ base ≤ wr.heap.size ∧ RMoved w wr l l1) (fun i _ => n - (intOf i).toNat)
      case atStart => exact ⟨0, l, Nat.zero_le _, rfl, HG.out, h1, hbw, hmv1⟩
      case round =>
        clear h1 hbw hmv1
        obtain ⟨k, l1, hk, rfl, hg1, h1, hbw, hmv1⟩ := hrel
        have c1 := h1.blk.cell 1
        simp only [List.getElem?_toArray, List.getElem?_cons_zero, List.getElem?_cons_succ, HN.out, hg1] at c1
        by_cases hkn : k < n
        · have hkl : k < r1.soft.length := by have := HN.out; omega
          obtain ⟨g2, L, hA, hgB, hgL, hLl⟩ := h1.row2.at_ h1.ok.soft hkl
          have hx := h1.ok.soft _ (List.getElem_mem hkl)
          have hstep := putL_foldl r1.soft k hkl r1.sure
          have hgL' : (L.drop (k * 130)).take 130 = rwC r1.soft[k] := hgL
          generalize r1.soft[k] = x at *
          have hcl := rwC_length hx.2
          obtain ⟨cx, hcx⟩ : ∃ cx, rwC x = cx := ⟨_, rfl⟩
          rw [hcx] at hgL' hcl
          have HCX := Lib.hid hcx
          have HGL := Lib.hid hgL'
          have HSTEP := Lib.hid hstep
          rw [hA] at c1
          have g1 : (k : Int) < (n : Int) := by omega
          have g0 : (0 : Int) ≤ (k : Int) := by omega
          have hnl : n ≤ 9223372036854775807 := by
            have := own_cap h1.row2
            have e : ({ r1 with sure := (r1.soft.take k).foldl putL r1.sure } : RS).soft.length = n := HN.out
            rw [e] at this
            omega
          clear hgL hgL' hstep hcx hA
          repeat (first
            | ((with_reducible refine wpl_load_mid g2 (k * 130) L cx Try.underlying114 rfl r130 hgB HGL.out hcl ?_ ?_); (focus rfl); simp only [Act.put, List.setIfInBounds_toArray, List.set_cons_zero, List.set_cons_succ])
            | (go_at_call 61; refine (rput_g _ base g l1 _ h1 hg1 hbw x hx cx HCX.out).mono ?_; rintro e w3 ⟨l3, rfl, hg3, h3, hm3⟩; simp only []; refine Hid.out ?_)
            | go_values | go_skip | go_guarded | go_step | go_upon | go_back)
          refine Lib.hid ?_
          have h3 : RefAt w3 base l3 { r1 with sure := (r1.soft.take (k + 1)).foldl putL r1.sure } := by rw [HSTEP.out]; exact h3
          have hbw3 := Nat.le_trans hbw hm3.chg.size
          have hmv3 := hmv1.trans hm3
          clear h1 hbw hmv1 c1 hgB hm3 hg1
          go_wp2_with fail
          exact ⟨⟨k + 1, l3, by omega, by first | omega | exact congrArg (Value.int .i64) (by omega), hg3, h3, hbw3, hmv3⟩, by simp only [intOf]; omega⟩
        · obtain rfl : k = n := by omega
          have g1 : ¬ (k : Int) < (k : Int) := by omega
          have hfull : (r1.soft.take k).foldl putL r1.sure = r.soft.foldl putL r.sure := by rw [← HN.out, List.take_length, HBU.out.1, HBU.out.2]
          rw [hfull] at h1
          have f1 := h1.blk.frozen 1
          have hgr := grownBy_set wr l1.g 1 (.slice none 0 0)
          have hB := h1.blk.set_ 1 (.slice none 0 0)
          simp only [List.setIfInBounds_toArray, List.set_cons_zero, List.set_cons_succ] at hB
          have hfin := h1.clear r1.off r1.fuse h1.ok.fuse hgr hB
          have hmf := rmoved_clear hmv1 hgr
          rw [hg1] at hgr f1 hfin hmf
          have HFI := Lib.hid hfin
          clear hB h1 hfull
          go_wp2_with fail
          go_ret
          first
            | exact ⟨by rw [HFIN.out.1]; rfl, _, by rw [HFIN.out.2]; exact HFI.out, hmf⟩
            | exact ⟨_, by rw [HFIN.out.1]; rfl, by rw [HFIN.out.2]; exact HFI.out, hmf⟩
    · have hf0 : r.fuse = 0 := by simpa using hv
      have hfin : syncRE r = 8 ∧ syncR r = burnR r := by
        simp [syncRE, syncR, hoff, hf0]
      have HFIN := Lib.hid hfin
      clear hfin hoff hf0 hv
      go_enter Try.func32, Try.ntmps32
      go_wp2_with (go_at_call 60; refine (rburns_any w base l r h).mono ?_; rw [HV.out]; rintro e w1 ⟨rfl, h1, hg1⟩; simp only [])
      go_ret
      first
        | exact ⟨l, by rw [HFIN.out.1]; rfl, by rw [HFIN.out.2]; exact h1, RMoved.of_grown hg1⟩
        | exact ⟨by rw [HFIN.out.1]; rfl, l, by rw [HFIN.out.2]; exact h1, RMoved.of_grown hg1⟩
  · rw [hoff] at c2
    have hfin : syncRE r = 8 ∧ syncR r = r := by simp [syncRE, syncR, hoff]
    have HFIN := Lib.hid hfin
    clear hfin hoff
    go_enter Try.func32, Try.ntmps32
    go_wp2_with fail
    go_ret
    first
      | exact ⟨l, by rw [HFIN.out.1]; rfl, by rw [HFIN.out.2]; exact h, RMoved.refl _ _⟩
      | exact ⟨by rw [HFIN.out.1]; rfl, l, by rw [HFIN.out.2]; exact h, RMoved.refl _ _⟩
end Go.Proofs.Ytmjdfajdompkeaa
