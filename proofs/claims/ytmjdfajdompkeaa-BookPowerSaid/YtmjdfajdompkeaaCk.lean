/- cell: Format. -/
import Derived.Test.YtmjdfajdompkeaaCe
namespace Go.Proofs.Ytmjdfajdompkeaa
open Go.RowKit Go.Rat
def fms (d : DS) (p : Int) (k : Nat) : DS × Int := if k = 0 then (d, 0) else if k = 1 then wrS d p 2 [] 10 else wrS (wrS d p 2 [] 10).1 (p + 10) 1 [] 10
theorem fms_zero (d : DS) (p : Int) : fms d p 0 = (d, 0) := if_pos rfl
theorem fms_one (d : DS) (p : Int) : fms d p 1 = wrS d p 2 [] 10 := (if_neg (by decide)).trans (if_pos rfl)
theorem fms_two (d : DS) (p : Int) : fms d p 2 = wrS (wrS d p 2 [] 10).1 (p + 10) 1 [] 10 := (if_neg (by decide)).trans (if_neg (by decide))
theorem fmF_a {d : DS} {p : Int} (h : (fms d p 1).2 ≠ 0) : fmF d p = fms d p 1 := by
  rw [fms_one] at h ⊢
  exact if_neg h
theorem fmF_b {d : DS} {p : Int} (h1 : (fms d p 1).2 = 0) (h : (fms d p 2).2 ≠ 0) : fmF d p = fms d p 2 := by
  rw [fms_one] at h1
  rw [fms_two] at h ⊢
  exact (if_pos h1).trans (if_neg h)
theorem fmF_c {d : DS} {p : Int} (h1 : (fms d p 1).2 = 0) (h : (fms d p 2).2 = 0) : fmF d p = (syncAll (fms d p 2).1, syncE (fms d p 2).1) := by
  rw [fms_one] at h1
  rw [fms_two] at h ⊢
  exact (if_pos h1).trans (if_pos h)
theorem wrS_loose (d : DS) (p : Int) (c : Nat) (b : List UInt8) : ∀ k, (wrS d p c b k).1.loose.length ≤ d.loose.length + k
  | 0 => Nat.le_refl _
  | k + 1 => by
    have ih := wrS_loose d p c b k
    rw [wrS]
    split
    · have := writeD_loose (wrS d p c b k).1 (p + (k : Int)) (secB c b k)
      simp only
      omega
    · omega
theorem fms_next (d : DS) (p : Int) {k : Nat} (hk : k < 2) : fms d p (k + 1) = wrS (fms d p k).1 (p + (k : Int) * 10) (2 - k) [] 10 := by
  have hc : k = 0 ∨ k = 1 := by omega
  rcases hc with rfl | rfl
  · rw [fms_zero, fms_one, show p + ((0 : Nat) : Int) * 10 = p by omega]
  · rw [fms_one, fms_two, show p + ((1 : Nat) : Int) * 10 = p + 10 by omega]
theorem fms_loose (d : DS) (p : Int) {k : Nat} (hk : k < 2) : (fms d p k).1.loose.length ≤ d.loose.length + 10 := by
  have hc : k = 0 ∨ k = 1 := by omega
  rcases hc with rfl | rfl
  · rw [fms_zero]
    exact Nat.le_add_right _ _
  · have h := wrS_loose d p 2 [] 10
    have e := congrArg (fun r => r.1.loose.length) (fms_one d p)
    omega
set_option maxRecDepth 20000 in
set_option maxHeartbeats 8000000 in
theorem cformat_any (w : World) (base : Nat) (l : DL) (d : DS) (hD : DiskAt w base l d) (g : Nat) (hg : l.g = g) (hbase : base ≤ w.heap.size) (hlo : d.loose.length < 800000000) (p : Int) (hp : 0 ≤ p ∧ p + 20 ≤ 32768) :
    Calls Try.prog 41 #[.pointer (some ⟨g, 0, none⟩), .int .i64 p] w fun e w' => ∃ l', e = .returned (.int .i64 (fmF d p).2) ∧ l'.g = g ∧ DiskAt w' base l' (fmF d p).1 ∧ Moved w w' l l' := by
  have hmay : mayE p = 0 := if_pos ⟨hp.1, by omega⟩
  have HMAY := Lib.hid hmay
  clear hmay
  go_enter Try.func41, Try.ntmps41
  go_upto_region 2 with (fail)
  have hP := Blk.new w 119 #[.pointer (some ⟨g, 0, none⟩), .int .i64 p]
  have hb1 := below_alloc w (.cells #[.pointer (some ⟨g, 0, none⟩), .int .i64 p] 119)
  obtain ⟨w1, hw1⟩ : ∃ x, w.alloc (.cells #[.pointer (some ⟨g, 0, none⟩), .int .i64 p] 119) = x := ⟨_, rfl⟩
  rw [hw1] at hP hb1 ⊢
  have hX := Out.new hD hP
  have hD1 := hD.below hb1
  obtain ⟨bp, hbp⟩ : ∃ x, w.heap.size = x := ⟨_, rfl⟩
  rw [hbp] at hX hP ⊢
  have HBP := Lib.hid hbp
  have c0 := hP.cell 0
  have c1 := hP.cell 1
  simp only [List.getElem?_toArray, List.getElem?_cons_zero, List.getElem?_cons_succ] at c0 c1
  clear hw1 hD hbp
  go_wp2_with fail
  refine (may_any w1 g p).mono ?_
  rw [HMAY.out]
  rintro e w2 ⟨rfl, hb2⟩
  simp only []
  have hX := hX.below hb2
  have hD2 := hD1.below hb2
  have hmv : Moved w w2 l l := (Moved.of_below hb1).trans (Moved.of_below hb2)
  clear c0 c1 hD1 hb2 hb1 hP
  go_upto_block 0 with (fail)
  go_cut [] (fun wx => ∃ l', (fms d p 1).2 = 0 ∧ (fms d p 2).2 = 0 ∧ DiskAt wx base l' (fms d p 2).1 ∧ Moved w wx l l')
  case first =>
    go_wp2_with fail
    go_loopw [17] (fun i wr => ∃ (kk : Nat) (l' : DL), kk ≤ 2 ∧ i = .int .i64 (kk : Int) ∧ (∀ j, j ≤ kk → (fms d p j).2 = 0) ∧ DiskAt wr base l' (fms d p kk).1 ∧ Moved w wr l l' ∧ Out wr l' bp 119 #[.pointer (some ⟨g, 0, none⟩), .int .i64 p]) (fun i _ => 2 - (intOf i).toNat)
    case atStart => exact ⟨0, l, by omega, rfl, (fun j hj => (by have h : j = 0 := (by omega); subst h; rw [fms_zero])), (by rw [fms_zero]; exact hD2), hmv, hX⟩
    case round =>
      obtain ⟨kk, l', hk, rfl, h0, hDk, hmk, hXk⟩ := hrel
      clear hX hD2 hmv
      by_cases hk2 : kk < 2
      · have hnx := fms_next d p hk2
        have hlo1 := fms_loose d p hk2
        have c0 := hXk.1.cell 0
        have c1 := hXk.1.cell 1
        simp only [List.getElem?_toArray, List.getElem?_cons_zero, List.getElem?_cons_succ] at c0 c1
        have hlg : l'.g = g := (congrArg Prod.fst hmk.g).trans hg
        have hbs : base ≤ wr.heap.size := Nat.le_trans hbase hmk.chg.size
        have hcc : (2 : Int) - (kk : Int) = ((2 - kk : Nat) : Int) := by omega
        have g1 : (kk : Int) < 2 := by omega
        have g2 : (0 : Int) ≤ (kk : Int) := by omega
        have H0 := Lib.hid h0
        have HNX := Lib.hid hnx
        have hfm : (fms d p (kk + 1)).2 ≠ 0 → fmF d p = fms d p (kk + 1) := fun hne => by
          have hc : kk = 0 ∨ kk = 1 := by omega
          rcases hc with rfl | rfl
          · exact fmF_a hne
          · exact fmF_b (h0 1 (by omega)) hne
        have HFM := Lib.hid hfm
        clear h0 hnx hfm
        obtain ⟨r, hr⟩ : ∃ r, fms d p (kk + 1) = r := ⟨_, rfl⟩
        have hr2 := HNX.out
        rw [hr] at hr2
        have HR := Lib.hid hr
        have HR2 := Lib.hid hr2
        clear hr hr2 HNX
        go_wp2_with fail
        refine (cwrite_any _ base l' _ hDk g hlg hbs (by omega) p kk (by omega) hp (2 - kk) (by omega) none 0 0 [] (RB.nil_ _ _) (by omega)).mono ?_
        rw [← HR2.out]
        rintro e w4 ⟨l2, rfl, hlg2, hD2, hm⟩
        simp only []
        have hXk := hXk.moved hm
        have hmk := hmk.trans hm
        clear hm hDk c0 c1
        by_cases he : r.2 = 0
        · have hall : ∀ j, j ≤ kk + 1 → (fms d p j).2 = 0 := fun j hj => by
            by_cases hjk : j ≤ kk
            · exact H0.out j hjk
            · have : j = kk + 1 := by omega
              rw [this, HR.out]
              exact he
          have HALL := Lib.hid hall
          rw [he]
          rw [← HR.out] at hD2
          clear hall he
          go_wp2_with fail
          exact ⟨⟨kk + 1, l2, by omega, congrArg (Value.int .i64) (by omega), HALL.out, hD2, hmk, hXk⟩, by simp [intOf]; omega⟩
        · have hne : (r.2 != 0) = true := by simpa using he
          have hf := HFM.out (by rw [HR.out]; exact he)
          rw [HR.out] at hf
          have HF := Lib.hid hf
          clear hf he
          go_wp2_with fail
          go_ret
          exact ⟨l2, by rw [HF.out]; rfl, hlg2, by rw [HF.out]; exact hD2, hmk⟩
      · obtain rfl : kk = 2 := by omega
        have g1 : ¬ ((2 : Nat) : Int) < 2 := by omega
        have H0 := Lib.hid h0
        clear h0
        go_wp2_with fail
        go_meet
        exact ⟨l', H0.out 1 (by omega), H0.out 2 (by omega), hDk, hmk⟩
  case rest =>
    clear hX hD2 hmv
    obtain ⟨l', h1, h2, hDk, hmk⟩ := hcut
    have hlg : l'.g = g := (congrArg Prod.fst hmk.g).trans hg
    have hfm : fmF d p = (syncAll (fms d p 2).1, syncE (fms d p 2).1) := fmF_c h1 h2
    have HFM := Lib.hid hfm
    clear h1 h2 hfm
    go_wp2_with fail
    refine (gsync _ base g _ _ hDk hlg).mono ?_
    rintro e w4 ⟨l2, rfl, hlg2, hD2, hm⟩
    simp only []
    go_wp2_with fail
    go_ret
    exact ⟨l2, by rw [HFM.out]; rfl, hlg2, by rw [HFM.out]; exact hD2, hmk.trans hm⟩
end Go.Proofs.Ytmjdfajdompkeaa
