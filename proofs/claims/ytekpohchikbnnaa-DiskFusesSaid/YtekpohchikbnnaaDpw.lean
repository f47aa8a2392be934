/- The law DiskPower, walked. -/
import Derived.Test.YtekpohchikbnnaaDpa
namespace Go.Proofs.Ytekpohchikbnnaa
open Go.RowKit Go.Rat
theorem base_setRow' {w a : World} {base gw : Nat} {cs : Array Value} (h : Below w.heap.size w a ∧ base ≤ a.heap.size) (hg : w.heap.size ≤ gw) : Below w.heap.size w (a.setRow gw cs) ∧ base ≤ (a.setRow gw cs).heap.size :=
  ⟨h.1.grown (grownBy_setRow _ _ _) (by have := h.1.size; simpa using this) (fun q hq => by cases hq; exact hg), by simpa using h.2⟩
theorem zc2048 : Try.zeroCells36 = (rowsC (fun _ => zs) 16).toArray := by kernel_rfl
set_option maxRecDepth 20000 in
set_option maxHeartbeats 8000000 in
theorem diskPower_any (w : World) (A : Option Addr) (m c : Nat) (l : List Put2) (hl : l.length = m) (hr : Reads w w.heap.size 2 A m (l.flatMap putCells))
    (B : Option Addr) (n c2 : Nat) (s : List Put2) (hs : s.length = n) (hr2 : Reads w w.heap.size 2 B n (s.flatMap putCells))
    (A' : Option Addr) (m' c' : Nat) (ps : List UInt8) (hr' : RB w A' m' ps) (hat : ∀ x, A'.map (·.block) = some x → x < w.heap.size) :
    Calls Try.prog 4 #[.slice A m c, .slice B n c2, .slice A' m' c'] w fun e w' => e = .returned (.bool true) ∧ Below w.heap.size w w' := by
  by_cases hbig : 60 < m
  · have hbi : (60 : Int) < (m : Int) := by omega
    go_enter Try.func4, Try.ntmps4
    go_wp2_with (go_at_call 19; refine (works4_any w).mono ?_; rintro e w2 ⟨rfl, hb2⟩)
    go_ret
    exact ⟨rfl, hb2⟩
  have hbi : ¬ (60 : Int) < (m : Int) := by omega
  by_cases hbig2 : 60 < n
  · have hbi2 : (60 : Int) < (n : Int) := by omega
    go_enter Try.func4, Try.ntmps4
    go_wp2_with (go_at_call 19; refine (works4_any w).mono ?_; rintro e w2 ⟨rfl, hb2⟩)
    go_ret
    exact ⟨rfl, hb2⟩
  have hbi2 : ¬ (60 : Int) < (n : Int) := by omega
  by_cases hbig' : 200 < m'
  · have hbi' : (200 : Int) < (m' : Int) := by omega
    go_enter Try.func4, Try.ntmps4
    go_wp2_with (go_at_call 19; refine (works4_any w).mono ?_; rintro e w2 ⟨rfl, hb2⟩)
    go_ret
    exact ⟨rfl, hb2⟩
  have hbi' : ¬ (200 : Int) < (m' : Int) := by omega
  obtain ⟨base, hbase⟩ : ∃ b, w.heap.size = b := ⟨_, rfl⟩
  have HBASE := Lib.hid hbase
  have HL := Lib.hid hl
  have HS := Lib.hid hs
  clear hl hs
  go_enter Try.func4, Try.ntmps4
  go_wp2_with fail
  refine (dnew_any w).mono ?_
  rintro e w1 ⟨l0, rfl, hD, hb⟩
  have hbb : Below w.heap.size w w1 ∧ base ≤ w1.heap.size := ⟨hb, by rw [← hbase]; exact hb.size⟩
  rw [hbase] at hD
  clear hb hbase
  simp only []
  obtain ⟨g, hlg⟩ : ∃ g, l0.g = g := ⟨_, rfl⟩
  rw [hlg]
  have HLG := Lib.hid hlg
  clear hlg
  go_upto_block 0 with (fail)
  have hgb : base ≤ w1.heap.size := hbb.2
  have hb1 := below_alloc w1 (.cells Try.zeroCells36 36)
  have hX := Out.new hD (Blk.new w1 36 Try.zeroCells36)
  have hD := hD.below hb1
  have hbb := below_base hbb hb1
  clear hb1
  obtain ⟨gw, hgw⟩ : ∃ x, w1.heap.size = x := ⟨_, rfl⟩
  rw [hgw] at hX hgb ⊢
  clear hgw
  rw [zc2048] at hX hD hbb ⊢
  obtain ⟨wa, hwa⟩ : ∃ x, w1.alloc (.cells (rowsC (fun _ => zs) 16).toArray 36) = x := ⟨_, rfl⟩
  rw [hwa] at hX hD hbb ⊢
  clear hwa
  have hwg : w.heap.size ≤ gw := by have := HBASE.out; omega
  go_cut [] (fun wx => ∃ (d : DS) (l' : DL), PutInv (fun _ => zs) l m d ∧ (∀ a : Nat, a < 16 → d.now a = ⟨wasF l m a, false⟩) ∧ DiskAt wx base l' d ∧ l'.g = g ∧ Out wx l' gw 36 (rowsC (wasF l m) 16).toArray ∧ Below w.heap.size w wx ∧ base ≤ wx.heap.size)
  case first =>
    go_wp2_with fail
    go_loopw [9] (fun i wr => ∃ (k : Nat) (d : DS) (l' : DL), k ≤ m ∧ i = .int .i64 (k : Int) ∧ PutInv (fun _ => zs) l k d ∧ (∀ a : Nat, a < 16 → d.now a = ⟨wasF l k a, false⟩) ∧ DiskAt wr base l' d ∧ l'.g = g ∧ Out wr l' gw 36 (rowsC (wasF l k) 16).toArray ∧ Below w.heap.size w wr ∧ base ≤ wr.heap.size) (fun i _ => m - (intOf i).toNat)
    case atStart => exact ⟨0, ds0, l0, Nat.zero_le _, rfl, put_start.first, fun _ _ => rfl, hD, HLG.out, hX, hbb.1, hbb.2⟩
    case round =>
      obtain ⟨k, d, l', hk, rfl, hinv, hnow, hDk, hlk, hXk, hbk, hbks⟩ := hrel
      clear hD hbb hX
      by_cases hkm : k < m
      · have hlen : d.loose.length < 1000000000 := by rw [hinv.loose, looseP, List.length_map, List.length_take, HL.out]; omega
        obtain ⟨hinv1, hwE, hnow1⟩ := put_step hinv (by rw [HL.out]; exact hkm)
        obtain ⟨ad, e, hadl, hc0, hc1⟩ := puts_at hr hkm
        cases e
        have hW1 : wasF l (k + 1) = fun a => if a = atP (l.getD k (0, 0)) then rep (l.getD k (0, 0)).2 else wasF l k a := rfl
        have hnow2 : ∀ a : Nat, a < 16 → (writeD d (atP (l.getD k (0, 0)) : Nat) (rep (l.getD k (0, 0)).2)).now a = ⟨wasF l (k + 1) a, false⟩ := by
          intro a ha
          rw [hnow1, hW1]
          by_cases e : a = atP (l.getD k (0, 0))
          · simp only [if_pos e]
          · simp only [if_neg e]
            exact hnow a ha
        obtain ⟨p, hp⟩ : ∃ p, l.getD k (0, 0) = p := ⟨_, rfl⟩
        rw [hp] at hinv1 hwE hnow2 hc0 hc1 hW1
        clear hp hnow1
        have hal := atP_lt p
        have hap : ((p.1.toNat : Nat) : Int).tmod 16 = (atP p : Int) := rfl
        have gA : (0 : Int) ≤ (atP p : Int) := by omega
        have gB : (atP p : Int) < 16 := by omega
        have q0 : ∀ z, Below w.heap.size w z → z.cell? (ad.add (k * 2)) = some (.int .u8 (p.1.toNat : Int)) := fun z hz => (hz.cell hadl).trans hc0
        have q1 : ∀ z, Below w.heap.size w z → z.cell? ⟨(ad.add (k * 2)).block, (ad.add (k * 2)).off + 1, none⟩ = some (.int .u8 (p.2.toNat : Int)) := fun z hz => (hz.cell (p := ⟨(ad.add (k * 2)).block, (ad.add (k * 2)).off + 1, none⟩) hadl).trans hc1
        have HWE := Lib.hid hwE
        have HW1 := Lib.hid hW1
        have hpl := p.1.toNat_lt
        have g1 : (k : Int) < (m : Int) := by omega
        have g0 : (0 : Int) ≤ (k : Int) := by omega
        clear hc0 hc1 hwE hW1 hnow
        go_wp2_with fail
        refine wp_region_plan [(0, true), (1, true), (2, true), (3, true), (4, true), (5, true), (6, true), (7, true), (8, true), (9, true), (10, true), (11, true), (12, true), (13, false), (14, false), (15, true)]
          (fun z => Below w.heap.size w z) (by kernel_rfl) (by kernel_rfl) (by kernel_rfl) (by kernel_rfl) (fun _ _ d _ _ h => by cases d <;> exact h) hbk.drew ?_
        simp only [planOps, List.getElem?_toArray, List.getElem?_cons_zero, List.getElem?_cons_succ]
        repeat (first
          | (refine wpS_skip (by rfl) ?_; simp only [Act.put, List.setIfInBounds_toArray, List.set_cons_zero, List.set_cons_succ])
          | (refine wpS_q ?_ (by rfl) ?_ ?_; rotate_left; (focus (intro z hz; (try dsimp only at hz); go_simp; rfl)); simp only [Act.put, List.setIfInBounds_toArray, List.set_cons_zero, List.set_cons_succ]))
        refine wpS_l (by rfl) (fun K hK => ?_)
        go_wp2_with fail
        refine (bytes_any _ p.2).mono ?_
        rintro e w2 ⟨rfl, hb⟩
        have hb3 : Below wr.heap.size wr w2 := drew_below.trans hb
        have hDk := hDk.below hb3
        have hXk := hXk.below hb3
        have hbb := below_base ⟨hbk, hbks⟩ hb3
        refine hK _ _ _ hbb.1 (fun _ h => h) ?_
        clear hK hb hb3 hbk hbks
        refine wpS_l (by rfl) (fun K hK => ?_)
        go_wp2_with fail
        refine (gwrite _ base g _ _ hDk hlk hbb.2 (atP p : Nat) (rep p.2) (rep_length p.2) hlen).mono ?_
        rw [HWE.out]
        rintro e w3 ⟨l2, rfl, hlk2, hD2, hm⟩
        have hbb := base_moved hbb (Nat.le_of_eq HBASE.out) hDk hm
        have hXk := hXk.moved hm
        refine hK _ _ _ hbb.1 (fun _ h => h) ?_
        clear hK hm hDk hlk
        iterate 1 (refine wpS_q ?_ (by rfl) ?_ ?_; rotate_left; (focus (intro z hz; (try dsimp only at hz); go_simp; rfl)); simp only [Act.put, List.setIfInBounds_toArray, List.set_cons_zero, List.set_cons_succ])
        refine wpS_nil ?_
        go_wp2_with fail
        refine wp_region_plan [(0, true), (1, true), (2, true), (3, true), (4, true), (5, true), (6, true), (7, true), (8, true), (9, true), (10, true), (11, false), (12, true), (13, false)]
          (fun z => Below w.heap.size w z) (by kernel_rfl) (by kernel_rfl) (by kernel_rfl) (by kernel_rfl) (fun _ _ d _ _ h => by cases d <;> exact h) hbb.1.drew ?_
        simp only [planOps, List.getElem?_toArray, List.getElem?_cons_zero, List.getElem?_cons_succ]
        repeat (first
          | (refine wpS_skip (by rfl) ?_; simp only [Act.put, List.setIfInBounds_toArray, List.set_cons_zero, List.set_cons_succ])
          | (refine wpS_q ?_ (by rfl) ?_ ?_; rotate_left; (focus (intro z hz; (try dsimp only at hz); go_simp; rfl)); simp only [Act.put, List.setIfInBounds_toArray, List.set_cons_zero, List.set_cons_succ]))
        refine wpS_l (by rfl) (fun K hK => ?_)
        go_wp2_with fail
        refine (bytes_any _ p.2).mono ?_
        rintro e w4 ⟨rfl, hb⟩
        have hb3 : Below w3.heap.size w3 w4 := drew_below.trans hb
        have hD2 := hD2.below hb3
        have hXk := hXk.below hb3
        have hbb := below_base hbb hb3
        refine hK _ _ _ hbb.1 (fun _ h => h) ?_
        clear hK hb hb3
        iterate 1 (refine wpS_q ?_ (by rfl) ?_ ?_; rotate_left; (focus (intro z hz; (try dsimp only at hz); go_simp; rfl)); simp only [Act.put, List.setIfInBounds_toArray, List.set_cons_zero, List.set_cons_succ])
        refine wpS_l (by rfl) (fun K hK => ?_)
        have hXb := hXk.1
        have hput : Go.splice (rowsC (wasF l k) 16) (atP p * 128) (bvs (rep p.2)) = rowsC (wasF l (k + 1)) 16 := by rw [rowsC_put (wasF_len l k) _ (rep_length _) 16 _ hal, HW1.out]
        refine wp_store_midR rfl gw (atP p * 128) (rowsC (wasF l k) 16) (bvs (rep p.2)) (by rw [bvs_length, rep_length]; exact i128) hXb (by rw [bvs_length, rep_length, rowsC_length (wasF_len l k)]; omega) (bvs_one _) rfl rfl ?_
        rw [hput]
        have hD2 := hD2.beside (grownBy_setRow _ gw (rowsC (wasF l (k + 1)) 16).toArray) hXk.2
        have hXk := hXk.set (rowsC (wasF l (k + 1)) 16).toArray
        have hbb := base_setRow' (gw := gw) (cs := (rowsC (wasF l (k + 1)) 16).toArray) hbb hwg
        refine hK _ _ _ hbb.1 (fun _ h => h) ?_
        clear hK hXb hput q0 q1
        refine wpS_nil ?_
        go_wp2_with fail
        exact ⟨⟨k + 1, _, l2, by omega, congrArg (Value.int .i64) (by omega), hinv1, hnow2, hD2, hlk2, hXk, hbb.1, hbb.2⟩, by simp [intOf]; omega⟩
      · obtain rfl : k = m := by omega
        have g1 : ¬ (k : Int) < (k : Int) := by omega
        go_wp2_with fail
        go_meet
        exact ⟨d, l', hinv, hnow, hDk, hlk, hXk, hbk, hbks⟩
  case rest =>
    obtain ⟨d, l', hinv, hnow, hDk, hlk, hXk, hbk, hbks⟩ := hcut
    clear hD hbb hX
    obtain ⟨hsy, hI0⟩ := put_sync (by rw [HL.out]; exact hinv) (by rw [HL.out]; exact hnow)
    rw [HL.out] at hI0
    have hI0 : PutInv (wasF l m) s 0 (syncAll d) := hI0.first
    obtain ⟨d0, hd0⟩ : ∃ x, syncAll d = x := ⟨_, rfl⟩
    rw [hd0] at hI0
    have HD0 := Lib.hid hd0
    have HSY := Lib.hid hsy
    have hwl := wasF_len l m
    obtain ⟨W, hW⟩ : ∃ x, wasF l m = x := ⟨_, rfl⟩
    rw [hW] at hI0 hXk hwl
    have hbb : Below w.heap.size w wc ∧ base ≤ wc.heap.size := ⟨hbk, hbks⟩
    have hlo0 : (d0.loose.length : Int) = 0 := by rw [hI0.loose]; rfl
    clear hd0 hsy hW hinv hnow hbk hbks hr
    go_wp2_with fail
    refine (gsync _ base g _ _ hDk hlk).mono ?_
    rw [HSY.out, HD0.out]
    rintro e w2 ⟨l2, rfl, hlk2, hD2, hm⟩
    have hXk := hXk.moved hm
    have hbb := base_moved hbb (Nat.le_of_eq HBASE.out) hDk hm
    simp only []
    clear hm hDk hlk
    go_wp2_with fail
    refine (gloose _ base g _ _ hD2 hlk2).mono ?_
    rintro e w2' ⟨rfl, rfl⟩
    simp only []
    go_upto_block 2 with (fail)
    have hbb1 := hbb.1
    have hbb2 := hbb.2
    go_cut [] (fun wx => ∃ (d : DS) (l' : DL), PutInv W s n d ∧ DiskAt wx base l' d ∧ l'.g = g ∧ Out wx l' gw 36 (rowsC W 16).toArray ∧ Below w.heap.size w wx ∧ base ≤ wx.heap.size)
    case first =>
      go_wp2_with fail
      go_loopw [10] (fun i wr => ∃ (k : Nat) (d : DS) (l' : DL), k ≤ n ∧ i = .int .i64 (k : Int) ∧ PutInv W s k d ∧ DiskAt wr base l' d ∧ l'.g = g ∧ Out wr l' gw 36 (rowsC W 16).toArray ∧ Below w.heap.size w wr ∧ base ≤ wr.heap.size) (fun i _ => n - (intOf i).toNat)
      case atStart => exact ⟨0, d0, l2, Nat.zero_le _, rfl, hI0, hD2, hlk2, hXk, hbb1, hbb2⟩
      case round =>
        clear hbb hXk hD2 hbb1 hbb2 hI0 hlo0
        obtain ⟨k, d, l', hk, rfl, hinv, hDk, hlk, hXk, hbk, hbks⟩ := hrel
        by_cases hkm : k < n
        · have hlen : d.loose.length < 1000000000 := by rw [hinv.loose, looseP, List.length_map, List.length_take, HS.out]; omega
          obtain ⟨hinv1, hwE, _⟩ := put_step hinv (by rw [HS.out]; exact hkm)
          obtain ⟨ad, e, hadl, hc0, hc1⟩ := puts_at hr2 hkm
          cases e
          obtain ⟨p, hp⟩ : ∃ p, s.getD k (0, 0) = p := ⟨_, rfl⟩
          rw [hp] at hinv1 hwE hc0 hc1
          clear hp
          have hal := atP_lt p
          have hap : ((p.1.toNat : Nat) : Int).tmod 16 = (atP p : Int) := rfl
          have q0 : ∀ z, Below w.heap.size w z → z.cell? (ad.add (k * 2)) = some (.int .u8 (p.1.toNat : Int)) := fun z hz => (hz.cell hadl).trans hc0
          have q1 : ∀ z, Below w.heap.size w z → z.cell? ⟨(ad.add (k * 2)).block, (ad.add (k * 2)).off + 1, none⟩ = some (.int .u8 (p.2.toNat : Int)) := fun z hz => (hz.cell (p := ⟨(ad.add (k * 2)).block, (ad.add (k * 2)).off + 1, none⟩) hadl).trans hc1
          have HWE := Lib.hid hwE
          have hpl := p.1.toNat_lt
          have g1 : (k : Int) < (n : Int) := by omega
          have g0 : (0 : Int) ≤ (k : Int) := by omega
          clear hc0 hc1 hwE
          go_wp2_with fail
          refine wp_region_plan [(0, true), (1, true), (2, true), (3, true), (4, true), (5, true), (6, true), (7, true), (8, true), (9, true), (10, true), (11, true), (12, true), (13, false), (14, false), (15, true)]
            (fun z => Below w.heap.size w z) (by kernel_rfl) (by kernel_rfl) (by kernel_rfl) (by kernel_rfl) (fun _ _ d _ _ h => by cases d <;> exact h) hbk.drew ?_
          simp only [planOps, List.getElem?_toArray, List.getElem?_cons_zero, List.getElem?_cons_succ]
          repeat (first
            | (refine wpS_skip (by rfl) ?_; simp only [Act.put, List.setIfInBounds_toArray, List.set_cons_zero, List.set_cons_succ])
            | (refine wpS_q ?_ (by rfl) ?_ ?_; rotate_left; (focus (intro z hz; (try dsimp only at hz); go_simp; rfl)); simp only [Act.put, List.setIfInBounds_toArray, List.set_cons_zero, List.set_cons_succ]))
          refine wpS_l (by rfl) (fun K hK => ?_)
          go_wp2_with fail
          refine (bytes_any _ p.2).mono ?_
          rintro e w4 ⟨rfl, hb⟩
          have hb3 : Below wr.heap.size wr w4 := drew_below.trans hb
          have hDk := hDk.below hb3
          have hXk := hXk.below hb3
          have hbb := below_base ⟨hbk, hbks⟩ hb3
          refine hK _ _ _ hbb.1 (fun _ h => h) ?_
          clear hK hb hb3 hbk hbks
          refine wpS_l (by rfl) (fun K hK => ?_)
          go_wp2_with fail
          refine (gwrite _ base g _ _ hDk hlk hbb.2 (atP p : Nat) (rep p.2) (rep_length p.2) hlen).mono ?_
          rw [HWE.out]
          rintro e w3 ⟨l3, rfl, hlk3, hD3, hm⟩
          have hbb := base_moved hbb (Nat.le_of_eq HBASE.out) hDk hm
          have hXk := hXk.moved hm
          refine hK _ _ _ hbb.1 (fun _ h => h) ?_
          clear hK hm hDk hlk q0 q1
          iterate 1 (refine wpS_q ?_ (by rfl) ?_ ?_; rotate_left; (focus (intro z hz; (try dsimp only at hz); go_simp; rfl)); simp only [Act.put, List.setIfInBounds_toArray, List.set_cons_zero, List.set_cons_succ])
          refine wpS_nil ?_
          go_wp2_with fail
          exact ⟨⟨k + 1, _, l3, by omega, congrArg (Value.int .i64) (by omega), hinv1, hD3, hlk3, hXk, hbb.1, hbb.2⟩, by simp [intOf]; omega⟩
        · obtain rfl : k = n := by omega
          have g1 : ¬ (k : Int) < (k : Int) := by omega
          go_wp2_with fail
          go_meet
          exact ⟨d, l', hinv, hDk, hlk, hXk, hbk, hbks⟩
    case rest =>
      clear hbb hXk hD2 hbb1 hbb2 hI0 hlo0
      obtain ⟨d, l', hinv, hDk, hlk, hXk, hbk, hbks⟩ := hcut
      have hlo : (d.loose.length : Int) = (n : Int) := by rw [hinv.loose, looseP, List.length_map, List.length_take, HS.out, Nat.min_self]
      have hbb : Below w.heap.size w wc ∧ base ≤ wc.heap.size := ⟨hbk, hbks⟩
      obtain ⟨hre0, hon, hle, hfin⟩ := put_end (ps := ps) (by rw [HS.out]; exact hinv)
      have hrb0 : readB (offD d) 0 = zs := if_neg (fun h => absurd h.1 (show ¬ ((8 : Int) = 0) by decide))
      obtain ⟨dE, hdE⟩ : ∃ x, onAll (offD d) ps = x := ⟨_, rfl⟩
      rw [hdE] at hle hfin
      have HDE := Lib.hid hdE
      have HON := Lib.hid hon
      have HRE := Lib.hid hre0
      have HRB := Lib.hid hrb0
      have HFIN := Lib.hid hfin
      have hle' : (dE.loose.length : Int) = 0 := by rw [hle]; rfl
      have hzs : (bvs zs).toArray.size = 128 := zsA_size
      clear hbk hbks hinv hre0 hon hdE hfin hrb0 hle
      go_wp2_with fail
      refine (gloose _ base g _ _ hDk hlk).mono ?_
      rintro e w2' ⟨rfl, rfl⟩
      simp only []
      go_wp2_with fail
      refine (goff _ base g _ _ hDk hlk).mono ?_
      rintro e w4 ⟨l3, rfl, hlg3, hD3, hm⟩
      have hXk := hXk.moved hm
      have hbb := base_moved hbb (Nat.le_of_eq HBASE.out) hDk hm
      simp only []
      clear hm hDk hlk hlo
      go_wp2_with fail
      refine (gread _ base g _ _ hD3 hlg3 0).mono ?_
      rw [HRB.out, HRE.out]
      rintro e w5 ⟨rfl, hb⟩
      have hXk := hXk.below hb
      have hbb := below_base hbb hb
      have hD3 := hD3.below hb
      simp only []
      clear hb
      repeat (first | ((with_reducible refine wpl_store_fresh (bvs zs).toArray i128 ?_ hzs (bvs_all _) ?_ ?_ ?_); (focus kernel_rfl); (focus rfl); (focus rfl); intro w6 hS hl3 hb; simp only [Act.put]; refine Hid.out ?_) | go_values | go_skip | go_guarded | go_step | go_upon | go_back)
      refine Lib.hid ?_
      have hXk := hXk.below hb
      have hbb := below_base hbb hb
      have hD3 := hD3.below hb
      clear hb hS hl3
      obtain ⟨gq, hgq⟩ : ∃ x, w5.heap.size = x := ⟨_, rfl⟩
      rw [hgq]
      clear hgq
      go_wp2_with fail
      refine (gon _ base g _ _ hD3 hlg3 A' m' c' ps (hr'.below hbb.1) (fun x hx hf => by have h1 := hat x hx; have h2 := (hD3.fp_lt hf).1; have h3 := HBASE.out; omega)).mono ?_
      rw [HON.out, HDE.out]
      rintro e w7 ⟨l4, rfl, hlg4, hD4, hm⟩
      have hXk := hXk.moved hm
      have hbb := base_moved hbb (Nat.le_of_eq HBASE.out) hD3 hm
      simp only []
      clear hm hD3 hlg3
      go_wp2_with fail
      refine (gloose _ base g _ _ hD4 hlg4).mono ?_
      rintro e w2' ⟨rfl, rfl⟩
      simp only []
      go_upto_block 4 with (fail)
      have hbb1 := hbb.1
      have hbb2 := hbb.2
      go_cut [] (fun wx => Below w.heap.size w wx ∧ base ≤ wx.heap.size)
      case first =>
        go_wp2_with fail
        go_loopw [13] (fun i wr => ∃ k : Nat, k ≤ 16 ∧ i = .int .i64 (k : Int) ∧ DiskAt wr base l4 dE ∧ Out wr l4 gw 36 (rowsC W 16).toArray ∧ Below w.heap.size w wr ∧ base ≤ wr.heap.size) (fun i _ => 16 - (intOf i).toNat)
        case atStart => exact ⟨0, by omega, rfl, hD4, hXk, hbb1, hbb2⟩
        case round =>
          clear hbb hXk hD4 hbb1 hbb2 hle'
          obtain ⟨k, hk, rfl, hDk, hXk, hbk, hbks⟩ := hrel
          by_cases hkm : k < 16
          · have hfe := fineB_end (W k) s k _ _ (HFIN.out k hkm)
            rw [HS.out] at hfe
            have hbl := readB_length hDk.ok (k : Int)
            obtain ⟨b, hbe⟩ : ∃ b, readB dE (k : Int) = b := ⟨_, rfl⟩
            obtain ⟨e, hee⟩ : ∃ e, readE dE (k : Int) = e := ⟨_, rfl⟩
            rw [hbe] at hfe hbl
            rw [hee] at hfe
            have HBE := Lib.hid hbe
            have HEE := Lib.hid hee
            have HFE := Lib.hid hfe
            have hbs : (bvs b).toArray.size = 128 := by rw [bvs_size, hbl]
            have hbb : Below w.heap.size w wr ∧ base ≤ wr.heap.size := ⟨hbk, hbks⟩
            have g1 : (k : Int) < 16 := by omega
            have g0 : (0 : Int) ≤ (k : Int) := by omega
            clear hbe hee hfe hbk hbks
            go_wp2_with fail
            refine (gread _ base g _ _ hDk hlg4 (k : Int)).mono ?_
            rw [HBE.out, HEE.out]
            rintro e1 w5 ⟨rfl, hb⟩
            have hXk := hXk.below hb
            have hbb := below_base hbb hb
            have hDk := hDk.below hb
            simp only []
            clear hb
            repeat (first | ((with_reducible refine wpl_store_fresh (bvs b).toArray i128 ?_ hbs (bvs_all _) ?_ ?_ ?_); (focus kernel_rfl); (focus rfl); (focus rfl); intro w6 hS hl3 hb; simp only [Act.put]; refine Hid.out ?_) | go_values | go_skip | go_guarded | go_step | go_upon | go_back)
            refine Lib.hid ?_
            have hXk := hXk.below hb
            have hY := Out.new hDk hS
            have hbb := below_base hbb hb
            have hDk := hDk.below hb
            clear hb hS hl3
            obtain ⟨gy, hgy⟩ : ∃ x, w5.heap.size = x := ⟨_, rfl⟩
            rw [hgy] at hY ⊢
            clear hgy
            go_wp2_with fail
            have hbb1 := hbb.1
            have hbb2 := hbb.2
            have hwk : (bvs (W k)).length = 128 := by rw [bvs_length, hwl]
            go_cut [16] (fun f wx => f = .bool (fineB (W k) s k b e 0) ∧ DiskAt wx base l4 dE ∧ Out wx l4 gw 36 (rowsC W 16).toArray ∧ Out wx l4 gy 28 (bvs b).toArray ∧ Below w.heap.size w wx ∧ base ≤ wx.heap.size)
            case first =>
              by_cases he : e = 0
              · subst he
                have hx : ∀ w, (Op.equalIn 10000 28 (.agg (bvs b).toArray) (.agg (bvs (W k)).toArray)).run Try.prog w = .ok (decide (b = W k)) w := fun w => eql128 b (W k) hbl (hwl k) w
                refine wp_region_plan [(0, true), (1, true), (2, true), (3, true), (4, true), (5, true), (6, true), (7, true), (8, true), (9, true)]
                  (fun z => Blk z gy 28 (bvs b).toArray ∧ Blk z gw 36 (rowsC W 16).toArray) (by kernel_rfl) (by kernel_rfl) (by kernel_rfl) (by kernel_rfl) (fun _ _ d _ _ h => by cases d <;> exact h) ⟨hY.1, hXk.1⟩ ?_
                simp only [planOps, List.getElem?_toArray, List.getElem?_cons_zero, List.getElem?_cons_succ]
                iterate 3 (refine wpS_q ?_ (by rfl) ?_ ?_; rotate_left; (focus (intro z hz; (try dsimp only at hz); go_simp; rfl)); simp only [Act.put, List.setIfInBounds_toArray, List.set_cons_zero, List.set_cons_succ])
                refine wpS_q (.agg (bvs b).toArray) (by rfl) (fun z hz => load_row_run rfl gy (bvs b).toArray Try.underlying28 rfl i128 hz.1 hbs rfl) ?_
                simp only [Act.put, List.setIfInBounds_toArray, List.set_cons_zero, List.set_cons_succ]
                iterate 2 (refine wpS_q ?_ (by rfl) ?_ ?_; rotate_left; (focus (intro z hz; (try dsimp only at hz); go_simp; rfl)); simp only [Act.put, List.setIfInBounds_toArray, List.set_cons_zero, List.set_cons_succ])
                refine wpS_q (.agg (bvs (W k)).toArray) (by rfl) (fun z hz => load_mid_run rfl gw (k * 128) (rowsC W 16) (bvs (W k)) Try.underlying28 rfl i128 hz.2 (rowsC_get hwl 16 k hkm) hwk rfl) ?_
                simp only [Act.put, List.setIfInBounds_toArray, List.set_cons_zero, List.set_cons_succ]
                iterate 3 (refine wpS_q ?_ (by rfl) ?_ ?_; rotate_left; (focus (intro z hz; (try dsimp only at hz); go_simp; rfl)); simp only [Act.put, List.setIfInBounds_toArray, List.set_cons_zero, List.set_cons_succ])
                refine wpS_nil ?_
                go_wp2_with fail
                go_meet
                exact ⟨congrArg Value.bool (by simp [fineB]), hDk.below drew_below, hXk.below drew_below, hY.below drew_below, (below_base hbb drew_below).1, (below_base hbb drew_below).2⟩
              · have hde : (e == 0) = false := by simpa using he
                refine wp_region_plan [(0, true), (1, true), (2, true), (3, true), (4, true), (5, true), (6, true), (7, true), (8, true), (9, true)]
                  (fun z => Blk z gy 28 (bvs b).toArray ∧ Blk z gw 36 (rowsC W 16).toArray) (by kernel_rfl) (by kernel_rfl) (by kernel_rfl) (by kernel_rfl) (fun _ _ d _ _ h => by cases d <;> exact h) ⟨hY.1, hXk.1⟩ ?_
                simp only [planOps, List.getElem?_toArray, List.getElem?_cons_zero, List.getElem?_cons_succ]
                repeat (first
                  | (refine wpS_skip (by rfl) ?_; simp only [Act.put, List.setIfInBounds_toArray, List.set_cons_zero, List.set_cons_succ])
                  | (refine wpS_q ?_ (by rfl) ?_ ?_; rotate_left; (focus (intro z hz; (try dsimp only at hz); go_simp; rfl)); simp only [Act.put, List.setIfInBounds_toArray, List.set_cons_zero, List.set_cons_succ]))
                refine wpS_nil ?_
                go_wp2_with fail
                go_meet
                exact ⟨congrArg Value.bool (by simp [fineB, he]), hDk.below drew_below, hXk.below drew_below, hY.below drew_below, (below_base hbb drew_below).1, (below_base hbb drew_below).2⟩
            case rest =>
              clear hXk hY hDk hbb hbb1 hbb2
              obtain ⟨rfl, hDk, hXk, hY, hbk, hbks⟩ := hcut
              go_upto_block 6 with (fail)
              go_cut [16] (fun f wx => f = .bool true ∧ DiskAt wx base l4 dE ∧ Out wx l4 gw 36 (rowsC W 16).toArray ∧ Below w.heap.size w wx ∧ base ≤ wx.heap.size)
              case first =>
                go_wp2_with fail
                go_loopw [16, 17] (fun f i wy => ∃ j : Nat, j ≤ n ∧ i = .int .i64 (j : Int) ∧ f = .bool (fineB (W k) s k b e j) ∧ DiskAt wy base l4 dE ∧ Out wy l4 gw 36 (rowsC W 16).toArray ∧ Out wy l4 gy 28 (bvs b).toArray ∧ Below w.heap.size w wy ∧ base ≤ wy.heap.size) (fun _ i _ => n - (intOf i).toNat)
                case atStart => exact ⟨0, Nat.zero_le _, rfl, rfl, hDk, hXk, hY, hbk, hbks⟩
                case round =>
                  clear hDk hXk hY hbk hbks
                  obtain ⟨j, hj, rfl, rfl, hDk, hXk, hY, hbk, hbks⟩ := hrel
                  by_cases hjn : j < n
                  · obtain ⟨ad, e1, hadl, hc0, hc1⟩ := puts_at hr2 hjn
                    cases e1
                    have hF : fineB (W k) s k b e (j + 1) = if atP (s.getD j (0, 0)) = k then (fineB (W k) s k b e j || (decide (e = 0) && decide (b = rep (s.getD j (0, 0)).2))) || decide (e = 9) else fineB (W k) s k b e j := rfl
                    obtain ⟨p, hp⟩ : ∃ p, s.getD j (0, 0) = p := ⟨_, rfl⟩
                    obtain ⟨F, hFj⟩ : ∃ F, fineB (W k) s k b e j = F := ⟨_, rfl⟩
                    rw [hp, hFj] at hF
                    rw [hp] at hc0 hc1
                    rw [hFj]
                    clear hp hFj
                    have hal := atP_lt p
                    have hap : ((p.1.toNat : Nat) : Int).tmod 16 = (atP p : Int) := rfl
                    have hpl := p.1.toNat_lt
                    have hck := (hbk.cell hadl).trans hc0
                    have q1 : ∀ z, Below w.heap.size w z → z.cell? ⟨(ad.add (j * 2)).block, (ad.add (j * 2)).off + 1, none⟩ = some (.int .u8 (p.2.toNat : Int)) := fun z hz => (hz.cell (p := ⟨(ad.add (j * 2)).block, (ad.add (j * 2)).off + 1, none⟩) hadl).trans hc1
                    have g2 : (j : Int) < (n : Int) := by omega
                    have g5 : (0 : Int) ≤ (j : Int) := by omega
                    clear hc0 hc1
                    by_cases hpk : atP p = k
                    · have g3 : ((atP p : Nat) : Int) = (k : Int) := by omega
                      go_wp2_with fail
                      have hbb : Below w.heap.size w wr ∧ base ≤ wr.heap.size := ⟨hbk, hbks⟩
                      cases F
                      · by_cases he : e = 0
                        · subst he
                          by_cases hbp : b = rep p.2
                          · have hF : fineB (W k) s k b 0 (j + 1) = true := by rw [hF, if_pos hpk]; simp [hbp]
                            have HF := Lib.hid hF
                            clear hF hpk hpl
                            have hx : ∀ w, (Op.equalIn 10000 28 (.agg (bvs b).toArray) (.agg (bvs (rep p.2)).toArray)).run Try.prog w = .ok true w := fun w => by rw [eql128 b (rep p.2) hbl (rep_length _) w]; simp [hbp]
                            clear hbp
                            refine wp_region_plan [(0, true), (1, true), (2, true), (3, true), (4, true), (5, true), (6, true), (7, true), (8, true), (9, true), (10, true), (11, false), (12, true), (13, true), (14, true), (15, true), (16, true), (17, true), (18, true), (19, true)]
                              (fun z => Below w.heap.size w z ∧ Blk z gy 28 (bvs b).toArray) (by kernel_rfl) (by kernel_rfl) (by kernel_rfl) (by kernel_rfl) (fun _ _ d _ _ h => by cases d <;> exact h) ⟨hbk.drew, hY.1⟩ ?_
                            simp only [planOps, List.getElem?_toArray, List.getElem?_cons_zero, List.getElem?_cons_succ]
                            iterate 5 (refine wpS_q ?_ (by rfl) ?_ ?_; rotate_left; (focus (intro z hz; (try dsimp only at hz); go_simp; rfl)); simp only [Act.put, List.setIfInBounds_toArray, List.set_cons_zero, List.set_cons_succ])
                            refine wpS_q (.agg (bvs b).toArray) (by rfl) (fun z hz => load_row_run rfl gy (bvs b).toArray Try.underlying28 rfl i128 hz.2 hbs rfl) ?_
                            simp only [Act.put, List.setIfInBounds_toArray, List.set_cons_zero, List.set_cons_succ]
                            iterate 5 (refine wpS_q ?_ (by rfl) ?_ ?_; rotate_left; (focus (intro z hz; (try dsimp only at hz); go_simp; rfl)); simp only [Act.put, List.setIfInBounds_toArray, List.set_cons_zero, List.set_cons_succ])
                            refine wpS_l (by rfl) (fun K hK => ?_)
                            go_wp2_with fail
                            refine (bytes_any _ p.2).mono ?_
                            rintro e1 w4 ⟨rfl, hb⟩
                            have hb3 : Below wr.heap.size wr w4 := drew_below.trans hb
                            have hDk := hDk.below hb3
                            have hXk := hXk.below hb3
                            have hY := hY.below hb3
                            have hbb := below_base hbb hb3
                            refine hK _ _ _ ⟨hbb.1, hY.1⟩ (fun _ h => h) ?_
                            clear hK hb hb3
                            repeat (first
                              | (refine wpS_skip (by rfl) ?_; simp only [Act.put, List.setIfInBounds_toArray, List.set_cons_zero, List.set_cons_succ])
                              | (refine wpS_q ?_ (by rfl) ?_ ?_; rotate_left; (focus (intro z hz; (try dsimp only at hz); go_simp; rfl)); simp only [Act.put, List.setIfInBounds_toArray, List.set_cons_zero, List.set_cons_succ]))
                            refine wpS_nil ?_
                            go_wp2_with fail
                            exact ⟨⟨j + 1, by omega, congrArg (Value.int .i64) (by omega), congrArg Value.bool HF.out.symm, hDk, hXk, hY, hbb.1, hbb.2⟩, by simp [intOf]; omega⟩
                          · have hF : fineB (W k) s k b 0 (j + 1) = false := by rw [hF, if_pos hpk]; simp [hbp]
                            have HF := Lib.hid hF
                            clear hF hpk hpl
                            have hx : ∀ w, (Op.equalIn 10000 28 (.agg (bvs b).toArray) (.agg (bvs (rep p.2)).toArray)).run Try.prog w = .ok false w := fun w => by rw [eql128 b (rep p.2) hbl (rep_length _) w]; simp [hbp]
                            clear hbp
                            refine wp_region_plan [(0, true), (1, true), (2, true), (3, true), (4, true), (5, true), (6, true), (7, true), (8, true), (9, true), (10, true), (11, false), (12, true), (13, true), (14, true), (15, true), (16, true), (17, true), (18, true), (19, true)]
                              (fun z => Below w.heap.size w z ∧ Blk z gy 28 (bvs b).toArray) (by kernel_rfl) (by kernel_rfl) (by kernel_rfl) (by kernel_rfl) (fun _ _ d _ _ h => by cases d <;> exact h) ⟨hbk.drew, hY.1⟩ ?_
                            simp only [planOps, List.getElem?_toArray, List.getElem?_cons_zero, List.getElem?_cons_succ]
                            iterate 5 (refine wpS_q ?_ (by rfl) ?_ ?_; rotate_left; (focus (intro z hz; (try dsimp only at hz); go_simp; rfl)); simp only [Act.put, List.setIfInBounds_toArray, List.set_cons_zero, List.set_cons_succ])
                            refine wpS_q (.agg (bvs b).toArray) (by rfl) (fun z hz => load_row_run rfl gy (bvs b).toArray Try.underlying28 rfl i128 hz.2 hbs rfl) ?_
                            simp only [Act.put, List.setIfInBounds_toArray, List.set_cons_zero, List.set_cons_succ]
                            iterate 5 (refine wpS_q ?_ (by rfl) ?_ ?_; rotate_left; (focus (intro z hz; (try dsimp only at hz); go_simp; rfl)); simp only [Act.put, List.setIfInBounds_toArray, List.set_cons_zero, List.set_cons_succ])
                            refine wpS_l (by rfl) (fun K hK => ?_)
                            go_wp2_with fail
                            refine (bytes_any _ p.2).mono ?_
                            rintro e1 w4 ⟨rfl, hb⟩
                            have hb3 : Below wr.heap.size wr w4 := drew_below.trans hb
                            have hDk := hDk.below hb3
                            have hXk := hXk.below hb3
                            have hY := hY.below hb3
                            have hbb := below_base hbb hb3
                            refine hK _ _ _ ⟨hbb.1, hY.1⟩ (fun _ h => h) ?_
                            clear hK hb hb3
                            repeat (first
                              | (refine wpS_skip (by rfl) ?_; simp only [Act.put, List.setIfInBounds_toArray, List.set_cons_zero, List.set_cons_succ])
                              | (refine wpS_q ?_ (by rfl) ?_ ?_; rotate_left; (focus (intro z hz; (try dsimp only at hz); go_simp; rfl)); simp only [Act.put, List.setIfInBounds_toArray, List.set_cons_zero, List.set_cons_succ]))
                            refine wpS_nil ?_
                            go_wp2_with fail
                            exact ⟨⟨j + 1, by omega, congrArg (Value.int .i64) (by omega), congrArg Value.bool HF.out.symm, hDk, hXk, hY, hbb.1, hbb.2⟩, by simp [intOf]; omega⟩
                        · have hde : (e == 0) = false := by simpa using he
                          by_cases he9 : e = 9
                          · subst he9
                            have hF : fineB (W k) s k b 9 (j + 1) = true := by rw [hF, if_pos hpk]; simp
                            have HF := Lib.hid hF
                            clear hF hpk hpl he
                            refine wp_region_plan [(0, true), (1, true), (2, true), (3, true), (4, true), (5, true), (6, true), (7, true), (8, true), (9, true), (10, true), (11, false), (12, true), (13, true), (14, true), (15, true), (16, true), (17, true), (18, true), (19, true)]
                              (fun z => Below w.heap.size w z) (by kernel_rfl) (by kernel_rfl) (by kernel_rfl) (by kernel_rfl) (fun _ _ d _ _ h => by cases d <;> exact h) hbk.drew ?_
                            simp only [planOps, List.getElem?_toArray, List.getElem?_cons_zero, List.getElem?_cons_succ]
                            repeat (first
                              | (refine wpS_skip (by rfl) ?_; simp only [Act.put, List.setIfInBounds_toArray, List.set_cons_zero, List.set_cons_succ])
                              | (refine wpS_q ?_ (by rfl) ?_ ?_; rotate_left; (focus (intro z hz; (try dsimp only at hz); go_simp; rfl)); simp only [Act.put, List.setIfInBounds_toArray, List.set_cons_zero, List.set_cons_succ]))
                            refine wpS_nil ?_
                            go_wp2_with fail
                            exact ⟨⟨j + 1, by omega, congrArg (Value.int .i64) (by omega), congrArg Value.bool HF.out.symm, hDk.below drew_below, hXk.below drew_below, hY.below drew_below, (below_base hbb drew_below).1, (below_base hbb drew_below).2⟩, by simp [intOf]; omega⟩
                          · have hd9 : (e == 9) = false := by simpa using he9
                            have hF : fineB (W k) s k b e (j + 1) = false := by rw [hF, if_pos hpk]; simp [he, he9]
                            have HF := Lib.hid hF
                            clear hF hpk hpl he he9
                            refine wp_region_plan [(0, true), (1, true), (2, true), (3, true), (4, true), (5, true), (6, true), (7, true), (8, true), (9, true), (10, true), (11, false), (12, true), (13, true), (14, true), (15, true), (16, true), (17, true), (18, true), (19, true)]
                              (fun z => Below w.heap.size w z) (by kernel_rfl) (by kernel_rfl) (by kernel_rfl) (by kernel_rfl) (fun _ _ d _ _ h => by cases d <;> exact h) hbk.drew ?_
                            simp only [planOps, List.getElem?_toArray, List.getElem?_cons_zero, List.getElem?_cons_succ]
                            repeat (first
                              | (refine wpS_skip (by rfl) ?_; simp only [Act.put, List.setIfInBounds_toArray, List.set_cons_zero, List.set_cons_succ])
                              | (refine wpS_q ?_ (by rfl) ?_ ?_; rotate_left; (focus (intro z hz; (try dsimp only at hz); go_simp; rfl)); simp only [Act.put, List.setIfInBounds_toArray, List.set_cons_zero, List.set_cons_succ]))
                            refine wpS_nil ?_
                            go_wp2_with fail
                            exact ⟨⟨j + 1, by omega, congrArg (Value.int .i64) (by omega), congrArg Value.bool HF.out.symm, hDk.below drew_below, hXk.below drew_below, hY.below drew_below, (below_base hbb drew_below).1, (below_base hbb drew_below).2⟩, by simp [intOf]; omega⟩
                      · have hF : fineB (W k) s k b e (j + 1) = true := by rw [hF, if_pos hpk]; simp
                        have HF := Lib.hid hF
                        clear hF hpk hpl
                        refine wp_region_plan [(0, true), (1, true), (2, true), (3, true), (4, true), (5, true), (6, true), (7, true), (8, true), (9, true), (10, true), (11, false), (12, true), (13, true), (14, true), (15, true), (16, true), (17, true), (18, true), (19, true)]
                          (fun z => Below w.heap.size w z) (by kernel_rfl) (by kernel_rfl) (by kernel_rfl) (by kernel_rfl) (fun _ _ d _ _ h => by cases d <;> exact h) hbk.drew ?_
                        simp only [planOps, List.getElem?_toArray, List.getElem?_cons_zero, List.getElem?_cons_succ]
                        repeat (first
                          | (refine wpS_skip (by rfl) ?_; simp only [Act.put, List.setIfInBounds_toArray, List.set_cons_zero, List.set_cons_succ])
                          | (refine wpS_q ?_ (by rfl) ?_ ?_; rotate_left; (focus (intro z hz; (try dsimp only at hz); go_simp; rfl)); simp only [Act.put, List.setIfInBounds_toArray, List.set_cons_zero, List.set_cons_succ]))
                        refine wpS_nil ?_
                        go_wp2_with fail
                        exact ⟨⟨j + 1, by omega, congrArg (Value.int .i64) (by omega), congrArg Value.bool HF.out.symm, hDk.below drew_below, hXk.below drew_below, hY.below drew_below, (below_base hbb drew_below).1, (below_base hbb drew_below).2⟩, by simp [intOf]; omega⟩
                    · have g3 : ¬ ((atP p : Nat) : Int) = (k : Int) := by omega
                      have hF : fineB (W k) s k b e (j + 1) = F := by rw [hF, if_neg hpk]
                      have HF := Lib.hid hF
                      clear hF hpk hpl
                      go_wp2_with fail
                      exact ⟨⟨j + 1, by omega, congrArg (Value.int .i64) (by omega), congrArg Value.bool HF.out.symm, hDk, hXk, hY, hbk, hbks⟩, by simp [intOf]; omega⟩
                  · obtain rfl : j = n := by omega
                    have g2 : ¬ (j : Int) < (j : Int) := by omega
                    go_wp2_with fail
                    go_meet
                    exact ⟨congrArg Value.bool HFE.out, hDk, hXk, hbk, hbks⟩
              case rest =>
                clear hXk hY hDk hbk hbks
                obtain ⟨rfl, hDk, hXk, hbk, hbks⟩ := hcut
                go_wp2_with fail
                exact ⟨⟨k + 1, by omega, congrArg (Value.int .i64) (by omega), hDk, hXk, hbk, hbks⟩, by simp [intOf]; omega⟩
          · obtain rfl : k = 16 := by omega
            have g1 : ¬ ((16 : Nat) : Int) < 16 := by omega
            go_wp2_with fail
            go_meet
            exact ⟨hbk, hbks⟩
      case rest =>
        obtain ⟨hbk, hbks⟩ := hcut
        clear hbb hXk hD4 hbb1 hbb2 hle'
        go_wp2_with fail
        refine (works4_any _).mono ?_
        rintro e w9 ⟨rfl, hb⟩
        go_wp2_with fail
        go_ret
        exact ⟨rfl, below_next' hbk hb⟩
theorem diskPower_walk (w : World) (A : Option Addr) (m c : Nat) (l : List Put2) (hl : l.length = m) (hr : Reads w w.heap.size 2 A m (l.flatMap fun x => [Value.int .u8 (x.1.toNat : Int)] ++ [Value.int .u8 (x.2.toNat : Int)]))
    (B : Option Addr) (n c2 : Nat) (s : List Put2) (hs : s.length = n) (hr2 : Reads w w.heap.size 2 B n (s.flatMap fun x => [Value.int .u8 (x.1.toNat : Int)] ++ [Value.int .u8 (x.2.toNat : Int)]))
    (A' : Option Addr) (m' c' : Nat) (ps : List UInt8) (_ : ps.length = m') (hr' : RB w A' m' ps) (_ : m' ≤ c') (_ : m' ≤ 140737488351232) (hat : ∀ ad, A' = some ad → ad.block < w.heap.size) :
    Calls Try.prog 4 #[.slice A m c, .slice B n c2, .slice A' m' c'] w fun e w' => e = .returned (.bool true) ∧ Below w.heap.size w w' :=
  diskPower_any w A m c l hl hr B n c2 s hs hr2 A' m' c' ps hr' (fun b hb => by cases A' with | none => cases hb | some ad => cases hb; exact hat ad rfl)
end Go.Proofs.Ytekpohchikbnnaa
