/- The law DiskFuses, walked. -/
import Derived.Test.YtekpohchikbnnaaDfa
import Derived.Test.YtekpohchikbnnaaDpw
namespace Go.Proofs.Ytekpohchikbnnaa
open Go.RowKit Go.Rat
theorem bools_at {w : World} {A : Option Addr} {n k : Nat} {l : List Bool} (h : Reads w w.heap.size 1 A n (l.map Value.bool)) (hk : k < n) :
    ∃ ad, A = some ad ∧ (ad.add k).block < w.heap.size ∧ w.cell? (ad.add k) = some (.bool (l.getD k true)) := by
  obtain ⟨ad, rfl, hb, hc⟩ := h.2 (by omega)
  have hkl : k < l.length := by have := h.1; simp at this; omega
  refine ⟨ad, rfl, by rw [block_of_add]; exact hb, ?_⟩
  refine hc _ _ ?_
  rw [List.getElem?_map, List.getElem?_eq_getElem hkl, List.getD_eq_getElem?_getD, List.getElem?_eq_getElem hkl]; rfl
set_option maxRecDepth 20000 in
set_option maxHeartbeats 8000000 in
theorem diskFuses_any (w : World) (nn : UInt8) (A : Option Addr) (m c : Nat) (l : List Bool) (hl : l.length = m) (hr : Reads w w.heap.size 1 A m (l.map Value.bool)) (pick : UInt8) :
    Calls Try.prog 7 #[.int .u8 (nn.toNat : Int), .slice A m c, .int .u8 (pick.toNat : Int)] w fun e w' => e = .returned (.bool true) ∧ Below w.heap.size w w' := by
  by_cases hbig : 100 < m
  · have hbi : (100 : Int) < (m : Int) := by omega
    go_enter Try.func7, Try.ntmps7
    go_wp2_with (go_at_call 19; refine (works4_any w).mono ?_; rintro e w2 ⟨rfl, hb2⟩)
    go_ret
    exact ⟨rfl, hb2⟩
  have hbi : ¬ (100 : Int) < (m : Int) := by omega
  obtain ⟨base, hbase⟩ : ∃ b, w.heap.size = b := ⟨_, rfl⟩
  have HBASE := Lib.hid hbase
  have HL := Lib.hid hl
  obtain ⟨N, hN⟩ : ∃ N, nn.toNat = N := ⟨_, rfl⟩
  have hN2 : N < 256 := by have := nn.toNat_lt; omega
  rw [hN]
  obtain ⟨P, hP⟩ : ∃ P, pick.toNat = P := ⟨_, rfl⟩
  have hP2 : P < 256 := by have := pick.toNat_lt; omega
  rw [hP]
  obtain ⟨many, hmany⟩ : ∃ x, N % 100 = x := ⟨_, rfl⟩
  have hm100 : many < 100 := by omega
  obtain ⟨q, hq⟩ : ∃ x, P % 2 = x := ⟨_, rfl⟩
  have hq2 : q = 0 ∨ q = 1 := by omega
  have hq0 : (P : Int) % 2 = (q : Int) := by omega
  have hN0 : (N : Int) % 100 = (many : Int) := by omega
  have HQ := Lib.hid hq0
  have hst := fuse_start l many
  obtain ⟨d0, hd0⟩ : ∃ d, fuseD ds0 many = d := ⟨_, rfl⟩
  rw [hd0] at hst
  have HD0 := Lib.hid hd0
  clear hl hN hP hmany hq hd0 hq0
  go_enter Try.func7, Try.ntmps7
  go_wp2_with fail
  refine (dnew_any w).mono ?_
  rintro e w1 ⟨l0, rfl, hD, hb⟩
  have hbb : Below w.heap.size w w1 ∧ base ≤ w1.heap.size := ⟨hb, by rw [← hbase]; exact hb.size⟩
  rw [hbase] at hD
  clear hb hbase
  simp only []
  obtain ⟨g, hlg⟩ : ∃ g, l0.g = g := ⟨_, rfl⟩
  rw [hlg]
  have HLG := Lib.hid hlg
  clear hlg
  go_wp2_with fail
  refine (gfuse _ base g _ _ hD HLG.out many (by omega)).mono ?_
  rw [HD0.out]
  rintro e w2 ⟨l1, rfl, hlg1, hD1, hm⟩
  have hbb := base_moved hbb (Nat.le_of_eq HBASE.out) hD hm
  simp only []
  rw [hN0]
  clear hm hD hN0
  go_upto_block 0 with (fail)
  have hbb1 := hbb.1
  have hbb2 := hbb.2
  go_cut [] (fun wx => ∃ (d : DS) (l' : DL), FuseInv l many m d ∧ DiskAt wx base l' d ∧ l'.g = g ∧ Below w.heap.size w wx ∧ base ≤ wx.heap.size)
  case first =>
    go_wp2_with fail
    go_loopw [9] (fun i wr => ∃ (k : Nat) (d : DS) (l' : DL), k ≤ m ∧ i = .int .i64 (k : Int) ∧ FuseInv l many k d ∧ DiskAt wr base l' d ∧ l'.g = g ∧ Below w.heap.size w wr ∧ base ≤ wr.heap.size) (fun i _ => m - (intOf i).toNat)
    case atStart => exact ⟨0, d0, l1, Nat.zero_le _, rfl, hst, hD1, hlg1, hbb1, hbb2⟩
    case round =>
      clear hbb hD1 hbb1 hbb2 hst
      obtain ⟨k, d, l', hk, rfl, hinv, hDk, hlk, hbk, hbks⟩ := hrel
      by_cases hkm : k < m
      · have hlen : d.loose.length < 1000000000 := by have := hinv.len; omega
        obtain ⟨hsy, hwr, hro, hrf⟩ := fuse_step hinv (show k < 100 by omega)
        obtain ⟨ad, e, hadl, hc⟩ := bools_at hr hkm
        cases e
        obtain ⟨E, hE⟩ : ∃ E : Int, (if k < many then 0 else 8) = E := ⟨_, rfl⟩
        rw [hE] at hsy hwr
        obtain ⟨R, hR⟩ : ∃ R, readE d (k : Int) = R := ⟨_, rfl⟩
        rw [hR] at hro hrf
        have HR := Lib.hid hR
        have hbl := readB_length hDk.ok (k : Int)
        obtain ⟨b, hbe⟩ : ∃ b, readB d (k : Int) = b := ⟨_, rfl⟩
        rw [hbe] at hbl
        have HBE := Lib.hid hbe
        have hbs : (bvs b).toArray.size = 128 := by rw [bvs_size, hbl]
        have q0 : ∀ z, Below w.heap.size w z → z.cell? (ad.add k) = some (.bool (l.getD k true)) := fun z hz => (hz.cell hadl).trans hc
        have hnb := nb_toNat (show k < 200 by omega)
        have hnl := (nb k).toNat_lt
        obtain ⟨v, hv⟩ : ∃ v, l.getD k true = v := ⟨_, rfl⟩
        rw [hv] at hsy hwr q0
        have Q0 := Lib.hid q0
        have HSY := Lib.hid hsy
        have HWR := Lib.hid hwr
        have HRO := Lib.hid hro
        have HRF := Lib.hid hrf
        have HE := Lib.hid hE
        have HNB := Lib.hid hnb
        have hbb : Below w.heap.size w wr ∧ base ≤ wr.heap.size := ⟨hbk, hbks⟩
        have g1 : (k : Int) < (m : Int) := by omega
        have g0 : (0 : Int) ≤ (k : Int) := by omega
        clear hc hE hR hbe hbl q0 hnb hv hsy hwr hro hrf hbk hbks
        go_wp2_with fail
        refine (gread _ base g _ _ hDk hlk (k : Int)).mono ?_
        rw [HBE.out, HR.out]
        rintro e1 w5 ⟨rfl, hb⟩
        have hbb := below_base hbb hb
        have hDk := hDk.below hb
        simp only []
        clear hb
        repeat (first | ((with_reducible refine wpl_store_fresh (bvs b).toArray i128 ?_ hbs (bvs_all _) ?_ ?_ ?_); (focus kernel_rfl); (focus rfl); (focus rfl); intro w6 hS hl3 hb; simp only [Act.put]; refine Hid.out ?_) | go_values | go_skip | go_guarded | go_step | go_upon | go_back)
        refine Lib.hid ?_
        have hbb := below_base hbb hb
        have hDk := hDk.below hb
        clear hb hS hl3
        obtain ⟨gq, hgq⟩ : ∃ x, w5.heap.size = x := ⟨_, rfl⟩
        rw [hgq]
        clear hgq
        have hck := Q0.out _ hbb.1
        go_upto_if 50 with (fail)
        have hbb1 := hbb.1
        have hbb2 := hbb.2
        go_cut [12] (fun f wx => f = .int .i64 E ∧ ∃ (d' : DS) (l' : DL), FuseInv l many (k + 1) d' ∧ DiskAt wx base l' d' ∧ l'.g = g ∧ Below w.heap.size w wx ∧ base ≤ wx.heap.size)
        case first =>
          cases v
          · obtain ⟨hi1, hwE⟩ := HWR.out rfl
            have HWE := Lib.hid hwE
            have hnc : (((nb k).toNat : Nat) : Int) = (k : Int) + 1 := HNB.out
            have HNC := Lib.hid hnc
            clear hwE hnc
            go_wp2_with fail
            refine (bytes_lit _ (nb k) _ HNC.out).mono ?_
            rintro e w7 ⟨rfl, hb⟩
            have hDk := hDk.below hb
            have hbb := below_base hbb hb
            simp only []
            clear hb hck hbb1 hbb2
            go_wp2_with fail
            refine (gwrite _ base g _ _ hDk hlk hbb.2 (k : Int) (rep (nb k)) (rep_length _) hlen).mono ?_
            rw [HWE.out]
            rintro e w8 ⟨l2, rfl, hlk2, hD2, hm⟩
            have hbb := base_moved hbb (Nat.le_of_eq HBASE.out) hDk hm
            simp only []
            clear hm hDk hlk
            go_wp2_with fail
            go_meet
            exact ⟨rfl, _, l2, hi1, hD2, hlk2, hbb.1, hbb.2⟩
          · obtain ⟨hi1, hwE⟩ := HSY.out rfl
            have HWE := Lib.hid hwE
            clear hwE
            go_wp2_with fail
            refine (gsync _ base g _ _ hDk hlk).mono ?_
            rw [HWE.out]
            rintro e w8 ⟨l2, rfl, hlk2, hD2, hm⟩
            have hbb := base_moved hbb (Nat.le_of_eq HBASE.out) hDk hm
            simp only []
            clear hm hDk hlk hck hbb1 hbb2
            go_wp2_with fail
            go_meet
            exact ⟨rfl, _, l2, hi1, hD2, hlk2, hbb.1, hbb.2⟩
        case rest =>
          clear hDk hlk hbb hbb1 hbb2 hck hlen
          obtain ⟨rfl, d', l2, hi1, hD2, hlk2, hbk, hbks⟩ := hcut
          by_cases h1 : k < many
          · obtain rfl : E = 0 := by rw [← HE.out, if_pos h1]
            obtain rfl : R = 0 := HRO.out (by omega)
            have hoff : (!d'.off) = true := by rw [(hi1.on (by omega)).1]; rfl
            have HO := Lib.hid hoff
            have g2 : (k : Int) < (many : Int) := by omega
            have g3 : ¬ (many : Int) ≤ (k : Int) := by omega
            have g4 : ¬ (many : Int) < (k : Int) := by omega
            clear hoff h1
            go_wp2_with (refine (gpower _ base g _ _ hD2 hlk2).mono ?_; rw [HO.out]; rintro e w2' ⟨rfl, rfl⟩; simp only [])
            exact ⟨⟨k + 1, d', l2, by omega, congrArg (Value.int .i64) (by omega), hi1, hD2, hlk2, hbk, hbks⟩, by simp [intOf]; omega⟩
          · obtain rfl : E = 8 := by rw [← HE.out, if_neg h1]
            have hoff : (!d'.off) = false := by rw [(hi1.over (by omega)).1]; rfl
            have HO := Lib.hid hoff
            have g2 : ¬ (k : Int) < (many : Int) := by omega
            have g3 : (many : Int) ≤ (k : Int) := by omega
            by_cases h2 : k = many
            · obtain rfl : R = 0 := HRO.out (by omega)
              have g4 : ¬ (many : Int) < (k : Int) := by omega
              clear hoff h1 h2
              go_wp2_with (refine (gpower _ base g _ _ hD2 hlk2).mono ?_; rw [HO.out]; rintro e w2' ⟨rfl, rfl⟩; simp only [])
              exact ⟨⟨k + 1, d', l2, by omega, congrArg (Value.int .i64) (by omega), hi1, hD2, hlk2, hbk, hbks⟩, by simp [intOf]; omega⟩
            · obtain rfl : R = 8 := HRF.out (by omega)
              have g4 : (many : Int) < (k : Int) := by omega
              clear hoff h1 h2
              go_wp2_with (refine (gpower _ base g _ _ hD2 hlk2).mono ?_; rw [HO.out]; rintro e w2' ⟨rfl, rfl⟩; simp only [])
              exact ⟨⟨k + 1, d', l2, by omega, congrArg (Value.int .i64) (by omega), hi1, hD2, hlk2, hbk, hbks⟩, by simp [intOf]; omega⟩
      · obtain rfl : k = m := by omega
        have g1 : ¬ (k : Int) < (k : Int) := by omega
        go_wp2_with fail
        go_meet
        exact ⟨d, l', hinv, hDk, hlk, hbk, hbks⟩
  case rest =>
    clear hbb hD1 hbb1 hbb2 hst
    obtain ⟨d, l', hinv, hDk, hlk, hbk, hbks⟩ := hcut
    by_cases hle : m ≤ many
    · have hoff : (!d.off) = true := by rw [(hinv.on hle).1]; rfl
      have HO := Lib.hid hoff
      have g1 : (m : Int) ≤ (many : Int) := by omega
      clear hoff
      go_wp2_with (first
        | (refine (gpower _ base g _ _ hDk hlk).mono ?_; rw [HO.out]; rintro e w2' ⟨rfl, rfl⟩; simp only [])
        | (go_at_call 19; refine (works4_any _).mono ?_; rintro e w2 ⟨rfl, hb2⟩))
      go_ret
      exact ⟨rfl, below_next' hbk hb2⟩
    · have g1 : ¬ (m : Int) ≤ (many : Int) := by omega
      have hmm : many < m := by omega
      have hlo9 : d.loose.length ≤ 100 := by have := hinv.len; omega
      obtain ⟨p, hp⟩ : ∃ p, UInt8.ofNat q = p := ⟨_, rfl⟩
      have hpq : p.toNat = q := by
        rw [← hp, UInt8.toNat_ofNat']
        rcases hq2 with rfl | rfl <;> rfl
      have hp01 : p = 0 ∨ p = 1 := by
        rw [← hp]
        rcases hq2 with rfl | rfl
        · exact .inl rfl
        · exact .inr rfl
      have hpv : (P : Int) % 2 = (p.toNat : Int) := by rw [hpq]; exact HQ.out
      have hp1 : p = 1 ↔ q = 1 := by
        rw [← hpq]
        rcases hp01 with rfl | rfl <;> decide
      obtain ⟨hon, hfin⟩ := fuse_end (many := many) (by rw [HL.out]; exact hmm) (by rw [HL.out]; omega) (by rw [HL.out]; exact hinv) p hp01 (List.replicate d.loose.length p) rfl
      obtain ⟨n, hn⟩ : ∃ n, d.loose.length = n := ⟨_, rfl⟩
      rw [hn] at hlo9 hfin
      have HN := Lib.hid hn
      obtain ⟨dE, hdE⟩ : ∃ x, onAll d (List.replicate n p) = x := ⟨_, rfl⟩
      rw [hdE] at hfin
      have HDE := Lib.hid hdE
      have HON := Lib.hid hon
      have HFIN := Lib.hid hfin
      have HPV := Lib.hid hpv
      have HP1 := Lib.hid hp1
      clear hp hpq hp01 hpv hp1 hon hfin hn hdE hq2
      go_wp2_with fail
      refine (gloose _ base g _ _ hDk hlk).mono ?_
      rw [HN.out]
      rintro e w2' ⟨rfl, rfl⟩
      simp only []
      go_upto_block 2 with (fail)
      obtain ⟨B, hB⟩ : ∃ B, wc.heap.size = B := ⟨_, rfl⟩
      have HB := Lib.hid hB
      clear hB
      go_cut [14] (fun s wx => ∃ (A2 : Option Addr) (c2 : Nat), s = .slice A2 n c2 ∧ OB 5 wx B A2 n c2 (List.replicate n p) ∧ Below wc.heap.size wc wx)
      case first =>
        go_wp2_with fail
        go_loopw [14, 15] (fun s i wr => ∃ (k : Nat) (A2 : Option Addr) (c2 : Nat), k ≤ n ∧ i = .int .i64 (k : Int) ∧ s = .slice A2 k c2 ∧ OB 5 wr B A2 k c2 (List.replicate k p) ∧ Below wc.heap.size wc wr) (fun _ i _ => n - (intOf i).toNat)
        case atStart => exact ⟨0, none, 0, Nat.zero_le _, rfl, rfl, OB.nil_ _ _ _, Below.refl _ _⟩
        case round =>
          obtain ⟨k, A2, c2, hk, rfl, rfl, hO, hbw⟩ := hrel
          by_cases hkn : k < n
          · have g2 : (k : Int) < (n : Int) := by omega
            have hBs : B ≤ wr.heap.size := by have := hbw.size; have := HB.out; omega
            have hpv := HPV.out
            go_wp2_with (at_builtin; refine app_bytes rfl _ _ rfl B A2 k c2 (List.replicate k p) rfl (hO.alloc _) _ _ _ [p] rfl (RB.one_ _ _ rfl) (by omega) (by simp; omega) ?_; intro A4 N4 c4 w4 hc4 hc4' hO4 hG4)
            have hN4 := hO4.len
            obtain rfl : N4 = k + 1 := by simp at hN4; omega
            have hO5 : OB 5 w4 B A4 (k + 1) c4 (List.replicate (k + 1) p) := by rw [List.replicate_succ']; exact hO4
            have hb5 : Below wc.heap.size wc w4 := by
              rw [HB.out]
              refine hG4.own ?_ (by rw [HB.out]; exact Nat.le_refl _) (hO.alloc _)
              exact below_alloc2 (by rw [← HB.out]; exact hbw) (by rw [HB.out]; exact Nat.le_refl _) _
            clear hO hO4 hG4 hbw hpv
            go_wp2_with fail
            exact ⟨⟨k + 1, A4, c4, by omega, congrArg (Value.int .i64) (by omega), rfl, hO5, hb5⟩, by simp [intOf]; omega⟩
          · obtain rfl : k = n := by omega
            have g2 : ¬ (k : Int) < (k : Int) := by omega
            go_wp2_with fail
            go_meet
            exact ⟨A2, c2, rfl, hO, hbw⟩
      case rest =>
        obtain ⟨A2, c2, rfl, hO, hbw⟩ := hcut
        have hD3 := hDk.below hbw
        have hbb := below_base ⟨hbk, hbks⟩ hbw
        have hap : ∀ x, A2.map (·.block) = some x → ¬ l'.fp x := fun x hx hf => by
          have h1 := (hO.ge x hx).1
          have h2 := (hDk.fp_lt hf).2
          have := HB.out
          omega
        have hrp := hO.reads
        clear hO hbk hbks hbw hDk
        go_wp2_with fail
        refine (gon _ base g _ _ hD3 hlk A2 n c2 _ hrp hap).mono ?_
        rw [HON.out, HDE.out]
        rintro e w7 ⟨l4, rfl, hlg4, hD4, hm⟩
        have hbb := base_moved hbb (Nat.le_of_eq HBASE.out) hD3 hm
        simp only []
        clear hm hD3 hlk hrp hap
        go_upto_block 4 with (fail)
        have hbb1 := hbb.1
        have hbb2 := hbb.2
        go_cut [16] (fun s wx => s = .int .i64 (syF l many) ∧ wx = w7)
        case first =>
          go_wp2_with fail
          go_loopw [16, 17] (fun s i wr => ∃ k : Nat, k ≤ many ∧ i = .int .i64 (k : Int) ∧ s = .int .i64 (syF l k) ∧ wr = w7) (fun _ i _ => many - (intOf i).toNat)
          case atStart => exact ⟨0, Nat.zero_le _, rfl, rfl, rfl⟩
          case round =>
            obtain ⟨k, hk, rfl, rfl, rfl⟩ := hrel
            by_cases hkm : k < many
            · obtain ⟨ad, e, hadl, hc⟩ := bools_at hr (show k < m by omega)
              cases e
              have hck := (hbb1.cell hadl).trans hc
              have g2 : (k : Int) < (many : Int) := by omega
              have g3 : (k : Int) < (m : Int) := by omega
              have g4 : (0 : Int) ≤ (k : Int) := by omega
              have hsf : syF l (k + 1) = if l.getD k true = true then (k : Int) else syF l k := rfl
              obtain ⟨v, hv⟩ : ∃ v, l.getD k true = v := ⟨_, rfl⟩
              rw [hv] at hck hsf
              clear hv hc
              cases v
              · rw [if_neg (by decide)] at hsf
                have HSF := Lib.hid hsf
                clear hsf
                go_wp2_with fail
                exact ⟨⟨k + 1, by omega, congrArg (Value.int .i64) (by omega), congrArg (Value.int .i64) HSF.out.symm, by trivial⟩, by simp [intOf]; omega⟩
              · rw [if_pos rfl] at hsf
                have HSF := Lib.hid hsf
                clear hsf
                go_wp2_with fail
                exact ⟨⟨k + 1, by omega, congrArg (Value.int .i64) (by omega), congrArg (Value.int .i64) HSF.out.symm, by trivial⟩, by simp [intOf]; omega⟩
            · obtain rfl : k = many := by omega
              have g2 : ¬ (k : Int) < (k : Int) := by omega
              go_wp2_with fail
              go_meet
              exact ⟨rfl, rfl⟩
        case rest =>
          obtain ⟨rfl, rfl⟩ := hcut
          obtain ⟨S, hS⟩ : ∃ S, syF l many = S := ⟨_, rfl⟩
          have HS := Lib.hid hS
          rw [hS]
          have hSb := syF_lt l many
          rw [hS] at hSb
          clear hS
          go_upto_block 6 with (fail)
          go_cut [] (fun wx => Below w.heap.size w wx ∧ base ≤ wx.heap.size)
          case first =>
            go_wp2_with fail
            go_loopw [18] (fun i wr => ∃ k : Nat, k ≤ many + 1 ∧ i = .int .i64 (k : Int) ∧ DiskAt wr base l4 dE ∧ Below w.heap.size w wr ∧ base ≤ wr.heap.size) (fun i _ => many + 1 - (intOf i).toNat)
            case atStart => exact ⟨0, by omega, rfl, hD4, hbb1, hbb2⟩
            case round =>
              clear hbb hD4 hbb1 hbb2
              obtain ⟨k, hk, rfl, hDk, hbk, hbks⟩ := hrel
              by_cases hkm : k ≤ many
              · obtain ⟨ad, e, hadl, hc⟩ := bools_at hr (show k < m by omega)
                cases e
                have q0 : ∀ z, Below w.heap.size w z → z.cell? (ad.add k) = some (.bool (l.getD k true)) := fun z hz => (hz.cell hadl).trans hc
                obtain ⟨hre, hrb⟩ := HFIN.out k hkm
                rw [HS.out] at hrb
                have hnb := nb_toNat (show k < 200 by omega)
                have hnl := (nb k).toNat_lt
                obtain ⟨v, hv⟩ : ∃ v, l.getD k true = v := ⟨_, rfl⟩
                rw [hv] at q0 hrb
                have HRE := Lib.hid hre
                have HRB := Lib.hid hrb
                have HNB := Lib.hid hnb
                have Q0 := Lib.hid q0
                have hbb : Below w.heap.size w wr ∧ base ≤ wr.heap.size := ⟨hbk, hbks⟩
                have hr0s : (bvs (rep 0)).toArray.size = 128 := by rw [bvs_size, rep_length]
                have hrns : (bvs (rep (nb k))).toArray.size = 128 := by rw [bvs_size, rep_length]
                have g2 : (k : Int) ≤ (many : Int) := by omega
                have g3 : (k : Int) < (m : Int) := by omega
                have g4 : (0 : Int) ≤ (k : Int) := by omega
                clear hv hc q0 hre hrb hnb hbk hbks
                go_wp2_with fail
                refine (bytes_lit _ 0 0 rfl).mono ?_
                rintro e w8 ⟨rfl, hb⟩
                have hDk := hDk.below hb
                have hbb := below_base hbb hb
                simp only []
                clear hb
                repeat (first | ((with_reducible refine wpl_store_fresh (bvs (rep 0)).toArray i128 ?_ hr0s (bvs_all _) ?_ ?_ ?_); (focus kernel_rfl); (focus rfl); (focus rfl); intro w6 hS hl3 hb; simp only [Act.put]; refine Hid.out ?_) | go_values | go_skip | go_guarded | go_step | go_upon | go_back)
                refine Lib.hid ?_
                have hX := Out.new hDk hS
                have hDk := hDk.below hb
                have hbb0 := hbb
                have hbb := below_base hbb hb
                clear hb hS hl3
                have hwg : w.heap.size ≤ w8.heap.size := hbb0.1.size
                obtain ⟨gx, hgx⟩ : ∃ x, w8.heap.size = x := ⟨_, rfl⟩
                rw [hgx] at hX hwg ⊢
                clear hgx hbb0
                have hck := Q0.out _ hbb.1
                cases v
                · by_cases hkS : (k : Int) < S
                  · have hrb : readB dE (k : Int) = rep (nb k) := by rw [HRB.out, if_pos ⟨rfl, .inl hkS⟩]
                    clear HRB
                    have HRB := Lib.hid hrb
                    clear hrb
                    go_wp2_with fail
                    refine (bytes_lit _ (nb k) _ HNB.out).mono ?_
                    rintro e w9 ⟨rfl, hb⟩
                    have hX := hX.below hb
                    have hDk := hDk.below hb
                    have hbb := below_base hbb hb
                    have hXb := hX.1
                    simp only []
                    clear hb hck
                    repeat (first | ((with_reducible refine wpl_store gx _ _ (bvs (rep (nb k))).toArray i128 hXb hr0s hrns (bvs_all _) ?_ ?_ ?_); (focus rfl); (focus rfl); simp only [Act.put]; refine Hid.out ?_) | go_values | go_skip | go_guarded | go_step | go_upon | go_back)
                    refine Lib.hid ?_
                    have hDk := hDk.beside (grownBy_setRow _ gx (bvs (rep (nb k))).toArray) hX.2
                    have hX := hX.set (bvs (rep (nb k))).toArray
                    have hbb := base_setRow' (gw := gx) (cs := (bvs (rep (nb k))).toArray) hbb hwg
                    clear hXb
                    go_wp2_with fail
                    refine (gread _ base g _ _ hDk hlg4 (k : Int)).mono ?_
                    rw [HRB.out, HRE.out]
                    rintro e w10 ⟨rfl, hb⟩
                    have hX := hX.below hb
                    have hDk := hDk.below hb
                    have hbb := below_base hbb hb
                    simp only []
                    clear hb
                    repeat (first | ((with_reducible refine wpl_store_fresh (bvs (rep (nb k))).toArray i128 ?_ hrns (bvs_all _) ?_ ?_ ?_); (focus kernel_rfl); (focus rfl); (focus rfl); intro w11 hS hl3 hb; simp only [Act.put]; refine Hid.out ?_) | go_values | go_skip | go_guarded | go_step | go_upon | go_back)
                    refine Lib.hid ?_
                    have hX := hX.below hb
                    have hY := hS
                    have hDk := hDk.below hb
                    have hbb := below_base hbb hb
                    clear hb hS hl3
                    obtain ⟨gy, hgy⟩ : ∃ x, w10.heap.size = x := ⟨_, rfl⟩
                    rw [hgy] at hY ⊢
                    clear hgy
                    have hXb := hX.1
                    have hx : ∀ w, (Op.equalIn 10000 28 (.agg (bvs (rep (nb k))).toArray) (.agg (bvs (rep (nb k))).toArray)).run Try.prog w = .ok true w := fun w => by rw [eql128 (rep (nb k)) (rep (nb k)) (rep_length _) (rep_length _) w, decide_eq_true rfl]
                    repeat (first | ((with_reducible refine wpl_load gx _ _ Try.underlying28 i128 hXb hrns ?_ ?_); (focus rfl); simp only [Act.put, List.setIfInBounds_toArray, List.set_cons_zero, List.set_cons_succ]) | ((with_reducible refine wpl_load gy _ _ Try.underlying28 i128 hY hrns ?_ ?_); (focus rfl); simp only [Act.put, List.setIfInBounds_toArray, List.set_cons_zero, List.set_cons_succ]) | go_values | go_skip | go_guarded | go_step | go_upon | go_back)
                    exact ⟨⟨k + 1, by omega, congrArg (Value.int .i64) (by omega), hDk, hbb.1, hbb.2⟩, by simp [intOf]; omega⟩
                  · by_cases hq1 : q = 1
                    · have hrb : readB dE (k : Int) = rep (nb k) := by rw [HRB.out, if_pos ⟨rfl, .inr (HP1.out.2 hq1)⟩]
                      clear HRB
                      have HRB := Lib.hid hrb
                      have hqv : (P : Int) % 2 = 1 := by have := HQ.out; omega
                      clear hrb hq1
                      go_wp2_with fail
                      refine (bytes_lit _ (nb k) _ HNB.out).mono ?_
                      rintro e w9 ⟨rfl, hb⟩
                      have hX := hX.below hb
                      have hDk := hDk.below hb
                      have hbb := below_base hbb hb
                      have hXb := hX.1
                      simp only []
                      clear hb hck
                      repeat (first | ((with_reducible refine wpl_store gx _ _ (bvs (rep (nb k))).toArray i128 hXb hr0s hrns (bvs_all _) ?_ ?_ ?_); (focus rfl); (focus rfl); simp only [Act.put]; refine Hid.out ?_) | go_values | go_skip | go_guarded | go_step | go_upon | go_back)
                      refine Lib.hid ?_
                      have hDk := hDk.beside (grownBy_setRow _ gx (bvs (rep (nb k))).toArray) hX.2
                      have hX := hX.set (bvs (rep (nb k))).toArray
                      have hbb := base_setRow' (gw := gx) (cs := (bvs (rep (nb k))).toArray) hbb hwg
                      clear hXb
                      go_wp2_with fail
                      refine (gread _ base g _ _ hDk hlg4 (k : Int)).mono ?_
                      rw [HRB.out, HRE.out]
                      rintro e w10 ⟨rfl, hb⟩
                      have hX := hX.below hb
                      have hDk := hDk.below hb
                      have hbb := below_base hbb hb
                      simp only []
                      clear hb
                      repeat (first | ((with_reducible refine wpl_store_fresh (bvs (rep (nb k))).toArray i128 ?_ hrns (bvs_all _) ?_ ?_ ?_); (focus kernel_rfl); (focus rfl); (focus rfl); intro w11 hS hl3 hb; simp only [Act.put]; refine Hid.out ?_) | go_values | go_skip | go_guarded | go_step | go_upon | go_back)
                      refine Lib.hid ?_
                      have hX := hX.below hb
                      have hY := hS
                      have hDk := hDk.below hb
                      have hbb := below_base hbb hb
                      clear hb hS hl3
                      obtain ⟨gy, hgy⟩ : ∃ x, w10.heap.size = x := ⟨_, rfl⟩
                      rw [hgy] at hY ⊢
                      clear hgy
                      have hXb := hX.1
                      have hx : ∀ w, (Op.equalIn 10000 28 (.agg (bvs (rep (nb k))).toArray) (.agg (bvs (rep (nb k))).toArray)).run Try.prog w = .ok true w := fun w => by rw [eql128 (rep (nb k)) (rep (nb k)) (rep_length _) (rep_length _) w, decide_eq_true rfl]
                      repeat (first | ((with_reducible refine wpl_load gx _ _ Try.underlying28 i128 hXb hrns ?_ ?_); (focus rfl); simp only [Act.put, List.setIfInBounds_toArray, List.set_cons_zero, List.set_cons_succ]) | ((with_reducible refine wpl_load gy _ _ Try.underlying28 i128 hY hrns ?_ ?_); (focus rfl); simp only [Act.put, List.setIfInBounds_toArray, List.set_cons_zero, List.set_cons_succ]) | go_values | go_skip | go_guarded | go_step | go_upon | go_back)
                      exact ⟨⟨k + 1, by omega, congrArg (Value.int .i64) (by omega), hDk, hbb.1, hbb.2⟩, by simp [intOf]; omega⟩
                    · have hrb : readB dE (k : Int) = rep 0 := by rw [HRB.out, if_neg (by rintro ⟨_, h | h⟩; exact hkS h; exact hq1 (HP1.out.1 h))]
                      clear HRB
                      have HRB := Lib.hid hrb
                      have hqv : (P : Int) % 2 = 0 := by have := HQ.out; omega
                      clear hrb hq1
                      go_wp2_with fail
                      clear hck
                      refine (gread _ base g _ _ hDk hlg4 (k : Int)).mono ?_
                      rw [HRB.out, HRE.out]
                      rintro e w10 ⟨rfl, hb⟩
                      have hX := hX.below hb
                      have hDk := hDk.below hb
                      have hbb := below_base hbb hb
                      simp only []
                      clear hb
                      repeat (first | ((with_reducible refine wpl_store_fresh (bvs (rep 0)).toArray i128 ?_ hr0s (bvs_all _) ?_ ?_ ?_); (focus kernel_rfl); (focus rfl); (focus rfl); intro w11 hS hl3 hb; simp only [Act.put]; refine Hid.out ?_) | go_values | go_skip | go_guarded | go_step | go_upon | go_back)
                      refine Lib.hid ?_
                      have hX := hX.below hb
                      have hY := hS
                      have hDk := hDk.below hb
                      have hbb := below_base hbb hb
                      clear hb hS hl3
                      obtain ⟨gy, hgy⟩ : ∃ x, w10.heap.size = x := ⟨_, rfl⟩
                      rw [hgy] at hY ⊢
                      clear hgy
                      have hXb := hX.1
                      have hx : ∀ w, (Op.equalIn 10000 28 (.agg (bvs (rep 0)).toArray) (.agg (bvs (rep 0)).toArray)).run Try.prog w = .ok true w := fun w => by rw [eql128 (rep 0) (rep 0) (rep_length _) (rep_length _) w, decide_eq_true rfl]
                      repeat (first | ((with_reducible refine wpl_load gx _ _ Try.underlying28 i128 hXb hr0s ?_ ?_); (focus rfl); simp only [Act.put, List.setIfInBounds_toArray, List.set_cons_zero, List.set_cons_succ]) | ((with_reducible refine wpl_load gy _ _ Try.underlying28 i128 hY hr0s ?_ ?_); (focus rfl); simp only [Act.put, List.setIfInBounds_toArray, List.set_cons_zero, List.set_cons_succ]) | go_values | go_skip | go_guarded | go_step | go_upon | go_back)
                      exact ⟨⟨k + 1, by omega, congrArg (Value.int .i64) (by omega), hDk, hbb.1, hbb.2⟩, by simp [intOf]; omega⟩
                · have hrb : readB dE (k : Int) = rep 0 := by rw [HRB.out, if_neg (by rintro ⟨h, _⟩; cases h)]
                  clear HRB
                  have HRB := Lib.hid hrb
                  clear hrb
                  go_wp2_with fail
                  clear hck
                  refine (gread _ base g _ _ hDk hlg4 (k : Int)).mono ?_
                  rw [HRB.out, HRE.out]
                  rintro e w10 ⟨rfl, hb⟩
                  have hX := hX.below hb
                  have hDk := hDk.below hb
                  have hbb := below_base hbb hb
                  simp only []
                  clear hb
                  repeat (first | ((with_reducible refine wpl_store_fresh (bvs (rep 0)).toArray i128 ?_ hr0s (bvs_all _) ?_ ?_ ?_); (focus kernel_rfl); (focus rfl); (focus rfl); intro w11 hS hl3 hb; simp only [Act.put]; refine Hid.out ?_) | go_values | go_skip | go_guarded | go_step | go_upon | go_back)
                  refine Lib.hid ?_
                  have hX := hX.below hb
                  have hY := hS
                  have hDk := hDk.below hb
                  have hbb := below_base hbb hb
                  clear hb hS hl3
                  obtain ⟨gy, hgy⟩ : ∃ x, w10.heap.size = x := ⟨_, rfl⟩
                  rw [hgy] at hY ⊢
                  clear hgy
                  have hXb := hX.1
                  have hx : ∀ w, (Op.equalIn 10000 28 (.agg (bvs (rep 0)).toArray) (.agg (bvs (rep 0)).toArray)).run Try.prog w = .ok true w := fun w => by rw [eql128 (rep 0) (rep 0) (rep_length _) (rep_length _) w, decide_eq_true rfl]
                  repeat (first | ((with_reducible refine wpl_load gx _ _ Try.underlying28 i128 hXb hr0s ?_ ?_); (focus rfl); simp only [Act.put, List.setIfInBounds_toArray, List.set_cons_zero, List.set_cons_succ]) | ((with_reducible refine wpl_load gy _ _ Try.underlying28 i128 hY hr0s ?_ ?_); (focus rfl); simp only [Act.put, List.setIfInBounds_toArray, List.set_cons_zero, List.set_cons_succ]) | go_values | go_skip | go_guarded | go_step | go_upon | go_back)
                  exact ⟨⟨k + 1, by omega, congrArg (Value.int .i64) (by omega), hDk, hbb.1, hbb.2⟩, by simp [intOf]; omega⟩
              · obtain rfl : k = many + 1 := by omega
                have g2 : ¬ ((many + 1 : Nat) : Int) ≤ (many : Int) := by omega
                go_wp2_with fail
                go_meet
                exact ⟨hbk, hbks⟩
          case rest =>
            obtain ⟨hbk, hbks⟩ := hcut
            go_wp2_with fail
            refine (works4_any _).mono ?_
            rintro e w9 ⟨rfl, hb⟩
            go_wp2_with fail
            go_ret
            exact ⟨rfl, below_next' hbk hb⟩
theorem diskFuses_walk (w : World) (nn : UInt8) (A : Option Addr) (m c : Nat) (l : List Bool) (hl : l.length = m) (hr : Reads w w.heap.size 1 A m (l.flatMap fun b => [Value.bool b])) (pick : UInt8) :
    Calls Try.prog 7 #[.int .u8 (nn.toNat : Int), .slice A m c, .int .u8 (pick.toNat : Int)] w fun e w' => e = .returned (.bool true) ∧ Below w.heap.size w w' :=
  diskFuses_any w nn A m c l hl (by rw [List.map_eq_flatMap]; exact hr) pick
end Go.Proofs.Ytekpohchikbnnaa
