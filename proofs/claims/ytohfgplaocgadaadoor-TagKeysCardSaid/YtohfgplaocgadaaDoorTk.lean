/- ratchetref03: with. -/
import Derived.Test.YtohfgplaocgadaaDoorTj
namespace Go.Proofs.YtohfgplaocgadaaDoor
open Go.RowKit Go.Rat
theorem OB.blk {w : World} {base n c : Nat} {e : TypeId} {A : Option Addr} {xs : List UInt8} (h : OB e w base A n c xs) (hn : 0 < n) :
    ∃ g rest, A = some ⟨g, 0, none⟩ ∧ base ≤ g ∧ Blk w g e (bvs xs ++ rest).toArray ∧ (bvs xs ++ rest).length = c ∧ n ≤ c ∧ c ≤ maxLen := by
  have hl := h.len
  rcases h.2 with ⟨h1, h2⟩ | ⟨g, cap, cur, hv, hb, hg, hnc, hm, hcs, ht⟩
  · omega
  · injection hv with h3 h4 h5
    subst h3 h5
    rw [Nat.mul_one] at hcs ht
    refine ⟨g, cur.toList.drop n, rfl, hb, ?_, ?_, hnc, hm⟩
    · rw [← ht, List.take_append_drop]
      exact hg
    · rw [← ht, List.take_append_drop]
      simpa using hcs
theorem OB.of_blk {w : World} {base n c g : Nat} {e : TypeId} {xs : List UInt8} {rest : List Value} (hg : Blk w g e (bvs xs ++ rest).toArray) (hb : base ≤ g) (hl : xs.length = n) (hc : (bvs xs ++ rest).length = c) (hm : c ≤ maxLen) : OB e w base (some ⟨g, 0, none⟩) n c xs := by
  refine ⟨by rw [bvs_length, hl, Nat.mul_one], .inr ⟨g, c, (bvs xs ++ rest).toArray, rfl, hb, hg, ?_, hm, by simpa using hc, ?_⟩⟩
  · rw [← hc, List.length_append, bvs_length]; omega
  · rw [Nat.mul_one, List.take_append_of_le_length (by rw [bvs_length]; omega), List.take_of_length_le (by rw [bvs_length]; omega)]
theorem pad_step (ks : List UInt8) (k : Nat) (hk : ks.length ≤ k) : ks ++ List.replicate (k - ks.length) 0 ++ [0] = ks ++ List.replicate (k + 1 - ks.length) 0 := by
  rw [List.append_assoc, ← List.replicate_succ', show k - ks.length + 1 = k + 1 - ks.length by omega]
theorem map_step (ps : List UInt8) (f : UInt8 → UInt8) (k : Nat) (hk : k < ps.length) (rest : List Value) :
    (bvs ((ps.map f).take k ++ ps.drop k) ++ rest).set k (.int .u8 ((f ps[k]).toNat : Int)) = bvs ((ps.map f).take (k + 1) ++ ps.drop (k + 1)) ++ rest := by
  have hl : (bvs ((ps.map f).take k)).length = k := by rw [bvs_length, List.length_take, List.length_map]; omega
  rw [bvs_append, List.append_assoc, List.set_append_right _ _ (by omega), hl, Nat.sub_self, List.drop_eq_getElem_cons hk, List.take_add_one, List.getElem?_map, List.getElem?_eq_getElem hk, Option.map_some, Option.toList_some, bvs_append, bvs_append, List.append_assoc, List.append_assoc]
  rfl
theorem map_at (ps : List UInt8) (f : UInt8 → UInt8) (k : Nat) (hk : k < ps.length) (rest : List Value) :
    (bvs ((ps.map f).take k ++ ps.drop k) ++ rest)[k]? = some (.int .u8 ((ps[k]).toNat : Int)) := by
  have hl : (bvs ((ps.map f).take k)).length = k := by rw [bvs_length, List.length_take, List.length_map]; omega
  rw [bvs_append, List.append_assoc, List.getElem?_append_right (by omega), hl, Nat.sub_self, List.drop_eq_getElem_cons hk]
  rfl
set_option maxRecDepth 8000 in
set_option maxHeartbeats 4000000 in
theorem rwith_any (n : Nat) (hn64 : n = 64) (w : World) (A : Option Addr) (m c : Nat) (xs : List UInt8) (y : UInt8) (hr : RB w A m xs) (hm : m < 144115188075) (tb : List Int) (htb : tblL = tb) :
    Calls Tryd.prog 40 #[.slice A m c, .int .u8 (y.toNat : Int)] w fun e w' => ∃ A' c', e = .returned (.slice A' 64 c') ∧ OB 5 w' w.heap.size A' 64 c' (turnF n tb xs y) ∧ Below w.heap.size w w' := by
  have HN := Lib.hid hn64
  have HTB := Lib.hid htb
  clear hn64 htb
  have hl := hr.len
  have hkl := keyF_le n tb xs
  obtain ⟨ks, hks⟩ : ∃ ks, keyF n tb xs = ks := ⟨_, rfl⟩
  obtain ⟨TF, hTF⟩ : ∃ TF, turnF n tb xs y = TF := ⟨_, rfl⟩
  have hTF2 : (padK ks).map (· ^^^ y) = TF := by rw [← hTF, turnF, hks]
  rw [hTF]
  rw [hks] at hkl
  have HTF := Lib.hid hTF2
  clear hTF hTF2
  have hpl := padK_length hkl
  have hpk : padK ks = ks ++ List.replicate (64 - ks.length) 0 := rfl
  go_enter Tryd.func40, Tryd.ntmps40
  have hO0 := OB.empty w 5
  have hb0 := below_alloc w (.cells #[] 5)
  have hr0 := hr.alloc (.cells #[] 5)
  by_cases hbig : 64 < m
  focus
    have hkd : digest n tb xs = ks := by rw [← hks, keyF, if_pos (by omega)]
    have hkl32 : ks.length = 32 := by rw [← hkd, digest_length]
    have hd32 : (bvs ks).toArray.size = 32 := by rw [bvs_size, hkl32]
    have HKD := Lib.hid hkd
    clear hks hkd
    have hbi : (64 : Int) < (m : Int) := by omega
    go_wp2_with (at_builtin; refine app_bytes rfl _ _ rfl w.heap.size _ _ _ [] rfl hO0 _ _ _ xs rfl hr0 (by omega) (by simp) ?_; intro A2 N2 c2 w2 hc2 hc3 hO2 hG2; rw [List.nil_append] at hO2; obtain rfl : N2 = m := hO2.len.symm.trans hl; have hb2 := hG2.own hb0 (Nat.le_refl _) hO0; have hr2 := hr.below hb2)
    repeat (first
      | (go_at_call 15; refine (rsum_any n HN.out w2 A _ c xs tb HTB.out hr2 (by omega)).mono ?_; rw [HKD.out]; rintro e w3 ⟨rfl, hb3⟩; simp only []; have hbb3 := hb2.trans (hb3.mono hb2.size))
      | ((with_reducible refine wpl_store_fresh (bvs ks).toArray i32x8 ?_ hd32 (bvs_all _) ?_ ?_ ?_); (focus kernel_rfl); (focus rfl); (focus rfl); intro w4 hD4 hl4 hb4; have hbb4 := hbb3.trans (hb4.mono hbb3.size); have hrK := rb_row hD4 32 hkl32; have hO4 := (OB.empty w4 5).mono hbb4.size; have hbb4s := hbb4.size; have hb4' := below_alloc2 hbb4 (Nat.le_refl _) (.cells #[] 5); have hrK4 := hrK.alloc (.cells #[] 5))
      | (at_builtin; refine app_bytes rfl _ _ rfl w.heap.size _ _ _ [] rfl hO4 _ _ _ ks rfl hrK4 (by omega) (by simp; omega) ?_; intro A5 N5 c5 w5 hc5 hc6 hO5 hG5; rw [List.nil_append] at hO5; have hb5 := hG5.own hb4' (Nat.le_refl _) hO4)
      | go_values | go_skip | go_guarded | go_step | go_upon | go_back)
    clear hr2 hO2 hG2 hbb3 hbb4 hb4' hb4 hD4 hrK hrK4 hO4 hG5 hc2 hc3 hb3 hb2 hO0 hb0 hr0 hbi hkl32 hd32 hl4 hbb4s
  rotate_left
  focus
    have hkd : ks = xs := by rw [← hks, keyF, if_neg (by omega)]
    subst hkd
    clear hks
    have hbi : ¬ (64 : Int) < (m : Int) := by omega
    go_wp2_with (at_builtin; refine app_bytes rfl _ _ rfl w.heap.size _ _ _ [] rfl hO0 _ _ _ ks rfl hr0 (by omega) (by simp) ?_; intro A5 N5 c5 w5 hc5 hc6 hO5 hG5; rw [List.nil_append] at hO5; have hb5 := hG5.own hb0 (Nat.le_refl _) hO0; have hN5 : N5 = m := hO5.len.symm.trans hl; have hbi : ¬ (64 : Int) < (N5 : Int) := (by omega); have HN5 := Lib.hid hN5; clear hN5)
    clear hG5 hO0 hb0 hr0 hbi
    clear hl
  rotate_left
  all_goals
    obtain rfl : N5 = ks.length := (OB.len hO5).symm
    clear hr
    go_loopw [5] (fun v wr => ∃ A3 k c3, v = .slice A3 k c3 ∧ ks.length ≤ k ∧ k ≤ 64 ∧ OB 5 wr w.heap.size A3 k c3 (ks ++ List.replicate (k - ks.length) 0) ∧ Below w.heap.size w wr) (fun v _ => 64 - lenV v)
    case atStart => exact ⟨A5, ks.length, c5, rfl, Nat.le_refl _, hkl, by rw [Nat.sub_self]; simpa using hO5, hb5⟩
    case round =>
      obtain ⟨A3, k, c3, rfl, hk1, hk2, hO3, hb3⟩ := hrel
      clear hO5 hb5 hc5 hc6
      have hbs := hb3.size
      by_cases hk64 : k < 64
      · have g1 : (k : Int) < 64 := by omega
        go_wp2_with (at_builtin; refine app_bytes rfl _ _ rfl w.heap.size _ _ _ _ rfl (hO3.alloc _) _ _ _ [0] rfl (RB.one_ _ _ rfl) (by omega) (by simp; omega) ?_; intro A4 N4 c4 w4 hc4 hc5 hO4 hG4)
        rw [pad_step ks k hk1] at hO4
        have hN4 := hO4.len
        rw [List.length_append, List.length_replicate] at hN4
        obtain rfl : N4 = k + 1 := by omega
        exact ⟨⟨A4, k + 1, c4, rfl, by omega, by omega, hO4, hG4.own (below_alloc2 hb3 (Nat.le_refl _) _) (Nat.le_refl _) (hO3.alloc _)⟩, by simp only [lenV]; omega⟩
      · obtain rfl : k = 64 := by omega
        rw [← hpk] at hO3
        obtain ⟨g, rest, rfl, hgw, hB, hBl, hc3, hcm⟩ := OB.blk hO3 (by omega)
        have g1 : ¬ ((64 : Nat) : Int) < 64 := by decide
        have hB0 : Blk wr g 5 (bvs (((padK ks).map (· ^^^ y)).take 0 ++ (padK ks).drop 0) ++ rest).toArray := hB
        have hBL : Hid ((bvs (padK ks) ++ rest).length = c3) := hBl
        clear hBl hO3 hB
        go_wp2_with fail
        go_loopw [7] (fun i wq => ∃ k : Nat, k ≤ 64 ∧ i = .int .i64 (k : Int) ∧ Blk wq g 5 (bvs (((padK ks).map (· ^^^ y)).take k ++ (padK ks).drop k) ++ rest).toArray ∧ wr.grownBy wq (some g)) (fun i _ => 64 - (intOf i).toNat)
        case atStart => exact ⟨0, Nat.zero_le _, rfl, hB0, World.grownBy.refl _ _⟩
        case round =>
          obtain ⟨k, hk, rfl, hGk, hgk⟩ := hrel
          clear hB0
          by_cases hk64 : k < 64
          · have hkp : k < (padK ks).length := by omega
            have c1 := hGk.cell k
            rw [List.getElem?_toArray, map_at (padK ks) (· ^^^ y) k hkp rest] at c1
            have f1 := hGk.frozen k
            have hset := hGk.set_ k (.int .u8 (((padK ks)[k] ^^^ y).toNat : Int))
            rw [List.setIfInBounds_toArray, map_step (padK ks) (· ^^^ y) k hkp rest] at hset
            have hxx := xor8 (padK ks)[k] y
            generalize (padK ks)[k] = x at *
            have HXX := Lib.hid hxx
            have HSET := Lib.hid hset
            clear hset hxx
            have g1 : (k : Int) < 64 := by omega
            have g0 : (0 : Int) ≤ (k : Int) := by omega
            go_wp2_with fail
            rw [HXX.out]
            exact ⟨⟨k + 1, by omega, congrArg (Value.int .i64) (by omega), HSET.out, hgk.trans (grownBy_set _ _ _ _)⟩, by simp only [intOf]; omega⟩
          · obtain rfl : k = 64 := by omega
            rw [List.take_of_length_le (by rw [List.length_map]; omega), List.drop_of_length_le (by omega), HTF.out, List.append_nil] at hGk
            have hTl : TF.length = 64 := by rw [← HTF.out, List.length_map]; exact hpl
            have hcl : (bvs TF ++ rest).length = c3 := by rw [← hBL.out, List.length_append, List.length_append, bvs_length, bvs_length, hTl, hpl]
            have HO := OB.of_blk (base := w.heap.size) hGk hgw hTl hcl hcm
            clear hcl hTl
            go_wp2_with fail
            go_ret
            exact ⟨_, c3, rfl, HO, hb3.grown hgk hbs (fun q hq => by cases hq; exact hgw)⟩
end Go.Proofs.YtohfgplaocgadaaDoor
