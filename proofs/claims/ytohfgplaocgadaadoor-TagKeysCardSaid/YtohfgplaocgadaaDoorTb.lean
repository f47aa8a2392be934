/- tag: turned. -/
import Derived.Test.YtohfgplaocgadaaDoorTa
namespace Go.Proofs.YtohfgplaocgadaaDoor
open Go.RowKit Go.Rat
theorem xor8 (x y : UInt8) : bits .xor .u8 (x.toNat : Int) (y.toNat : Int) = ((x ^^^ y).toNat : Int) := by
  have ha := x.toNat_lt
  have hb := y.toNat_lt
  have hx : (x.toNat ^^^ y.toNat) < 2 ^ 8 := Nat.xor_lt_two_pow ha hb
  have hv : (BitVec.ofNat 8 x.toNat ^^^ BitVec.ofNat 8 y.toNat).toNat = (x ^^^ y).toNat := by
    rw [BitVec.toNat_xor, BitVec.toNat_ofNat, BitVec.toNat_ofNat, Nat.mod_eq_of_lt ha, Nat.mod_eq_of_lt hb, UInt8.toNat_xor]
  have hlt := (x ^^^ y).toNat_lt
  simp only [bits, BitVec.ofInt_natCast]
  show IntKind.u8.wrap ((BitVec.ofNat 8 x.toNat ^^^ BitVec.ofNat 8 y.toNat).toNat : Int) = _
  rw [hv]
  exact wraps_u8 _ (Int.natCast_nonneg _) (by omega)
def keyF (n : Nat) (tb : List Int) (xs : List UInt8) : List UInt8 := if 64 < xs.length then digest n tb xs else xs
def padK (ks : List UInt8) : List UInt8 := ks ++ List.replicate (64 - ks.length) 0
def turnF (n : Nat) (tb : List Int) (xs : List UInt8) (y : UInt8) : List UInt8 := (padK (keyF n tb xs)).map (· ^^^ y)
theorem keyF_le (n : Nat) (tb : List Int) (xs : List UInt8) : (keyF n tb xs).length ≤ 64 := by
  unfold keyF
  split
  · rw [digest_length]; omega
  · omega
theorem padK_length {ks : List UInt8} (h : ks.length ≤ 64) : (padK ks).length = 64 := by rw [padK, List.length_append, List.length_replicate]; omega
theorem turnF_length (n : Nat) (tb : List Int) (xs : List UInt8) (y : UInt8) : (turnF n tb xs y).length = 64 := by rw [turnF, List.length_map, padK_length (keyF_le n tb xs)]
theorem padK_splice (ks : List UInt8) : Go.splice (List.replicate 64 (Value.int .u8 0)) 0 (bvs ks) = bvs (padK ks) := by
  rw [Go.splice, List.take_zero, List.nil_append, Nat.zero_add, bvs_length, List.drop_replicate, padK, bvs_append]
  congr 1
  simp [bvs, bv]
theorem wpl_makeB {w : World} {ops : Array Oper} {rest : List Oper} {a : Act} {Q : Exit → Act → World → Prop} {d : Option Tmp} {x y : Operand} {t : TypeId} {p : String} {af : Array Edge} (k : Nat) (hk : k < 1000000)
    (hx : a.eval x = .int .i64 (k : Int)) (hy : a.eval y = .int .i64 (k : Int))
    (h : ∀ w2, Blk w2 w.heap.size 5 (List.replicate k (Value.int .u8 0)).toArray → Below w.heap.size w w2 → w.heap.size < w2.heap.size → wpList Tryd.prog ops Q rest (a.put d (.slice (some ⟨w.heap.size, 0, none⟩) k k)) w2) :
    wpList Tryd.prog ops Q ({ dst := d, op := .makeSlice 28 x y, type := t, pos := p, after := af, guard := none } :: rest) a w :=
  make_bytes rfl x y rfl (k : Int) (k : Int) hx hy (Int.natCast_nonneg _) (Int.le_refl _) (by omega) (fun w2 h1 h2 h3 => h w2 h1 h2 (by omega))
theorem wpl_copyK {w : World} {ops : Array Oper} {rest : List Oper} {a : Act} {Q : Exit → Act → World → Prop} {d : Option Tmp} {x y : Operand} {t : TypeId} {p : String} {af : Array Edge}
    (G D dCap : Nat) (A : Option Addr) (m c : Nat) (T : TypeId) (cur : List Value) (ks : List UInt8) (hB : Blk w G T cur.toArray) (hr : RB w A m ks) (hmD : m ≤ D) (hfit : m ≤ cur.length)
    (hd : a.eval x = .slice (some ⟨G, 0, none⟩) D dCap) (hs : a.eval y = .slice A m c)
    (h : ∀ w', Blk w' G T (Go.splice cur 0 (bvs ks)).toArray → w.grownBy w' (some G) → wpList Tryd.prog ops Q rest (a.put d (.int .i64 (m : Int))) w') :
    wpList Tryd.prog ops Q ({ dst := d, op := .call { callee := .builtin .copy, args := #[x, y], argTypes := #[28, 28] }, type := t, pos := p, after := af, guard := none } :: rest) a w := by
  rcases Nat.eq_zero_or_pos m with h0 | h0
  · subst h0
    obtain rfl : ks = [] := List.eq_nil_of_length_eq_zero hr.len
    exact wpList_copy_nothing rfl x y _ _ rfl 5 Tryd.underlying28 (by kernel_rfl) (some ⟨G, 0, none⟩) A D dCap 0 c hd hs (by simp) (h w (by simpa [Go.splice, bvs] using hB) (World.grownBy.refl _ _))
  · have hk : ks.take m = ks := List.take_of_length_le (Nat.le_of_eq hr.len)
    refine wpl_copy_mid G 0 D dCap A m c T cur hB ks hr m (Nat.min_eq_left hmD).symm h0 (by omega) hd hs ?_
    rw [hk]
    exact h _ (hB.setRow _) (grownBy_setRow _ _ _)
set_option maxRecDepth 8000 in
set_option maxHeartbeats 4000000 in
theorem turned_any (n : Nat) (hn64 : n = 64) (w : World) (A : Option Addr) (m c : Nat) (xs : List UInt8) (y : UInt8) (hr : RB w A m xs) (hmc : m ≤ c) (hm : m < 144115188075855872) (tb : List Int) (hT : Tab w tb) :
    Calls Tryd.prog 39 #[.slice A m c, .int .u8 (y.toNat : Int)] w fun e w' => ∃ g, e = .returned (.slice (some ⟨g, 0, none⟩) 64 64) ∧ w.heap.size ≤ g ∧ Blk w' g 5 (bvs (turnF n tb xs y)).toArray ∧ Below w.heap.size w w' := by
  have HN := Lib.hid hn64
  clear hn64
  have hl := hr.len
  have hkl := keyF_le n tb xs
  obtain ⟨ks, hks⟩ : ∃ ks, keyF n tb xs = ks := ⟨_, rfl⟩
  obtain ⟨TF, hTF⟩ : ∃ TF, turnF n tb xs y = TF := ⟨_, rfl⟩
  have hTF2 : (padK ks).map (· ^^^ y) = TF := by rw [← hTF, turnF, hks]
  rw [hTF]
  rw [hks] at hkl
  have HTF := Lib.hid hTF2
  clear hTF hTF2
  go_enter Tryd.func39, Tryd.ntmps39
  by_cases hbig : 64 < m
  · have hbi : (64 : Int) < (m : Int) := by omega
    have hkd : digest n tb xs = ks := by rw [← hks, keyF, if_pos (by omega)]
    have hkl32 : ks.length = 32 := by rw [← hkd, digest_length]
    have HKD := Lib.hid hkd
    have hcat : catP [⟨A, m, c, xs⟩] = xs := by simp [catP]
    have hd32 : (bvs ks).toArray.size = 32 := by rw [bvs_size, hkl32]
    clear hks hkd
    repeat (first
      | (go_at_call 38; refine (tdigest_any n HN.out _ w.heap.size 28 [⟨A, m, c, xs⟩] 1 1 rfl (Blk.new w 28 #[.slice A m c]) (fun p hp => by simp at hp; subst hp; exact ⟨hr.alloc _, hmc⟩) (by rw [hcat]; omega) (by omega) tb (Tab.below hT (below_alloc _ _))).mono ?_; rw [hcat, HKD.out]; rintro e w2 ⟨rfl, hb2⟩; simp only [])
      | ((with_reducible refine wpl_store_fresh (bvs ks).toArray i32x8 ?_ hd32 (bvs_all _) ?_ ?_ ?_); (focus kernel_rfl); (focus rfl); (focus rfl); intro w3 hD3 hl3 hb3; refine Hid.out ?_)
      | go_values | go_skip | go_guarded | go_step | go_upon | go_back)
    refine Lib.hid ?_
    have hbw2 : Below w.heap.size w w2 := (below_alloc w (.cells #[.slice A m c] 28)).trans (hb2.mono (by simp))
    have hbK : Below w.heap.size w w3 := hbw2.trans (hb3.mono hbw2.size)
    have hrK : RB w3 (some ⟨w2.heap.size, 0, none⟩) 32 ks := by
      have := hD3.reads ks (by rw [List.take_of_length_le (by rw [bvs_length]; exact Nat.le_refl _)])
      rwa [hkl32] at this
    clear hb2 hb3 hbw2 hD3
    have hmK : 32 ≤ 64 := by omega
    repeat (first
      | ((with_reducible refine wpl_makeB 64 (by decide) ?_ ?_ ?_); (focus rfl); (focus rfl); intro wm hBm2 hbm hsz0; have hrm := hrK.below hbm; simp only [Act.put, List.setIfInBounds_toArray, List.set_cons_zero, List.set_cons_succ]; refine Hid.out ?_)
      | go_values | go_skip | go_guarded | go_step | go_upon | go_back)
    refine Lib.hid ?_
    repeat (first
      | ((with_reducible refine wpl_copyK w3.heap.size 64 64 (some (⟨w2.heap.size, 0, none⟩ : Addr)) 32 32 _ (List.replicate 64 (Value.int .u8 0)) ks hBm2 hrm hmK ?_ ?_ ?_ ?_); (focus (rw [List.length_replicate]; exact hmK)); (focus rfl); (focus rfl); intro wc hCc hgc; have hbc := hbm.grown hgc hbm.size (fun q hq => by cases hq; exact Nat.le_refl _); rw [padK_splice] at hCc; simp only [Act.put, List.setIfInBounds_toArray, List.set_cons_zero, List.set_cons_succ])
      | go_values | go_skip | go_guarded | go_step | go_upon | go_back)
    have hCc2 : Blk wc w3.heap.size 5 (bvs ((padK ks).map (· ^^^ y) |>.take 0) ++ bvs ((padK ks).drop 0)).toArray := hCc
    have hbW : Below w.heap.size w wc := hbK.trans (hbc.mono hbK.size)
    have hGw : w.heap.size ≤ w3.heap.size := hbK.size
    clear hCc hBm2 hbm hsz0 hbc hrK hrm hgc hmK
    generalize w3.heap.size = G at *
    have hpl := padK_length hkl
    go_loopw [19] (fun i wr => ∃ k : Nat, k ≤ 64 ∧ i = .int .i64 (k : Int) ∧ Blk wr G 5 (bvs ((padK ks).map (· ^^^ y) |>.take k) ++ bvs ((padK ks).drop k)).toArray ∧ wc.grownBy wr (some G)) (fun i _ => 64 - (intOf i).toNat)
    case atStart => exact ⟨0, Nat.zero_le _, rfl, hCc2, World.grownBy.refl _ _⟩
    case round =>
      obtain ⟨k, hk, rfl, hGk, hgk⟩ := hrel
      by_cases hk64 : k < 64
      · have hkp : k < (padK ks).length := by omega
        obtain ⟨x, hx⟩ : ∃ x, (padK ks)[k] = x := ⟨_, rfl⟩
        have hdrop : (padK ks).drop k = x :: (padK ks).drop (k + 1) := by rw [List.drop_eq_getElem_cons hkp, hx]
        have hlt : (bvs ((padK ks).map (· ^^^ y) |>.take k)).length = k := by rw [bvs_length, List.length_take, List.length_map]; omega
        have c1 : wr.cell? ⟨G, k, none⟩ = some (.int .u8 (x.toNat : Int)) := by
          rw [hGk.cell k, List.getElem?_toArray, List.getElem?_append_right (by omega), hlt, Nat.sub_self, hdrop]
          rfl
        have f1 := hGk.frozen k
        have hset := hGk.set_ k (.int .u8 ((x ^^^ y).toNat : Int))
        rw [List.setIfInBounds_toArray, List.set_append_right _ _ (by omega), hlt, Nat.sub_self, hdrop] at hset
        have hstep : bvs ((padK ks).map (· ^^^ y) |>.take k) ++ (bvs (x :: (padK ks).drop (k + 1))).set 0 (.int .u8 ((x ^^^ y).toNat : Int)) = bvs ((padK ks).map (· ^^^ y) |>.take (k + 1)) ++ bvs ((padK ks).drop (k + 1)) := by
          rw [List.take_add_one, List.getElem?_map, List.getElem?_eq_getElem hkp, hx]
          simp [bvs, bv]
        rw [hstep] at hset
        have hxx := xor8 x y
        have HXX := Lib.hid hxx
        have HSET := Lib.hid hset
        clear hset hstep hdrop hxx hx
        have g1 : (k : Int) < 64 := by omega
        have g0 : (0 : Int) ≤ (k : Int) := by omega
        go_wp2_with fail
        rw [HXX.out]
        exact ⟨⟨k + 1, by omega, congrArg (Value.int .i64) (by omega), HSET.out, hgk.trans (grownBy_set _ _ _ _)⟩, by simp only [intOf]; omega⟩
      · obtain rfl : k = 64 := by omega
        rw [List.take_of_length_le (by rw [List.length_map]; omega), List.drop_of_length_le (by omega), HTF.out] at hGk
        have hGk2 : Blk wr G 5 (bvs TF).toArray := by simpa [bvs] using hGk
        go_wp2_with fail
        go_ret
        exact ⟨G, rfl, hGw, hGk2, hbW.grown hgk hbW.size (fun q hq => by cases hq; exact hGw)⟩
  · have hbi : ¬ (64 : Int) < (m : Int) := by omega
    have hkd : ks = xs := by rw [← hks, keyF, if_neg (by omega)]
    subst hkd
    clear hks
    have hrK := hr
    have hmK : m ≤ 64 := by omega
    repeat (first
      | ((with_reducible refine wpl_makeB 64 (by decide) ?_ ?_ ?_); (focus rfl); (focus rfl); intro wm hBm2 hbm hsz0; have hrm := hrK.below hbm; simp only [Act.put, List.setIfInBounds_toArray, List.set_cons_zero, List.set_cons_succ]; refine Hid.out ?_)
      | go_values | go_skip | go_guarded | go_step | go_upon | go_back)
    refine Lib.hid ?_
    repeat (first
      | ((with_reducible refine wpl_copyK w.heap.size 64 64 A m c _ (List.replicate 64 (Value.int .u8 0)) ks hBm2 hrm hmK ?_ ?_ ?_ ?_); (focus (rw [List.length_replicate]; exact hmK)); (focus rfl); (focus rfl); intro wc hCc hgc; have hbc := hbm.grown hgc hbm.size (fun q hq => by cases hq; exact Nat.le_refl _); rw [padK_splice] at hCc; simp only [Act.put, List.setIfInBounds_toArray, List.set_cons_zero, List.set_cons_succ])
      | go_values | go_skip | go_guarded | go_step | go_upon | go_back)
    have hCc2 : Blk wc w.heap.size 5 (bvs ((padK ks).map (· ^^^ y) |>.take 0) ++ bvs ((padK ks).drop 0)).toArray := hCc
    have hbW : Below w.heap.size w wc := hbc
    have hGw : w.heap.size ≤ w.heap.size := Nat.le_refl _
    clear hCc hBm2 hbm hsz0 hbc hrK hrm hgc hmK
    clear hGw
    obtain ⟨G, hG⟩ : ∃ G, w.heap.size = G := ⟨_, rfl⟩
    have hGw : w.heap.size ≤ G := Nat.le_of_eq hG
    rw [hG] at hCc2 ⊢
    clear hG
    have hpl := padK_length hkl
    go_loopw [19] (fun i wr => ∃ k : Nat, k ≤ 64 ∧ i = .int .i64 (k : Int) ∧ Blk wr G 5 (bvs ((padK ks).map (· ^^^ y) |>.take k) ++ bvs ((padK ks).drop k)).toArray ∧ wc.grownBy wr (some G)) (fun i _ => 64 - (intOf i).toNat)
    case atStart => exact ⟨0, Nat.zero_le _, rfl, hCc2, World.grownBy.refl _ _⟩
    case round =>
      obtain ⟨k, hk, rfl, hGk, hgk⟩ := hrel
      by_cases hk64 : k < 64
      · have hkp : k < (padK ks).length := by omega
        obtain ⟨x, hx⟩ : ∃ x, (padK ks)[k] = x := ⟨_, rfl⟩
        have hdrop : (padK ks).drop k = x :: (padK ks).drop (k + 1) := by rw [List.drop_eq_getElem_cons hkp, hx]
        have hlt : (bvs ((padK ks).map (· ^^^ y) |>.take k)).length = k := by rw [bvs_length, List.length_take, List.length_map]; omega
        have c1 : wr.cell? ⟨G, k, none⟩ = some (.int .u8 (x.toNat : Int)) := by
          rw [hGk.cell k, List.getElem?_toArray, List.getElem?_append_right (by omega), hlt, Nat.sub_self, hdrop]
          rfl
        have f1 := hGk.frozen k
        have hset := hGk.set_ k (.int .u8 ((x ^^^ y).toNat : Int))
        rw [List.setIfInBounds_toArray, List.set_append_right _ _ (by omega), hlt, Nat.sub_self, hdrop] at hset
        have hstep : bvs ((padK ks).map (· ^^^ y) |>.take k) ++ (bvs (x :: (padK ks).drop (k + 1))).set 0 (.int .u8 ((x ^^^ y).toNat : Int)) = bvs ((padK ks).map (· ^^^ y) |>.take (k + 1)) ++ bvs ((padK ks).drop (k + 1)) := by
          rw [List.take_add_one, List.getElem?_map, List.getElem?_eq_getElem hkp, hx]
          simp [bvs, bv]
        rw [hstep] at hset
        have hxx := xor8 x y
        have HXX := Lib.hid hxx
        have HSET := Lib.hid hset
        clear hset hstep hdrop hxx hx
        have g1 : (k : Int) < 64 := by omega
        have g0 : (0 : Int) ≤ (k : Int) := by omega
        go_wp2_with fail
        rw [HXX.out]
        exact ⟨⟨k + 1, by omega, congrArg (Value.int .i64) (by omega), HSET.out, hgk.trans (grownBy_set _ _ _ _)⟩, by simp only [intOf]; omega⟩
      · obtain rfl : k = 64 := by omega
        rw [List.take_of_length_le (by rw [List.length_map]; omega), List.drop_of_length_le (by omega), HTF.out] at hGk
        have hGk2 : Blk wr G 5 (bvs TF).toArray := by simpa [bvs] using hGk
        go_wp2_with fail
        go_ret
        exact ⟨G, rfl, hGw, hGk2, hbW.grown hgk hbW.size (fun q hq => by cases hq; exact hGw)⟩
end Go.Proofs.YtohfgplaocgadaaDoor
