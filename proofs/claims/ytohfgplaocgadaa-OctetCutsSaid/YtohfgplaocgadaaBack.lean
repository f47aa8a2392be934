/- OctetBack: the plain law and the walk. -/
import Derived.Test.YtohfgplaocgadaaOrder
import Derived.Test.YtohfgplaocgadaaRegion

namespace Go.Proofs.Ytohfgplaocgadaa
open Go.RowKit Go.Rat
/-- What an item is written as. -/
def encF (it : Item) : List UInt8 := if it.1.toNat % 3 = 0 then be 8 it.2.1.toNat else if it.1.toNat % 3 = 1 then be 2 (it.2.1.toNat % 65536) else textB it.2.2
def encs (l : List Item) : List UInt8 := l.flatMap encF
theorem encs_cons (it : Item) (l : List Item) : encs (it :: l) = encF it ++ encs l := rfl
theorem encs_take {l : List Item} {k : Nat} {it : Item} (h : l[k]? = some it) : encs (l.take (k + 1)) = encs (l.take k) ++ encF it := by
  rw [List.take_add_one, h]
  simp [encs]
theorem textB_length (s : ByteArray) : (textB s).length = 2 + s.size := by
  unfold textB
  rw [List.length_append, be_length]
  rfl
theorem encF_len (it : Item) : 1 ≤ (encF it).length ∧ (encF it).length ≤ 8 + it.2.2.size := by
  unfold encF
  split
  · rw [be_length]; omega
  · split
    · rw [be_length]; omega
    · rw [textB_length]; omega
theorem encs_nil {l : List Item} (h : encs l = []) : l = [] := by
  cases l with
  | nil => rfl
  | cons it l =>
    have h2 := (encF_len it).1
    rw [(List.append_eq_nil_iff.1 h).1] at h2
    simp at h2
theorem takeF_app {xs ys : List UInt8} {k : Nat} (h : xs.length = k) : takeF (xs ++ ys) false (k : Int) = (xs, ys, false) := by
  rw [takeF_ok (by simp; omega), List.take_left' h, List.drop_left' h]
theorem textF_app (s : ByteArray) (ys : List UInt8) (hs : s.size ≤ 65535) : textF (textB s ++ ys) false s.size = (s.data.toList, ys, false) := by
  have h1 : takeF (textB s ++ ys) false 2 = (be 2 s.size, s.data.toList ++ ys, false) := by
    unfold textB
    rw [List.append_assoc]
    exact takeF_app (k := 2) (be_length _ _)
  have hd : s.data.toList.length = s.size := rfl
  unfold textF
  rw [h1]
  dsimp only
  rw [num_be, Nat.mod_eq_of_lt (show s.size < 256 ^ 2 by omega), if_neg (by rw [List.length_append, hd]; simp), List.take_left' hd, List.drop_left' hd]
theorem textF_cut (s : ByteArray) (zs : List UInt8) (x : UInt8) (hs : s.size ≤ 65535) (h : zs ++ [x] = textB s) : (textF zs false s.size).2.2 = true := by
  have hl := congrArg List.length h
  rw [textB_length, List.length_append, List.length_singleton] at hl
  unfold textF
  by_cases h2 : zs.length < 2
  · rw [takeF_bad (.inr (.inr (by omega)))]
    rfl
  · have hk : zs.take 2 = be 2 s.size := by
      have := congrArg (List.take 2) h
      rwa [List.take_append_of_le_length (by omega), textB, List.take_left' (be_length _ _)] at this
    have h1 : takeF zs false 2 = (be 2 s.size, zs.drop 2, false) := by
      have := takeF_ok (xs := zs) (k := 2) (by omega)
      rw [hk] at this
      exact this
    rw [h1]
    dsimp only
    rw [num_be, Nat.mod_eq_of_lt (show s.size < 256 ^ 2 by omega), if_pos (.inr (.inr (by rw [List.length_drop]; omega)))]
theorem itemF_enc (it : Item) (ys : List UInt8) (hs : it.2.2.size ≤ 65535) : itemF it (encF it ++ ys) false = (true, ys, false) := by
  have hn := it.2.1.toNat_lt
  unfold itemF encF
  split
  · have := takeF_app (xs := be 8 it.2.1.toNat) (ys := ys) (k := 8) (be_length _ _)
    rw [show ((8 : Nat) : Int) = 8 from rfl] at this
    simp only [this, num_be]
    rw [Nat.mod_eq_of_lt (show it.2.1.toNat < 256 ^ 8 by omega)]
    simp
  · split
    · have := takeF_app (xs := be 2 (it.2.1.toNat % 65536)) (ys := ys) (k := 2) (be_length _ _)
      rw [show ((2 : Nat) : Int) = 2 from rfl] at this
      simp only [this, num_be]
      rw [Nat.mod_eq_of_lt (show it.2.1.toNat % 65536 < 256 ^ 2 by omega)]
      simp
    · simp only [textF_app _ _ hs]
      simp [bstr]
theorem itemF_cut (it : Item) (zs : List UInt8) (x : UInt8) (hs : it.2.2.size ≤ 65535) (h : zs ++ [x] = encF it) : (itemF it zs false).2.2 = true := by
  have hl := congrArg List.length h
  rw [List.length_append, List.length_singleton] at hl
  unfold itemF
  unfold encF at h hl
  split at h
  · rename_i h0
    rw [if_pos h0] at hl ⊢
    rw [be_length] at hl
    rw [takeF_bad (.inr (.inr (by omega)))]
  · rename_i h0
    rw [if_neg h0] at hl ⊢
    split at h
    · rename_i h1
      rw [if_pos h1] at hl ⊢
      rw [be_length] at hl
      rw [takeF_bad (.inr (.inr (by omega)))]
    · rename_i h1
      rw [if_neg h1]
      exact textF_cut _ _ _ hs h
theorem cutsF_enc : ∀ (l : List Item), (∀ it ∈ l, it.2.2.size ≤ 65535) → cutsF l (encs l) false = (true, [], false)
  | [], _ => rfl
  | it :: l, h => by
    rw [encs_cons, cutsF, itemF_enc it _ (h _ (by simp))]
    simp only [if_true, and_self]
    exact cutsF_enc l fun i hi => h i (by simp [hi])
theorem cutsF_short (x : UInt8) : ∀ (l : List Item) (zs : List UInt8), (∀ it ∈ l, it.2.2.size ≤ 65535) → zs ++ [x] = encs l → (cutsF l zs false).1 = false
  | [], zs, _, h => by cases zs <;> simp [encs] at h
  | it :: l, zs, h, he => by
    rw [encs_cons] at he
    rcases List.eq_nil_or_concat (encs l) with h0 | ⟨ys, y, h0⟩
    · rw [h0, List.append_nil] at he
      rw [cutsF]
      have := itemF_cut it zs x (h _ (by simp)) he
      simp only [this, Bool.true_eq_false, and_false, if_false]
    · rw [List.concat_eq_append] at h0
      rw [h0, ← List.append_assoc] at he
      obtain ⟨rfl, he2⟩ := List.append_inj' he rfl
      simp only [List.cons.injEq, and_true] at he2
      subst he2
      rw [cutsF, itemF_enc it _ (h _ (by simp))]
      simp only [if_true, and_self]
      exact cutsF_short x l ys (fun i hi => h i (by simp [hi])) h0.symm
theorem wrap16_nat (b : Nat) : IntKind.u16.wrap (b : Int) = ((b % 65536 : Nat) : Int) := by simp [IntKind.wrap, IntKind.signed, IntKind.bits]
theorem octetBack_walk (w : World) (A : Option Addr) (n c : Nat) (l : List Item) (hl : l.length = n) (hr : Reads w w.heap.size 3 A n (l.flatMap itemCells)) :
    Calls Try.prog 5 #[.slice A n c] w fun e w' => e = .returned (.bool true) ∧ Below w.heap.size w w' := by
  by_cases h60 : n ≤ 60
  · have hd : decide ((60 : Int) < (n : Int)) = false := by simp; omega
    have HN := Lib.hid h60
    have HL := Lib.hid hl
    clear hl h60
    go_enter Try.func5, Try.ntmps5
    go_wp2_with fail
    go_loopw [3, 4] (fun b i wr => ∃ (k N C : Nat) (B : Option Addr), k ≤ n ∧ i = .int .i64 k ∧ b = .slice B N C ∧ RB wr B N (encs (l.take k)) ∧ N ≤ C ∧ N ≤ k * 2056 ∧ (∀ it ∈ l.take k, it.2.2.size ≤ 65535) ∧ Below w.heap.size w wr) (fun _ i _ => n - (intOf i).toNat)
    case atStart => exact ⟨0, 0, 0, none, Nat.zero_le _, rfl, rfl, RB.nil_ _ _, by omega, by omega, by simp, Below.refl _ _⟩
    case round =>
      obtain ⟨k, N, C, B, hkn, rfl, rfl, hB, hNC, hN, hT, hb⟩ := hrel
      have HT := Lib.hid hT
      have HB := Lib.hid hN
      clear hT hN
      have hn60 := HN.out
      by_cases hlt : k < n
      · obtain ⟨ad, kd, nn, st, rfl, hit, hbl, hc0, hc1, hc2⟩ := items_at hr hlt
        have e0 := (hb.cell hbl).trans hc0
        have e1 := (hb.cell (p := ⟨(ad.add (k * 3)).block, (ad.add (k * 3)).off + 1, none⟩) hbl).trans hc1
        have e2 := (hb.cell (p := ⟨(ad.add (k * 3)).block, (ad.add (k * 3)).off + 2, none⟩) hbl).trans hc2
        have hb' : (ad.add (k * 3)).block < wr.heap.size := Nat.lt_of_lt_of_le hbl hb.size
        by_cases hst : st.size ≤ 2048
        · have HE := Lib.hid (encs_take hit)
          have hTn : ∀ it ∈ l.take (k + 1), it.2.2.size ≤ 65535 := by
            intro it hi
            rw [List.take_add_one, hit, List.mem_append] at hi
            rcases hi with hi | hi
            · exact HT.out _ hi
            · obtain rfl : it = (kd, nn, st) := by simpa using hi
              show st.size ≤ 65535
              omega
          have HT2 := Lib.hid hTn
          have hsd : decide ((2048 : Int) < (st.size : Int)) = false := by simp; omega
          have HS := Lib.hid hst
          clear hc0 hc1 hc2 hit hTn hst
          go_wp2_with (first
            | (go_at_call 12; refine (word_any wr B N C _ nn.toNat hB (by have := HB.out; have := HN.out; omega) nn.toNat_lt).mono ?_; rintro e w1 ⟨B1, N1, C1, rfl, hO1, hb1⟩)
            | (go_at_call 14; rw [wrap16_nat]; refine (half_any wr B N C _ (nn.toNat % 65536) hB (by have := HB.out; have := HN.out; omega) (by omega)).mono ?_; rintro e w1 ⟨B1, N1, C1, rfl, hO1, hb1⟩)
            | (go_at_call 10; refine (text_any wr B N C _ st hB (by have := HB.out; have := HN.out; omega) (by have := HS.out; omega)).mono ?_; rintro e w1 ⟨B1, N1, C1, rfl, hO1, hb1⟩))
          · rename_i h0
            have hF : encF (kd, nn, st) = be 8 nn.toNat := if_pos (by have := eq_of_beq h0; show kd.toNat % 3 = 0; omega)
            have hE := HE.out
            rw [hF] at hE
            have hn1 := hO1.len
            have hn0 := hB.len
            rw [List.length_append, be_length] at hn1
            have := HB.out
            exact ⟨⟨k + 1, N1, C1, B1, by omega, by go_num, rfl, by rw [hE]; exact hO1.reads, hO1.cap.1, by omega, HT2.out, hb.trans (hb1.mono hb.size)⟩, by simp [intOf]; omega⟩
          · rename_i h0 h1
            have hF : encF (kd, nn, st) = be 2 (nn.toNat % 65536) := (if_neg (by have := ne_of_beq_false h0; show ¬ kd.toNat % 3 = 0; omega)).trans (if_pos (by have := eq_of_beq h1; show kd.toNat % 3 = 1; omega))
            have hE := HE.out
            rw [hF] at hE
            have hn1 := hO1.len
            have hn0 := hB.len
            rw [List.length_append, be_length] at hn1
            have := HB.out
            exact ⟨⟨k + 1, N1, C1, B1, by omega, by go_num, rfl, by rw [hE]; exact hO1.reads, hO1.cap.1, by omega, HT2.out, hb.trans (hb1.mono hb.size)⟩, by simp [intOf]; omega⟩
          · rename_i h0 h1
            have hF : encF (kd, nn, st) = textB st := (if_neg (by have := ne_of_beq_false h0; show ¬ kd.toNat % 3 = 0; omega)).trans (if_neg (by have := ne_of_beq_false h1; show ¬ kd.toNat % 3 = 1; omega))
            have hE := HE.out
            rw [hF] at hE
            have hn1 := hO1.len
            have hn0 := hB.len
            rw [List.length_append, textB_length] at hn1
            have := HB.out
            have := HS.out
            exact ⟨⟨k + 1, N1, C1, B1, by omega, by go_num, rfl, by rw [hE]; exact hO1.reads, hO1.cap.1, by omega, HT2.out, hb.trans (hb1.mono hb.size)⟩, by simp [intOf]; omega⟩
        · have hsd : decide ((2048 : Int) < (st.size : Int)) = true := by simp; omega
          clear hc0 hc1 hc2 hit hst
          go_wp2_with (go_at_call 9; refine (works_any _).mono ?_; rintro e w9 ⟨rfl, hb9⟩)
          go_ret
          exact ⟨rfl, hb.trans (hb9.mono hb.size)⟩
      · obtain rfl : k = n := by omega
        rw [List.take_of_length_le (by have := HL.out; omega)] at hB
        have hT := HT.out
        rw [List.take_of_length_le (by have := HL.out; omega)] at hT
        have HT2 := Lib.hid hT
        clear hT HT
        have hC0 := cutsF_enc l HT2.out
        have HC := Lib.hid hC0
        clear hC0
        have hAne : ∀ g, wr.heap.size ≤ g → 0 < k → A.map (·.block) ≠ some g := by
          intro g hg h0 he
          obtain ⟨ad, rfl, hlt, _⟩ := hr.2 h0
          simp only [Option.map_some, Option.some.injEq] at he
          have := hb.size
          omega
        have hn0 := hB.len
        have HE := Lib.hid hn0
        clear hn0 hn60
        by_cases hN0 : N = 0
        · subst hN0
          go_wp2_with (first
            | (go_at_call 17; refine (cnew_any wr B 0 C _ hB (by omega)).mono ?_; rintro e w2 ⟨g, gb, rfl, hC2, hg2, hgl2, hgb2, hb2⟩; have hr2 := (hr.below (hb.trans (hb2.mono hb.size))).more (B' := w2.heap.size) (Nat.le_trans hb.size hb2.size))
            | (go_at_call 18; refine (cuts_any w2 g gb _ false A k c l hC2 (by have := HN.out; omega) hr2 (hAne g hg2)).mono ?_; rw [HC.out]; rintro e w3 ⟨rfl, hC3, hg3⟩; dsimp only at hC3)
            | (go_at_call 19; refine (cleft_any w3 g gb _ _ hC3).mono ?_; rintro e w' ⟨rfl, rfl⟩; have hl0 : (([] : List UInt8).length : Int) = 0 := rfl)
            | (go_at_call 9; refine (works_any _).mono ?_; rintro e w9 ⟨rfl, hb9⟩))
          go_ret
          have hs3 := hg3.size
          have h3 : Below w.heap.size w w3 := (hb.trans (hb2.mono hb.size)).trans ((below_of_grownBy hg3 (B := wr.heap.size) (fun k hk => by cases hk; exact hg2) hb2.size).mono hb.size)
          exact ⟨rfl, h3.trans (hb9.mono h3.size)⟩
        · have hpos : 0 < N := by omega
          have hN1 : 1 ≤ N := by omega
          have hNb : N ≤ 123360 := by have := HB.out; have := HN.out; omega
          obtain ⟨zs, x, hzx⟩ : ∃ zs x, zs ++ [x] = encs l := by
            rcases List.eq_nil_or_concat (encs l) with h0 | ⟨zs, x, h0⟩
            · have := HE.out; rw [h0] at this; exact absurd this.symm hN0
            · exact ⟨zs, x, by rw [h0, List.concat_eq_append]⟩
          have hS0 := cutsF_short x l zs HT2.out hzx
          have HS := Lib.hid hS0
          have hzl : zs.length = N - 1 := by
            have := HE.out
            rw [← hzx, List.length_append, List.length_singleton] at this
            omega
          have hB1 : RB wr B (N - 1) zs := by
            have := Reads.take_ hB (k := N - 1) (by omega)
            rwa [← hzx, Nat.mul_one, bvs_append, List.take_left' (by rw [bvs_length]; exact hzl)] at this
          clear hS0 hzx hzl
          go_wp2_with (first
            | (go_at_call 17; refine (cnew_any wr B N C _ hB (by have := HB.out; have := HN.out; omega)).mono ?_; rintro e w2 ⟨g, gb, rfl, hC2, hg2, hgl2, hgb2, hb2⟩; have hr2 := (hr.below (hb.trans (hb2.mono hb.size))).more (B' := w2.heap.size) (Nat.le_trans hb.size hb2.size))
            | (go_at_call 18; refine (cuts_any w2 g gb _ false A k c l hC2 (by have := HN.out; omega) hr2 (hAne g hg2)).mono ?_; rw [HC.out]; rintro e w3 ⟨rfl, hC3, hg3⟩; dsimp only at hC3)
            | (go_at_call 19; refine (cleft_any w3 g gb _ _ hC3).mono ?_; rintro e w' ⟨rfl, rfl⟩; have hl0 : (([] : List UInt8).length : Int) = 0 := rfl))
          have hs3 := hg3.size
          have h3 : Below w.heap.size w w3 := (hb.trans (hb2.mono hb.size)).trans ((below_of_grownBy hg3 (B := wr.heap.size) (fun k hk => by cases hk; exact hg2) hb2.size).mono hb.size)
          have h3r : Below wr.heap.size wr w3 := hb2.trans (below_of_grownBy hg3 (B := wr.heap.size) (fun k hk => by cases hk; exact hg2) hb2.size)
          refine (cnew_any w3 B (N - 1) C _ (hB1.below h3r) (by omega)).mono ?_
          rintro e w4 ⟨g2, gb2, rfl, hC4, hg4, hgl4, hgb4, hb4⟩
          have hr4 := (hr.below (h3.trans (hb4.mono h3.size))).more (B' := w4.heap.size) (Nat.le_trans h3.size hb4.size)
          clear hC2 hC3 hr2 hl0
          go_wp2_with (first
            | (go_at_call 18; refine (cuts_any w4 g2 gb2 _ false A k c l hC4 (by have := HN.out; omega) hr4 (hAne g2 (Nat.le_trans h3r.size hg4))).mono ?_; rw [HS.out]; rintro e w5 ⟨rfl, hC5, hg5⟩; clear hC5)
            | (go_at_call 9; refine (works_any _).mono ?_; rintro e w9 ⟨rfl, hb9⟩))
          go_ret
          have h5 : Below w.heap.size w w5 := (h3.trans (hb4.mono h3.size)).trans ((below_of_grownBy hg5 (B := w3.heap.size) (fun k hk => by cases hk; exact hg4) hb4.size).mono h3.size)
          exact ⟨rfl, h5.trans (hb9.mono h5.size)⟩
  · have hd : decide ((60 : Int) < (n : Int)) = true := by simp; omega
    clear h60
    go_enter Try.func5, Try.ntmps5
    go_wp2_with (go_at_call 9; refine (works_any _).mono ?_; rintro e w9 ⟨rfl, hb9⟩)
    go_ret
    exact ⟨rfl, hb9⟩
end Go.Proofs.Ytohfgplaocgadaa
