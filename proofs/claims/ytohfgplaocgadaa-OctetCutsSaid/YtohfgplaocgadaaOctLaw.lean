/- octet: the statements' own functions (works, less, cuts). -/
import Derived.Test.YtohfgplaocgadaaOct
import Derived.Deep.RegionHeld3
namespace Go.Proofs.Ytohfgplaocgadaa
open Go.RowKit Go.Rat

theorem ab_text : textB ⟨#[97, 98]⟩ = [0, 2, 97, 98] := by decide
theorem ab_cut : textF [0, 2, 97, 98] false 1 = ([], [0, 2, 97, 98], true) := by decide
theorem w258 : ([] : List UInt8) ++ be 8 258 = [0, 0, 0, 0, 0, 0, 1, 2] := by decide
theorem h258 : [(7 : UInt8)] ++ be 2 258 = [7, 1, 2] := by decide
set_option maxHeartbeats 400000 in
theorem works_any (w : World) : Calls Try.prog 9 #[] w fun e w' => e = .returned (.bool true) ∧ Below w.heap.size w w' := by
  go_enter Try.func9, Try.ntmps9
  go_wp2_with (first
    | (go_at_call 10; refine (text_any w none 0 0 [] ⟨#[97, 98]⟩ (RB.nil_ _ _) (by omega) (by decide)).mono ?_; rintro e w1 ⟨A1, N1, c1, rfl, hO1, hb1⟩; rw [List.nil_append, ab_text] at hO1)
    | (go_at_call 17; refine (cnew_any w1 A1 N1 c1 _ hO1.reads (by have := hO1.len; simp at this; omega)).mono ?_; rintro e w2 ⟨g, gb, rfl, hC2, hg2, hgl2, hgb2, hb2⟩; have hO2 := hO1.grown (grownBy_of_below hb2 none) (.inr rfl))
    | (go_at_call 26; refine (ctext_any w2 g gb _ false 1 hC2).mono ?_; rw [ab_cut]; rintro e w3 ⟨rfl, hC3, hg3⟩; dsimp only at hC3; have e0 : bstr [] = ⟨#[]⟩ := rfl; have hO3 := hO2.grown hg3 (.inl (by intro h; have := (hO1.ge g h).2; omega)))
    | (go_at_call 12; refine (word_any w3 none 0 0 [] 258 (RB.nil_ _ _) (by omega) (by decide)).mono ?_; rintro e w4 ⟨A4, N4, c4, rfl, hO4, hb4⟩; rw [w258] at hO4; have hg4 := grownBy_of_below hb4 none; have hC4 := hC3.grown hg4 (by simp) (.inr rfl); have hv4 : Sem.run Try.prog (convert 22 9 (.slice A4 N4 c4)) w4 = .ok (.string ⟨#[0, 0, 0, 0, 0, 0, 1, 2]⟩) w4 := (conv_str hO4.reads c4); have hv1 : Sem.run Try.prog (convert 22 9 (.slice A1 N1 c1)) w4 = .ok (.string ⟨#[0, 2, 97, 98]⟩) w4 := (conv_str (hO3.grown hg4 (.inr rfl)).reads c1))
    | (go_at_call 30; refine (cok_any w4 g gb _ _ hC4).mono ?_; rintro e w' ⟨rfl, rfl⟩)
    | (go_at_call 19; refine (cleft_any w4 g gb _ _ hC4).mono ?_; rintro e w' ⟨rfl, rfl⟩)
    | (go_at_call 14; refine (half_any _ _ 1 _ [7] 258 (RB.one_ w4 _ rfl) (by omega) (by decide)).mono ?_; rintro e w5 ⟨A5, N5, c5, rfl, hO5, hb5⟩; rw [h258] at hO5; have hv5 : Sem.run Try.prog (convert 22 9 (.slice A5 N5 c5)) w5 = .ok (.string ⟨#[7, 1, 2]⟩) w5 := (conv_str hO5.reads c5)))
  go_ret
  have s1 := hb1.size
  have s2 := hb2.size
  have s3 := hg3.size
  have s4 := hb4.size
  have h1 := hb1.trans (hb2.mono s1)
  have h2 := h1.trans (below_of_grownBy (B := w.heap.size) hg3 (fun k hk => by cases hk; omega) (by omega))
  have h3 := h2.trans (hb4.mono (by omega))
  exact ⟨rfl, (h3.alloc h3.size _).trans (hb5.mono (by simp; omega))⟩

/-- An item: its kind, its number, its text. -/
abbrev Item := UInt8 × UInt64 × ByteArray
def itemCells (it : Item) : List Value := [.int .u8 (it.1.toNat : Int), .int .u64 (it.2.1.toNat : Int), .string it.2.2]
/-- One item is cut: is it the same; what is left; is it spoilt. -/
def itemF (it : Item) (xs : List UInt8) (bad : Bool) : Bool × List UInt8 × Bool :=
  if it.1.toNat % 3 = 0 then let F := takeF xs bad 8; (decide (num F.1 = it.2.1.toNat), F.2)
  else if it.1.toNat % 3 = 1 then let F := takeF xs bad 2; (decide (num F.1 = it.2.1.toNat % 65536), F.2)
  else let F := textF xs bad it.2.2.size; (decide (bstr F.1 = it.2.2), F.2)
def cutsF : List Item → List UInt8 → Bool → Bool × List UInt8 × Bool
  | [], xs, bad => (!bad, xs, bad)
  | it :: l, xs, bad => let F := itemF it xs bad; if F.1 = true ∧ F.2.2 = false then cutsF l F.2.1 F.2.2 else (false, F.2)
theorem add_field (ad : Addr) (j i : Nat) (hi : 0 < i) : (⟨(ad.add j).block, (ad.add j).off + i, none⟩ : Addr) = ad.add (j + i) := by
  unfold Addr.add
  by_cases hj : j = 0
  · subst hj
    simp; omega
  · simp [hj]; omega
theorem flat_get {α : Type} (f : α → List Value) (s : Nat) (hf : ∀ a, (f a).length = s) : ∀ (l : List α) (k i : Nat) (a : α), l[k]? = some a → i < s → (l.flatMap f)[k * s + i]? = (f a)[i]? := by
  intro l
  induction l with
  | nil => intro k i a h; simp at h
  | cons x l ih =>
    intro k i a h hi
    rw [List.flatMap_cons]
    cases k with
    | zero =>
      simp at h
      subst h
      rw [Nat.zero_mul, Nat.zero_add, List.getElem?_append_left (by rw [hf]; exact hi)]
    | succ k =>
      simp at h
      rw [List.getElem?_append_right (by rw [hf, Nat.succ_mul]; omega), hf, show (k + 1) * s + i - s = k * s + i by rw [Nat.succ_mul]; omega]
      exact ih k i a h hi
theorem cuts_step {l : List Item} {k : Nat} {it : Item} (h : l[k]? = some it) (ys : List UInt8) (b : Bool) :
    cutsF (l.drop k) ys b = (if (itemF it ys b).1 = true ∧ (itemF it ys b).2.2 = false then cutsF (l.drop (k + 1)) (itemF it ys b).2.1 (itemF it ys b).2.2 else (false, (itemF it ys b).2)) := by
  obtain ⟨hk, rfl⟩ := List.getElem?_eq_some_iff.1 h
  rw [List.drop_eq_getElem_cons hk]
  rfl
theorem nat_beq (a b : Nat) : ((a : Int) == (b : Int)) = decide (a = b) := by
  rw [Bool.eq_iff_iff]; simp; omega
theorem wrap16_beq (a b : Nat) : ((a : Int) == IntKind.u16.wrap (b : Int)) = decide (a = b % 65536) := by
  rw [IntKind.wrap_u16, Bool.eq_iff_iff]; simp; omega
theorem str_beq (a b : ByteArray) : (a.toList == b.toList) = decide (a = b) := by
  rw [Bool.eq_iff_iff, _root_.Go.ByteArray.toList_eq, _root_.Go.ByteArray.toList_eq]
  simp only [beq_iff_eq, decide_eq_true_eq]
  constructor
  · intro h; cases a; cases b; simp_all
  · rintro rfl; rfl
theorem flat_len {α : Type} (f : α → List Value) (s : Nat) (hf : ∀ a, (f a).length = s) (l : List α) : (l.flatMap f).length = l.length * s := by
  rw [List.length_flatMap, List.map_congr_left (g := fun _ => s) (fun a _ => hf a), List.map_const', List.sum_replicate_nat]
theorem items_at {w : World} {A : Option Addr} {n : Nat} {l : List Item} (h : Reads w w.heap.size 3 A n (l.flatMap itemCells)) {k : Nat} (hk : k < n) :
    ∃ ad kd nn st, A = some ad ∧ l[k]? = some (kd, nn, st) ∧ (ad.add (k * 3)).block < w.heap.size ∧ w.cell? (ad.add (k * 3)) = some (.int .u8 (kd.toNat : Int)) ∧ w.cell? ⟨(ad.add (k * 3)).block, (ad.add (k * 3)).off + 1, none⟩ = some (.int .u64 (nn.toNat : Int)) ∧ w.cell? ⟨(ad.add (k * 3)).block, (ad.add (k * 3)).off + 2, none⟩ = some (.string st) := by
  obtain ⟨ad, rfl, hb, hc⟩ := h.2 (by omega)
  have hlen : (l.flatMap itemCells).length = l.length * 3 := by
    rw [List.length_flatMap]
    show (l.map fun _ => 3).sum = l.length * 3
    simp [List.map_const']
  have hkl : k < l.length := by have := h.1; omega
  obtain ⟨kd, nn, st, hg⟩ : ∃ kd nn st, l[k]? = some (kd, nn, st) := ⟨_, _, _, List.getElem?_eq_getElem hkl⟩
  have F := flat_get itemCells 3 (fun _ => rfl) l k
  refine ⟨ad, kd, nn, st, rfl, hg, by rw [block_of_add]; exact hb, ?_, ?_, ?_⟩
  · exact hc _ _ (by have := F 0 _ hg (by omega); simpa [itemCells] using this)
  · rw [add_field _ _ _ (by omega)]
    exact hc _ _ (by have := F 1 _ hg (by omega); simpa [itemCells] using this)
  · rw [add_field _ _ _ (by omega)]
    exact hc _ _ (by have := F 2 _ hg (by omega); simpa [itemCells] using this)
theorem cell_kept {w w' : World} {row : Option Nat} (h : w.grownBy w' row) {p : Addr} (hp : p.block < w.heap.size) (hr : some p.block ≠ row) : w'.cell? p = w.cell? p := World.cell?_of_block (h.block _ hp hr)
set_option maxHeartbeats 400000 in
theorem cuts_any (w : World) (g : Nat) (gb : Option Nat) (xs : List UInt8) (bad : Bool) (A : Option Addr) (n c : Nat) (l : List Item) (hC : CutAt w g 61 gb xs bad) (hn : n ≤ 100)
    (hl : Reads w w.heap.size 3 A n (l.flatMap itemCells)) (hA : 0 < n → A.map (·.block) ≠ some g) :
    Calls Try.prog 18 #[.pointer (some ⟨g, 0, none⟩), .slice A n c] w fun e w' => e = .returned (.bool (cutsF l xs bad).1) ∧
      CutAt w' g 61 gb (cutsF l xs bad).2.1 (cutsF l xs bad).2.2 ∧ w.grownBy w' (some g) := by
  obtain ⟨t1, t2, t3, hT⟩ : ∃ t1 t2 t3, cutsF l xs bad = (t1, t2, t3) := ⟨_, _, _, rfl⟩
  rw [hT]
  have HT := Lib.hid hT
  clear hT
  go_enter Try.func18, Try.ntmps18
  go_wp2_with fail
  go_loopw [5] (fun i wr => ∃ (k : Nat) (ys : List UInt8) (b : Bool), k ≤ n ∧ i = .int .i64 k ∧ CutAt wr g 61 gb ys b ∧ w.grownBy wr (some g) ∧ cutsF (l.drop k) ys b = (t1, t2, t3)) (fun i _ => n - (intOf i).toNat)
  case atStart => exact ⟨0, xs, bad, Nat.zero_le _, rfl, hC, World.grownBy.refl _ _, HT.out⟩
  case round =>
    obtain ⟨k, ys, b, hk, rfl, hCr, hgr, hT⟩ := hrel
    have HT' := Lib.hid hT
    clear hT HT
    by_cases hlt : k < n
    · obtain ⟨ad, kd, nn, st, rfl, hit, hb, hc0, hc1, hc2⟩ := items_at hl hlt
      have hblk : some (ad.add (k * 3)).block ≠ some g := by simpa [block_of_add] using hA (by omega)
      have e0 := (cell_kept hgr hb hblk).trans hc0
      have e1 := (cell_kept hgr (p := ⟨(ad.add (k * 3)).block, (ad.add (k * 3)).off + 1, none⟩) hb hblk).trans hc1
      have e2 := (cell_kept hgr (p := ⟨(ad.add (k * 3)).block, (ad.add (k * 3)).off + 2, none⟩) hb hblk).trans hc2
      have hb' : (ad.add (k * 3)).block < wr.heap.size := Nat.lt_of_lt_of_le hb hgr.size
      clear hc0 hc1 hc2 hl
      have HD := Lib.hid (cuts_step hit ys b)
      clear hit
      by_cases h0 : (kd.toNat % 3 = 0)
      · have HI : Hid (itemF (kd, nn, st) ys b = ((((num (takeF ys b 8).1 : Nat) : Int) == (nn.toNat : Int)), (takeF ys b 8).2)) := by
          show _ = _
          rw [itemF, if_pos h0, nat_beq]
        go_wp2_with fail
        go_region_held3 (fun w' => w'.cell? ⟨(ad.add (k * 3)).block, (ad.add (k * 3)).off + 1, none⟩ = some (.int .u64 (nn.toNat : Int))) (first | assumption | go_keep) ((go_at_call 20; refine (cword_any _ g gb ys b (by exact hCr)).mono ?_; rintro e w1 ⟨rfl, hC1, hg1⟩; have e1' := (cell_kept hg1 (p := ⟨(ad.add (k * 3)).block, (ad.add (k * 3)).off + 1, none⟩) hb' hblk).trans e1))
        generalize (((num (takeF ys b 8).1 : Nat) : Int) == (nn.toNat : Int)) = sm at *
        generalize (takeF ys b 8).2 = F at *
        obtain ⟨zs, b'⟩ := F
        have hg2 : w.grownBy w1 (some g) := hgr.trans (grown_drew hg1)
        clear e0 e1 e2 e1' hb hb'
        have h1 := HD.out.symm.trans HT'.out
        rw [HI.out] at h1
        dsimp only at h1 hC1
        cases sm <;> cases b' <;> simp only [Bool.false_eq_true, false_and, and_false, and_self, if_true, if_false, reduceCtorEq] at h1
        all_goals
          have H1 := Lib.hid h1
          clear h1 hC hCr hgr HT' hA hblk HD hg1 HI
          go_wp2_with (go_at_call 30; refine (cok_any w1 g gb _ _ hC1).mono ?_; rintro e w' ⟨rfl, rfl⟩)
        · go_ret; cases H1.out; exact ⟨rfl, hC1, hg2⟩
        · go_ret; cases H1.out; exact ⟨rfl, hC1, hg2⟩
        · exact ⟨⟨k + 1, zs, false, by omega, by go_num, hC1, hg2, H1.out⟩, by simp [intOf]; omega⟩
        · go_ret; cases H1.out; exact ⟨rfl, hC1, hg2⟩
      · by_cases h1k : (kd.toNat % 3 = 1)
        · have HI : Hid (itemF (kd, nn, st) ys b = ((((num (takeF ys b 2).1 : Nat) : Int) == IntKind.u16.wrap (nn.toNat : Int)), (takeF ys b 2).2)) := by
            show _ = _
            rw [itemF, if_neg h0, if_pos h1k, wrap16_beq]
          go_wp2_with fail
          go_region_held3 (fun w' => w'.cell? ⟨(ad.add (k * 3)).block, (ad.add (k * 3)).off + 1, none⟩ = some (.int .u64 (nn.toNat : Int))) (first | assumption | go_keep) ((go_at_call 22; refine (chalf_any _ g gb ys b (by exact hCr)).mono ?_; rintro e w1 ⟨rfl, hC1, hg1⟩; have e1' := (cell_kept hg1 (p := ⟨(ad.add (k * 3)).block, (ad.add (k * 3)).off + 1, none⟩) hb' hblk).trans e1))
          generalize (((num (takeF ys b 2).1 : Nat) : Int) == IntKind.u16.wrap (nn.toNat : Int)) = sm at *
          generalize (takeF ys b 2).2 = F at *
          obtain ⟨zs, b'⟩ := F
          have hg2 : w.grownBy w1 (some g) := hgr.trans (grown_drew hg1)
          clear e0 e1 e2 e1' hb hb'
          have h1 := HD.out.symm.trans HT'.out
          rw [HI.out] at h1
          dsimp only at h1 hC1
          cases sm <;> cases b' <;> simp only [Bool.false_eq_true, false_and, and_false, and_self, if_true, if_false, reduceCtorEq] at h1
          all_goals
            have H1 := Lib.hid h1
            clear h1 hC hCr hgr HT' hA hblk HD hg1 HI
            go_wp2_with (go_at_call 30; refine (cok_any w1 g gb _ _ hC1).mono ?_; rintro e w' ⟨rfl, rfl⟩)
          · go_ret; cases H1.out; exact ⟨rfl, hC1, hg2⟩
          · go_ret; cases H1.out; exact ⟨rfl, hC1, hg2⟩
          · exact ⟨⟨k + 1, zs, false, by omega, by go_num, hC1, hg2, H1.out⟩, by simp [intOf]; omega⟩
          · go_ret; cases H1.out; exact ⟨rfl, hC1, hg2⟩
        · have HI : Hid (itemF (kd, nn, st) ys b = (((bstr (textF ys b st.size).1).toList == st.toList), (textF ys b st.size).2)) := by
            show _ = _
            rw [itemF, if_neg h0, if_neg h1k, str_beq]
          go_wp2_with fail
          go_region_held3 (fun w' => w'.cell? ⟨(ad.add (k * 3)).block, (ad.add (k * 3)).off + 2, none⟩ = some (.string st)) (first | assumption | go_keep) ((go_at_call 26; refine (ctext_any _ g gb ys b _ (by exact hCr)).mono ?_; rintro e w1 ⟨rfl, hC1, hg1⟩; have e1' := (cell_kept hg1 (p := ⟨(ad.add (k * 3)).block, (ad.add (k * 3)).off + 2, none⟩) hb' hblk).trans e2))
          generalize ((bstr (textF ys b st.size).1).toList == st.toList) = sm at *
          generalize (textF ys b st.size).2 = F at *
          obtain ⟨zs, b'⟩ := F
          have hg2 : w.grownBy w1 (some g) := hgr.trans (grown_drew hg1)
          clear e0 e1 e2 e1' hb hb'
          have h1 := HD.out.symm.trans HT'.out
          rw [HI.out] at h1
          dsimp only at h1 hC1
          cases sm <;> cases b' <;> simp only [Bool.false_eq_true, false_and, and_false, and_self, if_true, if_false, reduceCtorEq] at h1
          all_goals
            have H1 := Lib.hid h1
            clear h1 hC hCr hgr HT' hA hblk HD hg1 HI
            go_wp2_with (go_at_call 30; refine (cok_any w1 g gb _ _ hC1).mono ?_; rintro e w' ⟨rfl, rfl⟩)
          · go_ret; cases H1.out; exact ⟨rfl, hC1, hg2⟩
          · go_ret; cases H1.out; exact ⟨rfl, hC1, hg2⟩
          · exact ⟨⟨k + 1, zs, false, by omega, by go_num, hC1, hg2, H1.out⟩, by simp [intOf]; omega⟩
          · go_ret; cases H1.out; exact ⟨rfl, hC1, hg2⟩
    · obtain rfl : k = n := by omega
      have h1 := HT'.out
      rw [List.drop_of_length_le (by have := hl.1; rw [flat_len itemCells 3 (fun _ => rfl)] at this; omega)] at h1
      have H1 := Lib.hid h1
      clear h1 hl HT' hA hC
      go_wp2_with (go_at_call 30; refine (cok_any wr g gb _ _ hCr).mono ?_; rintro e w' ⟨rfl, rfl⟩)
      go_ret
      cases H1.out
      exact ⟨rfl, hCr, hgr⟩

end Go.Proofs.Ytohfgplaocgadaa
