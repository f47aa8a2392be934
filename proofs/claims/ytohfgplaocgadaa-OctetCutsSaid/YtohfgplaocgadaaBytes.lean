/- Byte slices: append, slices.Clone, slices.Grow, octet.put[uint64], octet.Word, ratchetref01.put, ratchetref01.Word: what each call computes and what it leaves of memory. -/
import Derived.Test.YtohfgplaocgadaaRows
import Derived.Test.YtohfgplaocgadaaBase
import Derived.Lib.AppendStr
namespace Go.Proofs.Ytohfgplaocgadaa
open Go.RowKit Go.Rat
theorem u8info : (Try.prog.info? 5).map (fun i => (i.zero, i.size, i.bytes)) = some (some (.int .u8 0), 1, 1) := by kernel_rfl
section
variable {w : World}
/-- append of bytes onto bytes of the call's own. -/
theorem app_bytes {ops : Array Oper} {rest : List Oper} {o : Oper} {a : Act} {Q : Exit → Act → World → Prop} (hgd : o.guard = none) (s x : Operand)
    (ho : o.op = .call { callee := .builtin .append, args := #[s, x], argTypes := #[22, 22] })
    (base : Nat) (A : Option Addr) (n c : Nat) (xs : List UInt8) (hs : a.eval s = .slice A n c) (hown : OB 5 w base A n c xs)
    (A' : Option Addr) (m c' : Nat) (news : List UInt8) (hx : a.eval x = .slice A' m c') (hr : RB w A' m news)
    (hbytes : n + m ≤ 140737488355328) (hbase : base ≤ w.heap.size)
    (h : ∀ A2 N2 c2 w2, N2 ≤ c2 → c2 ≤ 9223372036854775807 → OB 5 w2 base A2 N2 c2 (xs ++ news) → Grew w w2 A A2 → wpList Try.prog ops Q rest (a.put o.dst (.slice A2 N2 c2)) w2) :
    wpList Try.prog ops Q (o :: rest) a w := by
  obtain ⟨i0, hi, hz0, hz1, hz2⟩ := info_parts u8info
  exact wpl_append hgd s x 22 ho base 5 i0 _ 1 1 Try.underlying22 hi hz0 hz1 hz2 rfl (by omega) A n c (bvs xs) hs hown A' m c' (bvs news) hx ⟨_, hr⟩ (bvs_one _)
    (by simp only [maxLen]; omega) (by omega) hbase (fun A2 N2 c2 w2 hc hc' h1 h2 => h A2 N2 c2 w2 hc hc' (by unfold OB; rw [bvs_append]; exact h1) h2)
theorem app_str {ops : Array Oper} {rest : List Oper} {o : Oper} {a : Act} {Q : Exit → Act → World → Prop} (hgd : o.guard = none) (s x : Operand)
    (ho : o.op = .call { callee := .builtin .append, args := #[s, x], argTypes := #[22, 9] })
    (base : Nat) (A : Option Addr) (n c : Nat) (xs : List UInt8) (hs : a.eval s = .slice A n c) (hown : OB 5 w base A n c xs)
    (st : ByteArray) (hx : a.eval x = .string st) (hbytes : n + st.size ≤ 140737488355328) (hbase : base ≤ w.heap.size)
    (h : ∀ A2 N2 c2 w2, N2 ≤ c2 → c2 ≤ 9223372036854775807 → OB 5 w2 base A2 N2 c2 (xs ++ st.data.toList) → w.grownBy w2 (A.map (·.block)) → wpList Try.prog ops Q rest (a.put o.dst (.slice A2 N2 c2)) w2) :
    wpList Try.prog ops Q (o :: rest) a w := by
  obtain ⟨i0, hi, hz0, hz1, hz2⟩ := info_parts u8info
  refine wpList_plain hgd fun K hK => ?_
  obtain ⟨v', w2, hrun, h2, h3, _⟩ := Lib.run_append_own_string (P := Try.prog) w base 22 9 o.type 5 i0 Try.underlying22 Try.underlying9 hi hz0 hz1 hz2 _ n (bvs xs) hown st (by simp only [maxLen]; omega) hbytes hbase
  have hv : ∃ A2 c2, v' = .slice A2 (n + st.size) c2 := by
    rcases h2.2 with ⟨h, h'⟩ | ⟨g, cap, cur, h, _⟩
    · exact ⟨none, 0, by rw [h, h']⟩
    · exact ⟨_, _, h⟩
  obtain ⟨A2, c2, rfl⟩ := hv
  have hob : (Value.slice A n c).ownBlock = A.map (·.block) := by cases A <;> rfl
  rw [hob] at h3
  unfold Oper.wp execOp
  simp only [ho, resolve, invoke, builtin, Sem.run_bind, Sem.run_pure, Result.andThen_ok, List.map_toArray, List.map_cons, List.map_nil, hs, hx, hrun]
  exact hK _ _ (h _ _ _ _ (own_cap h2).1 (own_cap h2).2 (by unfold OB; rw [bvs_append]; exact h2) h3)
theorem app_zeros {ops : Array Oper} {rest : List Oper} {o : Oper} {a : Act} {Q : Exit → Act → World → Prop} (hgd : o.guard = none) (s x : Operand)
    (ho : o.op = .call { callee := .builtin .append, args := #[s, x], argTypes := #[22, 3] })
    (base : Nat) (A : Option Addr) (c : Nat) (xs : List Value) (hs : a.eval s = .slice A c c) (hown : w.ownsRow base 5 1 (.slice A c c) c xs)
    (k : Int) (hx : a.eval x = .int .i64 k) (hk : 0 < k) (hbytes : c + k.toNat ≤ 140737488355328) (hbase : base ≤ w.heap.size)
    (h : ∀ A2 N2 c2 w2, N2 ≤ c2 → c2 ≤ 9223372036854775807 → w2.ownsRow base 5 1 (.slice A2 N2 c2) N2 (xs ++ List.replicate k.toNat (.int .u8 0)) → Grew w w2 none A2 → wpList Try.prog ops Q rest (a.put o.dst (.slice A2 N2 c2)) w2) :
    wpList Try.prog ops Q (o :: rest) a w := by
  obtain ⟨i0, hi, hz0, hz1, hz2⟩ := info_parts u8info
  exact wpl_append_zeros hgd s x 22 3 ho base 5 i0 _ 1 Try.underlying22 ⟨_, Try.underlying3⟩ hi hz0 hz1 hz2 rfl A c xs hs hown k hx hk
    (by simp only [maxLen]; omega) (by omega) hbase h
end

/-- Bytes as a text. -/
def bstr (xs : List UInt8) : ByteArray := ⟨xs.toArray⟩
theorem bstr_data (s : ByteArray) : bstr s.data.toList = s := by cases s; simp [bstr]
theorem data_bstr (xs : List UInt8) : (bstr xs).data.toList = xs := by simp [bstr]
theorem bstr_inj {xs ys : List UInt8} (h : bstr xs = bstr ys) : xs = ys := by rw [← data_bstr xs, ← data_bstr ys, h]
theorem push_all (xs : List UInt8) : ∀ s : ByteArray, (xs.map fun x => (x.toNat : Int)).foldl (fun r n => r.push (UInt8.ofNat n.toNat)) s = ⟨s.data ++ xs.toArray⟩ := by
  induction xs with
  | nil => intro s; simp
  | cons x xs ih =>
    intro s
    simp only [List.map_cons, List.foldl_cons]
    rw [ih]
    have : UInt8.ofNat ((x.toNat : Int).toNat) = x := by simp
    rw [this]
    simp [ByteArray.push]
/-- string(b) -/
theorem conv_str {w : World} {A : Option Addr} {n : Nat} {xs : List UInt8} (h : RB w A n xs) (c : Nat) : (convert 22 9 (.slice A n c)).run Try.prog w = .ok (.string (bstr xs)) w := by
  have hl := h.len
  rcases A with _ | ad
  · obtain rfl : n = 0 := h.nil0
    obtain rfl : xs = [] := List.eq_nil_of_length_eq_zero hl
    simp [convert, run_underlying Try.underlying22, run_underlying Try.underlying9, run_underlying Try.underlying5, Conv.bytesToString, bstr]
    rfl
  · have hcells : (loadCells ad n).run Try.prog w = .ok ((xs.map fun x => (x.toNat : Int)).map (Value.int .u8)).toArray w := by
      have := run_firstCells_some (P := Try.prog) w 1 n ad n c (bvs xs) (by rw [bvs_length]; omega) (fun j u hu => by
        obtain ⟨ad', he, _, hc⟩ := h.2 (by have := (List.getElem?_eq_some_iff.1 hu).1; rw [bvs_length] at this; omega)
        cases he
        exact hc j u hu)
      simp only [Builtin.firstCells, Nat.mul_one, bvs] at this
      rw [this, List.map_map]
      rfl
    rw [run_convert_bytes_string w _ _ _ _ _ _ Try.underlying22 Try.underlying5 Try.underlying9, run_bytesToString w ad n c _ hcells, push_all]
    simp [bstr]

set_option maxHeartbeats 400000 in
theorem clone_any (w : World) (A : Option Addr) (n c : Nat) (xs : List UInt8) (hr : RB w A n xs) (hn : n ≤ 140737488355328) :
    Calls Try.prog 34 #[.slice A n c] w fun e w' => ∃ A' c', e = .returned (.slice A' n c') ∧ OB 5 w' w.heap.size A' n c' xs ∧ Below w.heap.size w w' := by
  rcases A with _ | ad
  · obtain rfl : n = 0 := hr.nil0
    obtain rfl : xs = [] := List.eq_nil_of_length_eq_zero hr.len
    have hnil := fun (w : World) (n c : Nat) => Lib.run_eql_slice_nil w 22 5 none n c 0 0 Try.underlying22
    go_enter Try.func34, Try.ntmps34
    go_wp2_with fail
    go_ret
    exact ⟨none, 0, rfl, OB.nil_ _ _ _, Below.refl _ _⟩
  · have hnil := fun (w : World) (n c : Nat) => Lib.run_eql_slice_nil w 22 5 (some ad) n c 0 0 Try.underlying22
    go_enter Try.func34, Try.ntmps34
    go_wp2_with (at_builtin; refine app_bytes rfl _ _ rfl w.heap.size _ _ _ [] rfl (OB.empty _ _) _ _ _ xs rfl (hr.below (below_alloc _ _)) (by omega) (by simp) ?_; intro A2 N2 c2 w2 hc2 hc3 hO hG)
    go_ret
    obtain rfl : N2 = n := by have := hO.len; have := hr.len; simp at *; omega
    exact ⟨A2, c2, rfl, hO, hG.below (below_alloc _ _) (by simp) (by simp)⟩

theorem take_first {xs : List UInt8} {zs ys : List Value} {n : Nat} (hl : n ≤ zs.length) (h : zs.take (n * 1) = bvs xs) : (zs ++ ys).take (n * 1) = bvs xs := by
  rw [List.take_append_of_le_length (by omega), h]
set_option maxHeartbeats 400000 in
theorem grow_any (w : World) (base : Nat) (A : Option Addr) (n c : Nat) (xs : List UInt8) (k : Int) (hO : OB 5 w base A n c xs) (hb : base ≤ w.heap.size) (h0 : 0 ≤ k) (h1 : k ≤ 8) (hn : n ≤ 140737488000000) :
    Calls Try.prog 38 #[.slice A n c, .int .i64 k] w fun e w' => ∃ A' c', e = .returned (.slice A' n c') ∧ OB 5 w' base A' n c' xs ∧ Below w.heap.size w w' := by
  have hnc := hO.cap.1
  have hc := hO.cap.2
  by_cases hk : k ≤ (c : Int) - n
  · go_enter Try.func38, Try.ntmps38
    go_wp2_with fail
    go_ret
    exact ⟨A, c, rfl, hO, Below.refl _ _⟩
  · obtain ⟨zs, hz, hzt⟩ := own_full hO
    have hzl := hz.1
    go_enter Try.func38, Try.ntmps38
    go_wp2_with (at_builtin; refine app_zeros rfl _ _ rfl base _ _ zs rfl hz _ rfl (by omega) (by omega) hb ?_; intro A2 N2 c2 w2 hc2 hc3 hO2 hG; have hN2 : n ≤ N2 := (by have h1 := hO2.1; simp at h1; omega))
    go_ret
    refine ⟨A2, c2, rfl, ?_, hG.below (Below.refl _ _) (Nat.le_refl _) (by simp)⟩
    have := own_shorter hO2 (k := n) (by omega)
    rwa [take_first (by omega) hzt] at this

/-- A number by its bytes, the highest one first. -/
def be (size x : Nat) : List UInt8 := (List.range size).map fun j => UInt8.ofNat (x / 2 ^ (8 * (size - 1 - j)))
theorem be_length (size x : Nat) : (be size x).length = size := by simp [be]
theorem be_snoc (size x k : Nat) (h : k < size) : (be size x).take (k + 1) = (be size x).take k ++ [UInt8.ofNat (x / 2 ^ (8 * (size - 1 - k)))] := by
  rw [List.take_succ_eq_append_getElem (by rw [be_length]; exact h)]
  simp [be]
theorem bv_be (x k : Nat) : Value.int .u8 ((x : Int) / 2 ^ k % 256) = bv (UInt8.ofNat (x / 2 ^ k)) := by
  unfold bv
  congr 1

set_option maxHeartbeats 400000 in
theorem put64_any (w : World) (A : Option Addr) (n c : Nat) (xs : List UInt8) (x : Nat) (hr : RB w A n xs) (hn : n ≤ 140737487000000) (_hx : x < 2 ^ 64) :
    Calls Try.prog 31 #[.slice A n c, .int .u64 x, .int .i64 8] w fun e w' => ∃ A' N' c', e = .returned (.slice A' N' c') ∧ OB 5 w' w.heap.size A' N' c' (xs ++ be 8 x) ∧ Below w.heap.size w w' := by
  have hxl := hr.len
  go_enter Try.func31, Try.ntmps31
  go_wp2_with (first | (go_at_call 34; refine (clone_any _ A n c xs hr (by omega)).mono ?_; rintro e w1 ⟨A1, c1, rfl, hO1, hb1⟩) | (go_at_call 38; refine (grow_any w1 w.heap.size A1 n c1 xs 8 hO1 hb1.size (by omega) (by omega) (by omega)).mono ?_; rintro e w2 ⟨A2, c2, rfl, hO2, hb2⟩))
  go_loopw [7, 8] (fun v i wr => ∃ (k : Nat) (A3 : Option Addr) (N3 c3 : Nat), k ≤ 8 ∧ i = .int .i64 (8 - 1 - (k : Int)) ∧ v = .slice A3 N3 c3 ∧ OB 5 wr w.heap.size A3 N3 c3 (xs ++ (be 8 x).take k) ∧ Below w.heap.size w wr) (fun _ i _ => (intOf i + 1).toNat)
  case atStart => exact ⟨0, A2, n, c2, by omega, rfl, rfl, by simpa using hO2, hb1.trans (hb2.mono hb1.size)⟩
  case round =>
    obtain ⟨k, A3, N3, c3, hk, rfl, rfl, hO3, hb3⟩ := hrel
    clear hO1 hb1 hO2 hb2
    have hN3 := hO3.len
    go_wp2_with (at_builtin; refine app_bytes rfl _ _ rfl w.heap.size _ _ _ (xs ++ (be 8 x).take k) rfl (hO3.alloc _) _ _ _ [UInt8.ofNat (x / 2 ^ (8 * (7 - k)))] rfl (RB.one_ _ _ (bv_be _ _)) (by simp [be_length] at hN3; omega) (by simp; exact Nat.le_succ_of_le hb3.size) ?_; intro A4 N4 c4 w4 hc4 hc4' hO4 hG4)
    · go_roundw
      case rel => exact ⟨k + 1, A4, N4, c4, by omega, by go_num, rfl, by rw [be_snoc 8 x k (by omega), ← List.append_assoc]; exact hO4, hG4.own (below_alloc2 hb3 (Nat.le_refl _) _) (Nat.le_refl _) (hO3.alloc _)⟩
      case measure => simp [intOf]; omega
    · go_ret
      exact ⟨A3, N3, c3, rfl, by rwa [List.take_of_length_le (by rw [be_length]; omega)] at hO3, hb3⟩

set_option maxHeartbeats 400000 in
theorem word_any (w : World) (A : Option Addr) (n c : Nat) (xs : List UInt8) (x : Nat) (hr : RB w A n xs) (hn : n ≤ 140737487000000) (hx : x < 2 ^ 64) :
    Calls Try.prog 12 #[.slice A n c, .int .u64 x] w fun e w' => ∃ A' N' c', e = .returned (.slice A' N' c') ∧ OB 5 w' w.heap.size A' N' c' (xs ++ be 8 x) ∧ Below w.heap.size w w' := by
  go_enter Try.func12, Try.ntmps12
  go_wp2_with (go_at_call 31; refine (put64_any _ A n c xs x hr hn hx).mono ?_; rintro e w1 ⟨A1, N1, c1, rfl, hO1, hb1⟩)
  go_ret
  exact ⟨A1, N1, c1, rfl, hO1, hb1⟩

set_option maxHeartbeats 400000 in
theorem rput_any (w : World) (A : Option Addr) (n c : Nat) (xs : List UInt8) (x sz : Nat) (hr : RB w A n xs) (hn : n ≤ 140737487000000) (_hx : x < 2 ^ 64) (hsz : sz ≤ 8) :
    Calls Try.prog 32 #[.slice A n c, .int .u64 x, .int .i64 sz] w fun e w' => ∃ A' N' c', e = .returned (.slice A' N' c') ∧ OB 5 w' w.heap.size A' N' c' (xs ++ be sz x) ∧ Below w.heap.size w w' := by
  have hxl := hr.len
  go_enter Try.func32, Try.ntmps32
  go_wp2_with (at_builtin; refine app_bytes rfl _ _ rfl w.heap.size _ _ _ [] rfl (OB.empty _ _) _ _ _ xs rfl (hr.below (below_alloc _ _)) (by omega) (by simp) ?_; intro A2 N2 c2 w2 hc2 hc3 hO2 hG2)
  go_loopw [7, 8] (fun v i wr => ∃ (k : Nat) (A3 : Option Addr) (N3 c3 : Nat), k ≤ sz ∧ i = .int .i64 (sz - 1 - (k : Int)) ∧ v = .slice A3 N3 c3 ∧ OB 5 wr w.heap.size A3 N3 c3 (xs ++ (be sz x).take k) ∧ Below w.heap.size w wr) (fun _ i _ => (intOf i + 1).toNat)
  case atStart => exact ⟨0, A2, N2, c2, by omega, by go_num, rfl, by simpa using hO2, hG2.below (below_alloc _ _) (by simp) (by simp)⟩
  case round =>
    obtain ⟨k, A3, N3, c3, hk, rfl, rfl, hO3, hb3⟩ := hrel
    clear hO2 hG2
    have hN3 := hO3.len
    by_cases hks : k < sz
    · have hc0 : (0 : Int) ≤ (sz : Int) - 1 - (k : Int) := by omega
      go_wp2_with (at_builtin; refine app_bytes rfl _ _ rfl w.heap.size _ _ _ (xs ++ (be sz x).take k) rfl (hO3.alloc _) _ _ _ [UInt8.ofNat (x / 2 ^ (8 * (sz - 1 - k)))] rfl (RB.one_ _ _ (bv_be _ _)) (by simp [be_length] at hN3; omega) (by simp; exact Nat.le_succ_of_le hb3.size) ?_; intro A4 N4 c4 w4 hc4 hc4' hO4 hG4)
      go_roundw
      case rel => exact ⟨k + 1, A4, N4, c4, by omega, by go_num, rfl, by rw [be_snoc sz x k (by omega), ← List.append_assoc]; exact hO4, hG4.own (below_alloc2 hb3 (Nat.le_refl _) _) (Nat.le_refl _) (hO3.alloc _)⟩
      case measure => simp [intOf]; omega
    · obtain rfl : k = sz := by omega
      go_wp2_with fail
      go_ret
      exact ⟨A3, N3, c3, rfl, by rwa [List.take_of_length_le (by rw [be_length]; omega)] at hO3, hb3⟩

set_option maxHeartbeats 400000 in
theorem rword_any (w : World) (A : Option Addr) (n c : Nat) (xs : List UInt8) (x : Nat) (hr : RB w A n xs) (hn : n ≤ 140737487000000) (hx : x < 2 ^ 64) :
    Calls Try.prog 13 #[.slice A n c, .int .u64 x] w fun e w' => ∃ A' N' c', e = .returned (.slice A' N' c') ∧ OB 5 w' w.heap.size A' N' c' (xs ++ be 8 x) ∧ Below w.heap.size w w' := by
  go_enter Try.func13, Try.ntmps13
  go_wp2_with (go_at_call 32; refine (rput_any _ A n c xs x 8 hr hn hx (by omega)).mono ?_; rintro e w1 ⟨A1, N1, c1, rfl, hO1, hb1⟩)
  go_ret
  exact ⟨A1, N1, c1, rfl, hO1, hb1⟩
/-- A make that leaves its room noughts, and what is appended within it. -/
theorem app_room {w : World} {ops : Array Oper} {rest : List Oper} {o : Oper} {a : Act} {Q : Exit → Act → World → Prop} (hgd : o.guard = none) (s x : Operand)
    (ho : o.op = .call { callee := .builtin .append, args := #[s, x], argTypes := #[22, 22] })
    (g n c : Nat) (cur : List Value) (hs : a.eval s = .slice (some ⟨g, 0, none⟩) n c) (hB : Blk w g 5 cur.toArray) (hcur : cur.length = c)
    (A' : Option Addr) (m c' : Nat) (news : List UInt8) (hx : a.eval x = .slice A' m c') (hr : RB w A' m news) (hroom : n + m ≤ c)
    (h : ∀ w2, Blk w2 g 5 (cur.take n ++ bvs news ++ cur.drop (n + m)).toArray → w.grownBy w2 (some g) → wpList Try.prog ops Q rest (a.put o.dst (.slice (some ⟨g, 0, none⟩) (n + m) c)) w2) :
    wpList Try.prog ops Q (o :: rest) a w := by
  obtain ⟨i0, hi, hz0, hz1, hz2⟩ := info_parts u8info
  refine wpList_plain hgd fun K hK => ?_
  have hl := hr.len
  have hrun : ∃ w2, (Builtin.append_ #[22, 22] o.type #[.slice (some ⟨g, 0, none⟩) n c, .slice A' m c']).run Try.prog w = .ok (.slice (some ⟨g, 0, none⟩) (n + m) c) w2 ∧ Blk w2 g 5 (cur.take n ++ bvs news ++ cur.drop (n + m)).toArray ∧ w.grownBy w2 (some g) := by
    rcases reads_split hr with ⟨rfl, h0⟩ | ⟨ad, rfl, hc⟩
    · have h0' : news = [] := List.eq_nil_of_length_eq_zero (by omega)
      subst h0'
      refine ⟨w, ?_, ?_, World.grownBy.refl w _⟩
      · have hnc : n ≤ c := by omega
        cases A' <;> simp [Builtin.append_, run_underlying Try.underlying22, sizeOf, typeInfo, hi, Builtin.lenOf, Builtin.firstCells, hnc, storeCells, loadCells, loadCellsFrom]
      · simpa [bvs] using hB
    · have hr := run_append_room (P := Try.prog) w 22 o.type 5 i0 Try.underlying22 hi g n c cur.toArray hB ad m c' (bvs news) (by rw [bvs_length, hz1]; omega) hc (bvs_one _) hroom (by rw [bvs_length, hz1, List.size_toArray]; omega)
      rw [hz1] at hr
      simp only [Nat.mul_one, bvs_length, hl] at hr
      exact ⟨_, hr, setRow_heap w g cur.toArray _ _ _ hB, ⟨rfl, rfl, rfl, by simp, fun k _ hk => setRow_other w g k _ (fun e => hk (by rw [e]))⟩⟩
  obtain ⟨w2, hrun, h1, h2⟩ := hrun
  unfold Oper.wp execOp
  simp only [ho, resolve, invoke, builtin, Sem.run_bind, Sem.run_pure, Result.andThen_ok, List.map_toArray, List.map_cons, List.map_nil, hs, hx, hrun]
  exact hK _ _ (h w2 h1 h2)
theorem make_bytes {w : World} {ops : Array Oper} {rest : List Oper} {o : Oper} {a : Act} {Q : Exit → Act → World → Prop} (hgd : o.guard = none) (l c : Operand) (ho : o.op = .makeSlice 22 l c)
    (L C : Int) (hl : a.eval l = .int .i64 L) (hc : a.eval c = .int .i64 C) (h0 : 0 ≤ L) (h1 : L ≤ C) (h2 : C ≤ 140737488355328)
    (h : ∀ w2, Blk w2 w.heap.size 5 (List.replicate C.toNat (Value.int .u8 0)).toArray → Below w.heap.size w w2 → w2.heap.size = w.heap.size + 1 → wpList Try.prog ops Q rest (a.put o.dst (.slice (some ⟨w.heap.size, 0, none⟩) L.toNat C.toNat)) w2) :
    wpList Try.prog ops Q (o :: rest) a w := by
  obtain ⟨i0, hi, hz0, hz1, hz2⟩ := info_parts u8info
  refine wpList_plain hgd fun K hK => ?_
  have hr := run_make (P := Try.prog) w 22 5 i0 _ Try.underlying22 hi hz0 .i64 .i64 L C h0 h1 (by rw [hz2]; omega) (by omega)
  unfold Oper.wp execOp
  simp only [ho, hl, hc, Sem.run_bind, Sem.run_pure, Result.andThen_ok, hr]
  refine hK _ _ (h _ ?_ (below_alloc _ _) (by simp))
  have := Blk.new w 5 (madeCells (Value.int .u8 0).cells (C.toNat * i0.size))
  rw [show (List.replicate C.toNat (Value.int .u8 0)).toArray = madeCells (Value.int .u8 0).cells (C.toNat * i0.size) from ?_]
  · exact this
  · have := toList_madeCells_one (.int .u8 0) C.toNat
    rw [hz1, Nat.mul_one]
    exact (congrArg List.toArray this).symm
end Go.Proofs.Ytohfgplaocgadaa
