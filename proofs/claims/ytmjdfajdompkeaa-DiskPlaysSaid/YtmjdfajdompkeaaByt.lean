/- Bytes: append, make, and bytes as a text, for any seat. -/
import Derived.Test.YtmjdfajdompkeaaRows
import Derived.Test.YtmjdfajdompkeaaBase
import Derived.Lib.AppendStr
namespace Go.Proofs.Ytmjdfajdompkeaa
open Go.RowKit Go.Rat
theorem u8info : (Try.prog.info? 5).map (fun i => (i.zero, i.size, i.bytes)) = some (some (.int .u8 0), 1, 1) := by kernel_rfl
section
variable {w : World}
/-- append of bytes onto bytes of the call's own. -/
theorem app_bytes {ops : Array Oper} {rest : List Oper} {o : Oper} {a : Act} {Q : Exit → Act → World → Prop} (hgd : o.guard = none) (s x : Operand)
    (ho : o.op = .call { callee := .builtin .append, args := #[s, x], argTypes := #[22, 22] })
    (base : Nat) (A : Option Addr) (n c : Nat) (xs : List UInt8) (hs : a.eval s = .slice A n c) (hown : OB 5 w base A n c xs)
    (A' : Option Addr) (m c' : Nat) (news : List UInt8) (hx : a.eval x = .slice A' m c') (hr : RB w A' m news)
    (hbytes : n + m ≤ 140737488355328) (hbase : base ≤ w.heap.size)
    (h : ∀ A2 N2 c2 w2, N2 ≤ c2 → c2 ≤ 9223372036854775807 → OB 5 w2 base A2 N2 c2 (xs ++ news) → Grew w w2 A A2 → wpList Try.prog ops Q rest (a.put o.dst (.slice A2 N2 c2)) w2) :
    wpList Try.prog ops Q (o :: rest) a w := by
  obtain ⟨i0, hi, hz0, hz1, hz2⟩ := info_parts u8info
  exact wpl_append hgd s x 22 ho base 5 i0 _ 1 1 Try.underlying22 hi hz0 hz1 hz2 rfl (by omega) A n c (bvs xs) hs hown A' m c' (bvs news) hx ⟨_, hr⟩ (bvs_one _)
    (by simp only [maxLen]; omega) (by omega) hbase (fun A2 N2 c2 w2 hc hc' h1 h2 => h A2 N2 c2 w2 hc hc' (by unfold OB; rw [bvs_append]; exact h1) h2)
theorem app_str {ops : Array Oper} {rest : List Oper} {o : Oper} {a : Act} {Q : Exit → Act → World → Prop} (hgd : o.guard = none) (s x : Operand)
    (ho : o.op = .call { callee := .builtin .append, args := #[s, x], argTypes := #[22, 9] })
    (base : Nat) (A : Option Addr) (n c : Nat) (xs : List UInt8) (hs : a.eval s = .slice A n c) (hown : OB 5 w base A n c xs)
    (st : ByteArray) (hx : a.eval x = .string st) (hbytes : n + st.size ≤ 140737488355328) (hbase : base ≤ w.heap.size)
    (h : ∀ A2 N2 c2 w2, N2 ≤ c2 → c2 ≤ 9223372036854775807 → OB 5 w2 base A2 N2 c2 (xs ++ st.data.toList) → w.grownBy w2 (A.map (·.block)) → wpList Try.prog ops Q rest (a.put o.dst (.slice A2 N2 c2)) w2) :
    wpList Try.prog ops Q (o :: rest) a w := by
  obtain ⟨i0, hi, hz0, hz1, hz2⟩ := info_parts u8info
  refine wpList_plain hgd fun K hK => ?_
  obtain ⟨v', w2, hrun, h2, h3, _⟩ := Lib.run_append_own_string (P := Try.prog) w base 22 9 o.type 5 i0 Try.underlying22 Try.underlying9 hi hz0 hz1 hz2 _ n (bvs xs) hown st (by simp only [maxLen]; omega) hbytes hbase
  have hv : ∃ A2 c2, v' = .slice A2 (n + st.size) c2 := by
    rcases h2.2 with ⟨h, h'⟩ | ⟨g, cap, cur, h, _⟩
    · exact ⟨none, 0, by rw [h, h']⟩
    · exact ⟨_, _, h⟩
  obtain ⟨A2, c2, rfl⟩ := hv
  have hob : (Value.slice A n c).ownBlock = A.map (·.block) := by cases A <;> rfl
  rw [hob] at h3
  unfold Oper.wp execOp
  simp only [ho, resolve, invoke, builtin, Sem.run_bind, Sem.run_pure, Result.andThen_ok, List.map_toArray, List.map_cons, List.map_nil, hs, hx, hrun]
  exact hK _ _ (h _ _ _ _ (own_cap h2).1 (own_cap h2).2 (by unfold OB; rw [bvs_append]; exact h2) h3)
theorem app_zeros {ops : Array Oper} {rest : List Oper} {o : Oper} {a : Act} {Q : Exit → Act → World → Prop} (hgd : o.guard = none) (s x : Operand)
    (ho : o.op = .call { callee := .builtin .append, args := #[s, x], argTypes := #[22, 3] })
    (base : Nat) (A : Option Addr) (c : Nat) (xs : List Value) (hs : a.eval s = .slice A c c) (hown : w.ownsRow base 5 1 (.slice A c c) c xs)
    (k : Int) (hx : a.eval x = .int .i64 k) (hk : 0 < k) (hbytes : c + k.toNat ≤ 140737488355328) (hbase : base ≤ w.heap.size)
    (h : ∀ A2 N2 c2 w2, N2 ≤ c2 → c2 ≤ 9223372036854775807 → w2.ownsRow base 5 1 (.slice A2 N2 c2) N2 (xs ++ List.replicate k.toNat (.int .u8 0)) → Grew w w2 none A2 → wpList Try.prog ops Q rest (a.put o.dst (.slice A2 N2 c2)) w2) :
    wpList Try.prog ops Q (o :: rest) a w := by
  obtain ⟨i0, hi, hz0, hz1, hz2⟩ := info_parts u8info
  exact wpl_append_zeros hgd s x 22 3 ho base 5 i0 _ 1 Try.underlying22 ⟨_, Try.underlying3⟩ hi hz0 hz1 hz2 rfl A c xs hs hown k hx hk
    (by simp only [maxLen]; omega) (by omega) hbase h
end

/-- Bytes as a text. -/
def bstr (xs : List UInt8) : ByteArray := ⟨xs.toArray⟩
theorem bstr_data (s : ByteArray) : bstr s.data.toList = s := by cases s; simp [bstr]
theorem data_bstr (xs : List UInt8) : (bstr xs).data.toList = xs := by simp [bstr]
theorem bstr_inj {xs ys : List UInt8} (h : bstr xs = bstr ys) : xs = ys := by rw [← data_bstr xs, ← data_bstr ys, h]
theorem push_all (xs : List UInt8) : ∀ s : ByteArray, (xs.map fun x => (x.toNat : Int)).foldl (fun r n => r.push (UInt8.ofNat n.toNat)) s = ⟨s.data ++ xs.toArray⟩ := by
  induction xs with
  | nil => intro s; simp
  | cons x xs ih =>
    intro s
    simp only [List.map_cons, List.foldl_cons]
    rw [ih]
    have : UInt8.ofNat ((x.toNat : Int).toNat) = x := by simp
    rw [this]
    simp [ByteArray.push]
/-- string(b) -/
theorem conv_str {w : World} {A : Option Addr} {n : Nat} {xs : List UInt8} (h : RB w A n xs) (c : Nat) : (convert 22 9 (.slice A n c)).run Try.prog w = .ok (.string (bstr xs)) w := by
  have hl := h.len
  rcases A with _ | ad
  · obtain rfl : n = 0 := h.nil0
    obtain rfl : xs = [] := List.eq_nil_of_length_eq_zero hl
    simp [convert, run_underlying Try.underlying22, run_underlying Try.underlying9, run_underlying Try.underlying5, Conv.bytesToString, bstr]
    rfl
  · have hcells : (loadCells ad n).run Try.prog w = .ok ((xs.map fun x => (x.toNat : Int)).map (Value.int .u8)).toArray w := by
      have := run_firstCells_some (P := Try.prog) w 1 n ad n c (bvs xs) (by rw [bvs_length]; omega) (fun j u hu => by
        obtain ⟨ad', he, _, hc⟩ := h.2 (by have := (List.getElem?_eq_some_iff.1 hu).1; rw [bvs_length] at this; omega)
        cases he
        exact hc j u hu)
      simp only [Builtin.firstCells, Nat.mul_one, bvs] at this
      rw [this, List.map_map]
      rfl
    rw [run_convert_bytes_string w _ _ _ _ _ _ Try.underlying22 Try.underlying5 Try.underlying9, run_bytesToString w ad n c _ hcells, push_all]
    simp [bstr]

/-- A make that leaves its room noughts, and what is appended within it. -/
theorem app_room {w : World} {ops : Array Oper} {rest : List Oper} {o : Oper} {a : Act} {Q : Exit → Act → World → Prop} (hgd : o.guard = none) (s x : Operand)
    (ho : o.op = .call { callee := .builtin .append, args := #[s, x], argTypes := #[22, 22] })
    (g n c : Nat) (cur : List Value) (hs : a.eval s = .slice (some ⟨g, 0, none⟩) n c) (hB : Blk w g 5 cur.toArray) (hcur : cur.length = c)
    (A' : Option Addr) (m c' : Nat) (news : List UInt8) (hx : a.eval x = .slice A' m c') (hr : RB w A' m news) (hroom : n + m ≤ c)
    (h : ∀ w2, Blk w2 g 5 (cur.take n ++ bvs news ++ cur.drop (n + m)).toArray → w.grownBy w2 (some g) → wpList Try.prog ops Q rest (a.put o.dst (.slice (some ⟨g, 0, none⟩) (n + m) c)) w2) :
    wpList Try.prog ops Q (o :: rest) a w := by
  obtain ⟨i0, hi, hz0, hz1, hz2⟩ := info_parts u8info
  refine wpList_plain hgd fun K hK => ?_
  have hl := hr.len
  have hrun : ∃ w2, (Builtin.append_ #[22, 22] o.type #[.slice (some ⟨g, 0, none⟩) n c, .slice A' m c']).run Try.prog w = .ok (.slice (some ⟨g, 0, none⟩) (n + m) c) w2 ∧ Blk w2 g 5 (cur.take n ++ bvs news ++ cur.drop (n + m)).toArray ∧ w.grownBy w2 (some g) := by
    rcases reads_split hr with ⟨rfl, h0⟩ | ⟨ad, rfl, hc⟩
    · have h0' : news = [] := List.eq_nil_of_length_eq_zero (by omega)
      subst h0'
      refine ⟨w, ?_, ?_, World.grownBy.refl w _⟩
      · have hnc : n ≤ c := by omega
        cases A' <;> simp [Builtin.append_, run_underlying Try.underlying22, sizeOf, typeInfo, hi, Builtin.lenOf, Builtin.firstCells, hnc, storeCells, loadCells, loadCellsFrom]
      · simpa [bvs] using hB
    · have hr := run_append_room (P := Try.prog) w 22 o.type 5 i0 Try.underlying22 hi g n c cur.toArray hB ad m c' (bvs news) (by rw [bvs_length, hz1]; omega) hc (bvs_one _) hroom (by rw [bvs_length, hz1, List.size_toArray]; omega)
      rw [hz1] at hr
      simp only [Nat.mul_one, bvs_length, hl] at hr
      exact ⟨_, hr, setRow_heap w g cur.toArray _ _ _ hB, ⟨rfl, rfl, rfl, by simp, fun k _ hk => setRow_other w g k _ (fun e => hk (by rw [e]))⟩⟩
  obtain ⟨w2, hrun, h1, h2⟩ := hrun
  unfold Oper.wp execOp
  simp only [ho, resolve, invoke, builtin, Sem.run_bind, Sem.run_pure, Result.andThen_ok, List.map_toArray, List.map_cons, List.map_nil, hs, hx, hrun]
  exact hK _ _ (h w2 h1 h2)
theorem make_bytes {w : World} {ops : Array Oper} {rest : List Oper} {o : Oper} {a : Act} {Q : Exit → Act → World → Prop} (hgd : o.guard = none) (l c : Operand) (ho : o.op = .makeSlice 22 l c)
    (L C : Int) (hl : a.eval l = .int .i64 L) (hc : a.eval c = .int .i64 C) (h0 : 0 ≤ L) (h1 : L ≤ C) (h2 : C ≤ 140737488355328)
    (h : ∀ w2, Blk w2 w.heap.size 5 (List.replicate C.toNat (Value.int .u8 0)).toArray → Below w.heap.size w w2 → w2.heap.size = w.heap.size + 1 → wpList Try.prog ops Q rest (a.put o.dst (.slice (some ⟨w.heap.size, 0, none⟩) L.toNat C.toNat)) w2) :
    wpList Try.prog ops Q (o :: rest) a w := by
  obtain ⟨i0, hi, hz0, hz1, hz2⟩ := info_parts u8info
  refine wpList_plain hgd fun K hK => ?_
  have hr := run_make (P := Try.prog) w 22 5 i0 _ Try.underlying22 hi hz0 .i64 .i64 L C h0 h1 (by rw [hz2]; omega) (by omega)
  unfold Oper.wp execOp
  simp only [ho, hl, hc, Sem.run_bind, Sem.run_pure, Result.andThen_ok, hr]
  refine hK _ _ (h _ ?_ (below_alloc _ _) (by simp))
  have := Blk.new w 5 (madeCells (Value.int .u8 0).cells (C.toNat * i0.size))
  rw [show (List.replicate C.toNat (Value.int .u8 0)).toArray = madeCells (Value.int .u8 0).cells (C.toNat * i0.size) from ?_]
  · exact this
  · have := toList_madeCells_one (.int .u8 0) C.toNat
    rw [hz1, Nat.mul_one]
    exact (congrArg List.toArray this).symm
end Go.Proofs.Ytmjdfajdompkeaa
