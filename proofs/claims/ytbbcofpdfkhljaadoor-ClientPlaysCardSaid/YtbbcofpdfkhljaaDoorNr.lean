/- client: what a client is in memory; New of both; clear. -/
import Derived.Test.YtbbcofpdfkhljaaDoorNp
namespace Go.Rat
open Go.RowKit Go
theorem run_clear_mid {P : Program} (w : World) (t e ty : TypeId) (z : Value) (ht : P.underlying t = some (.slice e)) (hv : ∀ w, (zeroValue e).run P w = .ok z w) {T : TypeId} (g o n c : Nat) (L cs : List Value) (hcs : (Builtin.zeroCells z.cells n).toList = cs) (hn : 0 < n)
    (hB : Blk w g T L.toArray) (hfit : o + cs.length ≤ L.length) (h1 : ∀ v ∈ cs, v.oneCell' = true) :
    (Builtin.clear_ #[t] ty #[.slice (some ⟨g, o, none⟩) n c]).run P w = .ok (.tuple #[]) (w.setRow g (Go.splice L o cs).toArray) := by
  have hst := run_storeCells_at P g o T cs 0 L.toArray w hB (by simpa using hfit) h1
  simp only [Nat.add_zero] at hst
  obtain ⟨m, rfl⟩ : ∃ m, n = m + 1 := ⟨n - 1, by omega⟩
  simp [Builtin.clear_, run_underlying ht, hv, hcs, hst, Go.splice]
end Go.Rat
namespace Go.Proofs.YtbbcofpdfkhljaaDoor
open Go.RowKit Go.Rat
theorem zeroSaid (w : World) : (zeroValue 70).run Tryd.prog w = .ok (.agg (saidC none).toArray) w := by
  have h : (Tryd.prog.info? 70).map (·.zero) = some (some (.agg (saidC none).toArray)) := by kernel_rfl
  cases hq : Tryd.prog.info? 70 with
  | none => simp [hq] at h
  | some i =>
    have hz : i.zero = some (.agg (saidC none).toArray) := by simpa [hq] using h
    simp [zeroValue, typeInfo, hq, hz]
-- CUT
/-- A client's cells: of the program's, and of the document's. -/
def clC (n id : Int) (tm : Nat) (p : Bool) (q : RqV) (rest : List Value) : List Value := .int .i64 n :: .int .i64 id :: .int .u64 (tm : Int) :: .bool p :: (q.c ++ rest)
def toldC (l : List (Option ToldV)) : List Value := l.flatMap saidC
def tol0 : List (Option ToldV) := List.replicate 11 none
theorem clC_len (n id : Int) (tm : Nat) (p : Bool) {q : RqV} (hq : q.tag.length = 32) (rest : List Value) : (clC n id tm p q rest).length = 44 + rest.length := by
  simp [clC, rqc_length q hq]; omega
theorem clC_q (n id : Int) (tm : Nat) (p : Bool) {q : RqV} (hq : q.tag.length = 32) (rest : List Value) : ((clC n id tm p q rest).drop 4).take 40 = q.c := by
  show (q.c ++ rest).take 40 = q.c
  rw [List.take_append_of_le_length (by rw [rqc_length q hq]; omega), List.take_of_length_le (by rw [rqc_length q hq]; omega)]
theorem clC_drop (n id : Int) (tm : Nat) (p : Bool) {q : RqV} (hq : q.tag.length = 32) (rest : List Value) (o : Nat) : (clC n id tm p q rest).drop (44 + o) = rest.drop o := by
  rw [show 44 + o = (40 + o) + 4 by omega]
  show (q.c ++ rest).drop (40 + o) = rest.drop o
  rw [List.drop_append, rqc_length q hq, List.drop_of_length_le (by rw [rqc_length q hq]; omega), List.nil_append, Nat.add_sub_cancel_left]
theorem clC_setq (n id : Int) (tm : Nat) (p : Bool) {q q' : RqV} (hq : q.tag.length = 32) (hq' : q'.tag.length = 32) (rest : List Value) : Go.splice (clC n id tm p q rest) 4 q'.c = clC n id tm p q' rest := by
  have h := clC_drop n id tm p hq rest 0
  rw [Go.splice, rqc_length q' hq', h]
  rfl
theorem clC_setr (n id : Int) (tm : Nat) (p : Bool) {q : RqV} (hq : q.tag.length = 32) (rest cs : List Value) (o : Nat) : Go.splice (clC n id tm p q rest) (44 + o) cs = clC n id tm p q (Go.splice rest o cs) := by
  have h := clC_drop n id tm p hq rest (o + cs.length)
  have h2 : (clC n id tm p q rest).take (44 + o) = .int .i64 n :: .int .i64 id :: .int .u64 (tm : Int) :: .bool p :: (q.c ++ rest.take o) := by
    rw [show 44 + o = (40 + o) + 4 by omega]
    show _ :: _ :: _ :: _ :: (q.c ++ rest).take (40 + o) = _
    rw [List.take_append, rqc_length q hq, List.take_of_length_le (by rw [rqc_length q hq]; omega), Nat.add_sub_cancel_left]
  rw [Go.splice, h2, Nat.add_assoc, h]
  simp [clC, Go.splice]
theorem said_len (o : Option ToldV) : (saidC o).length = 6 := by cases o <;> rfl
theorem told_len (l : List (Option ToldV)) : (toldC l).length = l.length * 6 := flat_len saidC 6 said_len l
theorem told_at (l : List (Option ToldV)) (k : Nat) (hk : k < l.length) : ((toldC l).drop (k * 6)).take 6 = saidC (l.getD k none) := by
  induction l generalizing k with
  | nil => simp at hk
  | cons a l ih =>
    cases k with
    | zero =>
      show (saidC a ++ toldC l).take 6 = saidC a
      rw [List.take_append_of_le_length (by rw [said_len]; omega), List.take_of_length_le (by rw [said_len]; omega)]
    | succ k =>
      rw [show (k + 1) * 6 = 6 + k * 6 by omega]
      show ((saidC a ++ toldC l).drop (6 + k * 6)).take 6 = _
      rw [List.drop_append, said_len, List.drop_of_length_le (by rw [said_len]; omega), List.nil_append, Nat.add_sub_cancel_left, ih k (by simpa using hk)]
      rfl
theorem told_set (l : List (Option ToldV)) (k : Nat) (o : Option ToldV) (hk : k < l.length) : Go.splice (toldC l) (k * 6) (saidC o) = toldC (l.set k o) := by
  induction l generalizing k with
  | nil => simp at hk
  | cons a l ih =>
    cases k with
    | zero =>
      show (saidC a ++ toldC l).take 0 ++ saidC o ++ (saidC a ++ toldC l).drop (0 + (saidC o).length) = saidC o ++ toldC l
      rw [said_len, Nat.zero_add, List.drop_append, said_len, List.drop_of_length_le (by rw [said_len]; omega)]
      rfl
    | succ k =>
      have h := ih k (by simpa using hk)
      rw [Go.splice] at h ⊢
      rw [said_len] at h ⊢
      rw [show (k + 1) * 6 = 6 + k * 6 by omega]
      show (saidC a ++ toldC l).take (6 + k * 6) ++ (saidC o ++ (saidC a ++ toldC l).drop (6 + k * 6 + 6)) = saidC a ++ toldC (l.set k o)
      rw [← h, List.drop_append, said_len, List.drop_of_length_le (by rw [said_len]; omega), List.nil_append, List.take_append, said_len, List.take_of_length_le (by rw [said_len]; omega), Nat.add_sub_cancel_left, show 6 + k * 6 + 6 - 6 = k * 6 + 6 by omega]
      simp only [List.append_assoc]
theorem clC_one (n id : Int) (tm : Nat) (p : Bool) (q : RqV) (rest : List Value) (h : rest.all (·.oneCell') = true) : (clC n id tm p q rest).toArray.all (·.oneCell') = true := by
  have := rqc_one q
  simp [clC, Value.oneCell'] at this h ⊢
  exact ⟨this, h⟩
theorem said_one (o : Option ToldV) : (saidC o).all (·.oneCell') = true := by cases o <;> simp [saidC, ToldV.c, Value.oneCell']
theorem told_one (l : List (Option ToldV)) : (toldC l).all (·.oneCell') = true := by
  induction l with
  | nil => rfl
  | cons a l ih =>
    show (saidC a ++ toldC l).all _ = true
    rw [List.all_append, said_one, ih]; rfl
theorem cl_cells {w : World} {g : Nat} {T : TypeId} {n id : Int} {tm : Nat} {p : Bool} {q : RqV} {rest : List Value} (h : Blk w g T (clC n id tm p q rest).toArray) :
    w.cell? ⟨g, 0, none⟩ = some (.int .i64 n) ∧ w.cell? ⟨g, 1, none⟩ = some (.int .i64 id) ∧ w.cell? ⟨g, 2, none⟩ = some (.int .u64 (tm : Int)) ∧ w.cell? ⟨g, 3, none⟩ = some (.bool p) :=
  ⟨h.cell 0, h.cell 1, h.cell 2, h.cell 3⟩
theorem clC_tm (n id : Int) (tm tm' : Nat) (p : Bool) (q : RqV) (rest : List Value) : (clC n id tm p q rest).toArray.setIfInBounds 2 (.int .u64 (tm' : Int)) = (clC n id tm' p q rest).toArray := by
  rw [List.setIfInBounds_toArray]; rfl
theorem clC_p (n id : Int) (tm : Nat) (p p' : Bool) (q : RqV) (rest : List Value) : (clC n id tm p q rest).toArray.setIfInBounds 3 (.bool p') = (clC n id tm p' q rest).toArray := by
  rw [List.setIfInBounds_toArray]; rfl
set_option maxRecDepth 20000 in
theorem zc110 (n id : Int) : (#[.int .i64 n, .int .i64 id, .int .u64 0, .bool false, .int .i64 0, .int .u64 0, .int .u8 0, .string ⟨#[]⟩, .string ⟨#[]⟩, .string ⟨#[]⟩, .string ⟨#[]⟩, .int .u64 0, .int .u8 0, .int .u8 0, .int .u8 0, .int .u8 0, .int .u8 0, .int .u8 0, .int .u8 0, .int .u8 0, .int .u8 0, .int .u8 0, .int .u8 0, .int .u8 0, .int .u8 0, .int .u8 0, .int .u8 0, .int .u8 0, .int .u8 0, .int .u8 0, .int .u8 0, .int .u8 0, .int .u8 0, .int .u8 0, .int .u8 0, .int .u8 0, .int .u8 0, .int .u8 0, .int .u8 0, .int .u8 0, .int .u8 0, .int .u8 0, .int .u8 0, .int .u8 0, .bool false, .int .i64 0, .int .u64 0, .int .i64 0, .string ⟨#[]⟩, .int .u64 0, .bool false, .int .i64 0, .int .u64 0, .int .i64 0, .string ⟨#[]⟩, .int .u64 0, .bool false, .int .i64 0, .int .u64 0, .int .i64 0, .string ⟨#[]⟩, .int .u64 0, .bool false, .int .i64 0, .int .u64 0, .int .i64 0, .string ⟨#[]⟩, .int .u64 0, .bool false, .int .i64 0, .int .u64 0, .int .i64 0, .string ⟨#[]⟩, .int .u64 0, .bool false, .int .i64 0, .int .u64 0, .int .i64 0, .string ⟨#[]⟩, .int .u64 0, .bool false, .int .i64 0, .int .u64 0, .int .i64 0, .string ⟨#[]⟩, .int .u64 0, .bool false, .int .i64 0, .int .u64 0, .int .i64 0, .string ⟨#[]⟩, .int .u64 0, .bool false, .int .i64 0, .int .u64 0, .int .i64 0, .string ⟨#[]⟩, .int .u64 0, .bool false, .int .i64 0, .int .u64 0, .int .i64 0, .string ⟨#[]⟩, .int .u64 0, .bool false, .int .i64 0, .int .u64 0, .int .i64 0, .string ⟨#[]⟩, .int .u64 0] : Array Value) = (clC n id 0 false rq0 (toldC tol0)).toArray := rfl
set_option maxRecDepth 20000 in
theorem zc46 (n id : Int) : (#[.int .i64 n, .int .i64 id, .int .u64 0, .bool false, .int .i64 0, .int .u64 0, .int .u8 0, .string ⟨#[]⟩, .string ⟨#[]⟩, .string ⟨#[]⟩, .string ⟨#[]⟩, .int .u64 0, .int .u8 0, .int .u8 0, .int .u8 0, .int .u8 0, .int .u8 0, .int .u8 0, .int .u8 0, .int .u8 0, .int .u8 0, .int .u8 0, .int .u8 0, .int .u8 0, .int .u8 0, .int .u8 0, .int .u8 0, .int .u8 0, .int .u8 0, .int .u8 0, .int .u8 0, .int .u8 0, .int .u8 0, .int .u8 0, .int .u8 0, .int .u8 0, .int .u8 0, .int .u8 0, .int .u8 0, .int .u8 0, .int .u8 0, .int .u8 0, .int .u8 0, .int .u8 0, .slice none 0 0, .slice none 0 0] : Array Value) = (clC n id 0 false rq0 [.slice none 0 0, .slice none 0 0]).toArray := rfl
/-- The numbers that make a client. -/
def nOk (n id : Int) : Prop := (3 ≤ n ∧ n ≤ 11 ∧ n % 2 = 1) ∧ 1 ≤ id ∧ id ≤ 8
instance (n id : Int) : Decidable (nOk n id) := by unfold nOk; infer_instance

set_option maxRecDepth 20000 in
set_option maxHeartbeats 4000000 in
theorem cnew_yes (w : World) (n id : Int) (h : nOk n id) :
    Calls Tryd.prog 9 #[.int .i64 n, .int .i64 id] w fun e w' => e = .returned (.tuple #[.pointer (some ⟨w.heap.size, 0, none⟩), .int .i64 0]) ∧ Blk w' w.heap.size 73 (clC n id 0 false rq0 (toldC tol0)).toArray ∧ Below w.heap.size w w' := by
  obtain ⟨⟨h1, h2, h3⟩, h4, h5⟩ := h
  have z1 : ¬ n < 3 := by omega
  have z2 : ¬ 11 < n := by omega
  have z3 : n.tmod 2 = 1 := by rw [Int.tmod_eq_emod_of_nonneg (by omega)]; exact h3
  have z4 : ¬ id < 1 := by omega
  have z5 : ¬ 8 < id := by omega
  have H := Blk.new w 73 (clC n id 0 false rq0 (toldC tol0)).toArray
  have hb := below_alloc w (.cells (clC n id 0 false rq0 (toldC tol0)).toArray 73)
  rw [← zc110] at H hb
  rw [← zc110]
  have H := Lib.hid H
  have HB := Lib.hid hb
  clear hb
  go_enter Tryd.func9, Tryd.ntmps9
  go_wp2_with fail
  refine bodyPost_ret (results_tmp2 rfl _ _ _) rfl ?_
  exact ⟨rfl, H.out, HB.out⟩
set_option maxRecDepth 20000 in
set_option maxHeartbeats 4000000 in
theorem cnew_no (w : World) (n id : Int) (h : ¬ nOk n id) :
    Calls Tryd.prog 9 #[.int .i64 n, .int .i64 id] w fun e w' => e = .returned (.tuple #[.pointer none, .int .i64 1]) ∧ w' = w := by
  by_cases h1 : n < 3
  · go_enter Tryd.func9, Tryd.ntmps9
    go_wp2_with fail
    refine bodyPost_ret (results_tmp2 rfl _ _ _) rfl ?_
    exact ⟨rfl, rfl⟩
  by_cases h2 : 11 < n
  · go_enter Tryd.func9, Tryd.ntmps9
    go_wp2_with fail
    refine bodyPost_ret (results_tmp2 rfl _ _ _) rfl ?_
    exact ⟨rfl, rfl⟩
  by_cases h3 : n % 2 = 1
  · have z3 : n.tmod 2 = 1 := by rw [Int.tmod_eq_emod_of_nonneg (by omega)]; exact h3
    by_cases h4 : id < 1
    · go_enter Tryd.func9, Tryd.ntmps9
      go_wp2_with fail
      refine bodyPost_ret (results_tmp2 rfl _ _ _) rfl ?_
      exact ⟨rfl, rfl⟩
    by_cases h5 : 8 < id
    · go_enter Tryd.func9, Tryd.ntmps9
      go_wp2_with fail
      refine bodyPost_ret (results_tmp2 rfl _ _ _) rfl ?_
      exact ⟨rfl, rfl⟩
    exact absurd ⟨⟨by omega, by omega, h3⟩, by omega, by omega⟩ h
  · have h3' : n % 2 = 0 := by omega
    have z3 : n.tmod 2 = 0 := by rw [Int.tmod_eq_emod_of_nonneg (by omega)]; exact h3'
    go_enter Tryd.func9, Tryd.ntmps9
    go_wp2_with fail
    refine bodyPost_ret (results_tmp2 rfl _ _ _) rfl ?_
    exact ⟨rfl, rfl⟩

set_option maxRecDepth 20000 in
set_option maxHeartbeats 4000000 in
theorem rcnew_yes (w : World) (n id : Int) (h : nOk n id) :
    Calls Tryd.prog 10 #[.int .i64 n, .int .i64 id] w fun e w' => e = .returned (.tuple #[.pointer (some ⟨w.heap.size, 0, none⟩), .int .i64 0]) ∧ Blk w' w.heap.size 48 (clC n id 0 false rq0 [.slice none 0 0, .slice none 0 0]).toArray ∧ Below w.heap.size w w' := by
  obtain ⟨⟨h1, h2, h3⟩, h4, h5⟩ := h
  have z1 : ¬ n < 3 := by omega
  have z2 : ¬ 11 < n := by omega
  have z3 : n.tmod 2 = 1 := by rw [Int.tmod_eq_emod_of_nonneg (by omega)]; exact h3
  have z4 : ¬ id < 1 := by omega
  have z5 : ¬ 8 < id := by omega
  have H := Blk.new w 48 (clC n id 0 false rq0 [.slice none 0 0, .slice none 0 0]).toArray
  have hb := below_alloc w (.cells (clC n id 0 false rq0 [.slice none 0 0, .slice none 0 0]).toArray 48)
  rw [← zc46] at H hb
  rw [← zc46]
  have H := Lib.hid H
  have HB := Lib.hid hb
  clear hb
  go_enter Tryd.func10, Tryd.ntmps10
  go_wp2_with fail
  refine bodyPost_ret (results_tmp2 rfl _ _ _) rfl ?_
  exact ⟨rfl, H.out, HB.out⟩
set_option maxRecDepth 20000 in
set_option maxHeartbeats 4000000 in
theorem rcnew_no (w : World) (n id : Int) (h : ¬ nOk n id) :
    Calls Tryd.prog 10 #[.int .i64 n, .int .i64 id] w fun e w' => e = .returned (.tuple #[.pointer none, .int .i64 1]) ∧ w' = w := by
  by_cases h1 : n < 3
  · go_enter Tryd.func10, Tryd.ntmps10
    go_wp2_with fail
    refine bodyPost_ret (results_tmp2 rfl _ _ _) rfl ?_
    exact ⟨rfl, rfl⟩
  by_cases h2 : 11 < n
  · go_enter Tryd.func10, Tryd.ntmps10
    go_wp2_with fail
    refine bodyPost_ret (results_tmp2 rfl _ _ _) rfl ?_
    exact ⟨rfl, rfl⟩
  by_cases h3 : n % 2 = 1
  · have z3 : n.tmod 2 = 1 := by rw [Int.tmod_eq_emod_of_nonneg (by omega)]; exact h3
    by_cases h4 : id < 1
    · go_enter Tryd.func10, Tryd.ntmps10
      go_wp2_with fail
      refine bodyPost_ret (results_tmp2 rfl _ _ _) rfl ?_
      exact ⟨rfl, rfl⟩
    by_cases h5 : 8 < id
    · go_enter Tryd.func10, Tryd.ntmps10
      go_wp2_with fail
      refine bodyPost_ret (results_tmp2 rfl _ _ _) rfl ?_
      exact ⟨rfl, rfl⟩
    exact absurd ⟨⟨by omega, by omega, h3⟩, by omega, by omega⟩ h
  · have h3' : n % 2 = 0 := by omega
    have z3 : n.tmod 2 = 0 := by rw [Int.tmod_eq_emod_of_nonneg (by omega)]; exact h3'
    go_enter Tryd.func10, Tryd.ntmps10
    go_wp2_with fail
    refine bodyPost_ret (results_tmp2 rfl _ _ _) rfl ?_
    exact ⟨rfl, rfl⟩
end Go.Proofs.YtbbcofpdfkhljaaDoor
