/- append of noughts: whatever room there is. -/
import Derived.Test.YtmjdfajdompkeaaKq6
namespace Go.Rat
open Go Go.RowKit
section
variable {P : Program} {w : World}
theorem zeroCells_list (z : Value) (k : Nat) : (Builtin.zeroCells #[z] k).toList = List.replicate k z := by
  refine List.ext_getElem (by simp [Builtin.zeroCells]) ?_
  intro j h1 h2
  simp [Builtin.zeroCells, Nat.mod_one]
theorem run_append_zerosG (w : World) (base : Nat) (t ti ty e : TypeId) (i : TypeInfo) (z : Value) (bytes : Nat) (ht : P.underlying t = some (.slice e)) (hti : ∃ k, P.underlying ti = some (.int k)) (hi : P.info? e = some i) (hz : i.zero = some z)
    (hsize : i.size = 1) (hby : i.bytes = bytes) (hzs : z.cells = #[z]) (hz1 : z.oneCell' = true)
    (A : Option Addr) (n c : Nat) (xs : List Value) (hown : w.ownsRow base e 1 (.slice A n c) n xs)
    (k : Nat) (hk : 0 < k) (h63 : n + k ≤ maxLen) (hbytes : (n + k) * bytes ≤ 140737488355328) (hbase : base ≤ w.heap.size) :
    ∃ A2 c2 w2, (Builtin.append_ #[t, ti] ty #[.slice A n c, .int .i64 (k : Int)]).run P w = .ok (.slice A2 (n + k) c2) w2 ∧ w2.ownsRow base e 1 (.slice A2 (n + k) c2) (n + k) (xs ++ List.replicate k z) ∧
      w.grownBy w2 (A.map (·.block)) ∧ (A2.map (·.block) = A.map (·.block) ∨ A2.map (·.block) = some w.heap.size) := by
  subst hby
  obtain ⟨ki, hti⟩ := hti
  have hsmall : n + k ≤ 9223372036854775807 := by simp only [maxLen] at h63; omega
  have hwk : IntKind.i64.wrap (k : Int) = (k : Int) := IntWalk.i64_in _ (by omega)
  have hkb : (k : Int) * (i.bytes : Int) ≤ 281474976710656 := by
    have : k * i.bytes ≤ (n + k) * i.bytes := Nat.mul_le_mul_right _ (by omega)
    have h2 : ((k * i.bytes : Nat) : Int) ≤ 140737488355328 := by omega
    rw [Int.natCast_mul] at h2; omega
  have hneg : ¬ ((k : Int) < 0) := by omega
  have hbig : ¬ (281474976710656 < (k : Int) * (i.bytes : Int)) := by omega
  have hkz := zeroCells_list z k
  have hkz0 : k ≠ 0 := by omega
  have hxl : xs.length = n := by simpa using hown.1
  by_cases hroom : n + k ≤ c
  · rcases hown.2 with ⟨h, _⟩ | ⟨g, cap, cur, hv, hbg, hgB, hnc, hcm, hcs, htk⟩
    · injection h with h1 h2 h3
      omega
    · injection hv with h3 h4 h5
      subst h3 h5
      have hB : Blk w g e cur := hgB
      have hst := run_storeCells_at P g n e (List.replicate k z) 0 cur w hB (by simp; omega) (by intro u hu; rw [List.eq_of_mem_replicate hu]; exact hz1)
      simp only [Nat.add_zero] at hst
      refine ⟨some ⟨g, 0, none⟩, c, w.setRow g (cur.toList.take n ++ List.replicate k z ++ cur.toList.drop (n + (List.replicate k z).length)).toArray, ?_, ?_, grownBy_setRow w g _, .inl rfl⟩
      · have ha : ({ block := g, off := 0 } : Addr).add n = ⟨g, n, none⟩ := by simp [Addr.add]; omega
        have hnk : (n : Int) + (k : Int) ≤ (c : Int) := by omega
        simp [Builtin.append_, run_underlying ht, run_underlying hti, sizeOf, typeInfo, zeroValue, hi, hz, hsize, asInt, asIntOf, hwk, hneg, hbig, hkz0, hroom, hzs, hkz, ha, hst]
      · refine ⟨by simp [hxl], .inr ⟨g, c, _, rfl, hbg, (hB.setRow _), hroom, hcm, ?_, ?_⟩⟩
        · simp; omega
        · have hl2 : (xs ++ List.replicate k z).length = (n + k) * 1 := by simp [hxl]
          rw [Nat.mul_one] at htk
          rw [htk, ← hl2]
          exact List.take_left
  · have hnext : Builtin.nextslicecap (n + k) c * i.bytes ≤ 281474976710656 := growslice_fits (by omega) hbytes
    have hr := Reads.of_own hown
    have hge := grownCap_ge w (n + k) c e
    have hcm : grownCap w (n + k) c e ≤ maxLen := grownCap_le_maxLen w (n + k) c e h63
    have hold : ∀ w' : World, w'.heap = w.heap → (Builtin.firstCells 1 n (.slice A n c)).run P w' = .ok xs.toArray w' := by
      intro w' hw'
      rcases reads_split hr with ⟨rfl, rfl⟩ | ⟨ad, rfl, hc⟩
      · cases A <;> simp [Builtin.firstCells, loadCells, loadCellsFrom]
      · exact run_firstCells_some (P := P) w' 1 n ad n c xs (by simpa using hown.1) (fun j u hu => by rw [← hc j u hu]; simp [World.cell?, hw'])
    refine ⟨some ⟨w.heap.size, 0, none⟩, grownCap w (n + k) c e, w.drew.alloc (.cells (xs.toArray ++ Builtin.zeroCells #[z] k ++ Builtin.zeroCells #[z] (grownCap w (n + k) c e - (n + k))) e), ?_, ⟨?_, .inr ⟨w.heap.size, _, _, rfl, hbase, _root_.Go.heap_alloc_new w.drew _, hge, hcm, ?_, ?_⟩⟩, ⟨rfl, rfl, rfl, by simp, fun j hj _ => _root_.Go.heap_alloc_old w.drew _ hj⟩, .inr rfl⟩
    · have hh := hold w.drew rfl
      have h63' : ¬ (9223372036854775807 < ((n : Int) + (k : Int))) := by omega
      have h48' : ¬ (281474976710656 < Builtin.nextslicecap (n + k) c * i.bytes) := by omega
      simp [Builtin.append_, run_underlying ht, run_underlying hti, sizeOf, typeInfo, zeroValue, hi, hz, hsize, asInt, asIntOf, hwk, hneg, hbig, hroom, hkz0, h63', h48', Question.forced, hh, newRow, grownCap, hzs]
    · simp [hxl]
    · simp [Builtin.zeroCells, hxl]; omega
    · rw [Array.toList_append, Array.toList_append, hkz]
      rw [List.take_append_of_le_length (by simp [hxl]), List.take_of_length_le (by simp [hxl])]
end
end Go.Rat
namespace Go.Proofs.Ytmjdfajdompkeaa
open Go.RowKit Go.Rat
theorem bvs_zeros (k : Nat) : bvs (List.replicate k 0) = List.replicate k (Value.int .u8 0) := by
  rw [bvs, List.map_replicate]; rfl
theorem app_noughts {w : World} {ops : Array Oper} {rest : List Oper} {o : Oper} {a : Act} {Q : Exit → Act → World → Prop} (hgd : o.guard = none) (s x : Operand)
    (ho : o.op = .call { callee := .builtin .append, args := #[s, x], argTypes := #[22, 3] })
    (base : Nat) (A : Option Addr) (n c : Nat) (xs : List UInt8) (hs : a.eval s = .slice A n c) (hown : OB 5 w base A n c xs)
    (k : Nat) (hx : a.eval x = .int .i64 (k : Int)) (hk : 0 < k) (hbytes : n + k ≤ 140737488355328) (hbase : base ≤ w.heap.size)
    (h : ∀ A2 N2 c2 w2, N2 ≤ c2 → c2 ≤ 9223372036854775807 → OB 5 w2 base A2 N2 c2 (xs ++ List.replicate k 0) → Grew w w2 A A2 → wpList Try.prog ops Q rest (a.put o.dst (.slice A2 N2 c2)) w2) :
    wpList Try.prog ops Q (o :: rest) a w := by
  obtain ⟨i0, hi, hz0, hz1, hz2⟩ := info_parts u8info
  refine wpList_plain hgd fun K hK => ?_
  obtain ⟨A2, c2, w2, hrun, h2, h3, h4⟩ := run_append_zerosG (P := Try.prog) w base 22 3 o.type 5 i0 _ 1 Try.underlying22 ⟨_, Try.underlying3⟩ hi hz0 hz1 hz2 rfl rfl A n c (bvs xs) hown k hk (by simp only [maxLen]; omega) (by omega) hbase
  unfold Oper.wp execOp
  simp only [ho, resolve, invoke, builtin, Sem.run_bind, Sem.run_pure, Result.andThen_ok, List.map_toArray, List.map_cons, List.map_nil, hs, hx, hrun]
  exact hK _ _ (h _ _ _ _ (own_cap h2).1 (own_cap h2).2 (by unfold OB; rw [bvs_append, bvs_zeros]; exact h2) ⟨h3, h4.imp id fun h => ⟨_, h, Nat.le_refl _, (h2.lt _ (by cases A2 <;> simp_all [Value.ownBlock])).2⟩⟩)
end Go.Proofs.Ytmjdfajdompkeaa
namespace Go.Proofs.Ytmjdfajdompkeaa
open Go.RowKit Go.Rat
set_option maxHeartbeats 400000 in
theorem clone_any (w : World) (A : Option Addr) (n c : Nat) (xs : List UInt8) (hr : RB w A n xs) (hn : n ≤ 140737488355328) :
    Calls Try.prog 66 #[.slice A n c] w fun e w' => ∃ A' c', e = .returned (.slice A' n c') ∧ OB 5 w' w.heap.size A' n c' xs ∧ Below w.heap.size w w' := by
  rcases A with _ | ad
  · obtain rfl : n = 0 := hr.nil0
    obtain rfl : xs = [] := List.eq_nil_of_length_eq_zero hr.len
    have hnil := fun (w : World) (n c : Nat) => Lib.run_eql_slice_nil w 22 5 none n c 0 0 Try.underlying22
    go_enter Try.func66, Try.ntmps66
    go_wp2_with fail
    go_ret
    exact ⟨none, 0, rfl, OB.nil_ _ _ _, Below.refl _ _⟩
  · have hnil := fun (w : World) (n c : Nat) => Lib.run_eql_slice_nil w 22 5 (some ad) n c 0 0 Try.underlying22
    go_enter Try.func66, Try.ntmps66
    go_wp2_with (at_builtin; refine app_bytes rfl _ _ rfl w.heap.size _ _ _ [] rfl (OB.empty _ _) _ _ _ xs rfl (hr.below (below_alloc _ _)) (by omega) (by simp) ?_; intro A2 N2 c2 w2 hc2 hc3 hO hG)
    go_ret
    obtain rfl : N2 = n := by have := hO.len; have := hr.len; simp at *; omega
    exact ⟨A2, c2, rfl, hO, hG.below (below_alloc _ _) (by simp) (by simp)⟩

theorem take_first {xs : List UInt8} {zs ys : List Value} {n : Nat} (hl : n ≤ zs.length) (h : zs.take (n * 1) = bvs xs) : (zs ++ ys).take (n * 1) = bvs xs := by
  rw [List.take_append_of_le_length (by omega), h]
set_option maxHeartbeats 400000 in
theorem grow_any (w : World) (base : Nat) (A : Option Addr) (n c : Nat) (xs : List UInt8) (k : Int) (hO : OB 5 w base A n c xs) (hb : base ≤ w.heap.size) (h0 : 0 ≤ k) (h1 : k ≤ 8) (hn : n ≤ 140737488000000) :
    Calls Try.prog 106 #[.slice A n c, .int .i64 k] w fun e w' => ∃ A' c', e = .returned (.slice A' n c') ∧ OB 5 w' base A' n c' xs ∧ Below w.heap.size w w' := by
  have hnc := hO.cap.1
  have hc := hO.cap.2
  by_cases hk : k ≤ (c : Int) - n
  · go_enter Try.func106, Try.ntmps106
    go_wp2_with fail
    go_ret
    exact ⟨A, c, rfl, hO, Below.refl _ _⟩
  · obtain ⟨zs, hz, hzt⟩ := own_full hO
    have hzl := hz.1
    go_enter Try.func106, Try.ntmps106
    go_wp2_with (at_builtin; refine app_zeros rfl _ _ rfl base _ _ zs rfl hz _ rfl (by omega) (by omega) hb ?_; intro A2 N2 c2 w2 hc2 hc3 hO2 hG; have hN2 : n ≤ N2 := (by have h1 := hO2.1; simp at h1; omega))
    go_ret
    refine ⟨A2, c2, rfl, ?_, hG.below (Below.refl _ _) (Nat.le_refl _) (by simp)⟩
    have := own_shorter hO2 (k := n) (by omega)
    rwa [take_first (by omega) hzt] at this

/-- A number by its bytes, the highest one first. -/
def be (size x : Nat) : List UInt8 := (List.range size).map fun j => UInt8.ofNat (x / 2 ^ (8 * (size - 1 - j)))
theorem be_length (size x : Nat) : (be size x).length = size := by simp [be]
theorem be_snoc (size x k : Nat) (h : k < size) : (be size x).take (k + 1) = (be size x).take k ++ [UInt8.ofNat (x / 2 ^ (8 * (size - 1 - k)))] := by
  rw [List.take_succ_eq_append_getElem (by rw [be_length]; exact h)]
  simp [be]
theorem bv_be (x k : Nat) : Value.int .u8 ((x : Int) / 2 ^ k % 256) = bv (UInt8.ofNat (x / 2 ^ k)) := by
  unfold bv
  congr 1

set_option maxHeartbeats 400000 in
theorem put64_any (w : World) (A : Option Addr) (n c : Nat) (xs : List UInt8) (x : Nat) (hr : RB w A n xs) (hn : n ≤ 140737487000000) (_hx : x < 2 ^ 64) :
    Calls Try.prog 94 #[.slice A n c, .int .u64 x, .int .i64 8] w fun e w' => ∃ A' N' c', e = .returned (.slice A' N' c') ∧ OB 5 w' w.heap.size A' N' c' (xs ++ be 8 x) ∧ Below w.heap.size w w' := by
  have hxl := hr.len
  go_enter Try.func94, Try.ntmps94
  go_wp2_with (first | (go_at_call 66; refine (clone_any _ A n c xs hr (by omega)).mono ?_; rintro e w1 ⟨A1, c1, rfl, hO1, hb1⟩) | (go_at_call 106; refine (grow_any w1 w.heap.size A1 n c1 xs 8 hO1 hb1.size (by omega) (by omega) (by omega)).mono ?_; rintro e w2 ⟨A2, c2, rfl, hO2, hb2⟩))
  go_loopw [7, 8] (fun v i wr => ∃ (k : Nat) (A3 : Option Addr) (N3 c3 : Nat), k ≤ 8 ∧ i = .int .i64 (8 - 1 - (k : Int)) ∧ v = .slice A3 N3 c3 ∧ OB 5 wr w.heap.size A3 N3 c3 (xs ++ (be 8 x).take k) ∧ Below w.heap.size w wr) (fun _ i _ => (intOf i + 1).toNat)
  case atStart => exact ⟨0, A2, n, c2, by omega, rfl, rfl, by simpa using hO2, hb1.trans (hb2.mono hb1.size)⟩
  case round =>
    obtain ⟨k, A3, N3, c3, hk, rfl, rfl, hO3, hb3⟩ := hrel
    clear hO1 hb1 hO2 hb2
    have hN3 := hO3.len
    go_wp2_with (at_builtin; refine app_bytes rfl _ _ rfl w.heap.size _ _ _ (xs ++ (be 8 x).take k) rfl (hO3.alloc _) _ _ _ [UInt8.ofNat (x / 2 ^ (8 * (7 - k)))] rfl (RB.one_ _ _ (bv_be _ _)) (by simp [be_length] at hN3; omega) (by simp; exact Nat.le_succ_of_le hb3.size) ?_; intro A4 N4 c4 w4 hc4 hc4' hO4 hG4)
    · go_roundw
      case rel => exact ⟨k + 1, A4, N4, c4, by omega, by go_num, rfl, by rw [be_snoc 8 x k (by omega), ← List.append_assoc]; exact hO4, hG4.own (below_alloc2 hb3 (Nat.le_refl _) _) (Nat.le_refl _) (hO3.alloc _)⟩
      case measure => simp [intOf]; omega
    · go_ret
      exact ⟨A3, N3, c3, rfl, by rwa [List.take_of_length_le (by rw [be_length]; omega)] at hO3, hb3⟩

set_option maxHeartbeats 400000 in
theorem word_any (w : World) (A : Option Addr) (n c : Nat) (xs : List UInt8) (x : Nat) (hr : RB w A n xs) (hn : n ≤ 140737487000000) (hx : x < 2 ^ 64) :
    Calls Try.prog 73 #[.slice A n c, .int .u64 x] w fun e w' => ∃ A' N' c', e = .returned (.slice A' N' c') ∧ OB 5 w' w.heap.size A' N' c' (xs ++ be 8 x) ∧ Below w.heap.size w w' := by
  go_enter Try.func73, Try.ntmps73
  go_wp2_with (go_at_call 94; refine (put64_any _ A n c xs x hr hn hx).mono ?_; rintro e w1 ⟨A1, N1, c1, rfl, hO1, hb1⟩)
  go_ret
  exact ⟨A1, N1, c1, rfl, hO1, hb1⟩

set_option maxHeartbeats 400000 in
theorem rput_any (w : World) (A : Option Addr) (n c : Nat) (xs : List UInt8) (x sz : Nat) (hr : RB w A n xs) (hn : n ≤ 140737487000000) (_hx : x < 2 ^ 64) (hsz : sz ≤ 8) :
    Calls Try.prog 98 #[.slice A n c, .int .u64 x, .int .i64 sz] w fun e w' => ∃ A' N' c', e = .returned (.slice A' N' c') ∧ OB 5 w' w.heap.size A' N' c' (xs ++ be sz x) ∧ Below w.heap.size w w' := by
  have hxl := hr.len
  go_enter Try.func98, Try.ntmps98
  go_wp2_with (at_builtin; refine app_bytes rfl _ _ rfl w.heap.size _ _ _ [] rfl (OB.empty _ _) _ _ _ xs rfl (hr.below (below_alloc _ _)) (by omega) (by simp) ?_; intro A2 N2 c2 w2 hc2 hc3 hO2 hG2)
  go_loopw [7, 8] (fun v i wr => ∃ (k : Nat) (A3 : Option Addr) (N3 c3 : Nat), k ≤ sz ∧ i = .int .i64 (sz - 1 - (k : Int)) ∧ v = .slice A3 N3 c3 ∧ OB 5 wr w.heap.size A3 N3 c3 (xs ++ (be sz x).take k) ∧ Below w.heap.size w wr) (fun _ i _ => (intOf i + 1).toNat)
  case atStart => exact ⟨0, A2, N2, c2, by omega, by go_num, rfl, by simpa using hO2, hG2.below (below_alloc _ _) (by simp) (by simp)⟩
  case round =>
    obtain ⟨k, A3, N3, c3, hk, rfl, rfl, hO3, hb3⟩ := hrel
    clear hO2 hG2
    have hN3 := hO3.len
    by_cases hks : k < sz
    · have hc0 : (0 : Int) ≤ (sz : Int) - 1 - (k : Int) := by omega
      go_wp2_with (at_builtin; refine app_bytes rfl _ _ rfl w.heap.size _ _ _ (xs ++ (be sz x).take k) rfl (hO3.alloc _) _ _ _ [UInt8.ofNat (x / 2 ^ (8 * (sz - 1 - k)))] rfl (RB.one_ _ _ (bv_be _ _)) (by simp [be_length] at hN3; omega) (by simp; exact Nat.le_succ_of_le hb3.size) ?_; intro A4 N4 c4 w4 hc4 hc4' hO4 hG4)
      go_roundw
      case rel => exact ⟨k + 1, A4, N4, c4, by omega, by go_num, rfl, by rw [be_snoc sz x k (by omega), ← List.append_assoc]; exact hO4, hG4.own (below_alloc2 hb3 (Nat.le_refl _) _) (Nat.le_refl _) (hO3.alloc _)⟩
      case measure => simp [intOf]; omega
    · obtain rfl : k = sz := by omega
      go_wp2_with fail
      go_ret
      exact ⟨A3, N3, c3, rfl, by rwa [List.take_of_length_le (by rw [be_length]; omega)] at hO3, hb3⟩

set_option maxHeartbeats 400000 in
theorem rword_any (w : World) (A : Option Addr) (n c : Nat) (xs : List UInt8) (x : Nat) (hr : RB w A n xs) (hn : n ≤ 140737487000000) (hx : x < 2 ^ 64) :
    Calls Try.prog 78 #[.slice A n c, .int .u64 x] w fun e w' => ∃ A' N' c', e = .returned (.slice A' N' c') ∧ OB 5 w' w.heap.size A' N' c' (xs ++ be 8 x) ∧ Below w.heap.size w w' := by
  go_enter Try.func78, Try.ntmps78
  go_wp2_with (go_at_call 98; refine (rput_any _ A n c xs x 8 hr hn hx (by omega)).mono ?_; rintro e w1 ⟨A1, N1, c1, rfl, hO1, hb1⟩)
  go_ret
  exact ⟨A1, N1, c1, rfl, hO1, hb1⟩
end Go.Proofs.Ytmjdfajdompkeaa
namespace Go.Proofs.Ytmjdfajdompkeaa
open Go.RowKit Go.Rat
/-- The number of bytes, the highest one first. -/
def num (ys : List UInt8) : Nat := ys.foldl (fun n b => n * 256 + b.toNat) 0
theorem num_lt (ys : List UInt8) : num ys < 256 ^ ys.length := by
  unfold num
  suffices H : ∀ (ys : List UInt8) (a : Nat), ys.foldl (fun n b => n * 256 + b.toNat) a < (a + 1) * 256 ^ ys.length by simpa using H ys 0
  intro ys
  induction ys with
  | nil => intro a; simp
  | cons y ys ih =>
    intro a
    refine Nat.lt_of_lt_of_le (ih _) ?_
    have := y.toNat_lt
    rw [List.length_cons, Nat.pow_succ, Nat.mul_comm (256 ^ _) 256, ← Nat.mul_assoc]
    exact Nat.mul_le_mul_right _ (by show a * 256 + y.toNat + 1 ≤ _; omega)
theorem num_snoc (ys : List UInt8) (b : UInt8) : num (ys ++ [b]) = num ys * 256 + b.toNat := by simp [num]
theorem num_lt64 {ys : List UInt8} (h : ys.length ≤ 8) : num ys < 18446744073709551616 :=
  Nat.lt_of_lt_of_le (num_lt ys) (Nat.le_trans (Nat.pow_le_pow_right (by omega) h) (by decide))

theorem num_lt16 {ys : List UInt8} (h : ys.length ≤ 2) : num ys < 65536 :=
  Nat.lt_of_lt_of_le (num_lt ys) (Nat.le_trans (Nat.pow_le_pow_right (by omega) h) (by decide))
theorem num_lt8 {ys : List UInt8} (h : ys.length ≤ 1) : num ys < 256 :=
  Nat.lt_of_lt_of_le (num_lt ys) (Nat.le_trans (Nat.pow_le_pow_right (by omega) h) (by decide))
theorem be_succ (n a : Nat) : be (n + 1) a = UInt8.ofNat (a / 2 ^ (8 * n)) :: be n a := by
  unfold be
  rw [List.range_succ_eq_map, List.map_cons, List.map_map]
  congr 1
  refine List.map_congr_left fun j hj => ?_
  simp only [Function.comp, List.mem_range] at hj ⊢
  rw [show n + 1 - 1 - (j + 1) = n - 1 - j by omega]
theorem num_cons (x : UInt8) (xs : List UInt8) : num (x :: xs) = x.toNat * 256 ^ xs.length + num xs := by
  unfold num
  rw [List.foldl_cons]
  suffices H : ∀ (ys : List UInt8) (a : Nat), ys.foldl (fun n b => n * 256 + b.toNat) a = a * 256 ^ ys.length + ys.foldl (fun n b => n * 256 + b.toNat) 0 by rw [H]; simp
  intro ys
  induction ys with
  | nil => intro a; simp
  | cons y ys ih =>
    intro a
    rw [List.foldl_cons, List.foldl_cons, ih, ih (0 * 256 + y.toNat), List.length_cons, Nat.pow_succ, Nat.zero_mul, Nat.zero_add, Nat.add_mul, Nat.mul_assoc, Nat.mul_comm 256, Nat.add_assoc]
theorem pow256 (n : Nat) : 2 ^ (8 * n) = 256 ^ n := by rw [Nat.pow_mul]
/-- A number's bytes are that number. -/
theorem num_be (n a : Nat) : num (be n a) = a % 256 ^ n := by
  induction n with
  | zero => simp [be, num, Nat.mod_one]
  | succ n ih =>
    have h := Nat.mod_mul (a := 256 ^ n) (b := 256) (x := a)
    rw [← Nat.pow_succ] at h
    rw [be_succ, num_cons, be_length, ih, UInt8.toNat_ofNat', pow256, h, show (2 : Nat) ^ 8 = 256 from rfl, Nat.mul_comm (256 ^ n)]
    omega
end Go.Proofs.Ytmjdfajdompkeaa
namespace Go.Proofs.Ytmjdfajdompkeaa
open Go.RowKit Go.Rat
/-- All bytes of a slot; those of its sector i. -/
def allB (b : List UInt8) : List UInt8 := be 2 b.length ++ b ++ List.replicate (1198 - b.length) 0
theorem allB_length {b : List UInt8} (h : b.length ≤ 1198) : (allB b).length = 1200 := by
  rw [allB, List.length_append, List.length_append, be_length, List.length_replicate]; omega
def partB (b : List UInt8) (i : Nat) : List UInt8 := ((allB b).drop (i * 120)).take 120
theorem partB_length {b : List UInt8} (h : b.length ≤ 1198) {i : Nat} (hi : i < 10) : (partB b i).length = 120 := by
  rw [partB, List.length_take, List.length_drop, allB_length h]; omega
def secB (c : Nat) (b : List UInt8) (i : Nat) : List UInt8 := be 8 c ++ partB b i
theorem secB_length (c : Nat) {b : List UInt8} (h : b.length ≤ 1198) {i : Nat} (hi : i < 10) : (secB c b i).length = 128 := by
  rw [secB, List.length_append, be_length, partB_length h hi]
def cntB (s : List UInt8) : Nat := num (s.take 8)
theorem cntB_lt (s : List UInt8) : cntB s < 2 ^ 64 := num_lt64 (by rw [List.length_take]; omega)
theorem cntB_secB {c : Nat} (hc : c < 2 ^ 64) (b : List UInt8) (i : Nat) : cntB (secB c b i) = c := by
  rw [cntB, secB, List.take_left' (be_length 8 c), num_be, Nat.mod_eq_of_lt (by omega)]
theorem secB_drop (c : Nat) (b : List UInt8) (i : Nat) : (secB c b i).drop 8 = partB b i := by
  rw [secB, List.drop_left' (be_length 8 c)]
/-- What is read of the first k sectors; none: they are not whole. -/
def rdS (F : Nat → Option (List UInt8)) : Nat → Option (Nat × List UInt8)
  | 0 => some (0, [])
  | k + 1 => match rdS F k, F k with
    | some (n, all), some s => if k = 0 ∨ cntB s = n then some (cntB s, all ++ s.drop 8) else none
    | _, _ => none
def endF (n : Nat) (all : List UInt8) : Nat × List UInt8 :=
  if num (all.take 2) ≤ 1100 ∧ ((all.drop 2).drop (num (all.take 2))).all (· == 0) = true then (n, (all.drop 2).take (num (all.take 2))) else (0, [])
def rdF (F : Nat → Option (List UInt8)) : Nat × List UInt8 :=
  match rdS F 10 with
  | none => (0, [])
  | some (n, all) => endF n all
theorem rdS_ext {F G : Nat → Option (List UInt8)} : ∀ k, (∀ i, i < k → F i = G i) → rdS F k = rdS G k
  | 0, _ => rfl
  | k + 1, h => by rw [rdS, rdS, rdS_ext k (fun i hi => h i (by omega)), h k (by omega)]
theorem rdF_ext {F G : Nat → Option (List UInt8)} (h : ∀ i, i < 10 → F i = G i) : rdF F = rdF G := by rw [rdF, rdF, rdS_ext 10 h]
theorem rdS_of (F : Nat → Option (List UInt8)) : ∀ k n all, rdS F k = some (n, all) → ∀ i, i < k → ∃ s, F i = some s ∧ cntB s = n
  | 0, _, _, _, i, hi => by omega
  | k + 1, n, all, h, i, hi => by
    rw [rdS] at h
    split at h
    · next m al s h1 h2 =>
      split at h
      · next hc =>
        simp only [Option.some.injEq, Prod.mk.injEq] at h
        by_cases e : i = k
        · subst e
          exact ⟨s, h2, h.1⟩
        · obtain ⟨s', h3, h4⟩ := rdS_of F k m al h1 i (by omega)
          refine ⟨s', h3, ?_⟩
          rcases hc with hc | hc
          · omega
          · rw [h4, ← hc]; exact h.1
      · cases h
    · cases h
theorem rdF_of {F : Nat → Option (List UInt8)} (h : (rdF F).1 ≠ 0) : ∀ i, i < 10 → ∃ s, F i = some s ∧ cntB s = (rdF F).1 := by
  rw [rdF] at h ⊢
  split
  · next h1 => rw [h1] at h; exact absurd rfl h
  · next n all h1 =>
    rw [h1] at h
    simp only [endF] at h ⊢
    split
    · exact rdS_of F 10 n all h1
    · next hc => rw [if_neg hc] at h; exact absurd rfl h
theorem rdF_lost {F : Nat → Option (List UInt8)} {i : Nat} (hi : i < 10) (h : F i = none) : rdF F = (0, []) := by
  have : rdS F 10 = none := by
    match hr : rdS F 10 with
    | none => rfl
    | some (n, all) =>
      obtain ⟨s, hs, _⟩ := rdS_of F 10 n all hr i hi
      rw [h] at hs; cases hs
  rw [rdF, this]
theorem part_next (b : List UInt8) (k : Nat) : (allB b).take (k * 120) ++ partB b k = (allB b).take ((k + 1) * 120) := by
  rw [partB, Nat.succ_mul, List.take_add]
theorem rdS_full {F : Nat → Option (List UInt8)} {c : Nat} {b : List UInt8} (hc : c < 2 ^ 64) : ∀ k, (∀ i, i < k → F i = some (secB c b i)) → rdS F k = some (if k = 0 then 0 else c, (allB b).take (k * 120))
  | 0, _ => by simp [rdS]
  | k + 1, h => by
    have ih := rdS_full hc k (fun i hi => h i (by omega))
    rw [rdS, ih, h k (by omega)]
    simp only []
    rw [if_pos, cntB_secB hc, secB_drop, part_next, if_neg (by omega)]
    by_cases hk : k = 0
    · exact .inl hk
    · rw [if_neg hk, cntB_secB hc]; exact .inr rfl
theorem endF_allB {n : Nat} {b : List UInt8} (hb : b.length ≤ 1100) : endF n (allB b) = (n, b) := by
  have h2 : (allB b).take 2 = be 2 b.length := by rw [allB, List.append_assoc, List.take_left' (be_length 2 _)]
  have h3 : (allB b).drop 2 = b ++ List.replicate (1198 - b.length) 0 := by rw [allB, List.append_assoc, List.drop_left' (be_length 2 _)]
  have h4 : num ((allB b).take 2) = b.length := by rw [h2, num_be, Nat.mod_eq_of_lt (by omega)]
  rw [endF, h4, h3, List.drop_left, List.take_left, if_pos ⟨hb, by simp⟩]
theorem rdF_full {F : Nat → Option (List UInt8)} {c : Nat} {b : List UInt8} (hc : c < 2 ^ 64) (hb : b.length ≤ 1100) (h : ∀ i, i < 10 → F i = some (secB c b i)) : rdF F = (c, b) := by
  rw [rdF, rdS_full hc 10 h, if_neg (by omega)]
  have := allB_length (b := b) (by omega)
  simp only []
  rw [List.take_of_length_le (by omega)]
  exact endF_allB hb
/-- The greatest count of the first k sectors. -/
def topF (F : Nat → Option (List UInt8)) : Nat → Nat
  | 0 => 0
  | k + 1 => match F k with
    | some s => max (topF F k) (cntB s)
    | none => topF F k
theorem topF_lt (F : Nat → Option (List UInt8)) : ∀ k, topF F k < 2 ^ 64
  | 0 => by simp [topF]
  | k + 1 => by
    have := topF_lt F k
    rw [topF]
    split
    · next s _ => have := cntB_lt s; omega
    · exact this
theorem topF_ge (F : Nat → Option (List UInt8)) : ∀ k i s, i < k → F i = some s → cntB s ≤ topF F k
  | 0, i, _, h, _ => by omega
  | k + 1, i, s, h, hs => by
    rw [topF]
    by_cases e : i = k
    · subst e
      rw [hs]
      simp only []
      omega
    · have := topF_ge F k i s (by omega) hs
      split <;> omega
theorem topF_le (F : Nat → Option (List UInt8)) (M : Nat) : ∀ k, (∀ i s, i < k → F i = some s → cntB s ≤ M) → topF F k ≤ M
  | 0, _ => Nat.zero_le _
  | k + 1, h => by
    have ih := topF_le F M k (fun i s hi => h i s (by omega))
    rw [topF]
    split
    · next s hs => have := h k s (by omega) hs; omega
    · exact ih
/-- What a disk tells of its sectors from p on. -/
def viewD (d : DS) (p : Int) (i : Nat) : Option (List UInt8) := if readE d (p + (i : Int)) = 0 then some (readB d (p + (i : Int))) else none
/-- The write of the first k sectors of a slot. -/
def wrS (d : DS) (p : Int) (c : Nat) (b : List UInt8) : Nat → DS × Int
  | 0 => (d, 0)
  | k + 1 => if (wrS d p c b k).2 = 0 then (writeD (wrS d p c b k).1 (p + (k : Int)) (secB c b k), writeE (wrS d p c b k).1 (p + (k : Int))) else wrS d p c b k
theorem wrS_stop {d : DS} {p : Int} {c : Nat} {b : List UInt8} {k : Nat} (h : (wrS d p c b k).2 ≠ 0) : ∀ n, wrS d p c b (k + n) = wrS d p c b k
  | 0 => rfl
  | n + 1 => by
    have ih := wrS_stop h n
    rw [← Nat.add_assoc, wrS, ih, if_neg h]
def mayE (p : Int) : Int := if 0 ≤ p ∧ p ≤ 32748 then 0 else 1
/-- Format. -/
def fmF (d : DS) (p : Int) : DS × Int :=
  if (wrS d p 2 [] 10).2 = 0 then
    (if (wrS (wrS d p 2 [] 10).1 (p + 10) 1 [] 10).2 = 0 then (syncAll (wrS (wrS d p 2 [] 10).1 (p + 10) 1 [] 10).1, syncE (wrS (wrS d p 2 [] 10).1 (p + 10) 1 [] 10).1) else wrS (wrS d p 2 [] 10).1 (p + 10) 1 [] 10)
  else wrS d p 2 [] 10
def nextF (d : DS) (p : Int) : Nat := (topF (viewD d p) 20 + 1) % 2 ^ 64
/-- Put, of bytes that are not too many, by a cell that is not dead. -/
def ptF (d : DS) (p : Int) (which : Nat) (b : List UInt8) : DS × Int :=
  if (wrS d (p + ((1 - which : Nat) : Int) * 10) (nextF d p) b 10).2 = 0 then (syncAll (wrS d (p + ((1 - which : Nat) : Int) * 10) (nextF d p) b 10).1, syncE (wrS d (p + ((1 - which : Nat) : Int) * 10) (nextF d p) b 10).1)
  else wrS d (p + ((1 - which : Nat) : Int) * 10) (nextF d p) b 10
end Go.Proofs.Ytmjdfajdompkeaa
namespace Go.Proofs.Ytmjdfajdompkeaa
open Go.RowKit Go.Rat
theorem add_field (ad : Addr) (j i : Nat) (hi : 0 < i) : (⟨(ad.add j).block, (ad.add j).off + i, none⟩ : Addr) = ad.add (j + i) := by
  unfold Addr.add
  by_cases hj : j = 0
  · subst hj
    simp; omega
  · simp [hj]; omega
theorem flat_get {α : Type} (f : α → List Value) (s : Nat) (hf : ∀ a, (f a).length = s) : ∀ (l : List α) (k i : Nat) (a : α), l[k]? = some a → i < s → (l.flatMap f)[k * s + i]? = (f a)[i]? := by
  intro l
  induction l with
  | nil => intro k i a h; simp at h
  | cons x l ih =>
    intro k i a h hi
    rw [List.flatMap_cons]
    cases k with
    | zero =>
      simp at h
      subst h
      rw [Nat.zero_mul, Nat.zero_add, List.getElem?_append_left (by rw [hf]; exact hi)]
    | succ k =>
      simp at h
      rw [List.getElem?_append_right (by rw [hf, Nat.succ_mul]; omega), hf, show (k + 1) * s + i - s = k * s + i by rw [Nat.succ_mul]; omega]
      exact ih k i a h hi
theorem flat_len {α : Type} (f : α → List Value) (s : Nat) (hf : ∀ a, (f a).length = s) (l : List α) : (l.flatMap f).length = l.length * s := by
  rw [List.length_flatMap, List.map_congr_left (g := fun _ => s) (fun a _ => hf a), List.map_const', List.sum_replicate_nat]
end Go.Proofs.Ytmjdfajdompkeaa
namespace Go.Proofs.Ytmjdfajdompkeaa
open Go.RowKit Go.Rat
abbrev Put2 := UInt8 × UInt8
def putCells (x : Put2) : List Value := [.int .u8 (x.1.toNat : Int), .int .u8 (x.2.toNat : Int)]
theorem puts_at {w : World} {A : Option Addr} {n : Nat} {l : List Put2} (h : Reads w w.heap.size 2 A n (l.flatMap putCells)) {k : Nat} (hk : k < n) :
    ∃ ad, A = some ad ∧ (ad.add (k * 2)).block < w.heap.size ∧ w.cell? (ad.add (k * 2)) = some (.int .u8 ((l.getD k (0, 0)).1.toNat : Int)) ∧ w.cell? ⟨(ad.add (k * 2)).block, (ad.add (k * 2)).off + 1, none⟩ = some (.int .u8 ((l.getD k (0, 0)).2.toNat : Int)) := by
  obtain ⟨ad, rfl, hb, hc⟩ := h.2 (by omega)
  have hlen := flat_len putCells 2 (fun _ => rfl) l
  have hkl : k < l.length := by have := h.1; omega
  have hg : l[k]? = some (l.getD k (0, 0)) := by rw [List.getD_eq_getElem?_getD, List.getElem?_eq_getElem hkl]; rfl
  have F := flat_get putCells 2 (fun _ => rfl) l k
  refine ⟨ad, rfl, by rw [block_of_add]; exact hb, ?_, ?_⟩
  · exact hc _ _ (by have := F 0 _ hg (by omega); simpa [putCells] using this)
  · rw [add_field _ _ _ (by omega)]
    exact hc _ _ (by have := F 1 _ hg (by omega); simpa [putCells] using this)
def atP (x : Put2) : Nat := x.1.toNat % 16
theorem atP_lt (x : Put2) : atP x < 16 := Nat.mod_lt _ (by omega)
def looseP (l : List Put2) : List (Int × List UInt8) := l.map fun x => ((atP x : Int), rep x.2)
def rowsC (f : Nat → List UInt8) (n : Nat) : List Value := (List.range n).flatMap fun a => bvs (f a)
theorem rowsC_succ (f : Nat → List UInt8) (n : Nat) : rowsC f (n + 1) = rowsC f n ++ bvs (f n) := by
  rw [rowsC, rowsC, List.range_succ, List.flatMap_append]; simp
section
variable {f : Nat → List UInt8} (hf : ∀ a, (f a).length = 128)
include hf
theorem rowsC_length : ∀ n, (rowsC f n).length = n * 128
  | 0 => rfl
  | n + 1 => by rw [rowsC_succ, List.length_append, rowsC_length n, bvs_length, hf]; omega
theorem rowsC_get : ∀ n a, a < n → ((rowsC f n).drop (a * 128)).take 128 = bvs (f a)
  | 0, a, h => by omega
  | n + 1, a, h => by
    have hl := rowsC_length hf n
    have hb : (bvs (f a)).length = 128 := by rw [bvs_length, hf]
    rw [rowsC_succ]
    by_cases h1 : a < n
    · rw [List.drop_append_of_le_length (by omega), List.take_append_of_le_length (by rw [List.length_drop]; omega)]
      exact rowsC_get n a h1
    · obtain rfl : a = n := by omega
      rw [← hl, List.drop_left, List.take_of_length_le (by omega)]
theorem rowsC_put (b : List UInt8) (hb : b.length = 128) : ∀ n a, a < n → Go.splice (rowsC f n) (a * 128) (bvs b) = rowsC (fun x => if x = a then b else f x) n
  | 0, a, h => by omega
  | n + 1, a, h => by
    have hl := rowsC_length hf n
    have hbb : (bvs b).length = 128 := by rw [bvs_length, hb]
    rw [rowsC_succ, rowsC_succ]
    by_cases h1 : a < n
    · rw [← rowsC_put b hb n a h1, if_neg (by omega), Go.splice, Go.splice, List.take_append_of_le_length (by omega), List.drop_append_of_le_length (by omega)]
      simp
    · obtain rfl : a = n := by omega
      have he : rowsC (fun x => if x = a then b else f x) a = rowsC f a := by
        rw [rowsC, rowsC, List.flatMap_def, List.flatMap_def]
        exact congrArg _ (List.map_congr_left fun x hx => by rw [if_neg (by have := List.mem_range.1 hx; omega)])
      rw [if_pos rfl, he, Go.splice, ← hl, List.take_left, hbb, List.drop_of_length_le (by rw [List.length_append, bvs_length, hf]; omega), List.append_nil]
end
/-- What the law keeps of the sure puts. -/
def wasF (l : List Put2) : Nat → Nat → List UInt8
  | 0 => fun _ => zs
  | k + 1 => fun a => if a = atP (l.getD k (0, 0)) then rep (l.getD k (0, 0)).2 else wasF l k a
theorem wasF_len (l : List Put2) : ∀ k a, (wasF l k a).length = 128
  | 0, _ => zs_length
  | k + 1, a => by
    unfold wasF
    split
    · exact rep_length _
    · exact wasF_len l k a
/-- After k puts on a disk whose sure sectors are W. -/
structure PutInv (W : Nat → List UInt8) (l : List Put2) (k : Nat) (d : DS) : Prop where
  off : d.off = false
  fuse : d.fuse = -1
  sure : ∀ a : Nat, a < 16 → d.sure a = ⟨W a, false⟩
  loose : d.loose = looseP (l.take k)
  now : ∀ a : Nat, a < 16 → (∀ x ∈ l.take k, atP x ≠ a) → d.now a = ⟨W a, false⟩
theorem take_getD (l : List Put2) {k : Nat} (hk : k < l.length) : l.take (k + 1) = l.take k ++ [l.getD k (0, 0)] := by
  rw [List.take_add_one, List.getElem?_eq_getElem hk, List.getD_eq_getElem?_getD, List.getElem?_eq_getElem hk]; rfl
theorem put_step {W : Nat → List UInt8} {l : List Put2} {k : Nat} {d : DS} (h : PutInv W l k d) (hk : k < l.length) :
    PutInv W l (k + 1) (writeD d (atP (l.getD k (0, 0)) : Nat) (rep (l.getD k (0, 0)).2)) ∧ writeE d (atP (l.getD k (0, 0)) : Nat) = 0 ∧
    ∀ a : Nat, (writeD d (atP (l.getD k (0, 0)) : Nat) (rep (l.getD k (0, 0)).2)).now a = if a = atP (l.getD k (0, 0)) then ⟨rep (l.getD k (0, 0)).2, false⟩ else d.now a := by
  have hx := atP_lt (l.getD k (0, 0))
  obtain ⟨h1, h2⟩ := writeD_on h.off h.fuse (a := ((atP (l.getD k (0, 0)) : Nat) : Int)) (by omega) (rep (l.getD k (0, 0)).2)
  rw [h1]
  have hn : ∀ a : Nat, (putD d (atP (l.getD k (0, 0)) : Nat) (rep (l.getD k (0, 0)).2)).now a = if a = atP (l.getD k (0, 0)) then ⟨rep (l.getD k (0, 0)).2, false⟩ else d.now a := by
    intro a
    show (if (a : Int) = _ then _ else _) = _
    by_cases e : a = atP (l.getD k (0, 0))
    · rw [if_pos e, if_pos (by rw [e])]
    · rw [if_neg e, if_neg (by omega)]
  refine ⟨⟨h.off, h.fuse, h.sure, ?_, ?_⟩, h2, hn⟩
  · show d.loose ++ [_] = _
    rw [h.loose, take_getD l hk, looseP, looseP, List.map_append]; rfl
  · intro a ha hx
    rw [take_getD l hk] at hx
    rw [hn, if_neg (fun e => hx _ (by simp) e.symm)]
    exact h.now a ha fun x hm => hx x (by simp [hm])
theorem put_start : PutInv (fun _ => zs) [] 0 ds0 := ⟨rfl, rfl, fun _ _ => rfl, rfl, fun _ _ _ => rfl⟩
theorem PutInv.first {W : Nat → List UInt8} {l : List Put2} {d : DS} (h : PutInv W [] 0 d) : PutInv W l 0 d := ⟨h.off, h.fuse, h.sure, h.loose, fun a ha _ => h.now a ha (fun x hx => by simp at hx)⟩
theorem looseP_any (l : List Put2) (a : Nat) : ((looseP l).any fun x => decide (x.1 = (a : Int))) = true ↔ ∃ x ∈ l, atP x = a := by
  simp only [looseP, List.any_map, List.any_eq_true, Function.comp, decide_eq_true_eq]
  constructor
  · rintro ⟨x, h1, h2⟩; exact ⟨x, h1, by omega⟩
  · rintro ⟨x, h1, h2⟩; exact ⟨x, h1, by omega⟩
/-- The Sync behind the sure puts. -/
theorem put_sync {l : List Put2} {d : DS} (h : PutInv (fun _ => zs) l l.length d) (hn : ∀ a : Nat, a < 16 → d.now a = ⟨wasF l l.length a, false⟩) :
    syncE d = 0 ∧ PutInv (wasF l l.length) [] 0 (syncAll d) := by
  obtain ⟨h1, h2⟩ := syncAll_on h.off h.fuse
  rw [h1]
  refine ⟨h2, h.off, h.fuse, ?_, rfl, fun a ha _ => hn a ha⟩
  intro a ha
  show syncF d.now d.loose d.sure a = _
  rw [syncF_at, ← hn a ha]
  split
  · rfl
  · next hc =>
    rw [h.loose, List.take_length, looseP_any] at hc
    rw [h.sure a ha, h.now a ha (fun x hx e => hc ⟨x, by simpa using hx, e⟩)]
theorem picksF_is (ps : List UInt8) (a : Int) : ∀ (l : List (Int × List UInt8)) i (f : Int → Sec), picksF l i ps f a = f a ∨ ∃ x ∈ l, x.1 = a ∧ (picksF l i ps f a = ⟨x.2, false⟩ ∨ (picksF l i ps f a).lost = true)
  | [], _, _ => .inl rfl
  | x :: r, i, f => by
    rw [picksF]
    rcases picksF_is ps a r (i + 1) (pickF f x (ps.getD i 0).toNat) with h | ⟨y, h1, h2⟩
    · rw [h]
      unfold pickF
      split
      · exact .inl rfl
      · by_cases e : a = x.1
        · right
          refine ⟨x, by simp, e.symm, ?_⟩
          split <;> simp [upd, e]
        · left
          split <;> simp [upd, e]
    · exact .inr ⟨y, by simp [h1], h2⟩
theorem put_end {W : Nat → List UInt8} {l : List Put2} {d : DS} (h : PutInv W l l.length d) (ps : List UInt8) :
    readE (offD d) 0 = 8 ∧ onE (offD d) = 0 ∧ (onAll (offD d) ps).loose = [] ∧
    ∀ a : Nat, a < 16 → (readE (onAll (offD d) ps) a = 0 ∧ readB (onAll (offD d) ps) a = W a) ∨ ∃ x ∈ l, atP x = a ∧ (readE (onAll (offD d) ps) a = 0 ∧ readB (onAll (offD d) ps) a = rep x.2 ∨ readE (onAll (offD d) ps) a = 9) := by
  have hon : onAll (offD d) ps = onD (offD d) ps := by unfold onAll; exact if_pos rfl
  refine ⟨rfl, by unfold onE; exact if_pos rfl, by rw [hon]; rfl, ?_⟩
  intro a ha
  rw [hon]
  have hr : readyE (onD (offD d) ps).off a = 0 := readyE_ok (by omega)
  have hnow : (onD (offD d) ps).now a = ⟨W a, false⟩ ∨ ∃ x ∈ l, atP x = a ∧ ((onD (offD d) ps).now a = ⟨rep x.2, false⟩ ∨ ((onD (offD d) ps).now a).lost = true) := by
    have he : (onD (offD d) ps).now a = syncF (picksF d.loose 0 ps d.sure) d.loose d.now a := rfl
    rw [he, syncF_at]
    split
    · rcases picksF_is ps a d.loose 0 d.sure with hp | ⟨x, h1, h2, h3⟩
      · rw [hp]
        exact .inl (h.sure a ha)
      · rw [h.loose, List.take_length, looseP, List.mem_map] at h1
        obtain ⟨y, hy, rfl⟩ := h1
        exact .inr ⟨y, hy, by simp at h2; omega, h3⟩
    · next hc =>
      rw [h.loose, List.take_length, looseP_any] at hc
      exact .inl (h.now a ha (fun x hx e => hc ⟨x, by simpa using hx, e⟩))
  rcases hnow with h1 | ⟨x, hx, hxa, h1 | h1⟩
  · left
    exact ⟨by rw [readE, if_pos hr, h1]; rfl, by rw [readB, h1, if_pos ⟨hr, rfl⟩]⟩
  · refine .inr ⟨x, hx, hxa, .inl ?_⟩
    exact ⟨by rw [readE, if_pos hr, h1]; rfl, by rw [readB, h1, if_pos ⟨hr, rfl⟩]⟩
  · refine .inr ⟨x, hx, hxa, .inr ?_⟩
    rw [readE, if_pos hr, h1]
    simp
/-- Whether a sector is fine by the first k soft puts. -/
def fineB (W : List UInt8) (l : List Put2) (a : Nat) (b : List UInt8) (e : Int) : Nat → Bool
  | 0 => decide (e = 0) && decide (b = W)
  | k + 1 => if atP (l.getD k (0, 0)) = a then (fineB W l a b e k || (decide (e = 0) && decide (b = rep (l.getD k (0, 0)).2))) || decide (e = 9) else fineB W l a b e k
theorem fineB_up (W : List UInt8) (l : List Put2) (a : Nat) (b : List UInt8) (e : Int) {k : Nat} (h : fineB W l a b e k = true) : ∀ n, fineB W l a b e (k + n) = true
  | 0 => h
  | n + 1 => by
    have := fineB_up W l a b e h n
    rw [← Nat.add_assoc, fineB, this]
    split <;> simp
theorem fineB_end (W : List UInt8) (l : List Put2) (a : Nat) (b : List UInt8) (e : Int) (h : (e = 0 ∧ b = W) ∨ ∃ x ∈ l, atP x = a ∧ (e = 0 ∧ b = rep x.2 ∨ e = 9)) : fineB W l a b e l.length = true := by
  rcases h with ⟨h1, h2⟩ | ⟨x, hx, ha, h⟩
  · have := fineB_up W l a b e (k := 0) (by simp [fineB, h1, h2]) l.length
    rwa [Nat.zero_add] at this
  · obtain ⟨i, hi, he⟩ := List.getElem_of_mem hx
    have hg : l.getD i (0, 0) = x := by rw [List.getD_eq_getElem?_getD, List.getElem?_eq_getElem hi, he]; rfl
    have h1 : fineB W l a b e (i + 1) = true := by
      rw [fineB, hg, if_pos ha]
      rcases h with ⟨h, h'⟩ | h <;> simp [h]
      simp [h']
    have := fineB_up W l a b e h1 (l.length - (i + 1))
    rwa [show i + 1 + (l.length - (i + 1)) = l.length by omega] at this
end Go.Proofs.Ytmjdfajdompkeaa
namespace Go.Proofs.Ytmjdfajdompkeaa
open Go.RowKit Go.Rat
def wlist (p : Int) (c : Nat) (b : List UInt8) (m : Nat) : List (Int × List UInt8) := (List.range m).map fun i => (p + ((i : Nat) : Int), secB c b i)
theorem wlist_succ (p : Int) (c : Nat) (b : List UInt8) (m : Nat) : wlist p c b (m + 1) = wlist p c b m ++ [(p + (m : Int), secB c b m)] := by
  rw [wlist, wlist, List.range_succ, List.map_append]; rfl
theorem wlist_mem {p : Int} {c : Nat} {b : List UInt8} {m : Nat} {x : Int × List UInt8} : x ∈ wlist p c b m ↔ ∃ i : Nat, i < m ∧ x = (p + (i : Int), secB c b i) := by
  rw [wlist, List.mem_map]
  constructor
  · rintro ⟨i, hi, rfl⟩; exact ⟨i, List.mem_range.1 hi, rfl⟩
  · rintro ⟨i, hi, rfl⟩; exact ⟨i, List.mem_range.2 hi, rfl⟩
def nowW (now : Int → Sec) (p : Int) (c : Nat) (b : List UInt8) (m : Nat) : Int → Sec := fun a => if p ≤ a ∧ a < p + (m : Int) then ⟨secB c b (a - p).toNat, false⟩ else now a
theorem nowW_in (now : Int → Sec) (p : Int) (c : Nat) (b : List UInt8) {m i : Nat} (hi : i < m) : nowW now p c b m (p + (i : Int)) = ⟨secB c b i, false⟩ := by
  rw [nowW, if_pos ⟨by omega, by omega⟩, show (p + (i : Int) - p).toNat = i by omega]
theorem nowW_out (now : Int → Sec) (p : Int) (c : Nat) (b : List UInt8) {m : Nat} {a : Int} (h : ¬ (p ≤ a ∧ a < p + (m : Int))) : nowW now p c b m a = now a := if_neg h
structure Wr (d d' : DS) (p : Int) (c : Nat) (b : List UInt8) (m : Nat) : Prop where
  sure : d'.sure = d.sure
  now : ∀ a, d'.now a = nowW d.now p c b m a
  loose : d'.loose = d.loose ++ wlist p c b m
theorem Wr.put {d d' : DS} {p : Int} {c : Nat} {b : List UInt8} {m : Nat} (h : Wr d d' p c b m) : Wr d (putD d' (p + (m : Int)) (secB c b m)) p c b (m + 1) := by
  refine ⟨h.sure, fun a => ?_, ?_⟩
  · show (if a = p + (m : Int) then _ else d'.now a) = _
    rw [h.now, nowW, nowW]
    by_cases e : a = p + (m : Int)
    · subst e
      rw [if_pos rfl, if_pos ⟨by omega, by omega⟩, show (p + (m : Int) - p).toNat = m by omega]
    · rw [if_neg e]
      by_cases h1 : p ≤ a ∧ a < p + (m : Int)
      · rw [if_pos h1, if_pos ⟨by omega, by omega⟩]
      · rw [if_neg h1, if_neg (by omega)]
  · show d'.loose ++ [_] = _
    rw [h.loose, wlist_succ, List.append_assoc]
theorem Wr.of {d d' d2 : DS} {p : Int} {c : Nat} {b : List UInt8} {m : Nat} (h : Wr d d' p c b m) (h1 : d2.sure = d'.sure) (h2 : d2.now = d'.now) (h3 : d2.loose = d'.loose) : Wr d d2 p c b m :=
  ⟨h1.trans h.sure, fun a => by rw [h2]; exact h.now a, h3.trans h.loose⟩
/-- One write, where the power is on. -/
theorem write_eff {d : DS} {a : Int} (b : List UInt8) (ho : d.off = false) (ha : 0 ≤ a ∧ a < 32768) :
    (d.fuse = 0 → writeE d a = 8 ∧ writeD d a b = offD (putD d a b)) ∧
    (0 < d.fuse → writeE d a = 0 ∧ writeD d a b = { putD d a b with fuse := d.fuse - 1 }) ∧
    (d.fuse < 0 → writeE d a = 0 ∧ writeD d a b = putD d a b) := by
  have hr : readyE d.off a = 0 := by rw [ho]; exact readyE_ok ha
  have hf : (putD d a b).fuse = d.fuse := rfl
  refine ⟨fun h => ⟨?_, ?_⟩, fun h => ⟨?_, ?_⟩, fun h => ⟨?_, ?_⟩⟩
  · rw [writeE, if_pos hr, if_pos (by rw [burnB, decide_eq_true_eq]; exact h)]
  · rw [writeD, if_pos hr, burnD, if_pos (by rw [hf]; exact h)]
  · rw [writeE, if_pos hr, if_neg (by rw [burnB, decide_eq_true_eq]; omega)]
  · rw [writeD, if_pos hr, burnD, if_neg (by rw [hf]; omega), if_pos (by rw [hf]; exact h), hf]
  · rw [writeE, if_pos hr, if_neg (by rw [burnB, decide_eq_true_eq]; omega)]
  · rw [writeD, if_pos hr, burnD, if_neg (by rw [hf]; omega), if_neg (by rw [hf]; omega)]
theorem wrS_eff {d : DS} {p : Int} {c : Nat} {b : List UInt8} (hp : 0 ≤ p ∧ p + 10 ≤ 32768) (ho : d.off = false) (hf : -1 ≤ d.fuse) : ∀ k : Nat, k ≤ 10 →
    ∃ m : Nat, m ≤ k ∧ Wr d (wrS d p c b k).1 p c b m ∧
      ((wrS d p c b k).2 = 0 → m = k ∧ (wrS d p c b k).1.off = false ∧ (d.fuse = -1 ∧ (wrS d p c b k).1.fuse = -1 ∨ (k : Int) ≤ d.fuse ∧ (wrS d p c b k).1.fuse = d.fuse - (k : Int))) ∧
      ((wrS d p c b k).2 ≠ 0 → (wrS d p c b k).2 = 8 ∧ (wrS d p c b k).1.off = true ∧ 0 ≤ d.fuse ∧ d.fuse < (k : Int))
  | 0, _ => ⟨0, Nat.le_refl _, ⟨rfl, fun a => by rw [nowW_out _ _ _ _ (by omega)]; rfl, by simp [wlist, wrS]⟩, fun _ => ⟨rfl, ho, by
      by_cases h : d.fuse = -1
      · exact .inl ⟨h, h⟩
      · exact .inr ⟨by omega, by show d.fuse = d.fuse - ((0 : Nat) : Int); omega⟩⟩, fun h => absurd rfl h⟩
  | k + 1, hk => by
    obtain ⟨m, hm, hW, h1, h2⟩ := wrS_eff (c := c) (b := b) hp ho hf k (by omega)
    by_cases he : (wrS d p c b k).2 = 0
    · obtain ⟨rfl, ho1, hf1⟩ := h1 he
      have hst : wrS d p c b (m + 1) = (writeD (wrS d p c b m).1 (p + (m : Int)) (secB c b m), writeE (wrS d p c b m).1 (p + (m : Int))) := by rw [wrS, if_pos he]
      rw [hst]
      generalize (wrS d p c b m).1 = d1 at *
      obtain ⟨e1, e2, e3⟩ := write_eff (secB c b m) ho1 (a := p + (m : Int)) (by omega)
      have hWp := hW.put
      by_cases hz : d1.fuse = 0
      · obtain ⟨q1, q2⟩ := e1 hz
        refine ⟨m + 1, Nat.le_refl _, ?_, fun h => ?_, fun _ => ⟨q1, ?_, ?_⟩⟩
        · simp only [q2]; exact hWp.of rfl rfl rfl
        · simp only [q1] at h; omega
        · simp only [q2]; rfl
        · omega
      · by_cases hpos : 0 < d1.fuse
        · obtain ⟨q1, q2⟩ := e2 hpos
          refine ⟨m + 1, Nat.le_refl _, ?_, fun _ => ⟨rfl, ?_, ?_⟩, fun h => absurd q1 h⟩
          · simp only [q2]; exact hWp.of rfl rfl rfl
          · simp only [q2]; exact ho1
          · simp only [q2]; omega
        · obtain ⟨q1, q2⟩ := e3 (by omega)
          refine ⟨m + 1, Nat.le_refl _, ?_, fun _ => ⟨rfl, ?_, ?_⟩, fun h => absurd q1 h⟩
          · simp only [q2]; exact hWp
          · simp only [q2]; exact ho1
          · have hfp : (putD d1 (p + (m : Int)) (secB c b m)).fuse = d1.fuse := rfl
            simp only [q2]
            rw [hfp]
            omega
    · have hst : wrS d p c b (k + 1) = wrS d p c b k := by rw [wrS, if_neg he]
      rw [hst]
      obtain ⟨q1, q2, q3⟩ := h2 he
      exact ⟨m, by omega, hW, fun h => absurd h he, fun _ => ⟨q1, q2, by omega, by omega⟩⟩
/-- A disk that is on, nothing loose. -/
structure Calm (d : DS) : Prop where
  off : d.off = false
  fuse : d.fuse = -1
  loose : d.loose = []
  same : ∀ a, d.sure a = d.now a
theorem on_now (d : DS) (ps : List UInt8) (a : Int) : (onAll (offD d) ps).now a = (if (d.loose.any fun x => decide (x.1 = a)) = true then picksF d.loose 0 ps d.sure a else d.now a) ∧ (onAll (offD d) ps).sure a = picksF d.loose 0 ps d.sure a ∧ (onAll (offD d) ps).off = false ∧ (onAll (offD d) ps).fuse = -1 ∧ (onAll (offD d) ps).loose = [] ∧ onE (offD d) = 0 := by
  have hon : onAll (offD d) ps = onD (offD d) ps := by unfold onAll; exact if_pos rfl
  rw [hon]
  exact ⟨syncF_at _ _ _ _, rfl, rfl, rfl, rfl, by unfold onE; exact if_pos rfl⟩
theorem any_mem (l : List (Int × List UInt8)) (a : Int) : (l.any fun x => decide (x.1 = a)) = true ↔ ∃ x ∈ l, x.1 = a := by simp
/-- The power goes and comes where sure sectors and loose writes are so. -/
theorem on_calm {d d' : DS} (hd : Calm d) {p : Int} {c : Nat} {b : List UInt8} {m : Nat} (hW : Wr d d' p c b m) (ps : List UInt8) :
    Calm (onAll (offD d') ps) ∧ (∀ a, ¬ (p ≤ a ∧ a < p + (m : Int)) → (onAll (offD d') ps).now a = d.now a) ∧
    ∀ i : Nat, i < m → (onAll (offD d') ps).now (p + (i : Int)) = d.now (p + (i : Int)) ∨ (onAll (offD d') ps).now (p + (i : Int)) = ⟨secB c b i, false⟩ ∨ ((onAll (offD d') ps).now (p + (i : Int))).lost = true := by
  have hl : d'.loose = wlist p c b m := by rw [hW.loose, hd.loose, List.nil_append]
  have hany : ∀ a, (d'.loose.any fun x => decide (x.1 = a)) = true ↔ (p ≤ a ∧ a < p + (m : Int)) := by
    intro a
    rw [any_mem, hl]
    constructor
    · rintro ⟨x, hx, rfl⟩
      obtain ⟨i, hi, rfl⟩ := wlist_mem.1 hx
      simp only; omega
    · rintro ⟨h1, h2⟩
      exact ⟨_, wlist_mem.2 ⟨(a - p).toNat, by omega, rfl⟩, by simp only; omega⟩
  have hpk : ∀ a, ¬ (p ≤ a ∧ a < p + (m : Int)) → picksF d'.loose 0 ps d'.sure a = d.now a := by
    intro a ha
    rcases picksF_is ps a d'.loose 0 d'.sure with h | ⟨x, h1, h2, _⟩
    · rw [h, hW.sure, hd.same]
    · exact absurd ((hany a).1 ((any_mem _ _).2 ⟨x, h1, h2⟩)) ha
  obtain ⟨_, _, h3, h4, h5, _⟩ := on_now d' ps 0
  refine ⟨⟨h3, h4, h5, fun a => ?_⟩, fun a ha => ?_, fun i hi => ?_⟩
  · obtain ⟨h1, h2, _⟩ := on_now d' ps a
    rw [h1, h2]
    split
    · rfl
    · next hc =>
      rw [hany] at hc
      rw [hpk a hc, hW.now, nowW_out _ _ _ _ hc]
  · obtain ⟨h1, _⟩ := on_now d' ps a
    rw [h1, if_neg (by rw [hany]; exact ha), hW.now, nowW_out _ _ _ _ ha]
  · obtain ⟨h1, _⟩ := on_now d' ps (p + (i : Int))
    rw [h1, if_pos ((hany _).2 ⟨by omega, by omega⟩)]
    rcases picksF_is ps (p + (i : Int)) d'.loose 0 d'.sure with h | ⟨x, h1, h2, h3⟩
    · exact .inl (by rw [h, hW.sure, hd.same])
    · rw [hl] at h1
      obtain ⟨j, hj, rfl⟩ := wlist_mem.1 h1
      simp only at h2 h3
      obtain rfl : j = i := by omega
      exact .inr h3
theorem wlist_any (p : Int) (c : Nat) (b : List UInt8) (m : Nat) (a : Int) : ((wlist p c b m).any fun x => decide (x.1 = a)) = true ↔ (p ≤ a ∧ a < p + (m : Int)) := by
  rw [any_mem]
  constructor
  · rintro ⟨x, hx, rfl⟩
    obtain ⟨i, hi, rfl⟩ := wlist_mem.1 hx
    simp only; omega
  · rintro ⟨h1, h2⟩
    exact ⟨_, wlist_mem.2 ⟨(a - p).toNat, by omega, rfl⟩, by simp only; omega⟩
/-- A Put with a fuse, then the power goes and comes. -/
theorem ptF_power {d : DS} (h : Calm d) (f : Int) {p : Int} (hp : 0 ≤ p ∧ p + 20 ≤ 32768) {which : Nat} (hw : which ≤ 1) {b : List UInt8} (ps : List UInt8) (q : Int) (hq : q = p + ((1 - which : Nat) : Int) * 10) :
    ((ptF (fuseD d f) p which b).2 = 0 ∨ (ptF (fuseD d f) p which b).2 = 8) ∧
    Calm (onAll (offD (ptF (fuseD d f) p which b).1) ps) ∧
    (∀ a, ¬ (q ≤ a ∧ a < q + 10) → (onAll (offD (ptF (fuseD d f) p which b).1) ps).now a = d.now a) ∧
    (∀ i : Nat, i < 10 → (onAll (offD (ptF (fuseD d f) p which b).1) ps).now (q + (i : Int)) = d.now (q + (i : Int)) ∨ (onAll (offD (ptF (fuseD d f) p which b).1) ps).now (q + (i : Int)) = ⟨secB (nextF d p) b i, false⟩ ∨ ((onAll (offD (ptF (fuseD d f) p which b).1) ps).now (q + (i : Int))).lost = true) ∧
    ((ptF (fuseD d f) p which b).2 = 0 → ∀ i : Nat, i < 10 → (onAll (offD (ptF (fuseD d f) p which b).1) ps).now (q + (i : Int)) = ⟨secB (nextF d p) b i, false⟩) := by
  have hqb : 0 ≤ q ∧ q + 10 ≤ 32768 := by omega
  have hn : nextF (fuseD d f) p = nextF d p := rfl
  have hf : (fuseD d f).fuse = max f (-1) := rfl
  obtain ⟨m, hm, hW, h0, h8⟩ := wrS_eff (d := fuseD d f) (p := q) (c := nextF d p) (b := b) hqb h.off (by rw [hf]; omega) 10 (Nat.le_refl _)
  have hW : Wr d (wrS (fuseD d f) q (nextF d p) b 10).1 q (nextF d p) b m := ⟨hW.sure, hW.now, hW.loose⟩
  rw [ptF, hn, ← hq]
  generalize wrS (fuseD d f) q (nextF d p) b 10 = r at *
  obtain ⟨d1, e1⟩ := r
  simp only at h0 h8 hW ⊢
  by_cases he : e1 = 0
  · rw [if_pos he]
    obtain ⟨rfl, ho, hfu⟩ := h0 he
    simp only
    by_cases hb : burnB d1 = true
    · have hE : syncE d1 = 8 := by simp [syncE, ho, hb]
      have hD : syncAll d1 = offD d1 := by
        have : d1.fuse = 0 := by rwa [burnB, decide_eq_true_eq] at hb
        simp [syncAll, ho, hb, burnD, this]
      rw [hE, hD]
      obtain ⟨k1, k2, k3⟩ := on_calm h (d' := offD d1) (hW.of rfl rfl rfl) ps
      refine ⟨.inr rfl, k1, fun a ha => k2 a (by omega), fun i hi => k3 i hi, fun h => by omega⟩
    · have hb' : burnB d1 = false := by simpa using hb
      have hE : syncE d1 = 0 := by simp [syncE, ho, hb']
      have hD : syncAll d1 = syncD (burnD d1) := by simp [syncAll, ho, hb']
      rw [hE, hD]
      have hl : (burnD d1).loose = d1.loose ∧ (burnD d1).now = d1.now ∧ (burnD d1).sure = d1.sure := by
        unfold burnD
        split
        · exact ⟨rfl, rfl, rfl⟩
        · split <;> exact ⟨rfl, rfl, rfl⟩
      have hnow : ∀ a, (onAll (offD (syncD (burnD d1))) ps).now a = d1.now a := by
        intro a
        obtain ⟨g1, _⟩ := on_now (syncD (burnD d1)) ps a
        rw [g1, if_neg (by simp [syncD])]
        show (burnD d1).now a = _
        rw [hl.2.1]
      have hsure : ∀ a, (onAll (offD (syncD (burnD d1))) ps).sure a = d1.now a := by
        intro a
        obtain ⟨_, g2, _⟩ := on_now (syncD (burnD d1)) ps a
        rw [g2]
        show syncF (burnD d1).now (burnD d1).loose (burnD d1).sure a = _
        rw [syncF_at, hl.1, hl.2.1, hl.2.2]
        split
        · rfl
        · next hc =>
          rw [hW.loose, h.loose, List.nil_append, wlist_any] at hc
          rw [hW.sure, h.same, hW.now, nowW_out _ _ _ _ hc]
      obtain ⟨_, _, g3, g4, g5, _⟩ := on_now (syncD (burnD d1)) ps 0
      refine ⟨.inl rfl, ⟨g3, g4, g5, fun a => by rw [hnow, hsure]⟩, fun a ha => ?_, fun i hi => ?_, fun _ i hi => ?_⟩
      · rw [hnow, hW.now, nowW_out _ _ _ _ (by omega)]
      · rw [hnow, hW.now, nowW_in _ _ _ _ hi]; exact .inr (.inl rfl)
      · rw [hnow, hW.now, nowW_in _ _ _ _ hi]
  · rw [if_neg he]
    obtain ⟨q1, q2, _⟩ := h8 he
    obtain ⟨k1, k2, k3⟩ := on_calm h hW ps
    refine ⟨.inr q1, k1, fun a ha => k2 a (by omega), fun i hi => ?_, fun h => absurd h he⟩
    by_cases him : i < m
    · exact k3 i him
    · exact .inl (k2 _ (by omega))
end Go.Proofs.Ytmjdfajdompkeaa
