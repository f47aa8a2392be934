/- append of noughts: whatever room there is. -/
import Derived.Test.YtmjdfajdompkeaaMid
namespace Go.Rat
open Go Go.RowKit
section
variable {P : Program} {w : World}
theorem zeroCells_list (z : Value) (k : Nat) : (Builtin.zeroCells #[z] k).toList = List.replicate k z := by
  refine List.ext_getElem (by simp [Builtin.zeroCells]) ?_
  intro j h1 h2
  simp [Builtin.zeroCells, Nat.mod_one]
theorem run_append_zerosG (w : World) (base : Nat) (t ti ty e : TypeId) (i : TypeInfo) (z : Value) (bytes : Nat) (ht : P.underlying t = some (.slice e)) (hti : ∃ k, P.underlying ti = some (.int k)) (hi : P.info? e = some i) (hz : i.zero = some z)
    (hsize : i.size = 1) (hby : i.bytes = bytes) (hzs : z.cells = #[z]) (hz1 : z.oneCell' = true)
    (A : Option Addr) (n c : Nat) (xs : List Value) (hown : w.ownsRow base e 1 (.slice A n c) n xs)
    (k : Nat) (hk : 0 < k) (h63 : n + k ≤ maxLen) (hbytes : (n + k) * bytes ≤ 140737488355328) (hbase : base ≤ w.heap.size) :
    ∃ A2 c2 w2, (Builtin.append_ #[t, ti] ty #[.slice A n c, .int .i64 (k : Int)]).run P w = .ok (.slice A2 (n + k) c2) w2 ∧ w2.ownsRow base e 1 (.slice A2 (n + k) c2) (n + k) (xs ++ List.replicate k z) ∧
      w.grownBy w2 (A.map (·.block)) ∧ (A2.map (·.block) = A.map (·.block) ∨ A2.map (·.block) = some w.heap.size) := by
  subst hby
  obtain ⟨ki, hti⟩ := hti
  have hsmall : n + k ≤ 9223372036854775807 := by simp only [maxLen] at h63; omega
  have hwk : IntKind.i64.wrap (k : Int) = (k : Int) := IntWalk.i64_in _ (by omega)
  have hkb : (k : Int) * (i.bytes : Int) ≤ 281474976710656 := by
    have : k * i.bytes ≤ (n + k) * i.bytes := Nat.mul_le_mul_right _ (by omega)
    have h2 : ((k * i.bytes : Nat) : Int) ≤ 140737488355328 := by omega
    rw [Int.natCast_mul] at h2; omega
  have hneg : ¬ ((k : Int) < 0) := by omega
  have hbig : ¬ (281474976710656 < (k : Int) * (i.bytes : Int)) := by omega
  have hkz := zeroCells_list z k
  have hkz0 : k ≠ 0 := by omega
  have hxl : xs.length = n := by simpa using hown.1
  by_cases hroom : n + k ≤ c
  · rcases hown.2 with ⟨h, _⟩ | ⟨g, cap, cur, hv, hbg, hgB, hnc, hcm, hcs, htk⟩
    · injection h with h1 h2 h3
      omega
    · injection hv with h3 h4 h5
      subst h3 h5
      have hB : Blk w g e cur := hgB
      have hst := run_storeCells_at P g n e (List.replicate k z) 0 cur w hB (by simp; omega) (by intro u hu; rw [List.eq_of_mem_replicate hu]; exact hz1)
      simp only [Nat.add_zero] at hst
      refine ⟨some ⟨g, 0, none⟩, c, w.setRow g (cur.toList.take n ++ List.replicate k z ++ cur.toList.drop (n + (List.replicate k z).length)).toArray, ?_, ?_, grownBy_setRow w g _, .inl rfl⟩
      · have ha : ({ block := g, off := 0 } : Addr).add n = ⟨g, n, none⟩ := by simp [Addr.add]; omega
        have hnk : (n : Int) + (k : Int) ≤ (c : Int) := by omega
        simp [Builtin.append_, run_underlying ht, run_underlying hti, sizeOf, typeInfo, zeroValue, hi, hz, hsize, asInt, asIntOf, hwk, hneg, hbig, hkz0, hroom, hzs, hkz, ha, hst]
      · refine ⟨by simp [hxl], .inr ⟨g, c, _, rfl, hbg, (hB.setRow _), hroom, hcm, ?_, ?_⟩⟩
        · simp; omega
        · have hl2 : (xs ++ List.replicate k z).length = (n + k) * 1 := by simp [hxl]
          rw [Nat.mul_one] at htk
          rw [htk, ← hl2]
          exact List.take_left
  · have hnext : Builtin.nextslicecap (n + k) c * i.bytes ≤ 281474976710656 := growslice_fits (by omega) hbytes
    have hr := Reads.of_own hown
    have hge := grownCap_ge w (n + k) c e
    have hcm : grownCap w (n + k) c e ≤ maxLen := grownCap_le_maxLen w (n + k) c e h63
    have hold : ∀ w' : World, w'.heap = w.heap → (Builtin.firstCells 1 n (.slice A n c)).run P w' = .ok xs.toArray w' := by
      intro w' hw'
      rcases reads_split hr with ⟨rfl, rfl⟩ | ⟨ad, rfl, hc⟩
      · cases A <;> simp [Builtin.firstCells, loadCells, loadCellsFrom]
      · exact run_firstCells_some (P := P) w' 1 n ad n c xs (by simpa using hown.1) (fun j u hu => by rw [← hc j u hu]; simp [World.cell?, hw'])
    refine ⟨some ⟨w.heap.size, 0, none⟩, grownCap w (n + k) c e, w.drew.alloc (.cells (xs.toArray ++ Builtin.zeroCells #[z] k ++ Builtin.zeroCells #[z] (grownCap w (n + k) c e - (n + k))) e), ?_, ⟨?_, .inr ⟨w.heap.size, _, _, rfl, hbase, _root_.Go.heap_alloc_new w.drew _, hge, hcm, ?_, ?_⟩⟩, ⟨rfl, rfl, rfl, by simp, fun j hj _ => _root_.Go.heap_alloc_old w.drew _ hj⟩, .inr rfl⟩
    · have hh := hold w.drew rfl
      have h63' : ¬ (9223372036854775807 < ((n : Int) + (k : Int))) := by omega
      have h48' : ¬ (281474976710656 < Builtin.nextslicecap (n + k) c * i.bytes) := by omega
      simp [Builtin.append_, run_underlying ht, run_underlying hti, sizeOf, typeInfo, zeroValue, hi, hz, hsize, asInt, asIntOf, hwk, hneg, hbig, hroom, hkz0, h63', h48', Question.forced, hh, newRow, grownCap, hzs]
    · simp [hxl]
    · simp [Builtin.zeroCells, hxl]; omega
    · rw [Array.toList_append, Array.toList_append, hkz]
      rw [List.take_append_of_le_length (by simp [hxl]), List.take_of_length_le (by simp [hxl])]
end
end Go.Rat
namespace Go.Proofs.Ytmjdfajdompkeaa
open Go.RowKit Go.Rat
theorem bvs_zeros (k : Nat) : bvs (List.replicate k 0) = List.replicate k (Value.int .u8 0) := by
  rw [bvs, List.map_replicate]; rfl
theorem app_noughts {w : World} {ops : Array Oper} {rest : List Oper} {o : Oper} {a : Act} {Q : Exit → Act → World → Prop} (hgd : o.guard = none) (s x : Operand)
    (ho : o.op = .call { callee := .builtin .append, args := #[s, x], argTypes := #[22, 3] })
    (base : Nat) (A : Option Addr) (n c : Nat) (xs : List UInt8) (hs : a.eval s = .slice A n c) (hown : OB 5 w base A n c xs)
    (k : Nat) (hx : a.eval x = .int .i64 (k : Int)) (hk : 0 < k) (hbytes : n + k ≤ 140737488355328) (hbase : base ≤ w.heap.size)
    (h : ∀ A2 N2 c2 w2, N2 ≤ c2 → c2 ≤ 9223372036854775807 → OB 5 w2 base A2 N2 c2 (xs ++ List.replicate k 0) → Grew w w2 A A2 → wpList Try.prog ops Q rest (a.put o.dst (.slice A2 N2 c2)) w2) :
    wpList Try.prog ops Q (o :: rest) a w := by
  obtain ⟨i0, hi, hz0, hz1, hz2⟩ := info_parts u8info
  refine wpList_plain hgd fun K hK => ?_
  obtain ⟨A2, c2, w2, hrun, h2, h3, h4⟩ := run_append_zerosG (P := Try.prog) w base 22 3 o.type 5 i0 _ 1 Try.underlying22 ⟨_, Try.underlying3⟩ hi hz0 hz1 hz2 rfl rfl A n c (bvs xs) hown k hk (by simp only [maxLen]; omega) (by omega) hbase
  unfold Oper.wp execOp
  simp only [ho, resolve, invoke, builtin, Sem.run_bind, Sem.run_pure, Result.andThen_ok, List.map_toArray, List.map_cons, List.map_nil, hs, hx, hrun]
  exact hK _ _ (h _ _ _ _ (own_cap h2).1 (own_cap h2).2 (by unfold OB; rw [bvs_append, bvs_zeros]; exact h2) ⟨h3, h4.imp id fun h => ⟨_, h, Nat.le_refl _, (h2.lt _ (by cases A2 <;> simp_all [Value.ownBlock])).2⟩⟩)
end Go.Proofs.Ytmjdfajdompkeaa
