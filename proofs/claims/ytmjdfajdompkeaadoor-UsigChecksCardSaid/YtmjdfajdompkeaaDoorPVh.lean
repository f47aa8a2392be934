/- 'UsigChecks', the tied card: for every input that can be read as data (each string and slice at most 2^47 - 4096 bytes, as the form says), where sha.table starts as the text lays it, the call returns true, and each argument reads behind it as before. -/
import Derived.Test.YtmjdfajdompkeaaDoorVh
import Derived.Test.YtmjdfajdompkeaaDoorUo
import Derived.Test.YtmjdfajdompkeaaDoorCards
import Derived.Test.YtmjdfajdompkeaaDoorTie
namespace Go.Proofs.YtmjdfajdompkeaaDoor.usigChecks
open Go.ChangeShapes Go.WideShapes Go.ChangeAt Go.RowKit Go.Rat Go.Proofs.YtmjdfajdompkeaaDoor Go.Proofs.YtmjdfajdompkeaaDoor.H
set_option linter.unusedVariables false

theorem laid_met (os : Os) : laidMet Tryd.prog Rows.usigChecksRow.laid ((laidWorld os).forCall (fun _ _ => 0) ⟨#[], #[.int .i64 0, .int .u64 0, .slice none 0 0, .agg (List.replicate 32 (Value.int .u8 0)).toArray, .bool false], []⟩).memory :=
  laidMet_of_run' 8 (by kernel_rfl) (by kernel_rfl)
theorem reads (os : Os) {H : Type} (enc : TypeId × Value → H) : ∃ places, DataW.whole enc Tryd.prog ((laidWorld os).forCall (fun _ _ => 0) ⟨#[], #[.int .i64 0, .int .u64 0, .slice none 0 0, .agg (List.replicate 32 (Value.int .u8 0)).toArray, .bool false], []⟩).memory Tryd.f3.params.toList Rows.usigChecksSpec.vars false (#[.int .i64 0, .int .u64 0, .slice none 0 0, .agg (List.replicate 32 (Value.int .u8 0)).toArray, .bool false] : Array Value).toList 8 = some ([.lit (.int .i64 0), .lit (.int .u64 0), .nil, .agg (List.replicate 32 (.lit (.int .u8 0))), .lit (.bool false)], [], places) :=
  ⟨[], by kernel_rfl⟩
set_option maxRecDepth 100000 in
theorem lifted (os : Os) (started : os.Started) (H : Type) (enc : TypeId × Value → H) (F : Stop.Interp) :
    ReturnsInHanded {} Tryd.checked os 3 .any ((OpenSpec.ofChange Rows.usigChecksSpec).preRow enc Tryd.prog Tryd.f3 Rows.usigChecksRow.domain false Rows.usigChecksRow.laid) (((OpenSpec.ofChange Rows.usigChecksSpec).at F).post enc Tryd.prog Tryd.f3 false true false false) := by
  obtain ⟨places, hx⟩ := reads os enc
  refine returnsInHanded_of_row (C := Tryd.checked) (s := OpenSpec.ofChange Rows.usigChecksSpec) own started (by kernel_rfl) Tryd.func3
    (witness_row_at (enc := enc) (C := Tryd.checked) false (laidWorld os) #[.int .i64 0, .int .u64 0, .slice none 0 0, .agg (List.replicate 32 (Value.int .u8 0)).toArray, .bool false] rfl (by kernel_rfl) (by kernel_rfl) (by kernel_rfl)
      (OpenSpec.preRow_of_cond 8 hx (by kernel_rfl) (fun k hk => by cases hk) (by kernel_rfl) (laid_met os))) ?_
  intro W base args ds gs before hval0 hW hcnd hk hsz0 hL _ _
  have hval : ∀ (j : Nat) t v, Tryd.f3.params[j]? = some t → args[j]? = some v → Value.okWide Tryd.prog W .any base t v := hval0
  have hsz : (DataW.weightsEach Tryd.prog (Tryd.f3.params.toList ++ Rows.usigChecksSpec.plain.varTypes Tryd.prog) (ds ++ gs)).all (· ≤ reachBytes) = true := hsz0
  have hW' := hW
  obtain ⟨p, q, hA0, hV, rfl, hfz, hnd⟩ := hW
  have hA : DataW.TrodAll enc Tryd.prog W 0 (fun _ => true) true Tryd.f3.params.toList args.toList ds p := hA0
  rw [Tryd.params3] at hA hval hsz
  obtain ⟨v0, vs0, d0, ds0, p0, q0, hargs, rfl, rfl, h0, r0⟩ := trodAll_cons hA
  obtain ⟨v1, vs1, d1, ds1, p1, q1, rfl, rfl, rfl, h1, r1⟩ := trodAll_cons r0
  obtain ⟨v2, vs2, d2, ds2, p2, q2, rfl, rfl, rfl, h2, r2⟩ := trodAll_cons r1
  obtain ⟨v3, vs3, d3, ds3, p3, q3, rfl, rfl, rfl, h3, r3⟩ := trodAll_cons r2
  obtain ⟨v4, vs4, d4, ds4, p4, q4, rfl, rfl, rfl, h4, r4⟩ := trodAll_cons r3
  obtain ⟨rfl, rfl, rfl⟩ := trodAll_nil r4
  obtain rfl : args = #[v0, v1, v2, v3, v4] := by cases args; simp_all
  obtain ⟨rfl, rfl⟩ := trodVars_none hV
  obtain ⟨a0, rfl, rfl, rfl, w0⟩ := open_int Tryd.underlying3 (hval 0 3 v0 rfl rfl) h0
  obtain ⟨a1, rfl, rfl, rfl, w1⟩ := open_int Tryd.underlying22 (hval 1 22 v1 rfl rfl) h1
  obtain ⟨A2, n2, c2, rfl⟩ := okWide_slice Tryd.underlying23 (hval 2 23 v2 rfl rfl)
  have k2 := h2
  have lt2 : ∀ x ∈ p2, x.block < W.heap.size := by obtain ⟨m, hm⟩ := k2; exact DataW.trod_lt m _ _ _ hm
  obtain ⟨l2, hl2, hr2, hi2, hc2, hm2, hd2⟩ := slice_cells Tryd.underlying23 (rds_u8 Tryd.underlying5) (size := 1) (by kernel_rfl) (by omega) (show DataW.trod enc Tryd.prog W 0 (fun _ => true) true h2.choose 23 [.slice A2 n2 c2] = some (d2, p2) from h2.choose_spec)
  obtain ⟨l3, hl3, rfl, rfl, rfl, w3⟩ := open_ints Tryd.underlying24 Tryd.underlying5 (by kernel_rfl) (by kernel_rfl) (hval 3 24 v3 rfl rfl) h3
  obtain ⟨a4, rfl, rfl, rfl⟩ := open_bool Tryd.underlying4 (hval 4 4 v4 rfl rfl) h4
  have hb0 := wf_bounds w0
  simp [IntKind.min, IntKind.max, IntKind.signed, IntKind.bits] at hb0
  obtain ⟨x1, hx1⟩ : ∃ x : UInt64, a1 = (x.toNat : Int) := by
    have hb := wf_bounds w1
    simp [IntKind.min, IntKind.max, IntKind.signed, IntKind.bits] at hb
    exact ⟨UInt64.ofNat a1.toNat, by rw [UInt64.toNat_ofNat']; omega⟩
  subst hx1
  have hz2 : c2 * Tryd.prog.bytesOf 5 ≤ 140737488351232 := by
    rcases hd2 with ⟨_, _, h0⟩ | ⟨a, el, sp, _, hdd, _, he⟩
    · rw [h0]; omega
    · simp only at hdd
      subst hdd
      have := sized_slice hsz (j := 2) rfl rfl Tryd.underlying23
      rw [he] at this
      simpa [reachBytes] using this
  rw [show Tryd.prog.bytesOf 5 = 1 from by kernel_rfl] at hz2
  have hat2 : ∀ ad, A2 = some ad → ad.block < W.heap.size := by
    intro ad h
    subst h
    exact okWide_block Tryd.underlying23 (hval 2 23 _ rfl rfl)
  have hr2 : RB W A2 n2 l2 := by
    have := hr2
    rwa [show l2.flatMap _ = bvs l2 from flat_bytes l2] at this
  obtain ⟨xs3, hxl3, hx3⟩ := ints_bytes w3
  clear hA0 hval0
  have walk : Calls Tryd.prog 3 _ W fun e W' => e = .returned (.bool true) ∧ Below W.heap.size W W' := usigChecks_walk W (tab_of hL) a0 hb0 x1 A2 n2 c2 l2 hl2 hr2 hc2 (by omega) hat2 xs3 (hxl3.trans hl3) a4
  rw [← hx3] at walk
  refine walk.mono fun e W' ⟨he, bel⟩ => ?_
  subst he
  exact ⟨_, rfl, _, _, _, [], _, [], hW', trodAll_mk1 (shut_bool Tryd.underlying4 _), (trodAll_cons_mk (shut_int Tryd.underlying3 w0) (trodAll_cons_mk (shut_int Tryd.underlying22 w1) (trodAll_cons_mk (Below.trod laidOut (by kernel_rfl) (of_decide_eq_true (by kernel_rfl)) k2 bel lt2) (trodAll_cons_mk (shut_ints Tryd.underlying24 Tryd.underlying5 (by kernel_rfl) (by kernel_rfl) hl3 w3) (trodAll_cons_mk (shut_bool Tryd.underlying4 a4) trodAll_mk0))))), rfl, bel.frame _, fun h => by cases h⟩

theorem said : Rows.UsigChecksSaid :=
  OpenClaim.holds_of_cond 3 Tryd.f3 rfl rfl rfl rfl rfl rfl rfl ⟨rfl, rfl, rfl, rfl, rfl⟩ rfl rfl rfl rfl rfl (by kernel_rfl) Tryd.func3 (by kernel_rfl)
    (of_decide_eq_true (by kernel_rfl)) (by unfold Func.isWrapper; first | (rw [if_pos (by decide +kernel)]; kernel_rfl) | (rw [if_neg (by decide +kernel)]; exact ⟨rfl, rfl⟩))
    (fun os started H enc _ F => by rw [OpenClaim.pre_eq_preRow]; exact lifted os started H enc F)

theorem plain (f : FuncId) (fn : Func) (hf : Tryd.pinned.checked.prog.funcNamed "ratchet/ratchetlaw07.UsigChecks" = some f) (hfn : Tryd.pinned.checked.prog.funcs[f]? = some fn) :
    false = Tryd.pinned.checked.prog.looks [] ∧ ∀ (j : Nat) t, fn.params[j]? = some t → Tryd.pinned.checked.prog.wantsStandIn t = false := by
  obtain rfl : f = 3 := Option.some.inj ((show Tryd.prog.funcNamed "ratchet/ratchetlaw07.UsigChecks" = some 3 by kernel_rfl).symm.trans hf) |>.symm
  obtain rfl : fn = Tryd.f3 := (Option.some.inj (Tryd.func3.symm.trans hfn)).symm
  refine ⟨by kernel_rfl, fun j t ht => ?_⟩
  rw [Tryd.params3] at ht
  have hm := Array.mem_of_getElem? ht
  simp only [List.mem_toArray, List.mem_cons, List.not_mem_nil, or_false] at hm
  rcases hm with rfl | rfl | rfl | rfl | rfl
  · exact (show Tryd.prog.wantsStandIn 3 = false by kernel_rfl)
  · exact (show Tryd.prog.wantsStandIn 22 = false by kernel_rfl)
  · exact (show Tryd.prog.wantsStandIn 23 = false by kernel_rfl)
  · exact (show Tryd.prog.wantsStandIn 24 = false by kernel_rfl)
  · exact (show Tryd.prog.wantsStandIn 4 = false by kernel_rfl)

theorem card : Rows.UsigChecksCardSaid :=
  Claim7.holds_tied_plain_at .later [] _ _ _ _ said (fun _ h => by cases h) (by kernel_rfl) (fun _ h => by cases h) usigChecks_row_tie rfl ⟨rfl, rfl⟩ (by kernel_rfl) rfl plain (by kernel_rfl)
#print axioms card
end Go.Proofs.YtmjdfajdompkeaaDoor.usigChecks
