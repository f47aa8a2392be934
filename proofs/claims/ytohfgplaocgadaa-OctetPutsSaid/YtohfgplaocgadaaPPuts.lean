/- 'OctetPuts': for every input that can be read as data (each string and slice at most 2^47 - 4096 bytes, as the form says) the call returns true, and each argument reads behind it as before. -/
import Derived.Test.YtohfgplaocgadaaPuts
import Derived.Test.YtohfgplaocgadaaOpen
namespace Go.Proofs.Ytohfgplaocgadaa.octetPuts
open Go.ChangeShapes Go.WideShapes Go.ChangeAt Go.RowKit Go.Rat Go.Proofs.Ytohfgplaocgadaa
open Go.ChangeMaps (open_string shut_string)
set_option linter.unusedVariables false

theorem own : ownKnob Try.prog.godebug = none := by kernel_rfl
theorem laidOut : laidOutB Try.prog = true := by kernel_rfl

set_option maxRecDepth 100000 in
theorem lifted (os : Os) (started : os.Started) (H : Type) (enc : TypeId × Value → H) :
    ReturnsInHanded {} Try.checked os 3 .any (Rows.octetPutsSpec.pre6 enc Try.prog Try.f3 Rows.octetPutsRow.domain false) (Rows.octetPutsSpec.post enc Try.prog Try.f3 false true false false) := by
  refine returnsInHanded_of_change_sized (C := Try.checked) own started (by kernel_rfl) Try.func3
    (ChangeSpec.witness6 (enc := enc) (C := Try.checked) false ⟨#[], #[.slice none 0 0, .int .u64 0, .int .u16 0, .string ByteArray.empty], []⟩ 8 (by kernel_rfl) (by kernel_rfl) (by kernel_rfl) (by kernel_rfl)) ?_
  intro W base args ds gs before hval0 hW hcnd hsz0 _
  have hval : ∀ (j : Nat) t v, Try.f3.params[j]? = some t → args[j]? = some v → Value.okWide Try.prog W .any base t v := hval0
  have hsz : (DataW.weightsEach Try.prog (Try.f3.params.toList ++ Rows.octetPutsSpec.plain.varTypes Try.prog) (ds ++ gs)).all (· ≤ reachBytes) = true := hsz0
  have hW' := hW
  obtain ⟨p, q, hA0, hV, rfl, hfz, hnd⟩ := hW
  have hA : DataW.TrodAll enc Try.prog W 0 (fun _ => true) true Try.f3.params.toList args.toList ds p := hA0
  rw [Try.params3] at hA hval hsz
  obtain ⟨v0, vs0, d0, ds0, p0, q0, hargs, rfl, rfl, h0, r0⟩ := trodAll_cons hA
  obtain ⟨v1, vs1, d1, ds1, p1, q1, rfl, rfl, rfl, h1, r1⟩ := trodAll_cons r0
  obtain ⟨v2, vs2, d2, ds2, p2, q2, rfl, rfl, rfl, h2, r2⟩ := trodAll_cons r1
  obtain ⟨v3, vs3, d3, ds3, p3, q3, rfl, rfl, rfl, h3, r3⟩ := trodAll_cons r2
  obtain ⟨rfl, rfl, rfl⟩ := trodAll_nil r3
  obtain rfl : args = #[v0, v1, v2, v3] := by cases args; simp_all
  obtain ⟨rfl, rfl⟩ := trodVars_none hV
  obtain ⟨A0, n0, c0, rfl⟩ := okWide_slice Try.underlying22 (hval 0 22 v0 rfl rfl)
  have k0 := h0
  have lt0 : ∀ x ∈ p0, x.block < W.heap.size := by obtain ⟨m, hm⟩ := k0; exact DataW.trod_lt m _ _ _ hm
  obtain ⟨l0, hl0, hr0, hi0, hc0, hm0, hd0⟩ := slice_cells Try.underlying22 (rds_u8 Try.underlying5) (size := 1) (by kernel_rfl) (by omega) (show DataW.trod enc Try.prog W 0 (fun _ => true) true h0.choose 22 [.slice A0 n0 c0] = some (d0, p0) from h0.choose_spec)
  obtain ⟨a1, rfl, rfl, rfl, w1⟩ := open_int Try.underlying23 (hval 1 23 v1 rfl rfl) h1
  obtain ⟨a2, rfl, rfl, rfl, w2⟩ := open_int Try.underlying24 (hval 2 24 v2 rfl rfl) h2
  obtain ⟨a3, rfl, rfl, rfl, w3⟩ := open_string Try.underlying9 (hval 3 9 v3 rfl rfl) h3
  have hz0 : c0 * Try.prog.bytesOf 5 ≤ 140737488351232 := by
    rcases hd0 with ⟨_, _, h0⟩ | ⟨a, el, sp, _, hdd, _, he⟩
    · rw [h0]; omega
    · simp only at hdd
      subst hdd
      have := sized_slice hsz (j := 0) rfl rfl Try.underlying22
      rw [he] at this
      simpa [reachBytes] using this
  rw [show Try.prog.bytesOf 5 = 1 from by kernel_rfl] at hz0
  have hr0 : RB W A0 n0 l0 := by
    have := hr0
    rwa [show l0.flatMap _ = bvs l0 from flat_bytes l0] at this
  obtain ⟨x1, hx1⟩ : ∃ x : UInt64, a1 = (x.toNat : Int) := by
    have hb := wf_bounds w1
    simp [IntKind.min, IntKind.max, IntKind.signed, IntKind.bits] at hb
    exact ⟨UInt64.ofNat a1.toNat, by rw [UInt64.toNat_ofNat']; omega⟩
  subst hx1
  obtain ⟨x2, hx2⟩ : ∃ x : UInt16, a2 = (x.toNat : Int) := by
    have hb := wf_bounds w2
    simp [IntKind.min, IntKind.max, IntKind.signed, IntKind.bits] at hb
    exact ⟨UInt16.ofNat a2.toNat, by rw [UInt16.toNat_ofNat']; omega⟩
  subst hx2
  have hs3 : a3.size ≤ 140737488351232 := by
    have := sized_string hsz (j := 3) rfl rfl
    simpa [reachBytes] using this
  clear hA0 hval0
  refine (octetPuts_walk W A0 n0 c0 l0 hl0 hr0 hc0 (by omega) x1 x2 a3 hs3).mono fun e W' ⟨he, bel⟩ => ?_
  subst he
  exact ⟨_, rfl, _, _, _, [], _, [], hW', trodAll_mk1 (shut_bool Try.underlying4 _), (trodAll_cons_mk (Below.trod laidOut (by kernel_rfl) (of_decide_eq_true (by kernel_rfl)) k0 bel lt0) (trodAll_cons_mk (shut_int Try.underlying23 w1) (trodAll_cons_mk (shut_int Try.underlying24 w2) (trodAll_cons_mk (shut_string Try.underlying9 w3) trodAll_mk0)))), rfl, bel.frame _, fun h => by cases h⟩

theorem over : Rows.octetPutsRow.holds Try.pinned (OpenSpec.ofChange Rows.octetPutsSpec) :=
  OpenClaim.holds_of_wide 3 Try.f3 rfl rfl rfl rfl rfl rfl rfl ⟨rfl, rfl, rfl, rfl, rfl⟩ rfl rfl rfl rfl rfl (by kernel_rfl) Try.func3 (by kernel_rfl)
    (of_decide_eq_true (by kernel_rfl)) (by unfold Func.isWrapper; first | (rw [if_pos (by decide +kernel)]; kernel_rfl) | (rw [if_neg (by decide +kernel)]; exact ⟨rfl, rfl⟩))
    (fun os started H enc _ => lifted os started H enc)

theorem proved : Rows.OctetPutsSaid := over
#print axioms proved
end Go.Proofs.Ytohfgplaocgadaa.octetPuts
