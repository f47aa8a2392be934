/- 'BookTorn': for every input that can be read as data (each string and slice at most 2^47 - 4096 bytes, as the form says) the call returns true, and each argument reads behind it as before. -/
import Derived.Test.YtmjdfajdompkeaaBktn
import Derived.Test.YtmjdfajdompkeaaOpen
namespace Go.Proofs.Ytmjdfajdompkeaa.bookTorn
open Go.ChangeShapes Go.WideShapes Go.ChangeAt Go.RowKit Go.Rat Go.Proofs.Ytmjdfajdompkeaa
open Go.ChangeMaps (open_string shut_string)
set_option linter.unusedVariables false

theorem own : ownKnob Try.prog.godebug = none := by kernel_rfl
theorem laidOut : laidOutB Try.prog = true := by kernel_rfl

set_option maxRecDepth 100000 in
theorem lifted (os : Os) (started : os.Started) (H : Type) (enc : TypeId × Value → H) :
    ReturnsInHanded {} Try.checked os 15 .any (Rows.bookTornSpec.pre6 enc Try.prog Try.f15 Rows.bookTornRow.domain false) (Rows.bookTornSpec.post enc Try.prog Try.f15 false true false false) := by
  refine returnsInHanded_of_change_sized (C := Try.checked) own started (by kernel_rfl) Try.func15
    (ChangeSpec.witness6 (enc := enc) (C := Try.checked) false ⟨#[], #[.slice none 0 0, .int .u8 0, .int .u8 0, .bool false, .slice none 0 0], []⟩ 8 (by kernel_rfl) (by kernel_rfl) (by kernel_rfl) (by kernel_rfl)) ?_
  intro W base args ds gs before hval0 hW hcnd hsz0 _
  have hval : ∀ (j : Nat) t v, Try.f15.params[j]? = some t → args[j]? = some v → Value.okWide Try.prog W .any base t v := hval0
  have hsz : (DataW.weightsEach Try.prog (Try.f15.params.toList ++ Rows.bookTornSpec.plain.varTypes Try.prog) (ds ++ gs)).all (· ≤ reachBytes) = true := hsz0
  have hW' := hW
  obtain ⟨p, q, hA0, hV, rfl, hfz, hnd⟩ := hW
  have hA : DataW.TrodAll enc Try.prog W 0 (fun _ => true) true Try.f15.params.toList args.toList ds p := hA0
  rw [Try.params15] at hA hval hsz
  obtain ⟨v0, vs0, d0, ds0, p0, q0, hargs, rfl, rfl, h0, r0⟩ := trodAll_cons hA
  obtain ⟨v1, vs1, d1, ds1, p1, q1, rfl, rfl, rfl, h1, r1⟩ := trodAll_cons r0
  obtain ⟨v2, vs2, d2, ds2, p2, q2, rfl, rfl, rfl, h2, r2⟩ := trodAll_cons r1
  obtain ⟨v3, vs3, d3, ds3, p3, q3, rfl, rfl, rfl, h3, r3⟩ := trodAll_cons r2
  obtain ⟨v4, vs4, d4, ds4, p4, q4, rfl, rfl, rfl, h4, r4⟩ := trodAll_cons r3
  obtain ⟨rfl, rfl, rfl⟩ := trodAll_nil r4
  obtain rfl : args = #[v0, v1, v2, v3, v4] := by cases args; simp_all
  obtain ⟨rfl, rfl⟩ := trodVars_none hV
  obtain ⟨A0, n0, c0, rfl⟩ := okWide_slice Try.underlying68 (hval 0 68 v0 rfl rfl)
  have k0 := h0
  have lt0 : ∀ x ∈ p0, x.block < W.heap.size := by obtain ⟨m, hm⟩ := k0; exact DataW.trod_lt m _ _ _ hm
  obtain ⟨l0, hl0, hr0, hi0, hc0, hm0, hd0⟩ := slice_cells Try.underlying68 (rds_bytes Try.underlying22 Try.underlying5 (by kernel_rfl)) (size := 1) (by kernel_rfl) (by omega) (show DataW.trod enc Try.prog W 0 (fun _ => true) true h0.choose 68 [.slice A0 n0 c0] = some (d0, p0) from h0.choose_spec)
  obtain ⟨a1, rfl, rfl, rfl, w1⟩ := open_int Try.underlying5 (hval 1 5 v1 rfl rfl) h1
  obtain ⟨a2, rfl, rfl, rfl, w2⟩ := open_int Try.underlying5 (hval 2 5 v2 rfl rfl) h2
  obtain ⟨a3, rfl, rfl, rfl⟩ := open_bool Try.underlying4 (hval 3 4 v3 rfl rfl) h3
  obtain ⟨A4, n4, c4, rfl⟩ := okWide_slice Try.underlying22 (hval 4 22 v4 rfl rfl)
  have k4 := h4
  have lt4 : ∀ x ∈ p4, x.block < W.heap.size := by obtain ⟨m, hm⟩ := k4; exact DataW.trod_lt m _ _ _ hm
  obtain ⟨l4, hl4, hr4, hi4, hc4, hm4, hd4⟩ := slice_cells Try.underlying22 (rds_u8 Try.underlying5) (size := 1) (by kernel_rfl) (by omega) (show DataW.trod enc Try.prog W 0 (fun _ => true) true h4.choose 22 [.slice A4 n4 c4] = some (d4, p4) from h4.choose_spec)
  have hz0 : c0 * Try.prog.bytesOf 22 ≤ 140737488351232 := by
    rcases hd0 with ⟨_, _, h0⟩ | ⟨a, el, sp, _, hdd, _, he⟩
    · rw [h0]; omega
    · simp only at hdd
      subst hdd
      have := sized_slice hsz (j := 0) rfl rfl Try.underlying68
      rw [he] at this
      simpa [reachBytes] using this
  rw [show Try.prog.bytesOf 22 = 24 from by kernel_rfl] at hz0
  obtain ⟨x1, hx1⟩ : ∃ x : UInt8, a1 = (x.toNat : Int) := by
    have hb := wf_bounds w1
    simp [IntKind.min, IntKind.max, IntKind.signed, IntKind.bits] at hb
    exact ⟨UInt8.ofNat a1.toNat, by rw [UInt8.toNat_ofNat']; omega⟩
  subst hx1
  obtain ⟨x2, hx2⟩ : ∃ x : UInt8, a2 = (x.toNat : Int) := by
    have hb := wf_bounds w2
    simp [IntKind.min, IntKind.max, IntKind.signed, IntKind.bits] at hb
    exact ⟨UInt8.ofNat a2.toNat, by rw [UInt8.toNat_ofNat']; omega⟩
  subst hx2
  have hz4 : c4 * Try.prog.bytesOf 5 ≤ 140737488351232 := by
    rcases hd4 with ⟨_, _, h0⟩ | ⟨a, el, sp, _, hdd, _, he⟩
    · rw [h0]; omega
    · simp only at hdd
      subst hdd
      have := sized_slice hsz (j := 4) rfl rfl Try.underlying22
      rw [he] at this
      simpa [reachBytes] using this
  rw [show Try.prog.bytesOf 5 = 1 from by kernel_rfl] at hz4
  have hr4 : RB W A4 n4 l4 := by
    have := hr4
    rwa [show l4.flatMap _ = bvs l4 from flat_bytes l4] at this
  clear hA0 hval0
  refine (bookTorn_walk W A0 n0 c0 l0 hl0 hr0 (fun a ha => (hi0 a ha).1) hc0 x1 x2 a3 A4 n4 c4 l4 hl4 hr4 hc4 (by omega)).mono fun e W' ⟨he, bel⟩ => ?_
  subst he
  exact ⟨_, rfl, _, _, _, [], _, [], hW', trodAll_mk1 (shut_bool Try.underlying4 _), (trodAll_cons_mk (Below.trod laidOut (by kernel_rfl) (of_decide_eq_true (by kernel_rfl)) k0 bel lt0) (trodAll_cons_mk (shut_int Try.underlying5 w1) (trodAll_cons_mk (shut_int Try.underlying5 w2) (trodAll_cons_mk (shut_bool Try.underlying4 a3) (trodAll_cons_mk (Below.trod laidOut (by kernel_rfl) (of_decide_eq_true (by kernel_rfl)) k4 bel lt4) trodAll_mk0))))), rfl, bel.frame _, fun h => by cases h⟩

theorem over : Rows.bookTornRow.holds Try.pinned (OpenSpec.ofChange Rows.bookTornSpec) :=
  OpenClaim.holds_of_wide 15 Try.f15 rfl rfl rfl rfl rfl rfl rfl ⟨rfl, rfl, rfl, rfl, rfl⟩ rfl rfl rfl rfl rfl (by kernel_rfl) Try.func15 (by kernel_rfl)
    (of_decide_eq_true (by kernel_rfl)) (by unfold Func.isWrapper; first | (rw [if_pos (by decide +kernel)]; kernel_rfl) | (rw [if_neg (by decide +kernel)]; exact ⟨rfl, rfl⟩))
    (fun os started H enc _ => lifted os started H enc)

theorem proved : Rows.BookTornSaid := over
#print axioms proved
end Go.Proofs.Ytmjdfajdompkeaa.bookTorn
