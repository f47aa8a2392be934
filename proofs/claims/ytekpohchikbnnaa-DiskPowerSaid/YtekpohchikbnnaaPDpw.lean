/- 'DiskPower': for every input that can be read as data (each string and slice at most 2^47 - 4096 bytes, as the form says) the call returns true, and each argument reads behind it as before. -/
import Derived.Test.YtekpohchikbnnaaDpw
import Derived.Test.YtekpohchikbnnaaOpen
namespace Go.Proofs.Ytekpohchikbnnaa.diskPower
open Go.ChangeShapes Go.WideShapes Go.ChangeAt Go.RowKit Go.Rat Go.Proofs.Ytekpohchikbnnaa
open Go.ChangeMaps (open_string shut_string)
set_option linter.unusedVariables false

theorem own : ownKnob Try.prog.godebug = none := by kernel_rfl
theorem laidOut : laidOutB Try.prog = true := by kernel_rfl

set_option maxRecDepth 100000 in
theorem lifted (os : Os) (started : os.Started) (H : Type) (enc : TypeId × Value → H) :
    ReturnsInHanded {} Try.checked os 4 .any (Rows.diskPowerSpec.pre6 enc Try.prog Try.f4 Rows.diskPowerRow.domain false) (Rows.diskPowerSpec.post enc Try.prog Try.f4 false true false false) := by
  refine returnsInHanded_of_change_sized (C := Try.checked) own started (by kernel_rfl) Try.func4
    (ChangeSpec.witness6 (enc := enc) (C := Try.checked) false ⟨#[], #[.slice none 0 0, .slice none 0 0, .slice none 0 0], []⟩ 8 (by kernel_rfl) (by kernel_rfl) (by kernel_rfl) (by kernel_rfl)) ?_
  intro W base args ds gs before hval0 hW hcnd hsz0 _
  have hval : ∀ (j : Nat) t v, Try.f4.params[j]? = some t → args[j]? = some v → Value.okWide Try.prog W .any base t v := hval0
  have hsz : (DataW.weightsEach Try.prog (Try.f4.params.toList ++ Rows.diskPowerSpec.plain.varTypes Try.prog) (ds ++ gs)).all (· ≤ reachBytes) = true := hsz0
  have hW' := hW
  obtain ⟨p, q, hA0, hV, rfl, hfz, hnd⟩ := hW
  have hA : DataW.TrodAll enc Try.prog W 0 (fun _ => true) true Try.f4.params.toList args.toList ds p := hA0
  rw [Try.params4] at hA hval hsz
  obtain ⟨v0, vs0, d0, ds0, p0, q0, hargs, rfl, rfl, h0, r0⟩ := trodAll_cons hA
  obtain ⟨v1, vs1, d1, ds1, p1, q1, rfl, rfl, rfl, h1, r1⟩ := trodAll_cons r0
  obtain ⟨v2, vs2, d2, ds2, p2, q2, rfl, rfl, rfl, h2, r2⟩ := trodAll_cons r1
  obtain ⟨rfl, rfl, rfl⟩ := trodAll_nil r2
  obtain rfl : args = #[v0, v1, v2] := by cases args; simp_all
  obtain ⟨rfl, rfl⟩ := trodVars_none hV
  obtain ⟨A0, n0, c0, rfl⟩ := okWide_slice Try.underlying35 (hval 0 35 v0 rfl rfl)
  have k0 := h0
  have lt0 : ∀ x ∈ p0, x.block < W.heap.size := by obtain ⟨m, hm⟩ := k0; exact DataW.trod_lt m _ _ _ hm
  obtain ⟨l0, hl0, hr0, hi0, hc0, hm0, hd0⟩ := slice_cells Try.underlying35 (rds_struct2 Try.underlying38 (rds_u8 Try.underlying5) (rds_u8 Try.underlying5) (by kernel_rfl) (by kernel_rfl) (by kernel_rfl)) (size := 2) (by kernel_rfl) (by omega) (show DataW.trod enc Try.prog W 0 (fun _ => true) true h0.choose 35 [.slice A0 n0 c0] = some (d0, p0) from h0.choose_spec)
  obtain ⟨A1, n1, c1, rfl⟩ := okWide_slice Try.underlying35 (hval 1 35 v1 rfl rfl)
  have k1 := h1
  have lt1 : ∀ x ∈ p1, x.block < W.heap.size := by obtain ⟨m, hm⟩ := k1; exact DataW.trod_lt m _ _ _ hm
  obtain ⟨l1, hl1, hr1, hi1, hc1, hm1, hd1⟩ := slice_cells Try.underlying35 (rds_struct2 Try.underlying38 (rds_u8 Try.underlying5) (rds_u8 Try.underlying5) (by kernel_rfl) (by kernel_rfl) (by kernel_rfl)) (size := 2) (by kernel_rfl) (by omega) (show DataW.trod enc Try.prog W 0 (fun _ => true) true h1.choose 35 [.slice A1 n1 c1] = some (d1, p1) from h1.choose_spec)
  obtain ⟨A2, n2, c2, rfl⟩ := okWide_slice Try.underlying22 (hval 2 22 v2 rfl rfl)
  have k2 := h2
  have lt2 : ∀ x ∈ p2, x.block < W.heap.size := by obtain ⟨m, hm⟩ := k2; exact DataW.trod_lt m _ _ _ hm
  obtain ⟨l2, hl2, hr2, hi2, hc2, hm2, hd2⟩ := slice_cells Try.underlying22 (rds_u8 Try.underlying5) (size := 1) (by kernel_rfl) (by omega) (show DataW.trod enc Try.prog W 0 (fun _ => true) true h2.choose 22 [.slice A2 n2 c2] = some (d2, p2) from h2.choose_spec)
  have hz0 : c0 * Try.prog.bytesOf 38 ≤ 140737488351232 := by
    rcases hd0 with ⟨_, _, h0⟩ | ⟨a, el, sp, _, hdd, _, he⟩
    · rw [h0]; omega
    · simp only at hdd
      subst hdd
      have := sized_slice hsz (j := 0) rfl rfl Try.underlying35
      rw [he] at this
      simpa [reachBytes] using this
  rw [show Try.prog.bytesOf 38 = 2 from by kernel_rfl] at hz0
  have hz1 : c1 * Try.prog.bytesOf 38 ≤ 140737488351232 := by
    rcases hd1 with ⟨_, _, h0⟩ | ⟨a, el, sp, _, hdd, _, he⟩
    · rw [h0]; omega
    · simp only at hdd
      subst hdd
      have := sized_slice hsz (j := 1) rfl rfl Try.underlying35
      rw [he] at this
      simpa [reachBytes] using this
  rw [show Try.prog.bytesOf 38 = 2 from by kernel_rfl] at hz1
  have hz2 : c2 * Try.prog.bytesOf 5 ≤ 140737488351232 := by
    rcases hd2 with ⟨_, _, h0⟩ | ⟨a, el, sp, _, hdd, _, he⟩
    · rw [h0]; omega
    · simp only at hdd
      subst hdd
      have := sized_slice hsz (j := 2) rfl rfl Try.underlying22
      rw [he] at this
      simpa [reachBytes] using this
  rw [show Try.prog.bytesOf 5 = 1 from by kernel_rfl] at hz2
  have hat2 : ∀ ad, A2 = some ad → ad.block < W.heap.size := by
    intro ad h
    subst h
    exact okWide_block Try.underlying22 (hval 2 22 _ rfl rfl)
  have hr2 : RB W A2 n2 l2 := by
    have := hr2
    rwa [show l2.flatMap _ = bvs l2 from flat_bytes l2] at this
  clear hA0 hval0
  refine (diskPower_walk W A0 n0 c0 l0 hl0 hr0 A1 n1 c1 l1 hl1 hr1 A2 n2 c2 l2 hl2 hr2 hc2 (by omega) hat2).mono fun e W' ⟨he, bel⟩ => ?_
  subst he
  exact ⟨_, rfl, _, _, _, [], _, [], hW', trodAll_mk1 (shut_bool Try.underlying4 _), (trodAll_cons_mk (Below.trod laidOut (by kernel_rfl) (of_decide_eq_true (by kernel_rfl)) k0 bel lt0) (trodAll_cons_mk (Below.trod laidOut (by kernel_rfl) (of_decide_eq_true (by kernel_rfl)) k1 bel lt1) (trodAll_cons_mk (Below.trod laidOut (by kernel_rfl) (of_decide_eq_true (by kernel_rfl)) k2 bel lt2) trodAll_mk0))), rfl, bel.frame _, fun h => by cases h⟩

theorem over : Rows.diskPowerRow.holds Try.pinned (OpenSpec.ofChange Rows.diskPowerSpec) :=
  OpenClaim.holds_of_wide 4 Try.f4 rfl rfl rfl rfl rfl rfl rfl ⟨rfl, rfl, rfl, rfl, rfl⟩ rfl rfl rfl rfl rfl (by kernel_rfl) Try.func4 (by kernel_rfl)
    (of_decide_eq_true (by kernel_rfl)) (by unfold Func.isWrapper; first | (rw [if_pos (by decide +kernel)]; kernel_rfl) | (rw [if_neg (by decide +kernel)]; exact ⟨rfl, rfl⟩))
    (fun os started H enc _ => lifted os started H enc)

theorem proved : Rows.DiskPowerSaid := over
#print axioms proved
end Go.Proofs.Ytekpohchikbnnaa.diskPower
