/- 'BookRoom': for every input that can be read as data (each string and slice at most 2^47 - 4096 bytes, as the form says) the call returns true, and each argument reads behind it as before. -/
import Derived.Test.YtmjdfajdompkeaaBkv
import Derived.Test.YtmjdfajdompkeaaOpen
namespace Go.Proofs.Ytmjdfajdompkeaa.bookRoom
open Go.ChangeShapes Go.WideShapes Go.ChangeAt Go.RowKit Go.Rat Go.Proofs.Ytmjdfajdompkeaa
open Go.ChangeMaps (open_string shut_string)
set_option linter.unusedVariables false

theorem own : ownKnob Try.prog.godebug = none := by kernel_rfl
theorem laidOut : laidOutB Try.prog = true := by kernel_rfl

set_option maxRecDepth 100000 in
theorem lifted (os : Os) (started : os.Started) (H : Type) (enc : TypeId × Value → H) :
    ReturnsInHanded {} Try.checked os 13 .any (Rows.bookRoomSpec.pre6 enc Try.prog Try.f13 Rows.bookRoomRow.domain false) (Rows.bookRoomSpec.post enc Try.prog Try.f13 false true false false) := by
  refine returnsInHanded_of_change_sized (C := Try.checked) own started (by kernel_rfl) Try.func13
    (ChangeSpec.witness6 (enc := enc) (C := Try.checked) false ⟨#[], #[.int .u8 0, .slice none 0 0], []⟩ 8 (by kernel_rfl) (by kernel_rfl) (by kernel_rfl) (by kernel_rfl)) ?_
  intro W base args ds gs before hval0 hW hcnd hsz0 _
  have hval : ∀ (j : Nat) t v, Try.f13.params[j]? = some t → args[j]? = some v → Value.okWide Try.prog W .any base t v := hval0
  have hsz : (DataW.weightsEach Try.prog (Try.f13.params.toList ++ Rows.bookRoomSpec.plain.varTypes Try.prog) (ds ++ gs)).all (· ≤ reachBytes) = true := hsz0
  have hW' := hW
  obtain ⟨p, q, hA0, hV, rfl, hfz, hnd⟩ := hW
  have hA : DataW.TrodAll enc Try.prog W 0 (fun _ => true) true Try.f13.params.toList args.toList ds p := hA0
  rw [Try.params13] at hA hval hsz
  obtain ⟨v0, vs0, d0, ds0, p0, q0, hargs, rfl, rfl, h0, r0⟩ := trodAll_cons hA
  obtain ⟨v1, vs1, d1, ds1, p1, q1, rfl, rfl, rfl, h1, r1⟩ := trodAll_cons r0
  obtain ⟨rfl, rfl, rfl⟩ := trodAll_nil r1
  obtain rfl : args = #[v0, v1] := by cases args; simp_all
  obtain ⟨rfl, rfl⟩ := trodVars_none hV
  obtain ⟨a0, rfl, rfl, rfl, w0⟩ := open_int Try.underlying5 (hval 0 5 v0 rfl rfl) h0
  obtain ⟨A1, n1, c1, rfl⟩ := okWide_slice Try.underlying68 (hval 1 68 v1 rfl rfl)
  have k1 := h1
  have lt1 : ∀ x ∈ p1, x.block < W.heap.size := by obtain ⟨m, hm⟩ := k1; exact DataW.trod_lt m _ _ _ hm
  obtain ⟨l1, hl1, hr1, hi1, hc1, hm1, hd1⟩ := slice_cells Try.underlying68 (rds_bytes Try.underlying22 Try.underlying5 (by kernel_rfl)) (size := 1) (by kernel_rfl) (by omega) (show DataW.trod enc Try.prog W 0 (fun _ => true) true h1.choose 68 [.slice A1 n1 c1] = some (d1, p1) from h1.choose_spec)
  obtain ⟨x0, hx0⟩ : ∃ x : UInt8, a0 = (x.toNat : Int) := by
    have hb := wf_bounds w0
    simp [IntKind.min, IntKind.max, IntKind.signed, IntKind.bits] at hb
    exact ⟨UInt8.ofNat a0.toNat, by rw [UInt8.toNat_ofNat']; omega⟩
  subst hx0
  have hz1 : c1 * Try.prog.bytesOf 22 ≤ 140737488351232 := by
    rcases hd1 with ⟨_, _, h0⟩ | ⟨a, el, sp, _, hdd, _, he⟩
    · rw [h0]; omega
    · simp only at hdd
      subst hdd
      have := sized_slice hsz (j := 1) rfl rfl Try.underlying68
      rw [he] at this
      simpa [reachBytes] using this
  rw [show Try.prog.bytesOf 22 = 24 from by kernel_rfl] at hz1
  clear hA0 hval0
  refine (bookRoom_walk W x0 A1 n1 c1 l1 hl1 hr1 (fun a ha => (hi1 a ha).1)).mono fun e W' ⟨he, bel⟩ => ?_
  subst he
  exact ⟨_, rfl, _, _, _, [], _, [], hW', trodAll_mk1 (shut_bool Try.underlying4 _), (trodAll_cons_mk (shut_int Try.underlying5 w0) (trodAll_cons_mk (Below.trod laidOut (by kernel_rfl) (of_decide_eq_true (by kernel_rfl)) k1 bel lt1) trodAll_mk0)), rfl, bel.frame _, fun h => by cases h⟩

theorem over : Rows.bookRoomRow.holds Try.pinned (OpenSpec.ofChange Rows.bookRoomSpec) :=
  OpenClaim.holds_of_wide 13 Try.f13 rfl rfl rfl rfl rfl rfl rfl ⟨rfl, rfl, rfl, rfl, rfl⟩ rfl rfl rfl rfl rfl (by kernel_rfl) Try.func13 (by kernel_rfl)
    (of_decide_eq_true (by kernel_rfl)) (by unfold Func.isWrapper; first | (rw [if_pos (by decide +kernel)]; kernel_rfl) | (rw [if_neg (by decide +kernel)]; exact ⟨rfl, rfl⟩))
    (fun os started H enc _ => lifted os started H enc)

theorem proved : Rows.BookRoomSaid := over
#print axioms proved
end Go.Proofs.Ytmjdfajdompkeaa.bookRoom
