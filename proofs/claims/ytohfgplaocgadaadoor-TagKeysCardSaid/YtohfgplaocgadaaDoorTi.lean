/- tag: slices.Concat, Numbered. -/
import Derived.Test.YtohfgplaocgadaaDoorTh
namespace Go.Proofs.YtohfgplaocgadaaDoor
open Go.RowKit Go.Rat
theorem catP_take (ps : List Pt) (k : Nat) (hk : k < ps.length) : catP (ps.take (k + 1)) = catP (ps.take k) ++ ps[k].xs := by
  rw [List.take_add_one, List.getElem?_eq_getElem hk]
  show List.flatMap _ (_ ++ [_]) = _
  rw [List.flatMap_append]
  simp [catP]
theorem catP_take_le (ps : List Pt) (k : Nat) : (catP (ps.take k)).length ≤ (catP ps).length := by
  have : catP ps = catP (ps.take k) ++ catP (ps.drop k) := by rw [catP, catP, catP, ← List.flatMap_append, List.take_append_drop]
  rw [this, List.length_append]
  omega
set_option maxRecDepth 8000 in
set_option maxHeartbeats 2000000 in
theorem concat_any (w : World) (g : Nat) (T : TypeId) (ps : List Pt) (N c : Nat) (hN : ps.length = N) (hP : Blk w g T (ps.map Pt.v).toArray) (hok : ∀ p ∈ ps, PtOk w p) (hlen : (catP ps).length < 4398046511104) (hN9 : N < 1000) :
    Calls Tryd.prog 43 #[.slice (some ⟨g, 0, none⟩) N c] w fun e w' => ∃ A' N' c', e = .returned (.slice A' N' c') ∧ OB 5 w' w.heap.size A' N' c' (catP ps) ∧ Below w.heap.size w w' := by
  have hcell : ∀ w', Below w.heap.size w w' → ∀ k, (hk : k < ps.length) → w'.cell? ⟨g, k, none⟩ = some (.slice ps[k].A ps[k].n ps[k].c) := fun w' hb k hk => by
    rw [(hP.below hb hP.lt).cell k, List.getElem?_toArray, List.getElem?_map, List.getElem?_eq_getElem hk]
    rfl
  have HC := Lib.hid hcell
  clear hcell
  have HK := Lib.hid hok
  clear hok
  go_enter Tryd.func43, Tryd.ntmps43
  go_wp2_with fail
  go_loopw [3, 11] (fun s i wr => ∃ k : Nat, k ≤ N ∧ i = .int .i64 (k : Int) ∧ s = .int .i64 ((catP (ps.take k)).length : Int) ∧ wr = w) (fun _ i _ => N - (intOf i).toNat)
  case atStart => exact ⟨0, Nat.zero_le _, rfl, rfl, rfl⟩
  case round =>
    obtain ⟨k, hk, rfl, rfl, rfl⟩ := hrel
    by_cases hkN : k < N
    · have hkl : k < ps.length := by omega
      have c1 := HC.out wr (Below.refl _ _) k hkl
      have hpl := (HK.out _ (List.getElem_mem hkl)).r.len
      have hle := catP_take_le ps (k + 1)
      have hcat := catP_take ps k hkl
      rw [hcat, List.length_append] at hle
      have hl2 : ((catP (ps.take (k + 1))).length : Int) = ((catP (ps.take k)).length : Int) + (ps[k].n : Int) := by rw [hcat, List.length_append, ← hpl]; omega
      generalize (catP (ps.take k)).length = L at *
      generalize ps[k] = p at *
      have HL := Lib.hid hl2
      clear hl2 hcat
      have g1 : (k : Int) < (N : Int) := by omega
      have g0 : (0 : Int) ≤ (k : Int) := by omega
      have g2 : IntKind.i64.wrap ((L : Int) + (p.n : Int)) = (L : Int) + (p.n : Int) := IntWalk.i64_in _ (by omega)
      have g3 : ¬ ((L : Int) + (p.n : Int) < 0) := by omega
      go_wp2_with fail
      exact ⟨⟨k + 1, by omega, congrArg (Value.int .i64) (by omega), congrArg (Value.int .i64) HL.out.symm, trivial⟩, by simp only [intOf]; omega⟩
    · obtain rfl : k = N := by omega
      rw [List.take_of_length_le (by omega)]
      generalize hL : (catP ps).length = L at *
      have g1 : ¬ (k : Int) < (k : Int) := by omega
      go_wp2_with (go_at_call 48; refine (grow0_any wr (L : Int) (by omega) (by omega)).mono ?_; rintro e w2 ⟨A2, c2, rfl, hO2, hb2⟩)
      go_loopw [6, 27] (fun s i wq => ∃ (k' : Nat) (A3 : Option Addr) (N3 c3 : Nat), k' ≤ k ∧ i = .int .i64 (k' : Int) ∧ s = .slice A3 N3 c3 ∧ OB 5 wq wr.heap.size A3 N3 c3 (catP (ps.take k')) ∧ Below wr.heap.size wr wq) (fun _ i _ => k - (intOf i).toNat)
      case atStart => exact ⟨0, A2, 0, c2, Nat.zero_le _, rfl, rfl, hO2, hb2⟩
      case round =>
        obtain ⟨k', A3, N3, c3, hk', rfl, rfl, hO3, hb3⟩ := hrel
        by_cases hkN : k' < k
        · have hkl : k' < ps.length := by omega
          have c1 := HC.out _ hb3 k' hkl
          have hr := (HK.out _ (List.getElem_mem hkl)).r.below hb3
          have hN3 := hO3.len
          have hle := catP_take_le ps (k' + 1)
          have hcat := catP_take ps k' hkl
          rw [hcat, List.length_append, hL] at hle
          have hpl := hr.len
          have hle2 : N3 + ps[k'].n ≤ L := by omega
          rw [hN3] at hle
          have HCAT := Lib.hid hcat
          clear hcat hL hO2 hb2 hpl
          generalize ps[k'] = p at *
          have g1 : (k' : Int) < (k : Int) := by omega
          have g0 : (0 : Int) ≤ (k' : Int) := by omega
          have hbs := hb3.size
          go_wp2_with (at_builtin; refine app_bytes rfl _ _ rfl _ _ _ _ _ rfl hO3 _ _ _ p.xs rfl hr (by omega) hbs ?_; intro A4 N4 c4 w4 hc4 hc5 hO4 hG4)
          refine ⟨⟨k' + 1, A4, N4, c4, by omega, congrArg (Value.int .i64) (by omega), rfl, ?_, hG4.own hb3 (Nat.le_refl _) hO3⟩, by simp only [intOf]; omega⟩
          rw [HCAT.out]
          exact hO4
        · obtain rfl : k' = k := by omega
          rw [List.take_of_length_le (by omega)] at hO3
          have g1 : ¬ (k' : Int) < (k' : Int) := by omega
          go_wp2_with fail
          go_ret
          exact ⟨A3, N3, c3, rfl, hO3, hb3⟩
def numF (n : Nat) (tb : List Int) (i : Int) (x : Nat) (b : List UInt8) : List UInt8 := ofF n tb (repK n tb i) (be 8 x ++ b)
theorem numF_length (n : Nat) (tb : List Int) (i : Int) (x : Nat) (b : List UInt8) : (numF n tb i x b).length = 32 := ofF_length _ _ _ _
end Go.Proofs.YtohfgplaocgadaaDoor
