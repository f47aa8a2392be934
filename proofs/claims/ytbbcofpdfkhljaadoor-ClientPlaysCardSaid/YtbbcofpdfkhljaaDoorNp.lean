/- ledger.May: may an operation be? -/
import Derived.Test.YtbbcofpdfkhljaaDoorNkk
namespace Go.Proofs.YtbbcofpdfkhljaaDoor
open Go.RowKit Go.Rat
theorem and_dec (p q r s : Prop) [Decidable p] [Decidable q] [Decidable r] [Decidable s] {v : Bool} (h : v = true ↔ p ∧ q ∧ r ∧ s) : v = (decide p && (decide q && (decide r && decide s))) := by
  cases v
  · symm
    by_cases hp : p <;> by_cases hq : q <;> by_cases hr : r <;> by_cases hs : s <;> simp_all
  · obtain ⟨hp, hq, hr, hs⟩ := h.1 rfl
    simp [hp, hq, hr, hs]
theorem and_dec5 (t p q r s : Prop) [Decidable p] [Decidable q] [Decidable r] [Decidable s] {v : Bool} (h : v = true ↔ t ∧ p ∧ q ∧ r ∧ s) (ht : t) : v = (decide p && (decide q && (decide r && decide s))) :=
  and_dec p q r s ⟨fun e => (h.1 e).2, fun e => h.2 ⟨ht, e⟩⟩
theorem and_no {t s : Prop} {v : Bool} (h : v = true ↔ t ∧ s) (ht : ¬ t) : v = false := by
  cases v
  · rfl
  · exact absurd (h.1 rfl).1 ht
theorem call_b {P : Program} {f : FuncId} {a : Array Value} {w : World} {p : Prop} [Decidable p] {b : Bool} (hb : decide p = b) (h : Calls P f a w fun e w' => e = .returned (.bool (decide p)) ∧ w' = w) : Calls P f a w fun e w' => e = .returned (.bool b) ∧ w' = w := by rwa [hb] at h
set_option maxRecDepth 20000 in
set_option maxHeartbeats 8000000 in
theorem may_k1 (w : World) (key val old tow : ByteArray) (amt : UInt64) :
    Calls Tryd.prog 21 #[.agg (OpV.c ⟨1, key, val, old, tow, amt⟩).toArray] w fun e w' => e = .returned (.bool (decide (OpV.may ⟨1, key, val, old, tow, amt⟩))) ∧ Below w.heap.size w w' := by
  obtain ⟨v, hv⟩ : ∃ v, decide (OpV.may ⟨1, key, val, old, tow, amt⟩) = v := ⟨_, rfl⟩
  rw [hv]
  have hvv : v = true ↔ (OpV.may ⟨1, key, val, old, tow, amt⟩) := by rw [← hv]; exact decide_eq_true_iff
  clear hv
  rw [may_get 1 key val old tow amt (.inl rfl)] at hvv
  have hLs : (OpV.c ⟨1, key, val, old, tow, amt⟩).toArray.size = 6 := rfl
  have hX := Blk.new w 34 (OpV.c ⟨1, key, val, old, tow, amt⟩).toArray
  have hb := below_alloc w (.cells (OpV.c ⟨1, key, val, old, tow, amt⟩).toArray 34)
  have hcs := fun (z : World) (g : Nat) (h : Blk z g 34 (OpV.c ⟨1, key, val, old, tow, amt⟩).toArray) => op_cells h
  simp only [show ((UInt8.toNat 1 : Nat) : Int) = 1 from rfl] at hcs
  have heq := fun x => eq_op 9998 ⟨1, key, val, old, tow, amt⟩ ⟨1, key, e0, e0, e0, 0⟩ x
  obtain ⟨L, hL⟩ : ∃ L, (OpV.c ⟨1, key, val, old, tow, amt⟩).toArray = L := ⟨_, rfl⟩
  rw [hL] at hLs hX hb ⊢
  simp only [hL] at hcs heq
  clear hL
  have hvq := and_dec _ _ _ _ hvv
  clear hvv
  have hvv := hvq
  clear hvq
  obtain ⟨eb, heb⟩ : ∃ b, decide (OpV.mk 1 key val old tow amt = OpV.mk 1 key e0 e0 e0 0) = b := ⟨_, rfl⟩
  rw [heb] at hvv
  simp only [heb] at heq
  have HEQ := Lib.hid heq
  obtain ⟨kb, hkb⟩ : ∃ b, decide (1 ≤ key.size ∧ key.size ≤ 32) = b := ⟨_, rfl⟩
  have HK := Lib.hid (fun w => call_b hkb (keyed_any w key))
  obtain ⟨vb, hvb⟩ : ∃ b, decide (val.size ≤ 128) = b := ⟨_, rfl⟩
  have HV1 := Lib.hid (fun w => call_b hvb (valued_any w val))
  obtain ⟨ob, hob⟩ : ∃ b, decide (old.size ≤ 128) = b := ⟨_, rfl⟩
  have HO := Lib.hid (fun w => call_b hob (valued_any w old))
  rw [hkb, hvb, hob] at hvv
  have HVV := Lib.hid hvv
  clear hvv heq heb hkb hvb hob
  go_enter Tryd.func21, Tryd.ntmps21
  go_upto_region 1 with (fail)
  obtain ⟨w1, hw1⟩ : ∃ x, w.alloc (.cells L 34) = x := ⟨_, rfl⟩
  rw [hw1] at hX hb ⊢
  obtain ⟨gx, hgx⟩ : ∃ x, w.heap.size = x := ⟨_, rfl⟩
  rw [hgx] at hX ⊢
  have HGX := Lib.hid hgx
  clear hw1 hgx
  obtain ⟨c0, c1, c2, c3, c4, c5⟩ := hcs _ _ hX
  have HCS := Lib.hid (fun z h => hcs z gx h)
  clear hcs
  have hM1 : (OpV.mk 1 key e0 e0 e0 0).c.toArray.all (·.oneCell') = true := by simp [OpV.c, Value.oneCell']
  repeat (first
    | ((with_reducible refine wpl_store_fresh (OpV.mk 1 key e0 e0 e0 0).c.toArray i34 ?_ rfl hM1 ?_ ?_ ?_); (focus kernel_rfl); (focus rfl); (focus rfl); intro w2 hW hl2 hb2; simp only [Act.put]; refine Hid.out ?_)
    | go_values | go_skip | go_guarded | go_step | go_upon | go_back)
  refine Lib.hid ?_
  have hne : gx ≠ w1.heap.size := Nat.ne_of_lt hX.lt
  have hge : w.heap.size ≤ w1.heap.size := hb.size
  have hb := below_next' hb hb2
  have hX := hX.below hb2 hX.lt
  obtain ⟨gw, hgw⟩ : ∃ x, w1.heap.size = x := ⟨_, rfl⟩
  rw [hgw] at hW hne hge ⊢
  clear hgw hb2 hl2 hM1
  obtain ⟨c0, c1, c2, c3, c4, c5⟩ := HCS.out _ hX
  obtain ⟨M, hM⟩ : ∃ M, (OpV.mk 1 key e0 e0 e0 0).c.toArray = M := ⟨_, rfl⟩
  have hMs : M.size = 6 := by rw [← hM]; rfl
  rw [hM] at hW
  have HEQ := Lib.hid (fun x => by have := HEQ.out x; rw [hM] at this; exact this)
  clear hM
  cases eb
  · obtain rfl : v = false := by rw [HVV.out]; rfl
    repeat (first
      | ((with_reducible refine wpl_loadS gx _ L Tryd.underlying34 rfl i34 hX hLs ?_ ?_ ?_); (focus rfl); (focus rfl); simp only [Act.put, List.setIfInBounds_toArray, List.set_cons_zero, List.set_cons_succ])
      | ((with_reducible refine wpl_loadS gw _ M Tryd.underlying34 rfl i34 hW hMs ?_ ?_ ?_); (focus rfl); (focus rfl); simp only [Act.put, List.setIfInBounds_toArray, List.set_cons_zero, List.set_cons_succ])
      | ((with_reducible refine wpl_eqS g34 (HEQ.out _) ?_ ?_ ?_ ?_); (focus rfl); (focus rfl); (focus rfl); simp only [Act.put, List.setIfInBounds_toArray, List.set_cons_zero, List.set_cons_succ])
      | go_values | go_skip | go_guarded | go_step | go_upon | go_back)
    go_ret
    exact ⟨rfl, hb⟩
  · cases kb
    · obtain rfl : v = false := by rw [HVV.out]; rfl
      repeat (first
        | ((with_reducible refine wpl_loadS gx _ L Tryd.underlying34 rfl i34 hX hLs ?_ ?_ ?_); (focus rfl); (focus rfl); simp only [Act.put, List.setIfInBounds_toArray, List.set_cons_zero, List.set_cons_succ])
        | ((with_reducible refine wpl_loadS gw _ M Tryd.underlying34 rfl i34 hW hMs ?_ ?_ ?_); (focus rfl); (focus rfl); simp only [Act.put, List.setIfInBounds_toArray, List.set_cons_zero, List.set_cons_succ])
        | ((with_reducible refine wpl_eqS g34 (HEQ.out _) ?_ ?_ ?_ ?_); (focus rfl); (focus rfl); (focus rfl); simp only [Act.put, List.setIfInBounds_toArray, List.set_cons_zero, List.set_cons_succ])
        | (go_at_call 26; refine (HK.out _).mono ?_; rintro e w3 ⟨rfl, rfl⟩; simp only [])
        | go_values | go_skip | go_guarded | go_step | go_upon | go_back)
      go_ret
      exact ⟨rfl, hb⟩
    · cases vb
      · obtain rfl : v = false := by rw [HVV.out]; rfl
        repeat (first
          | ((with_reducible refine wpl_loadS gx _ L Tryd.underlying34 rfl i34 hX hLs ?_ ?_ ?_); (focus rfl); (focus rfl); simp only [Act.put, List.setIfInBounds_toArray, List.set_cons_zero, List.set_cons_succ])
          | ((with_reducible refine wpl_loadS gw _ M Tryd.underlying34 rfl i34 hW hMs ?_ ?_ ?_); (focus rfl); (focus rfl); simp only [Act.put, List.setIfInBounds_toArray, List.set_cons_zero, List.set_cons_succ])
          | ((with_reducible refine wpl_eqS g34 (HEQ.out _) ?_ ?_ ?_ ?_); (focus rfl); (focus rfl); (focus rfl); simp only [Act.put, List.setIfInBounds_toArray, List.set_cons_zero, List.set_cons_succ])
          | (go_at_call 26; refine (HK.out _).mono ?_; rintro e w3 ⟨rfl, rfl⟩; simp only [])
          | (go_at_call 27; refine (HV1.out _).mono ?_; rintro e w3 ⟨rfl, rfl⟩; simp only [])
          | go_values | go_skip | go_guarded | go_step | go_upon | go_back)
        go_ret
        exact ⟨rfl, hb⟩
      · cases ob
        · obtain rfl : v = false := by rw [HVV.out]; rfl
          repeat (first
            | ((with_reducible refine wpl_loadS gx _ L Tryd.underlying34 rfl i34 hX hLs ?_ ?_ ?_); (focus rfl); (focus rfl); simp only [Act.put, List.setIfInBounds_toArray, List.set_cons_zero, List.set_cons_succ])
            | ((with_reducible refine wpl_loadS gw _ M Tryd.underlying34 rfl i34 hW hMs ?_ ?_ ?_); (focus rfl); (focus rfl); simp only [Act.put, List.setIfInBounds_toArray, List.set_cons_zero, List.set_cons_succ])
            | ((with_reducible refine wpl_eqS g34 (HEQ.out _) ?_ ?_ ?_ ?_); (focus rfl); (focus rfl); (focus rfl); simp only [Act.put, List.setIfInBounds_toArray, List.set_cons_zero, List.set_cons_succ])
            | (go_at_call 26; refine (HK.out _).mono ?_; rintro e w3 ⟨rfl, rfl⟩; simp only [])
            | (go_at_call 27; refine (HV1.out _).mono ?_; rintro e w3 ⟨rfl, rfl⟩; simp only [])
            | (go_at_call 27; refine (HO.out _).mono ?_; rintro e w3 ⟨rfl, rfl⟩; simp only [])
            | go_values | go_skip | go_guarded | go_step | go_upon | go_back)
          go_ret
          exact ⟨rfl, hb⟩
        · obtain rfl : v = true := by rw [HVV.out]; rfl
          repeat (first
            | ((with_reducible refine wpl_loadS gx _ L Tryd.underlying34 rfl i34 hX hLs ?_ ?_ ?_); (focus rfl); (focus rfl); simp only [Act.put, List.setIfInBounds_toArray, List.set_cons_zero, List.set_cons_succ])
            | ((with_reducible refine wpl_loadS gw _ M Tryd.underlying34 rfl i34 hW hMs ?_ ?_ ?_); (focus rfl); (focus rfl); simp only [Act.put, List.setIfInBounds_toArray, List.set_cons_zero, List.set_cons_succ])
            | ((with_reducible refine wpl_eqS g34 (HEQ.out _) ?_ ?_ ?_ ?_); (focus rfl); (focus rfl); (focus rfl); simp only [Act.put, List.setIfInBounds_toArray, List.set_cons_zero, List.set_cons_succ])
            | (go_at_call 26; refine (HK.out _).mono ?_; rintro e w3 ⟨rfl, rfl⟩; simp only [])
            | (go_at_call 27; refine (HV1.out _).mono ?_; rintro e w3 ⟨rfl, rfl⟩; simp only [])
            | (go_at_call 27; refine (HO.out _).mono ?_; rintro e w3 ⟨rfl, rfl⟩; simp only [])
            | go_values | go_skip | go_guarded | go_step | go_upon | go_back)
          go_ret
          exact ⟨rfl, hb⟩
set_option maxRecDepth 20000 in
set_option maxHeartbeats 8000000 in
theorem may_k2 (w : World) (key val old tow : ByteArray) (amt : UInt64) :
    Calls Tryd.prog 21 #[.agg (OpV.c ⟨2, key, val, old, tow, amt⟩).toArray] w fun e w' => e = .returned (.bool (decide (OpV.may ⟨2, key, val, old, tow, amt⟩))) ∧ Below w.heap.size w w' := by
  obtain ⟨v, hv⟩ : ∃ v, decide (OpV.may ⟨2, key, val, old, tow, amt⟩) = v := ⟨_, rfl⟩
  rw [hv]
  have hvv : v = true ↔ (OpV.may ⟨2, key, val, old, tow, amt⟩) := by rw [← hv]; exact decide_eq_true_iff
  clear hv
  rw [may_put key val old tow amt] at hvv
  have hLs : (OpV.c ⟨2, key, val, old, tow, amt⟩).toArray.size = 6 := rfl
  have hX := Blk.new w 34 (OpV.c ⟨2, key, val, old, tow, amt⟩).toArray
  have hb := below_alloc w (.cells (OpV.c ⟨2, key, val, old, tow, amt⟩).toArray 34)
  have hcs := fun (z : World) (g : Nat) (h : Blk z g 34 (OpV.c ⟨2, key, val, old, tow, amt⟩).toArray) => op_cells h
  simp only [show ((UInt8.toNat 2 : Nat) : Int) = 2 from rfl] at hcs
  have heq := fun x => eq_op 9998 ⟨2, key, val, old, tow, amt⟩ ⟨2, key, val, e0, e0, 0⟩ x
  obtain ⟨L, hL⟩ : ∃ L, (OpV.c ⟨2, key, val, old, tow, amt⟩).toArray = L := ⟨_, rfl⟩
  rw [hL] at hLs hX hb ⊢
  simp only [hL] at hcs heq
  clear hL
  have hvq := and_dec _ _ _ _ hvv
  clear hvv
  have hvv := hvq
  clear hvq
  obtain ⟨eb, heb⟩ : ∃ b, decide (OpV.mk 2 key val old tow amt = OpV.mk 2 key val e0 e0 0) = b := ⟨_, rfl⟩
  rw [heb] at hvv
  simp only [heb] at heq
  have HEQ := Lib.hid heq
  obtain ⟨kb, hkb⟩ : ∃ b, decide (1 ≤ key.size ∧ key.size ≤ 32) = b := ⟨_, rfl⟩
  have HK := Lib.hid (fun w => call_b hkb (keyed_any w key))
  obtain ⟨vb, hvb⟩ : ∃ b, decide (val.size ≤ 128) = b := ⟨_, rfl⟩
  have HV1 := Lib.hid (fun w => call_b hvb (valued_any w val))
  obtain ⟨ob, hob⟩ : ∃ b, decide (old.size ≤ 128) = b := ⟨_, rfl⟩
  have HO := Lib.hid (fun w => call_b hob (valued_any w old))
  rw [hkb, hvb, hob] at hvv
  have HVV := Lib.hid hvv
  clear hvv heq heb hkb hvb hob
  go_enter Tryd.func21, Tryd.ntmps21
  go_upto_region 1 with (fail)
  obtain ⟨w1, hw1⟩ : ∃ x, w.alloc (.cells L 34) = x := ⟨_, rfl⟩
  rw [hw1] at hX hb ⊢
  obtain ⟨gx, hgx⟩ : ∃ x, w.heap.size = x := ⟨_, rfl⟩
  rw [hgx] at hX ⊢
  have HGX := Lib.hid hgx
  clear hw1 hgx
  obtain ⟨c0, c1, c2, c3, c4, c5⟩ := hcs _ _ hX
  have HCS := Lib.hid (fun z h => hcs z gx h)
  clear hcs
  have hM1 : (OpV.mk 2 key e0 e0 e0 0).c.toArray.all (·.oneCell') = true := by simp [OpV.c, Value.oneCell']
  repeat (first
    | ((with_reducible refine wpl_store_fresh (OpV.mk 2 key e0 e0 e0 0).c.toArray i34 ?_ rfl hM1 ?_ ?_ ?_); (focus kernel_rfl); (focus rfl); (focus rfl); intro w2 hW hl2 hb2; simp only [Act.put]; refine Hid.out ?_)
    | go_values | go_skip | go_guarded | go_step | go_upon | go_back)
  refine Lib.hid ?_
  have hne : gx ≠ w1.heap.size := Nat.ne_of_lt hX.lt
  have hge : w.heap.size ≤ w1.heap.size := hb.size
  have hb := below_next' hb hb2
  have hX := hX.below hb2 hX.lt
  obtain ⟨gw, hgw⟩ : ∃ x, w1.heap.size = x := ⟨_, rfl⟩
  rw [hgw] at hW hne hge ⊢
  clear hgw hb2 hl2 hM1
  obtain ⟨c0, c1, c2, c3, c4, c5⟩ := HCS.out _ hX
  have u2 := hW.cell 2
  simp only [OpV.c, List.getElem?_toArray, List.getElem?_cons_zero, List.getElem?_cons_succ] at u2
  have f2 := hW.frozen 2
  have hW := hW.set_ 2 (.string val)
  have hX := hX.far (p := ⟨gw, 2, none⟩) hne (.string val)
  have hb := hb.grown (grownBy_set w2 gw 2 (.string val)) hb.size (fun q hq => by cases hq; exact hge)
  go_upto_region 14 with (fail)
  obtain ⟨w4, hw4⟩ : ∃ x, w2.setCell ⟨gw, 2, none⟩ (.string val) = x := ⟨_, rfl⟩
  rw [hw4] at hX hW hb ⊢
  clear hw4 u2 f2 c0 c1 c2 c3 c4 c5
  have hW : Blk w4 gw _ (OpV.mk 2 key val e0 e0 0).c.toArray := hW
  obtain ⟨c0, c1, c2, c3, c4, c5⟩ := HCS.out _ hX
  obtain ⟨M, hM⟩ : ∃ M, (OpV.mk 2 key val e0 e0 0).c.toArray = M := ⟨_, rfl⟩
  have hMs : M.size = 6 := by rw [← hM]; rfl
  rw [hM] at hW
  have HEQ := Lib.hid (fun x => by have := HEQ.out x; rw [hM] at this; exact this)
  clear hM
  cases eb
  · obtain rfl : v = false := by rw [HVV.out]; rfl
    repeat (first
      | ((with_reducible refine wpl_loadS gx _ L Tryd.underlying34 rfl i34 hX hLs ?_ ?_ ?_); (focus rfl); (focus rfl); simp only [Act.put, List.setIfInBounds_toArray, List.set_cons_zero, List.set_cons_succ])
      | ((with_reducible refine wpl_loadS gw _ M Tryd.underlying34 rfl i34 hW hMs ?_ ?_ ?_); (focus rfl); (focus rfl); simp only [Act.put, List.setIfInBounds_toArray, List.set_cons_zero, List.set_cons_succ])
      | ((with_reducible refine wpl_eqS g34 (HEQ.out _) ?_ ?_ ?_ ?_); (focus rfl); (focus rfl); (focus rfl); simp only [Act.put, List.setIfInBounds_toArray, List.set_cons_zero, List.set_cons_succ])
      | go_values | go_skip | go_guarded | go_step | go_upon | go_back)
    go_ret
    exact ⟨rfl, hb⟩
  · cases kb
    · obtain rfl : v = false := by rw [HVV.out]; rfl
      repeat (first
        | ((with_reducible refine wpl_loadS gx _ L Tryd.underlying34 rfl i34 hX hLs ?_ ?_ ?_); (focus rfl); (focus rfl); simp only [Act.put, List.setIfInBounds_toArray, List.set_cons_zero, List.set_cons_succ])
        | ((with_reducible refine wpl_loadS gw _ M Tryd.underlying34 rfl i34 hW hMs ?_ ?_ ?_); (focus rfl); (focus rfl); simp only [Act.put, List.setIfInBounds_toArray, List.set_cons_zero, List.set_cons_succ])
        | ((with_reducible refine wpl_eqS g34 (HEQ.out _) ?_ ?_ ?_ ?_); (focus rfl); (focus rfl); (focus rfl); simp only [Act.put, List.setIfInBounds_toArray, List.set_cons_zero, List.set_cons_succ])
        | (go_at_call 26; refine (HK.out _).mono ?_; rintro e w3 ⟨rfl, rfl⟩; simp only [])
        | go_values | go_skip | go_guarded | go_step | go_upon | go_back)
      go_ret
      exact ⟨rfl, hb⟩
    · cases vb
      · obtain rfl : v = false := by rw [HVV.out]; rfl
        repeat (first
          | ((with_reducible refine wpl_loadS gx _ L Tryd.underlying34 rfl i34 hX hLs ?_ ?_ ?_); (focus rfl); (focus rfl); simp only [Act.put, List.setIfInBounds_toArray, List.set_cons_zero, List.set_cons_succ])
          | ((with_reducible refine wpl_loadS gw _ M Tryd.underlying34 rfl i34 hW hMs ?_ ?_ ?_); (focus rfl); (focus rfl); simp only [Act.put, List.setIfInBounds_toArray, List.set_cons_zero, List.set_cons_succ])
          | ((with_reducible refine wpl_eqS g34 (HEQ.out _) ?_ ?_ ?_ ?_); (focus rfl); (focus rfl); (focus rfl); simp only [Act.put, List.setIfInBounds_toArray, List.set_cons_zero, List.set_cons_succ])
          | (go_at_call 26; refine (HK.out _).mono ?_; rintro e w3 ⟨rfl, rfl⟩; simp only [])
          | (go_at_call 27; refine (HV1.out _).mono ?_; rintro e w3 ⟨rfl, rfl⟩; simp only [])
          | go_values | go_skip | go_guarded | go_step | go_upon | go_back)
        go_ret
        exact ⟨rfl, hb⟩
      · cases ob
        · obtain rfl : v = false := by rw [HVV.out]; rfl
          repeat (first
            | ((with_reducible refine wpl_loadS gx _ L Tryd.underlying34 rfl i34 hX hLs ?_ ?_ ?_); (focus rfl); (focus rfl); simp only [Act.put, List.setIfInBounds_toArray, List.set_cons_zero, List.set_cons_succ])
            | ((with_reducible refine wpl_loadS gw _ M Tryd.underlying34 rfl i34 hW hMs ?_ ?_ ?_); (focus rfl); (focus rfl); simp only [Act.put, List.setIfInBounds_toArray, List.set_cons_zero, List.set_cons_succ])
            | ((with_reducible refine wpl_eqS g34 (HEQ.out _) ?_ ?_ ?_ ?_); (focus rfl); (focus rfl); (focus rfl); simp only [Act.put, List.setIfInBounds_toArray, List.set_cons_zero, List.set_cons_succ])
            | (go_at_call 26; refine (HK.out _).mono ?_; rintro e w3 ⟨rfl, rfl⟩; simp only [])
            | (go_at_call 27; refine (HV1.out _).mono ?_; rintro e w3 ⟨rfl, rfl⟩; simp only [])
            | (go_at_call 27; refine (HO.out _).mono ?_; rintro e w3 ⟨rfl, rfl⟩; simp only [])
            | go_values | go_skip | go_guarded | go_step | go_upon | go_back)
          go_ret
          exact ⟨rfl, hb⟩
        · obtain rfl : v = true := by rw [HVV.out]; rfl
          repeat (first
            | ((with_reducible refine wpl_loadS gx _ L Tryd.underlying34 rfl i34 hX hLs ?_ ?_ ?_); (focus rfl); (focus rfl); simp only [Act.put, List.setIfInBounds_toArray, List.set_cons_zero, List.set_cons_succ])
            | ((with_reducible refine wpl_loadS gw _ M Tryd.underlying34 rfl i34 hW hMs ?_ ?_ ?_); (focus rfl); (focus rfl); simp only [Act.put, List.setIfInBounds_toArray, List.set_cons_zero, List.set_cons_succ])
            | ((with_reducible refine wpl_eqS g34 (HEQ.out _) ?_ ?_ ?_ ?_); (focus rfl); (focus rfl); (focus rfl); simp only [Act.put, List.setIfInBounds_toArray, List.set_cons_zero, List.set_cons_succ])
            | (go_at_call 26; refine (HK.out _).mono ?_; rintro e w3 ⟨rfl, rfl⟩; simp only [])
            | (go_at_call 27; refine (HV1.out _).mono ?_; rintro e w3 ⟨rfl, rfl⟩; simp only [])
            | (go_at_call 27; refine (HO.out _).mono ?_; rintro e w3 ⟨rfl, rfl⟩; simp only [])
            | go_values | go_skip | go_guarded | go_step | go_upon | go_back)
          go_ret
          exact ⟨rfl, hb⟩
set_option maxRecDepth 20000 in
set_option maxHeartbeats 8000000 in
theorem may_k3 (w : World) (key val old tow : ByteArray) (amt : UInt64) :
    Calls Tryd.prog 21 #[.agg (OpV.c ⟨3, key, val, old, tow, amt⟩).toArray] w fun e w' => e = .returned (.bool (decide (OpV.may ⟨3, key, val, old, tow, amt⟩))) ∧ Below w.heap.size w w' := by
  obtain ⟨v, hv⟩ : ∃ v, decide (OpV.may ⟨3, key, val, old, tow, amt⟩) = v := ⟨_, rfl⟩
  rw [hv]
  have hvv : v = true ↔ (OpV.may ⟨3, key, val, old, tow, amt⟩) := by rw [← hv]; exact decide_eq_true_iff
  clear hv
  rw [may_get 3 key val old tow amt (.inr rfl)] at hvv
  have hLs : (OpV.c ⟨3, key, val, old, tow, amt⟩).toArray.size = 6 := rfl
  have hX := Blk.new w 34 (OpV.c ⟨3, key, val, old, tow, amt⟩).toArray
  have hb := below_alloc w (.cells (OpV.c ⟨3, key, val, old, tow, amt⟩).toArray 34)
  have hcs := fun (z : World) (g : Nat) (h : Blk z g 34 (OpV.c ⟨3, key, val, old, tow, amt⟩).toArray) => op_cells h
  simp only [show ((UInt8.toNat 3 : Nat) : Int) = 3 from rfl] at hcs
  have heq := fun x => eq_op 9998 ⟨3, key, val, old, tow, amt⟩ ⟨3, key, e0, e0, e0, 0⟩ x
  obtain ⟨L, hL⟩ : ∃ L, (OpV.c ⟨3, key, val, old, tow, amt⟩).toArray = L := ⟨_, rfl⟩
  rw [hL] at hLs hX hb ⊢
  simp only [hL] at hcs heq
  clear hL
  have hvq := and_dec _ _ _ _ hvv
  clear hvv
  have hvv := hvq
  clear hvq
  obtain ⟨eb, heb⟩ : ∃ b, decide (OpV.mk 3 key val old tow amt = OpV.mk 3 key e0 e0 e0 0) = b := ⟨_, rfl⟩
  rw [heb] at hvv
  simp only [heb] at heq
  have HEQ := Lib.hid heq
  obtain ⟨kb, hkb⟩ : ∃ b, decide (1 ≤ key.size ∧ key.size ≤ 32) = b := ⟨_, rfl⟩
  have HK := Lib.hid (fun w => call_b hkb (keyed_any w key))
  obtain ⟨vb, hvb⟩ : ∃ b, decide (val.size ≤ 128) = b := ⟨_, rfl⟩
  have HV1 := Lib.hid (fun w => call_b hvb (valued_any w val))
  obtain ⟨ob, hob⟩ : ∃ b, decide (old.size ≤ 128) = b := ⟨_, rfl⟩
  have HO := Lib.hid (fun w => call_b hob (valued_any w old))
  rw [hkb, hvb, hob] at hvv
  have HVV := Lib.hid hvv
  clear hvv heq heb hkb hvb hob
  go_enter Tryd.func21, Tryd.ntmps21
  go_upto_region 1 with (fail)
  obtain ⟨w1, hw1⟩ : ∃ x, w.alloc (.cells L 34) = x := ⟨_, rfl⟩
  rw [hw1] at hX hb ⊢
  obtain ⟨gx, hgx⟩ : ∃ x, w.heap.size = x := ⟨_, rfl⟩
  rw [hgx] at hX ⊢
  have HGX := Lib.hid hgx
  clear hw1 hgx
  obtain ⟨c0, c1, c2, c3, c4, c5⟩ := hcs _ _ hX
  have HCS := Lib.hid (fun z h => hcs z gx h)
  clear hcs
  have hM1 : (OpV.mk 3 key e0 e0 e0 0).c.toArray.all (·.oneCell') = true := by simp [OpV.c, Value.oneCell']
  repeat (first
    | ((with_reducible refine wpl_store_fresh (OpV.mk 3 key e0 e0 e0 0).c.toArray i34 ?_ rfl hM1 ?_ ?_ ?_); (focus kernel_rfl); (focus rfl); (focus rfl); intro w2 hW hl2 hb2; simp only [Act.put]; refine Hid.out ?_)
    | go_values | go_skip | go_guarded | go_step | go_upon | go_back)
  refine Lib.hid ?_
  have hne : gx ≠ w1.heap.size := Nat.ne_of_lt hX.lt
  have hge : w.heap.size ≤ w1.heap.size := hb.size
  have hb := below_next' hb hb2
  have hX := hX.below hb2 hX.lt
  obtain ⟨gw, hgw⟩ : ∃ x, w1.heap.size = x := ⟨_, rfl⟩
  rw [hgw] at hW hne hge ⊢
  clear hgw hb2 hl2 hM1
  obtain ⟨c0, c1, c2, c3, c4, c5⟩ := HCS.out _ hX
  obtain ⟨M, hM⟩ : ∃ M, (OpV.mk 3 key e0 e0 e0 0).c.toArray = M := ⟨_, rfl⟩
  have hMs : M.size = 6 := by rw [← hM]; rfl
  rw [hM] at hW
  have HEQ := Lib.hid (fun x => by have := HEQ.out x; rw [hM] at this; exact this)
  clear hM
  cases eb
  · obtain rfl : v = false := by rw [HVV.out]; rfl
    repeat (first
      | ((with_reducible refine wpl_loadS gx _ L Tryd.underlying34 rfl i34 hX hLs ?_ ?_ ?_); (focus rfl); (focus rfl); simp only [Act.put, List.setIfInBounds_toArray, List.set_cons_zero, List.set_cons_succ])
      | ((with_reducible refine wpl_loadS gw _ M Tryd.underlying34 rfl i34 hW hMs ?_ ?_ ?_); (focus rfl); (focus rfl); simp only [Act.put, List.setIfInBounds_toArray, List.set_cons_zero, List.set_cons_succ])
      | ((with_reducible refine wpl_eqS g34 (HEQ.out _) ?_ ?_ ?_ ?_); (focus rfl); (focus rfl); (focus rfl); simp only [Act.put, List.setIfInBounds_toArray, List.set_cons_zero, List.set_cons_succ])
      | go_values | go_skip | go_guarded | go_step | go_upon | go_back)
    go_ret
    exact ⟨rfl, hb⟩
  · cases kb
    · obtain rfl : v = false := by rw [HVV.out]; rfl
      repeat (first
        | ((with_reducible refine wpl_loadS gx _ L Tryd.underlying34 rfl i34 hX hLs ?_ ?_ ?_); (focus rfl); (focus rfl); simp only [Act.put, List.setIfInBounds_toArray, List.set_cons_zero, List.set_cons_succ])
        | ((with_reducible refine wpl_loadS gw _ M Tryd.underlying34 rfl i34 hW hMs ?_ ?_ ?_); (focus rfl); (focus rfl); simp only [Act.put, List.setIfInBounds_toArray, List.set_cons_zero, List.set_cons_succ])
        | ((with_reducible refine wpl_eqS g34 (HEQ.out _) ?_ ?_ ?_ ?_); (focus rfl); (focus rfl); (focus rfl); simp only [Act.put, List.setIfInBounds_toArray, List.set_cons_zero, List.set_cons_succ])
        | (go_at_call 26; refine (HK.out _).mono ?_; rintro e w3 ⟨rfl, rfl⟩; simp only [])
        | go_values | go_skip | go_guarded | go_step | go_upon | go_back)
      go_ret
      exact ⟨rfl, hb⟩
    · cases vb
      · obtain rfl : v = false := by rw [HVV.out]; rfl
        repeat (first
          | ((with_reducible refine wpl_loadS gx _ L Tryd.underlying34 rfl i34 hX hLs ?_ ?_ ?_); (focus rfl); (focus rfl); simp only [Act.put, List.setIfInBounds_toArray, List.set_cons_zero, List.set_cons_succ])
          | ((with_reducible refine wpl_loadS gw _ M Tryd.underlying34 rfl i34 hW hMs ?_ ?_ ?_); (focus rfl); (focus rfl); simp only [Act.put, List.setIfInBounds_toArray, List.set_cons_zero, List.set_cons_succ])
          | ((with_reducible refine wpl_eqS g34 (HEQ.out _) ?_ ?_ ?_ ?_); (focus rfl); (focus rfl); (focus rfl); simp only [Act.put, List.setIfInBounds_toArray, List.set_cons_zero, List.set_cons_succ])
          | (go_at_call 26; refine (HK.out _).mono ?_; rintro e w3 ⟨rfl, rfl⟩; simp only [])
          | (go_at_call 27; refine (HV1.out _).mono ?_; rintro e w3 ⟨rfl, rfl⟩; simp only [])
          | go_values | go_skip | go_guarded | go_step | go_upon | go_back)
        go_ret
        exact ⟨rfl, hb⟩
      · cases ob
        · obtain rfl : v = false := by rw [HVV.out]; rfl
          repeat (first
            | ((with_reducible refine wpl_loadS gx _ L Tryd.underlying34 rfl i34 hX hLs ?_ ?_ ?_); (focus rfl); (focus rfl); simp only [Act.put, List.setIfInBounds_toArray, List.set_cons_zero, List.set_cons_succ])
            | ((with_reducible refine wpl_loadS gw _ M Tryd.underlying34 rfl i34 hW hMs ?_ ?_ ?_); (focus rfl); (focus rfl); simp only [Act.put, List.setIfInBounds_toArray, List.set_cons_zero, List.set_cons_succ])
            | ((with_reducible refine wpl_eqS g34 (HEQ.out _) ?_ ?_ ?_ ?_); (focus rfl); (focus rfl); (focus rfl); simp only [Act.put, List.setIfInBounds_toArray, List.set_cons_zero, List.set_cons_succ])
            | (go_at_call 26; refine (HK.out _).mono ?_; rintro e w3 ⟨rfl, rfl⟩; simp only [])
            | (go_at_call 27; refine (HV1.out _).mono ?_; rintro e w3 ⟨rfl, rfl⟩; simp only [])
            | (go_at_call 27; refine (HO.out _).mono ?_; rintro e w3 ⟨rfl, rfl⟩; simp only [])
            | go_values | go_skip | go_guarded | go_step | go_upon | go_back)
          go_ret
          exact ⟨rfl, hb⟩
        · obtain rfl : v = true := by rw [HVV.out]; rfl
          repeat (first
            | ((with_reducible refine wpl_loadS gx _ L Tryd.underlying34 rfl i34 hX hLs ?_ ?_ ?_); (focus rfl); (focus rfl); simp only [Act.put, List.setIfInBounds_toArray, List.set_cons_zero, List.set_cons_succ])
            | ((with_reducible refine wpl_loadS gw _ M Tryd.underlying34 rfl i34 hW hMs ?_ ?_ ?_); (focus rfl); (focus rfl); simp only [Act.put, List.setIfInBounds_toArray, List.set_cons_zero, List.set_cons_succ])
            | ((with_reducible refine wpl_eqS g34 (HEQ.out _) ?_ ?_ ?_ ?_); (focus rfl); (focus rfl); (focus rfl); simp only [Act.put, List.setIfInBounds_toArray, List.set_cons_zero, List.set_cons_succ])
            | (go_at_call 26; refine (HK.out _).mono ?_; rintro e w3 ⟨rfl, rfl⟩; simp only [])
            | (go_at_call 27; refine (HV1.out _).mono ?_; rintro e w3 ⟨rfl, rfl⟩; simp only [])
            | (go_at_call 27; refine (HO.out _).mono ?_; rintro e w3 ⟨rfl, rfl⟩; simp only [])
            | go_values | go_skip | go_guarded | go_step | go_upon | go_back)
          go_ret
          exact ⟨rfl, hb⟩
set_option maxRecDepth 20000 in
set_option maxHeartbeats 8000000 in
theorem may_k4 (w : World) (key val old tow : ByteArray) (amt : UInt64) :
    Calls Tryd.prog 21 #[.agg (OpV.c ⟨4, key, val, old, tow, amt⟩).toArray] w fun e w' => e = .returned (.bool (decide (OpV.may ⟨4, key, val, old, tow, amt⟩))) ∧ Below w.heap.size w w' := by
  obtain ⟨v, hv⟩ : ∃ v, decide (OpV.may ⟨4, key, val, old, tow, amt⟩) = v := ⟨_, rfl⟩
  rw [hv]
  have hvv : v = true ↔ (OpV.may ⟨4, key, val, old, tow, amt⟩) := by rw [← hv]; exact decide_eq_true_iff
  clear hv
  rw [may_cas key val old tow amt] at hvv
  have hLs : (OpV.c ⟨4, key, val, old, tow, amt⟩).toArray.size = 6 := rfl
  have hX := Blk.new w 34 (OpV.c ⟨4, key, val, old, tow, amt⟩).toArray
  have hb := below_alloc w (.cells (OpV.c ⟨4, key, val, old, tow, amt⟩).toArray 34)
  have hcs := fun (z : World) (g : Nat) (h : Blk z g 34 (OpV.c ⟨4, key, val, old, tow, amt⟩).toArray) => op_cells h
  simp only [show ((UInt8.toNat 4 : Nat) : Int) = 4 from rfl] at hcs
  have heq := fun x => eq_op 9998 ⟨4, key, val, old, tow, amt⟩ ⟨4, key, val, old, e0, 0⟩ x
  obtain ⟨L, hL⟩ : ∃ L, (OpV.c ⟨4, key, val, old, tow, amt⟩).toArray = L := ⟨_, rfl⟩
  rw [hL] at hLs hX hb ⊢
  simp only [hL] at hcs heq
  clear hL
  have hvq := and_dec _ _ _ _ hvv
  clear hvv
  have hvv := hvq
  clear hvq
  obtain ⟨eb, heb⟩ : ∃ b, decide (OpV.mk 4 key val old tow amt = OpV.mk 4 key val old e0 0) = b := ⟨_, rfl⟩
  rw [heb] at hvv
  simp only [heb] at heq
  have HEQ := Lib.hid heq
  obtain ⟨kb, hkb⟩ : ∃ b, decide (1 ≤ key.size ∧ key.size ≤ 32) = b := ⟨_, rfl⟩
  have HK := Lib.hid (fun w => call_b hkb (keyed_any w key))
  obtain ⟨vb, hvb⟩ : ∃ b, decide (val.size ≤ 128) = b := ⟨_, rfl⟩
  have HV1 := Lib.hid (fun w => call_b hvb (valued_any w val))
  obtain ⟨ob, hob⟩ : ∃ b, decide (old.size ≤ 128) = b := ⟨_, rfl⟩
  have HO := Lib.hid (fun w => call_b hob (valued_any w old))
  rw [hkb, hvb, hob] at hvv
  have HVV := Lib.hid hvv
  clear hvv heq heb hkb hvb hob
  go_enter Tryd.func21, Tryd.ntmps21
  go_upto_region 1 with (fail)
  obtain ⟨w1, hw1⟩ : ∃ x, w.alloc (.cells L 34) = x := ⟨_, rfl⟩
  rw [hw1] at hX hb ⊢
  obtain ⟨gx, hgx⟩ : ∃ x, w.heap.size = x := ⟨_, rfl⟩
  rw [hgx] at hX ⊢
  have HGX := Lib.hid hgx
  clear hw1 hgx
  obtain ⟨c0, c1, c2, c3, c4, c5⟩ := hcs _ _ hX
  have HCS := Lib.hid (fun z h => hcs z gx h)
  clear hcs
  have hM1 : (OpV.mk 4 key e0 e0 e0 0).c.toArray.all (·.oneCell') = true := by simp [OpV.c, Value.oneCell']
  repeat (first
    | ((with_reducible refine wpl_store_fresh (OpV.mk 4 key e0 e0 e0 0).c.toArray i34 ?_ rfl hM1 ?_ ?_ ?_); (focus kernel_rfl); (focus rfl); (focus rfl); intro w2 hW hl2 hb2; simp only [Act.put]; refine Hid.out ?_)
    | go_values | go_skip | go_guarded | go_step | go_upon | go_back)
  refine Lib.hid ?_
  have hne : gx ≠ w1.heap.size := Nat.ne_of_lt hX.lt
  have hge : w.heap.size ≤ w1.heap.size := hb.size
  have hb := below_next' hb hb2
  have hX := hX.below hb2 hX.lt
  obtain ⟨gw, hgw⟩ : ∃ x, w1.heap.size = x := ⟨_, rfl⟩
  rw [hgw] at hW hne hge ⊢
  clear hgw hb2 hl2 hM1
  obtain ⟨c0, c1, c2, c3, c4, c5⟩ := HCS.out _ hX
  have u3 := hW.cell 3
  simp only [OpV.c, List.getElem?_toArray, List.getElem?_cons_zero, List.getElem?_cons_succ] at u3
  have f3 := hW.frozen 3
  have hW := hW.set_ 3 (.string old)
  have u2 := hW.cell 2
  simp only [OpV.c, List.setIfInBounds_toArray, List.set_cons_zero, List.set_cons_succ, List.getElem?_toArray, List.getElem?_cons_zero, List.getElem?_cons_succ] at u2
  have f2 := hW.frozen 2
  have hW := hW.set_ 2 (.string val)
  have hX0 := hX.far (p := ⟨gw, 3, none⟩) hne (.string old)
  have d2 := (HCS.out _ hX0).2.2.1
  have hX := hX0.far (p := ⟨gw, 2, none⟩) hne (.string val)
  clear hX0
  have hb0 := hb.grown (grownBy_set w2 gw 3 (.string old)) hb.size (fun q hq => by cases hq; exact hge)
  have hb := hb0.grown (grownBy_set _ gw 2 (.string val)) hb0.size (fun q hq => by cases hq; exact hge)
  clear hb0
  go_upto_region 14 with (fail)
  obtain ⟨w4, hw4⟩ : ∃ x, (w2.setCell ⟨gw, 3, none⟩ (.string old)).setCell ⟨gw, 2, none⟩ (.string val) = x := ⟨_, rfl⟩
  rw [hw4] at hX hW hb ⊢
  clear hw4 u2 f2 u3 f3 d2 c0 c1 c2 c3 c4 c5
  have hW : Blk w4 gw _ (OpV.mk 4 key val old e0 0).c.toArray := hW
  obtain ⟨c0, c1, c2, c3, c4, c5⟩ := HCS.out _ hX
  obtain ⟨M, hM⟩ : ∃ M, (OpV.mk 4 key val old e0 0).c.toArray = M := ⟨_, rfl⟩
  have hMs : M.size = 6 := by rw [← hM]; rfl
  rw [hM] at hW
  have HEQ := Lib.hid (fun x => by have := HEQ.out x; rw [hM] at this; exact this)
  clear hM
  cases eb
  · obtain rfl : v = false := by rw [HVV.out]; rfl
    repeat (first
      | ((with_reducible refine wpl_loadS gx _ L Tryd.underlying34 rfl i34 hX hLs ?_ ?_ ?_); (focus rfl); (focus rfl); simp only [Act.put, List.setIfInBounds_toArray, List.set_cons_zero, List.set_cons_succ])
      | ((with_reducible refine wpl_loadS gw _ M Tryd.underlying34 rfl i34 hW hMs ?_ ?_ ?_); (focus rfl); (focus rfl); simp only [Act.put, List.setIfInBounds_toArray, List.set_cons_zero, List.set_cons_succ])
      | ((with_reducible refine wpl_eqS g34 (HEQ.out _) ?_ ?_ ?_ ?_); (focus rfl); (focus rfl); (focus rfl); simp only [Act.put, List.setIfInBounds_toArray, List.set_cons_zero, List.set_cons_succ])
      | go_values | go_skip | go_guarded | go_step | go_upon | go_back)
    go_ret
    exact ⟨rfl, hb⟩
  · cases kb
    · obtain rfl : v = false := by rw [HVV.out]; rfl
      repeat (first
        | ((with_reducible refine wpl_loadS gx _ L Tryd.underlying34 rfl i34 hX hLs ?_ ?_ ?_); (focus rfl); (focus rfl); simp only [Act.put, List.setIfInBounds_toArray, List.set_cons_zero, List.set_cons_succ])
        | ((with_reducible refine wpl_loadS gw _ M Tryd.underlying34 rfl i34 hW hMs ?_ ?_ ?_); (focus rfl); (focus rfl); simp only [Act.put, List.setIfInBounds_toArray, List.set_cons_zero, List.set_cons_succ])
        | ((with_reducible refine wpl_eqS g34 (HEQ.out _) ?_ ?_ ?_ ?_); (focus rfl); (focus rfl); (focus rfl); simp only [Act.put, List.setIfInBounds_toArray, List.set_cons_zero, List.set_cons_succ])
        | (go_at_call 26; refine (HK.out _).mono ?_; rintro e w3 ⟨rfl, rfl⟩; simp only [])
        | go_values | go_skip | go_guarded | go_step | go_upon | go_back)
      go_ret
      exact ⟨rfl, hb⟩
    · cases vb
      · obtain rfl : v = false := by rw [HVV.out]; rfl
        repeat (first
          | ((with_reducible refine wpl_loadS gx _ L Tryd.underlying34 rfl i34 hX hLs ?_ ?_ ?_); (focus rfl); (focus rfl); simp only [Act.put, List.setIfInBounds_toArray, List.set_cons_zero, List.set_cons_succ])
          | ((with_reducible refine wpl_loadS gw _ M Tryd.underlying34 rfl i34 hW hMs ?_ ?_ ?_); (focus rfl); (focus rfl); simp only [Act.put, List.setIfInBounds_toArray, List.set_cons_zero, List.set_cons_succ])
          | ((with_reducible refine wpl_eqS g34 (HEQ.out _) ?_ ?_ ?_ ?_); (focus rfl); (focus rfl); (focus rfl); simp only [Act.put, List.setIfInBounds_toArray, List.set_cons_zero, List.set_cons_succ])
          | (go_at_call 26; refine (HK.out _).mono ?_; rintro e w3 ⟨rfl, rfl⟩; simp only [])
          | (go_at_call 27; refine (HV1.out _).mono ?_; rintro e w3 ⟨rfl, rfl⟩; simp only [])
          | go_values | go_skip | go_guarded | go_step | go_upon | go_back)
        go_ret
        exact ⟨rfl, hb⟩
      · cases ob
        · obtain rfl : v = false := by rw [HVV.out]; rfl
          repeat (first
            | ((with_reducible refine wpl_loadS gx _ L Tryd.underlying34 rfl i34 hX hLs ?_ ?_ ?_); (focus rfl); (focus rfl); simp only [Act.put, List.setIfInBounds_toArray, List.set_cons_zero, List.set_cons_succ])
            | ((with_reducible refine wpl_loadS gw _ M Tryd.underlying34 rfl i34 hW hMs ?_ ?_ ?_); (focus rfl); (focus rfl); simp only [Act.put, List.setIfInBounds_toArray, List.set_cons_zero, List.set_cons_succ])
            | ((with_reducible refine wpl_eqS g34 (HEQ.out _) ?_ ?_ ?_ ?_); (focus rfl); (focus rfl); (focus rfl); simp only [Act.put, List.setIfInBounds_toArray, List.set_cons_zero, List.set_cons_succ])
            | (go_at_call 26; refine (HK.out _).mono ?_; rintro e w3 ⟨rfl, rfl⟩; simp only [])
            | (go_at_call 27; refine (HV1.out _).mono ?_; rintro e w3 ⟨rfl, rfl⟩; simp only [])
            | (go_at_call 27; refine (HO.out _).mono ?_; rintro e w3 ⟨rfl, rfl⟩; simp only [])
            | go_values | go_skip | go_guarded | go_step | go_upon | go_back)
          go_ret
          exact ⟨rfl, hb⟩
        · obtain rfl : v = true := by rw [HVV.out]; rfl
          repeat (first
            | ((with_reducible refine wpl_loadS gx _ L Tryd.underlying34 rfl i34 hX hLs ?_ ?_ ?_); (focus rfl); (focus rfl); simp only [Act.put, List.setIfInBounds_toArray, List.set_cons_zero, List.set_cons_succ])
            | ((with_reducible refine wpl_loadS gw _ M Tryd.underlying34 rfl i34 hW hMs ?_ ?_ ?_); (focus rfl); (focus rfl); simp only [Act.put, List.setIfInBounds_toArray, List.set_cons_zero, List.set_cons_succ])
            | ((with_reducible refine wpl_eqS g34 (HEQ.out _) ?_ ?_ ?_ ?_); (focus rfl); (focus rfl); (focus rfl); simp only [Act.put, List.setIfInBounds_toArray, List.set_cons_zero, List.set_cons_succ])
            | (go_at_call 26; refine (HK.out _).mono ?_; rintro e w3 ⟨rfl, rfl⟩; simp only [])
            | (go_at_call 27; refine (HV1.out _).mono ?_; rintro e w3 ⟨rfl, rfl⟩; simp only [])
            | (go_at_call 27; refine (HO.out _).mono ?_; rintro e w3 ⟨rfl, rfl⟩; simp only [])
            | go_values | go_skip | go_guarded | go_step | go_upon | go_back)
          go_ret
          exact ⟨rfl, hb⟩
set_option maxRecDepth 20000 in
set_option maxHeartbeats 8000000 in
theorem may_k5 (w : World) (key val old tow : ByteArray) (amt : UInt64) :
    Calls Tryd.prog 21 #[.agg (OpV.c ⟨5, key, val, old, tow, amt⟩).toArray] w fun e w' => e = .returned (.bool (decide (OpV.may ⟨5, key, val, old, tow, amt⟩))) ∧ Below w.heap.size w w' := by
  obtain ⟨v, hv⟩ : ∃ v, decide (OpV.may ⟨5, key, val, old, tow, amt⟩) = v := ⟨_, rfl⟩
  rw [hv]
  have hvv : v = true ↔ (OpV.may ⟨5, key, val, old, tow, amt⟩) := by rw [← hv]; exact decide_eq_true_iff
  clear hv
  rw [may_move key val old tow amt] at hvv
  have hLs : (OpV.c ⟨5, key, val, old, tow, amt⟩).toArray.size = 6 := rfl
  have hX := Blk.new w 34 (OpV.c ⟨5, key, val, old, tow, amt⟩).toArray
  have hb := below_alloc w (.cells (OpV.c ⟨5, key, val, old, tow, amt⟩).toArray 34)
  have hcs := fun (z : World) (g : Nat) (h : Blk z g 34 (OpV.c ⟨5, key, val, old, tow, amt⟩).toArray) => op_cells h
  simp only [show ((UInt8.toNat 5 : Nat) : Int) = 5 from rfl] at hcs
  have heq := fun x => eq_op 9998 ⟨5, key, val, old, tow, amt⟩ ⟨5, key, e0, e0, tow, amt⟩ x
  obtain ⟨L, hL⟩ : ∃ L, (OpV.c ⟨5, key, val, old, tow, amt⟩).toArray = L := ⟨_, rfl⟩
  rw [hL] at hLs hX hb ⊢
  simp only [hL] at hcs heq
  clear hL
  by_cases ht : ((1 ≤ tow.size ∧ tow.size ≤ 32) ∧ ¬ tow = key ∧ 1 ≤ amt.toNat ∧ amt.toNat ≤ 1125899906842624)
  · have hvq := and_dec5 _ _ _ _ _ hvv ht
    clear hvv
    have hvv := hvq
    clear hvq
    obtain ⟨eb, heb⟩ : ∃ b, decide (OpV.mk 5 key val old tow amt = OpV.mk 5 key e0 e0 tow amt) = b := ⟨_, rfl⟩
    rw [heb] at hvv
    simp only [heb] at heq
    have HEQ := Lib.hid heq
    obtain ⟨kb, hkb⟩ : ∃ b, decide (1 ≤ key.size ∧ key.size ≤ 32) = b := ⟨_, rfl⟩
    have HK := Lib.hid (fun w => call_b hkb (keyed_any w key))
    obtain ⟨vb, hvb⟩ : ∃ b, decide (val.size ≤ 128) = b := ⟨_, rfl⟩
    have HV1 := Lib.hid (fun w => call_b hvb (valued_any w val))
    obtain ⟨ob, hob⟩ : ∃ b, decide (old.size ≤ 128) = b := ⟨_, rfl⟩
    have HO := Lib.hid (fun w => call_b hob (valued_any w old))
    rw [hkb, hvb, hob] at hvv
    have HVV := Lib.hid hvv
    clear hvv heq heb hkb hvb hob
    obtain ⟨tb, htb⟩ : ∃ b, decide (1 ≤ tow.size ∧ tow.size ≤ 32) = b := ⟨_, rfl⟩
    have HT := Lib.hid (fun w => call_b htb (keyed_any w tow))
    have HTB := Lib.hid htb
    clear htb
    go_enter Tryd.func21, Tryd.ntmps21
    go_upto_region 1 with (fail)
    obtain ⟨w1, hw1⟩ : ∃ x, w.alloc (.cells L 34) = x := ⟨_, rfl⟩
    rw [hw1] at hX hb ⊢
    obtain ⟨gx, hgx⟩ : ∃ x, w.heap.size = x := ⟨_, rfl⟩
    rw [hgx] at hX ⊢
    have HGX := Lib.hid hgx
    clear hw1 hgx
    obtain ⟨c0, c1, c2, c3, c4, c5⟩ := hcs _ _ hX
    have HCS := Lib.hid (fun z h => hcs z gx h)
    clear hcs
    have hM1 : (OpV.mk 5 key e0 e0 e0 0).c.toArray.all (·.oneCell') = true := by simp [OpV.c, Value.oneCell']
    repeat (first
      | ((with_reducible refine wpl_store_fresh (OpV.mk 5 key e0 e0 e0 0).c.toArray i34 ?_ rfl hM1 ?_ ?_ ?_); (focus kernel_rfl); (focus rfl); (focus rfl); intro w2 hW hl2 hb2; simp only [Act.put]; refine Hid.out ?_)
      | go_values | go_skip | go_guarded | go_step | go_upon | go_back)
    refine Lib.hid ?_
    have hne : gx ≠ w1.heap.size := Nat.ne_of_lt hX.lt
    have hge : w.heap.size ≤ w1.heap.size := hb.size
    have hb := below_next' hb hb2
    have hX := hX.below hb2 hX.lt
    obtain ⟨gw, hgw⟩ : ∃ x, w1.heap.size = x := ⟨_, rfl⟩
    rw [hgw] at hW hne hge ⊢
    clear hgw hb2 hl2 hM1
    obtain ⟨c0, c1, c2, c3, c4, c5⟩ := HCS.out _ hX
    go_upto_region 10 with (fail)
    have q4 : ∀ z, Blk z gx 34 L → z.cell? ⟨gx, 4, none⟩ = some (.string tow) := fun z h => (HCS.out z h).2.2.2.2.1
    have q5 : ∀ z, Blk z gx 34 L → z.cell? ⟨gx, 5, none⟩ = some (.int .u64 (amt.toNat : Int)) := fun z h => (HCS.out z h).2.2.2.2.2
    refine wp_region_plan [(0, true), (1, true), (2, true), (3, true), (4, true), (5, false), (6, true), (7, false)] (fun z => Blk z gx 34 L) (by kernel_rfl) (by kernel_rfl) (by kernel_rfl) (by kernel_rfl) (fun _ _ d _ _ h => by cases d <;> exact h) hX ?_
    simp only [planOps, List.getElem?_toArray, List.getElem?_cons_zero, List.getElem?_cons_succ]
    iterate 5 (refine wpS_q ?_ (by rfl) ?_ ?_; rotate_left; (focus (intro z hz; (try dsimp only at hz); go_simp; rfl)); simp only [Act.put, List.setIfInBounds_toArray, List.set_cons_zero, List.set_cons_succ])
    have hXd : Blk w2.drew gx 34 L := hX
    have hWd : Blk w2.drew gw 34 (OpV.mk 5 key e0 e0 e0 0).c.toArray := hW
    have hbd : Below w.heap.size w w2.drew := hb.drew
    obtain ⟨wd, hwd⟩ : ∃ x, w2.drew = x := ⟨_, rfl⟩
    rw [hwd] at hXd hWd hbd ⊢
    clear hwd
    have u4 := hWd.cell 4
    simp only [OpV.c, List.getElem?_toArray, List.getElem?_cons_zero, List.getElem?_cons_succ] at u4
    have f4 := hWd.frozen 4
    have hWd := hWd.set_ 4 (.string tow)
    have hXd := hXd.far (p := ⟨gw, 4, none⟩) hne (.string tow)
    have hbd := hbd.grown (grownBy_set _ gw 4 (.string tow)) hbd.size (fun q hq => by cases hq; exact hge)
    refine wpS_l (by rfl) (fun K hK => ?_)
    go_wp2_with fail
    obtain ⟨w3, hw3⟩ : ∃ x, wd.setCell ⟨gw, 4, none⟩ (.string tow) = x := ⟨_, rfl⟩
    rw [hw3] at hXd hWd hbd ⊢
    refine hK _ _ _ hXd (fun _ h => h) ?_
    clear hK hw3 u4 f4
    iterate 1 (refine wpS_q ?_ (by rfl) ?_ ?_; rotate_left; (focus (intro z hz; (try dsimp only at hz); go_simp; rfl)); simp only [Act.put, List.setIfInBounds_toArray, List.set_cons_zero, List.set_cons_succ])
    have u5 := hWd.cell 5
    simp only [OpV.c, List.setIfInBounds_toArray, List.set_cons_zero, List.set_cons_succ, List.getElem?_toArray, List.getElem?_cons_zero, List.getElem?_cons_succ] at u5
    have f5 := hWd.frozen 5
    have hWd := hWd.set_ 5 (.int .u64 (amt.toNat : Int))
    have hXd := hXd.far (p := ⟨gw, 5, none⟩) hne (.int .u64 (amt.toNat : Int))
    have hbd := hbd.grown (grownBy_set _ gw 5 (.int .u64 (amt.toNat : Int))) hbd.size (fun q hq => by cases hq; exact hge)
    refine wpS_l (by rfl) (fun K hK => ?_)
    go_wp2_with fail
    obtain ⟨w4, hw4⟩ : ∃ x, w3.setCell ⟨gw, 5, none⟩ (.int .u64 (amt.toNat : Int)) = x := ⟨_, rfl⟩
    rw [hw4] at hXd hWd hbd ⊢
    refine hK _ _ _ hXd (fun _ h => h) ?_
    clear hK hw4 u5 f5
    refine wpS_nil ?_
    clear hX hW hb q4 q5 c0 c1 c2 c3 c4 c5
    have hW : Blk w4 gw _ (OpV.mk 5 key e0 e0 tow amt).c.toArray := hWd
    have hX := hXd
    have hb := hbd
    clear hXd hWd hbd
    obtain ⟨c0, c1, c2, c3, c4, c5⟩ := HCS.out _ hX
    obtain ⟨t1, t2, t3, t4⟩ := ht
    obtain rfl : tb = true := by rw [← HTB.out]; exact decide_eq_true t1
    have z2 : (tow.toList == key.toList) = false := beq_eq_false_iff_ne.2 (bl_ne t2)
    have z3 : ¬ (amt.toNat : Int) < 1 := by omega
    have z4 : ¬ (1125899906842624 : Int) < (amt.toNat : Int) := by omega
    go_upto_region 11 with (fail)
    go_upto_region 14 with (go_at_call 26; refine (HT.out _).mono ?_; rintro e w3 ⟨rfl, rfl⟩)
    obtain ⟨M, hM⟩ : ∃ M, (OpV.mk 5 key e0 e0 tow amt).c.toArray = M := ⟨_, rfl⟩
    have hMs : M.size = 6 := by rw [← hM]; rfl
    rw [hM] at hW
    have HEQ := Lib.hid (fun x => by have := HEQ.out x; rw [hM] at this; exact this)
    clear hM
    cases eb
    · obtain rfl : v = false := by rw [HVV.out]; rfl
      repeat (first
        | ((with_reducible refine wpl_loadS gx _ L Tryd.underlying34 rfl i34 hX hLs ?_ ?_ ?_); (focus rfl); (focus rfl); simp only [Act.put, List.setIfInBounds_toArray, List.set_cons_zero, List.set_cons_succ])
        | ((with_reducible refine wpl_loadS gw _ M Tryd.underlying34 rfl i34 hW hMs ?_ ?_ ?_); (focus rfl); (focus rfl); simp only [Act.put, List.setIfInBounds_toArray, List.set_cons_zero, List.set_cons_succ])
        | ((with_reducible refine wpl_eqS g34 (HEQ.out _) ?_ ?_ ?_ ?_); (focus rfl); (focus rfl); (focus rfl); simp only [Act.put, List.setIfInBounds_toArray, List.set_cons_zero, List.set_cons_succ])
        | go_values | go_skip | go_guarded | go_step | go_upon | go_back)
      go_ret
      exact ⟨rfl, hb⟩
    · cases kb
      · obtain rfl : v = false := by rw [HVV.out]; rfl
        repeat (first
          | ((with_reducible refine wpl_loadS gx _ L Tryd.underlying34 rfl i34 hX hLs ?_ ?_ ?_); (focus rfl); (focus rfl); simp only [Act.put, List.setIfInBounds_toArray, List.set_cons_zero, List.set_cons_succ])
          | ((with_reducible refine wpl_loadS gw _ M Tryd.underlying34 rfl i34 hW hMs ?_ ?_ ?_); (focus rfl); (focus rfl); simp only [Act.put, List.setIfInBounds_toArray, List.set_cons_zero, List.set_cons_succ])
          | ((with_reducible refine wpl_eqS g34 (HEQ.out _) ?_ ?_ ?_ ?_); (focus rfl); (focus rfl); (focus rfl); simp only [Act.put, List.setIfInBounds_toArray, List.set_cons_zero, List.set_cons_succ])
          | (go_at_call 26; refine (HK.out _).mono ?_; rintro e w3 ⟨rfl, rfl⟩; simp only [])
          | go_values | go_skip | go_guarded | go_step | go_upon | go_back)
        go_ret
        exact ⟨rfl, hb⟩
      · cases vb
        · obtain rfl : v = false := by rw [HVV.out]; rfl
          repeat (first
            | ((with_reducible refine wpl_loadS gx _ L Tryd.underlying34 rfl i34 hX hLs ?_ ?_ ?_); (focus rfl); (focus rfl); simp only [Act.put, List.setIfInBounds_toArray, List.set_cons_zero, List.set_cons_succ])
            | ((with_reducible refine wpl_loadS gw _ M Tryd.underlying34 rfl i34 hW hMs ?_ ?_ ?_); (focus rfl); (focus rfl); simp only [Act.put, List.setIfInBounds_toArray, List.set_cons_zero, List.set_cons_succ])
            | ((with_reducible refine wpl_eqS g34 (HEQ.out _) ?_ ?_ ?_ ?_); (focus rfl); (focus rfl); (focus rfl); simp only [Act.put, List.setIfInBounds_toArray, List.set_cons_zero, List.set_cons_succ])
            | (go_at_call 26; refine (HK.out _).mono ?_; rintro e w3 ⟨rfl, rfl⟩; simp only [])
            | (go_at_call 27; refine (HV1.out _).mono ?_; rintro e w3 ⟨rfl, rfl⟩; simp only [])
            | go_values | go_skip | go_guarded | go_step | go_upon | go_back)
          go_ret
          exact ⟨rfl, hb⟩
        · cases ob
          · obtain rfl : v = false := by rw [HVV.out]; rfl
            repeat (first
              | ((with_reducible refine wpl_loadS gx _ L Tryd.underlying34 rfl i34 hX hLs ?_ ?_ ?_); (focus rfl); (focus rfl); simp only [Act.put, List.setIfInBounds_toArray, List.set_cons_zero, List.set_cons_succ])
              | ((with_reducible refine wpl_loadS gw _ M Tryd.underlying34 rfl i34 hW hMs ?_ ?_ ?_); (focus rfl); (focus rfl); simp only [Act.put, List.setIfInBounds_toArray, List.set_cons_zero, List.set_cons_succ])
              | ((with_reducible refine wpl_eqS g34 (HEQ.out _) ?_ ?_ ?_ ?_); (focus rfl); (focus rfl); (focus rfl); simp only [Act.put, List.setIfInBounds_toArray, List.set_cons_zero, List.set_cons_succ])
              | (go_at_call 26; refine (HK.out _).mono ?_; rintro e w3 ⟨rfl, rfl⟩; simp only [])
              | (go_at_call 27; refine (HV1.out _).mono ?_; rintro e w3 ⟨rfl, rfl⟩; simp only [])
              | (go_at_call 27; refine (HO.out _).mono ?_; rintro e w3 ⟨rfl, rfl⟩; simp only [])
              | go_values | go_skip | go_guarded | go_step | go_upon | go_back)
            go_ret
            exact ⟨rfl, hb⟩
          · obtain rfl : v = true := by rw [HVV.out]; rfl
            repeat (first
              | ((with_reducible refine wpl_loadS gx _ L Tryd.underlying34 rfl i34 hX hLs ?_ ?_ ?_); (focus rfl); (focus rfl); simp only [Act.put, List.setIfInBounds_toArray, List.set_cons_zero, List.set_cons_succ])
              | ((with_reducible refine wpl_loadS gw _ M Tryd.underlying34 rfl i34 hW hMs ?_ ?_ ?_); (focus rfl); (focus rfl); simp only [Act.put, List.setIfInBounds_toArray, List.set_cons_zero, List.set_cons_succ])
              | ((with_reducible refine wpl_eqS g34 (HEQ.out _) ?_ ?_ ?_ ?_); (focus rfl); (focus rfl); (focus rfl); simp only [Act.put, List.setIfInBounds_toArray, List.set_cons_zero, List.set_cons_succ])
              | (go_at_call 26; refine (HK.out _).mono ?_; rintro e w3 ⟨rfl, rfl⟩; simp only [])
              | (go_at_call 27; refine (HV1.out _).mono ?_; rintro e w3 ⟨rfl, rfl⟩; simp only [])
              | (go_at_call 27; refine (HO.out _).mono ?_; rintro e w3 ⟨rfl, rfl⟩; simp only [])
              | go_values | go_skip | go_guarded | go_step | go_upon | go_back)
            go_ret
            exact ⟨rfl, hb⟩
  · obtain rfl := and_no hvv ht
    clear hvv heq
    obtain ⟨tb, htb⟩ : ∃ b, decide (1 ≤ tow.size ∧ tow.size ≤ 32) = b := ⟨_, rfl⟩
    have HT := Lib.hid (fun w => call_b htb (keyed_any w tow))
    have HTB := Lib.hid htb
    clear htb
    go_enter Tryd.func21, Tryd.ntmps21
    go_upto_region 1 with (fail)
    obtain ⟨w1, hw1⟩ : ∃ x, w.alloc (.cells L 34) = x := ⟨_, rfl⟩
    rw [hw1] at hX hb ⊢
    obtain ⟨gx, hgx⟩ : ∃ x, w.heap.size = x := ⟨_, rfl⟩
    rw [hgx] at hX ⊢
    have HGX := Lib.hid hgx
    clear hw1 hgx
    obtain ⟨c0, c1, c2, c3, c4, c5⟩ := hcs _ _ hX
    have HCS := Lib.hid (fun z h => hcs z gx h)
    clear hcs
    have hM1 : (OpV.mk 5 key e0 e0 e0 0).c.toArray.all (·.oneCell') = true := by simp [OpV.c, Value.oneCell']
    repeat (first
      | ((with_reducible refine wpl_store_fresh (OpV.mk 5 key e0 e0 e0 0).c.toArray i34 ?_ rfl hM1 ?_ ?_ ?_); (focus kernel_rfl); (focus rfl); (focus rfl); intro w2 hW hl2 hb2; simp only [Act.put]; refine Hid.out ?_)
      | go_values | go_skip | go_guarded | go_step | go_upon | go_back)
    refine Lib.hid ?_
    have hne : gx ≠ w1.heap.size := Nat.ne_of_lt hX.lt
    have hge : w.heap.size ≤ w1.heap.size := hb.size
    have hb := below_next' hb hb2
    have hX := hX.below hb2 hX.lt
    obtain ⟨gw, hgw⟩ : ∃ x, w1.heap.size = x := ⟨_, rfl⟩
    rw [hgw] at hW hne hge ⊢
    clear hgw hb2 hl2 hM1
    obtain ⟨c0, c1, c2, c3, c4, c5⟩ := HCS.out _ hX
    go_upto_region 10 with (fail)
    have q4 : ∀ z, Blk z gx 34 L → z.cell? ⟨gx, 4, none⟩ = some (.string tow) := fun z h => (HCS.out z h).2.2.2.2.1
    have q5 : ∀ z, Blk z gx 34 L → z.cell? ⟨gx, 5, none⟩ = some (.int .u64 (amt.toNat : Int)) := fun z h => (HCS.out z h).2.2.2.2.2
    refine wp_region_plan [(0, true), (1, true), (2, true), (3, true), (4, true), (5, false), (6, true), (7, false)] (fun z => Blk z gx 34 L) (by kernel_rfl) (by kernel_rfl) (by kernel_rfl) (by kernel_rfl) (fun _ _ d _ _ h => by cases d <;> exact h) hX ?_
    simp only [planOps, List.getElem?_toArray, List.getElem?_cons_zero, List.getElem?_cons_succ]
    iterate 5 (refine wpS_q ?_ (by rfl) ?_ ?_; rotate_left; (focus (intro z hz; (try dsimp only at hz); go_simp; rfl)); simp only [Act.put, List.setIfInBounds_toArray, List.set_cons_zero, List.set_cons_succ])
    have hXd : Blk w2.drew gx 34 L := hX
    have hWd : Blk w2.drew gw 34 (OpV.mk 5 key e0 e0 e0 0).c.toArray := hW
    have hbd : Below w.heap.size w w2.drew := hb.drew
    obtain ⟨wd, hwd⟩ : ∃ x, w2.drew = x := ⟨_, rfl⟩
    rw [hwd] at hXd hWd hbd ⊢
    clear hwd
    have u4 := hWd.cell 4
    simp only [OpV.c, List.getElem?_toArray, List.getElem?_cons_zero, List.getElem?_cons_succ] at u4
    have f4 := hWd.frozen 4
    have hWd := hWd.set_ 4 (.string tow)
    have hXd := hXd.far (p := ⟨gw, 4, none⟩) hne (.string tow)
    have hbd := hbd.grown (grownBy_set _ gw 4 (.string tow)) hbd.size (fun q hq => by cases hq; exact hge)
    refine wpS_l (by rfl) (fun K hK => ?_)
    go_wp2_with fail
    obtain ⟨w3, hw3⟩ : ∃ x, wd.setCell ⟨gw, 4, none⟩ (.string tow) = x := ⟨_, rfl⟩
    rw [hw3] at hXd hWd hbd ⊢
    refine hK _ _ _ hXd (fun _ h => h) ?_
    clear hK hw3 u4 f4
    iterate 1 (refine wpS_q ?_ (by rfl) ?_ ?_; rotate_left; (focus (intro z hz; (try dsimp only at hz); go_simp; rfl)); simp only [Act.put, List.setIfInBounds_toArray, List.set_cons_zero, List.set_cons_succ])
    have u5 := hWd.cell 5
    simp only [OpV.c, List.setIfInBounds_toArray, List.set_cons_zero, List.set_cons_succ, List.getElem?_toArray, List.getElem?_cons_zero, List.getElem?_cons_succ] at u5
    have f5 := hWd.frozen 5
    have hWd := hWd.set_ 5 (.int .u64 (amt.toNat : Int))
    have hXd := hXd.far (p := ⟨gw, 5, none⟩) hne (.int .u64 (amt.toNat : Int))
    have hbd := hbd.grown (grownBy_set _ gw 5 (.int .u64 (amt.toNat : Int))) hbd.size (fun q hq => by cases hq; exact hge)
    refine wpS_l (by rfl) (fun K hK => ?_)
    go_wp2_with fail
    obtain ⟨w4, hw4⟩ : ∃ x, w3.setCell ⟨gw, 5, none⟩ (.int .u64 (amt.toNat : Int)) = x := ⟨_, rfl⟩
    rw [hw4] at hXd hWd hbd ⊢
    refine hK _ _ _ hXd (fun _ h => h) ?_
    clear hK hw4 u5 f5
    refine wpS_nil ?_
    clear hX hW hb q4 q5 c0 c1 c2 c3 c4 c5
    have hW : Blk w4 gw _ (OpV.mk 5 key e0 e0 tow amt).c.toArray := hWd
    have hX := hXd
    have hb := hbd
    clear hXd hWd hbd
    obtain ⟨c0, c1, c2, c3, c4, c5⟩ := HCS.out _ hX
    cases tb
    · go_wp2_with (go_at_call 26; refine (HT.out _).mono ?_; rintro e w3 ⟨rfl, rfl⟩)
      go_ret
      exact ⟨rfl, hb⟩
    · have t1 := of_decide_eq_true HTB.out
      by_cases t2 : tow = key
      · subst t2
        go_wp2_with (go_at_call 26; refine (HT.out _).mono ?_; rintro e w3 ⟨rfl, rfl⟩)
        go_ret
        exact ⟨rfl, hb⟩
      · have z2 : (tow.toList == key.toList) = false := beq_eq_false_iff_ne.2 (bl_ne t2)
        by_cases t3 : 1 ≤ amt.toNat
        · have z3 : ¬ (amt.toNat : Int) < 1 := by omega
          by_cases t4 : amt.toNat ≤ 1125899906842624
          · exact absurd ⟨t1, t2, t3, t4⟩ ht
          · have z4 : (1125899906842624 : Int) < (amt.toNat : Int) := by omega
            go_wp2_with (go_at_call 26; refine (HT.out _).mono ?_; rintro e w3 ⟨rfl, rfl⟩)
            go_ret
            exact ⟨rfl, hb⟩
        · have z3 : (amt.toNat : Int) < 1 := by omega
          go_wp2_with (go_at_call 26; refine (HT.out _).mono ?_; rintro e w3 ⟨rfl, rfl⟩)
          go_ret
          exact ⟨rfl, hb⟩
set_option maxRecDepth 20000 in
set_option maxHeartbeats 8000000 in
theorem may_any (w : World) (o : OpV) :
    Calls Tryd.prog 21 #[.agg o.c.toArray] w fun e w' => e = .returned (.bool (decide o.may)) ∧ Below w.heap.size w w' := by
  obtain ⟨kind, key, val, old, tow, amt⟩ := o
  by_cases h1 : kind = 1
  · subst h1; exact may_k1 w key val old tow amt
  by_cases h2 : kind = 2
  · subst h2; exact may_k2 w key val old tow amt
  by_cases h3 : kind = 3
  · subst h3; exact may_k3 w key val old tow amt
  by_cases h4 : kind = 4
  · subst h4; exact may_k4 w key val old tow amt
  by_cases h5 : kind = 5
  · subst h5; exact may_k5 w key val old tow amt
  rw [decide_eq_false (may_none kind key val old tow amt ⟨h1, h2, h3, h4, h5⟩)]
  have z1 := kind_ne (n := 1) (by omega) h1
  have z2 := kind_ne (n := 2) (by omega) h2
  have z3 := kind_ne (n := 3) (by omega) h3
  have z4 := kind_ne (n := 4) (by omega) h4
  have z5 := kind_ne (n := 5) (by omega) h5
  have b1 : ((kind.toNat : Int) == 1) = false := beq_eq_false_iff_ne.2 z1
  have b2 : ((kind.toNat : Int) == 2) = false := beq_eq_false_iff_ne.2 z2
  have b3 : ((kind.toNat : Int) == 3) = false := beq_eq_false_iff_ne.2 z3
  have b4 : ((kind.toNat : Int) == 4) = false := beq_eq_false_iff_ne.2 z4
  have b5 : ((kind.toNat : Int) == 5) = false := beq_eq_false_iff_ne.2 z5
  clear h1 h2 h3 h4 h5
  have hX := Blk.new w 34 (OpV.c ⟨kind, key, val, old, tow, amt⟩).toArray
  have hb := below_alloc w (.cells (OpV.c ⟨kind, key, val, old, tow, amt⟩).toArray 34)
  have hcs := fun (z : World) (g : Nat) (h : Blk z g 34 (OpV.c ⟨kind, key, val, old, tow, amt⟩).toArray) => op_cells h
  obtain ⟨L, hL⟩ : ∃ L, (OpV.c ⟨kind, key, val, old, tow, amt⟩).toArray = L := ⟨_, rfl⟩
  rw [hL] at hX hb ⊢
  simp only [hL] at hcs
  clear hL
  obtain ⟨k, hk⟩ : ∃ k : Int, (kind.toNat : Int) = k := ⟨_, rfl⟩
  simp only [hk] at hcs b1 b2 b3 b4 b5 z1 z2 z3 z4 z5
  clear hk
  go_enter Tryd.func21, Tryd.ntmps21
  go_upto_region 1 with (fail)
  obtain ⟨w1, hw1⟩ : ∃ x, w.alloc (.cells L 34) = x := ⟨_, rfl⟩
  rw [hw1] at hX hb ⊢
  obtain ⟨gx, hgx⟩ : ∃ x, w.heap.size = x := ⟨_, rfl⟩
  rw [hgx] at hX ⊢
  have HGX := Lib.hid hgx
  clear hw1 hgx
  obtain ⟨c0, c1, c2, c3, c4, c5⟩ := hcs _ _ hX
  have HCS := Lib.hid (fun z h => hcs z gx h)
  clear hcs
  have hM1 : (#[.int .u8 k, .string key, .string ⟨#[]⟩, .string ⟨#[]⟩, .string ⟨#[]⟩, .int .u64 0] : Array Value).all (·.oneCell') = true := by simp [Value.oneCell']
  repeat (first
    | ((with_reducible refine wpl_store_fresh #[.int .u8 k, .string key, .string ⟨#[]⟩, .string ⟨#[]⟩, .string ⟨#[]⟩, .int .u64 0] i34 ?_ rfl hM1 ?_ ?_ ?_); (focus kernel_rfl); (focus rfl); (focus rfl); intro w2 hW hl2 hb2; simp only [Act.put]; refine Hid.out ?_)
    | go_values | go_skip | go_guarded | go_step | go_upon | go_back)
  refine Lib.hid ?_
  have hne : gx ≠ w1.heap.size := Nat.ne_of_lt hX.lt
  have hge : w.heap.size ≤ w1.heap.size := hb.size
  have hb := below_next' hb hb2
  have hX := hX.below hb2 hX.lt
  obtain ⟨gw, hgw⟩ : ∃ x, w1.heap.size = x := ⟨_, rfl⟩
  rw [hgw] at hW hne hge ⊢
  clear hgw hb2 hl2 hM1
  obtain ⟨c0, c1, c2, c3, c4, c5⟩ := HCS.out _ hX
  go_wp2_with fail
  go_ret
  exact ⟨rfl, hb⟩
end Go.Proofs.YtbbcofpdfkhljaaDoor
