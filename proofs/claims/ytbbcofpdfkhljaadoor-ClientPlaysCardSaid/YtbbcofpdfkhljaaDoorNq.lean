/- ratchetref09.May: may an operation be? -/
import Derived.Test.YtbbcofpdfkhljaaDoorNkk
namespace Go.Proofs.YtbbcofpdfkhljaaDoor
open Go.RowKit Go.Rat
theorem rcall_b {P : Program} {f : FuncId} {a : Array Value} {w : World} {p : Prop} [Decidable p] {b : Bool} (hb : decide p = b) (h : Calls P f a w fun e w' => e = .returned (.bool (decide p)) ∧ w' = w) : Calls P f a w fun e w' => e = .returned (.bool b) ∧ w' = w := by rwa [hb] at h
theorem rmay_get (k : UInt8) (key val old tow : ByteArray) (amt : UInt64) (hk : k = 1 ∨ k = 3) : (OpV.mk k key val old tow amt).may ↔ (1 ≤ key.size ∧ key.size ≤ 32) ∧ OpV.mk k key val old tow amt = OpV.mk k key e0 e0 e0 0 := by
  rw [may_get _ _ _ _ _ _ hk]
  constructor
  · rintro ⟨h1, h2⟩
    simp_all
  · intro h
    have hE := h.2
    try have hE := hE.1
    have hq := (op_iff _ _).1 hE
    simp only at hq
    have f1 : val = e0 → val.size = 0 := (e0_size).1
    have f2 : old = e0 → old.size = 0 := (e0_size).1
    grind
theorem rmay_put (key val old tow : ByteArray) (amt : UInt64) : (OpV.mk 2 key val old tow amt).may ↔ (1 ≤ key.size ∧ key.size ≤ 32) ∧ OpV.mk 2 key val old tow amt = OpV.mk 2 key val e0 e0 0 ∧ val.size ≤ 128 := by
  rw [may_put]
  constructor
  · rintro ⟨h1, h2⟩
    simp_all
  · intro h
    have hE := h.2
    try have hE := hE.1
    have hq := (op_iff _ _).1 hE
    simp only at hq
    have f1 : val = e0 → val.size = 0 := (e0_size).1
    have f2 : old = e0 → old.size = 0 := (e0_size).1
    grind
theorem rmay_cas (key val old tow : ByteArray) (amt : UInt64) : (OpV.mk 4 key val old tow amt).may ↔ (1 ≤ key.size ∧ key.size ≤ 32) ∧ OpV.mk 4 key val old tow amt = OpV.mk 4 key val old e0 0 ∧ val.size ≤ 128 ∧ old.size ≤ 128 := by
  rw [may_cas]
  constructor
  · rintro ⟨h1, h2⟩
    simp_all
  · intro h
    have hE := h.2
    try have hE := hE.1
    have hq := (op_iff _ _).1 hE
    simp only at hq
    have f1 : val = e0 → val.size = 0 := (e0_size).1
    have f2 : old = e0 → old.size = 0 := (e0_size).1
    grind
theorem rmay_move (key val old tow : ByteArray) (amt : UInt64) : (OpV.mk 5 key val old tow amt).may ↔ (1 ≤ key.size ∧ key.size ≤ 32) ∧ OpV.mk 5 key val old tow amt = OpV.mk 5 key e0 e0 tow amt ∧ (1 ≤ tow.size ∧ tow.size ≤ 32) ∧ ¬ tow = key ∧ 1 ≤ amt.toNat ∧ amt.toNat ≤ 1125899906842624 := by
  rw [may_move]
  constructor
  · rintro ⟨h1, h2⟩
    simp_all
  · intro h
    have hE := h.2
    try have hE := hE.1
    have hq := (op_iff _ _).1 hE
    simp only at hq
    have f1 : val = e0 → val.size = 0 := (e0_size).1
    have f2 : old = e0 → old.size = 0 := (e0_size).1
    grind
theorem bdec {p : Prop} [Decidable p] {v : Bool} (h : v = true ↔ p) : v = decide p := by
  cases v
  · symm; exact decide_eq_false (fun e => by cases h.2 e)
  · symm; exact decide_eq_true (h.1 rfl)
set_option maxRecDepth 20000 in
set_option maxHeartbeats 8000000 in
theorem rmay_k1 (w : World) (key val old tow : ByteArray) (amt : UInt64) :
    Calls Tryd.prog 23 #[.agg (OpV.c ⟨1, key, val, old, tow, amt⟩).toArray] w fun e w' => e = .returned (.bool (decide (OpV.may ⟨1, key, val, old, tow, amt⟩))) ∧ Below w.heap.size w w' := by
  obtain ⟨v, hv⟩ : ∃ v, decide (OpV.may ⟨1, key, val, old, tow, amt⟩) = v := ⟨_, rfl⟩
  rw [hv]
  have hvv : v = true ↔ (OpV.may ⟨1, key, val, old, tow, amt⟩) := by rw [← hv]; exact decide_eq_true_iff
  clear hv
  rw [rmay_get 1 key val old tow amt (.inl rfl)] at hvv
  have hvq := bdec hvv
  clear hvv
  have hvv := hvq
  clear hvq
  simp only [Bool.decide_and] at hvv
  have hLs : (OpV.c ⟨1, key, val, old, tow, amt⟩).toArray.size = 6 := rfl
  have hX := Blk.new w 34 (OpV.c ⟨1, key, val, old, tow, amt⟩).toArray
  have hb := below_alloc w (.cells (OpV.c ⟨1, key, val, old, tow, amt⟩).toArray 34)
  have hcs := fun (z : World) (g : Nat) (h : Blk z g 34 (OpV.c ⟨1, key, val, old, tow, amt⟩).toArray) => op_cells h
  simp only [show ((UInt8.toNat 1 : Nat) : Int) = 1 from rfl] at hcs
  have heq := fun x => eq_op 9998 ⟨1, key, val, old, tow, amt⟩ ⟨1, key, e0, e0, e0, 0⟩ x
  obtain ⟨L, hL⟩ : ∃ L, (OpV.c ⟨1, key, val, old, tow, amt⟩).toArray = L := ⟨_, rfl⟩
  rw [hL] at hLs hX hb ⊢
  simp only [hL] at hcs heq
  clear hL
  obtain ⟨eb, heb⟩ : ∃ b, decide (OpV.mk 1 key val old tow amt = OpV.mk 1 key e0 e0 e0 0) = b := ⟨_, rfl⟩
  rw [heb] at hvv
  simp only [heb] at heq
  have HEQ := Lib.hid heq
  obtain ⟨kb, hkb⟩ : ∃ b, (decide (1 ≤ key.size ∧ key.size ≤ 32)) = b := ⟨_, rfl⟩
  have HK := Lib.hid (fun w => rcall_b hkb (rkey_any w key))
  rw [Bool.decide_and] at hkb
  rw [hkb] at hvv
  have HVV := Lib.hid hvv
  clear hvv heq heb hkb
  go_enter Tryd.func23, Tryd.ntmps23
  go_upto_region 1 with (fail)
  obtain ⟨w1, hw1⟩ : ∃ x, w.alloc (.cells L 34) = x := ⟨_, rfl⟩
  rw [hw1] at hX hb ⊢
  obtain ⟨gx, hgx⟩ : ∃ x, w.heap.size = x := ⟨_, rfl⟩
  rw [hgx] at hX ⊢
  have HGX := Lib.hid hgx
  clear hw1 hgx
  obtain ⟨c0, c1, c2, c3, c4, c5⟩ := hcs _ _ hX
  have HCS := Lib.hid (fun z h => hcs z gx h)
  clear hcs
  have hM1 : (OpV.mk 1 key e0 e0 e0 0).c.toArray.all (·.oneCell') = true := by simp [OpV.c, Value.oneCell']
  repeat (first
    | ((with_reducible refine wpl_store_fresh (OpV.mk 1 key e0 e0 e0 0).c.toArray i34 ?_ rfl hM1 ?_ ?_ ?_); (focus kernel_rfl); (focus rfl); (focus rfl); intro w2 hW hl2 hb2; simp only [Act.put]; refine Hid.out ?_)
    | go_values | go_skip | go_guarded | go_step | go_upon | go_back)
  refine Lib.hid ?_
  have hne : gx ≠ w1.heap.size := Nat.ne_of_lt hX.lt
  have hge : w.heap.size ≤ w1.heap.size := hb.size
  have hb := below_next' hb hb2
  have hX := hX.below hb2 hX.lt
  obtain ⟨gw, hgw⟩ : ∃ x, w1.heap.size = x := ⟨_, rfl⟩
  rw [hgw] at hW hne hge ⊢
  clear hgw hb2 hl2 hM1
  obtain ⟨c0, c1, c2, c3, c4, c5⟩ := HCS.out _ hX
  cases kb
  · obtain rfl : v = false := by rw [HVV.out]; simp
    repeat (first
      | ((with_reducible refine wpl_loadS gx _ L Tryd.underlying34 rfl i34 hX hLs ?_ ?_ ?_); (focus rfl); (focus rfl); simp only [Act.put, List.setIfInBounds_toArray, List.set_cons_zero, List.set_cons_succ])
      | ((with_reducible refine wpl_loadS gw _ M Tryd.underlying34 rfl i34 hW hMs ?_ ?_ ?_); (focus rfl); (focus rfl); simp only [Act.put, List.setIfInBounds_toArray, List.set_cons_zero, List.set_cons_succ])
      | ((with_reducible refine wpl_eqS g34 (HEQ.out _) ?_ ?_ ?_ ?_); (focus rfl); (focus rfl); (focus rfl); simp only [Act.put, List.setIfInBounds_toArray, List.set_cons_zero, List.set_cons_succ])
      | (go_at_call 30; with_reducible refine (HK.out _).mono ?_; rintro e w3 ⟨rfl, rfl⟩; simp only [])
      | go_values | go_skip | go_guarded | go_step | go_upon | go_back)
    go_ret
    exact ⟨rfl, hb⟩
  · go_upto_region 7 with (go_at_call 30; refine (HK.out _).mono ?_; rintro e w3 ⟨rfl, rfl⟩)
    obtain ⟨M, hM⟩ : ∃ M, (OpV.mk 1 key e0 e0 e0 0).c.toArray = M := ⟨_, rfl⟩
    have hMs : M.size = 6 := by rw [← hM]; rfl
    rw [hM] at hW
    have HEQ := Lib.hid (fun x => by have := HEQ.out x; rw [hM] at this; exact this)
    clear hM
    cases eb
    · obtain rfl : v = false := by rw [HVV.out]; simp
      repeat (first
        | ((with_reducible refine wpl_loadS gx _ L Tryd.underlying34 rfl i34 hX hLs ?_ ?_ ?_); (focus rfl); (focus rfl); simp only [Act.put, List.setIfInBounds_toArray, List.set_cons_zero, List.set_cons_succ])
        | ((with_reducible refine wpl_loadS gw _ M Tryd.underlying34 rfl i34 hW hMs ?_ ?_ ?_); (focus rfl); (focus rfl); simp only [Act.put, List.setIfInBounds_toArray, List.set_cons_zero, List.set_cons_succ])
        | ((with_reducible refine wpl_eqS g34 (HEQ.out _) ?_ ?_ ?_ ?_); (focus rfl); (focus rfl); (focus rfl); simp only [Act.put, List.setIfInBounds_toArray, List.set_cons_zero, List.set_cons_succ])
        | (go_at_call 30; with_reducible refine (HK.out _).mono ?_; rintro e w3 ⟨rfl, rfl⟩; simp only [])
        | go_values | go_skip | go_guarded | go_step | go_upon | go_back)
      go_ret
      exact ⟨rfl, hb⟩
    · obtain rfl : v = true := by rw [HVV.out]; simp
      repeat (first
        | ((with_reducible refine wpl_loadS gx _ L Tryd.underlying34 rfl i34 hX hLs ?_ ?_ ?_); (focus rfl); (focus rfl); simp only [Act.put, List.setIfInBounds_toArray, List.set_cons_zero, List.set_cons_succ])
        | ((with_reducible refine wpl_loadS gw _ M Tryd.underlying34 rfl i34 hW hMs ?_ ?_ ?_); (focus rfl); (focus rfl); simp only [Act.put, List.setIfInBounds_toArray, List.set_cons_zero, List.set_cons_succ])
        | ((with_reducible refine wpl_eqS g34 (HEQ.out _) ?_ ?_ ?_ ?_); (focus rfl); (focus rfl); (focus rfl); simp only [Act.put, List.setIfInBounds_toArray, List.set_cons_zero, List.set_cons_succ])
        | (go_at_call 30; with_reducible refine (HK.out _).mono ?_; rintro e w3 ⟨rfl, rfl⟩; simp only [])
        | go_values | go_skip | go_guarded | go_step | go_upon | go_back)
      go_ret
      exact ⟨rfl, hb⟩
set_option maxRecDepth 20000 in
set_option maxHeartbeats 8000000 in
theorem rmay_k2 (w : World) (key val old tow : ByteArray) (amt : UInt64) :
    Calls Tryd.prog 23 #[.agg (OpV.c ⟨2, key, val, old, tow, amt⟩).toArray] w fun e w' => e = .returned (.bool (decide (OpV.may ⟨2, key, val, old, tow, amt⟩))) ∧ Below w.heap.size w w' := by
  obtain ⟨v, hv⟩ : ∃ v, decide (OpV.may ⟨2, key, val, old, tow, amt⟩) = v := ⟨_, rfl⟩
  rw [hv]
  have hvv : v = true ↔ (OpV.may ⟨2, key, val, old, tow, amt⟩) := by rw [← hv]; exact decide_eq_true_iff
  clear hv
  rw [rmay_put key val old tow amt] at hvv
  have hvq := bdec hvv
  clear hvv
  have hvv := hvq
  clear hvq
  simp only [Bool.decide_and] at hvv
  have hLs : (OpV.c ⟨2, key, val, old, tow, amt⟩).toArray.size = 6 := rfl
  have hX := Blk.new w 34 (OpV.c ⟨2, key, val, old, tow, amt⟩).toArray
  have hb := below_alloc w (.cells (OpV.c ⟨2, key, val, old, tow, amt⟩).toArray 34)
  have hcs := fun (z : World) (g : Nat) (h : Blk z g 34 (OpV.c ⟨2, key, val, old, tow, amt⟩).toArray) => op_cells h
  simp only [show ((UInt8.toNat 2 : Nat) : Int) = 2 from rfl] at hcs
  have heq := fun x => eq_op 9998 ⟨2, key, val, old, tow, amt⟩ ⟨2, key, val, e0, e0, 0⟩ x
  obtain ⟨L, hL⟩ : ∃ L, (OpV.c ⟨2, key, val, old, tow, amt⟩).toArray = L := ⟨_, rfl⟩
  rw [hL] at hLs hX hb ⊢
  simp only [hL] at hcs heq
  clear hL
  obtain ⟨eb, heb⟩ : ∃ b, decide (OpV.mk 2 key val old tow amt = OpV.mk 2 key val e0 e0 0) = b := ⟨_, rfl⟩
  rw [heb] at hvv
  simp only [heb] at heq
  have HEQ := Lib.hid heq
  obtain ⟨kb, hkb⟩ : ∃ b, (decide (1 ≤ key.size ∧ key.size ≤ 32)) = b := ⟨_, rfl⟩
  have HK := Lib.hid (fun w => rcall_b hkb (rkey_any w key))
  rw [Bool.decide_and] at hkb
  rw [hkb] at hvv
  obtain ⟨vb, hvb⟩ : ∃ b, decide (val.size ≤ 128) = b := ⟨_, rfl⟩
  have HV1 := Lib.hid (fun w => rcall_b hvb (rvalue_any w val))
  rw [hvb] at hvv
  clear hvb
  have HVV := Lib.hid hvv
  clear hvv heq heb hkb
  go_enter Tryd.func23, Tryd.ntmps23
  go_upto_region 1 with (fail)
  obtain ⟨w1, hw1⟩ : ∃ x, w.alloc (.cells L 34) = x := ⟨_, rfl⟩
  rw [hw1] at hX hb ⊢
  obtain ⟨gx, hgx⟩ : ∃ x, w.heap.size = x := ⟨_, rfl⟩
  rw [hgx] at hX ⊢
  have HGX := Lib.hid hgx
  clear hw1 hgx
  obtain ⟨c0, c1, c2, c3, c4, c5⟩ := hcs _ _ hX
  have HCS := Lib.hid (fun z h => hcs z gx h)
  clear hcs
  have hM1 : (OpV.mk 2 key e0 e0 e0 0).c.toArray.all (·.oneCell') = true := by simp [OpV.c, Value.oneCell']
  repeat (first
    | ((with_reducible refine wpl_store_fresh (OpV.mk 2 key e0 e0 e0 0).c.toArray i34 ?_ rfl hM1 ?_ ?_ ?_); (focus kernel_rfl); (focus rfl); (focus rfl); intro w2 hW hl2 hb2; simp only [Act.put]; refine Hid.out ?_)
    | go_values | go_skip | go_guarded | go_step | go_upon | go_back)
  refine Lib.hid ?_
  have hne : gx ≠ w1.heap.size := Nat.ne_of_lt hX.lt
  have hge : w.heap.size ≤ w1.heap.size := hb.size
  have hb := below_next' hb hb2
  have hX := hX.below hb2 hX.lt
  obtain ⟨gw, hgw⟩ : ∃ x, w1.heap.size = x := ⟨_, rfl⟩
  rw [hgw] at hW hne hge ⊢
  clear hgw hb2 hl2 hM1
  obtain ⟨c0, c1, c2, c3, c4, c5⟩ := HCS.out _ hX
  cases kb
  · obtain rfl : v = false := by rw [HVV.out]; simp
    repeat (first
      | ((with_reducible refine wpl_loadS gx _ L Tryd.underlying34 rfl i34 hX hLs ?_ ?_ ?_); (focus rfl); (focus rfl); simp only [Act.put, List.setIfInBounds_toArray, List.set_cons_zero, List.set_cons_succ])
      | ((with_reducible refine wpl_loadS gw _ M Tryd.underlying34 rfl i34 hW hMs ?_ ?_ ?_); (focus rfl); (focus rfl); simp only [Act.put, List.setIfInBounds_toArray, List.set_cons_zero, List.set_cons_succ])
      | ((with_reducible refine wpl_eqS g34 (HEQ.out _) ?_ ?_ ?_ ?_); (focus rfl); (focus rfl); (focus rfl); simp only [Act.put, List.setIfInBounds_toArray, List.set_cons_zero, List.set_cons_succ])
      | (go_at_call 30; with_reducible refine (HK.out _).mono ?_; rintro e w3 ⟨rfl, rfl⟩; simp only [])
      | go_values | go_skip | go_guarded | go_step | go_upon | go_back)
    go_ret
    exact ⟨rfl, hb⟩
  · go_upto_region 9 with (go_at_call 30; refine (HK.out _).mono ?_; rintro e w3 ⟨rfl, rfl⟩)
    have u1 := hW.cell 2
    simp only [OpV.c, List.getElem?_toArray, List.getElem?_cons_zero, List.getElem?_cons_succ] at u1
    have f1 := hW.frozen 2
    have hW := hW.set_ 2 (.string val)
    have hX := hX.far (p := ⟨gw, 2, none⟩) hne (.string val)
    have hb := hb.grown (grownBy_set _ gw 2 (.string val)) hb.size (fun q hq => by cases hq; exact hge)
    go_upto_region 10 with (go_at_call 30; refine (HK.out _).mono ?_; rintro e w3 ⟨rfl, rfl⟩)
    obtain ⟨y0, hy⟩ : ∃ x, World.setCell w3 ⟨gw, 2, none⟩ (.string val) = x := ⟨_, rfl⟩
    rw [hy] at hX hW hb ⊢
    clear hy u1 f1 c0 c1 c2 c3 c4 c5
    obtain ⟨c0, c1, c2, c3, c4, c5⟩ := HCS.out _ hX
    have hW : Blk y0 gw _ (OpV.mk 2 key val e0 e0 0).c.toArray := hW
    obtain ⟨M, hM⟩ : ∃ M, (OpV.mk 2 key val e0 e0 0).c.toArray = M := ⟨_, rfl⟩
    have hMs : M.size = 6 := by rw [← hM]; rfl
    rw [hM] at hW
    have HEQ := Lib.hid (fun x => by have := HEQ.out x; rw [hM] at this; exact this)
    clear hM
    cases eb
    · obtain rfl : v = false := by rw [HVV.out]; simp
      repeat (first
        | ((with_reducible refine wpl_loadS gx _ L Tryd.underlying34 rfl i34 hX hLs ?_ ?_ ?_); (focus rfl); (focus rfl); simp only [Act.put, List.setIfInBounds_toArray, List.set_cons_zero, List.set_cons_succ])
        | ((with_reducible refine wpl_loadS gw _ M Tryd.underlying34 rfl i34 hW hMs ?_ ?_ ?_); (focus rfl); (focus rfl); simp only [Act.put, List.setIfInBounds_toArray, List.set_cons_zero, List.set_cons_succ])
        | ((with_reducible refine wpl_eqS g34 (HEQ.out _) ?_ ?_ ?_ ?_); (focus rfl); (focus rfl); (focus rfl); simp only [Act.put, List.setIfInBounds_toArray, List.set_cons_zero, List.set_cons_succ])
        | (go_at_call 30; with_reducible refine (HK.out _).mono ?_; rintro e w3 ⟨rfl, rfl⟩; simp only [])
        | (go_at_call 31; with_reducible refine (HV1.out _).mono ?_; rintro e w3 ⟨rfl, rfl⟩; simp only [])
        | go_values | go_skip | go_guarded | go_step | go_upon | go_back)
      go_ret
      exact ⟨rfl, hb⟩
    · cases vb
      · obtain rfl : v = false := by rw [HVV.out]; simp
        repeat (first
          | ((with_reducible refine wpl_loadS gx _ L Tryd.underlying34 rfl i34 hX hLs ?_ ?_ ?_); (focus rfl); (focus rfl); simp only [Act.put, List.setIfInBounds_toArray, List.set_cons_zero, List.set_cons_succ])
          | ((with_reducible refine wpl_loadS gw _ M Tryd.underlying34 rfl i34 hW hMs ?_ ?_ ?_); (focus rfl); (focus rfl); simp only [Act.put, List.setIfInBounds_toArray, List.set_cons_zero, List.set_cons_succ])
          | ((with_reducible refine wpl_eqS g34 (HEQ.out _) ?_ ?_ ?_ ?_); (focus rfl); (focus rfl); (focus rfl); simp only [Act.put, List.setIfInBounds_toArray, List.set_cons_zero, List.set_cons_succ])
          | (go_at_call 30; with_reducible refine (HK.out _).mono ?_; rintro e w3 ⟨rfl, rfl⟩; simp only [])
          | (go_at_call 31; with_reducible refine (HV1.out _).mono ?_; rintro e w3 ⟨rfl, rfl⟩; simp only [])
          | go_values | go_skip | go_guarded | go_step | go_upon | go_back)
        go_ret
        exact ⟨rfl, hb⟩
      · obtain rfl : v = true := by rw [HVV.out]; simp
        repeat (first
          | ((with_reducible refine wpl_loadS gx _ L Tryd.underlying34 rfl i34 hX hLs ?_ ?_ ?_); (focus rfl); (focus rfl); simp only [Act.put, List.setIfInBounds_toArray, List.set_cons_zero, List.set_cons_succ])
          | ((with_reducible refine wpl_loadS gw _ M Tryd.underlying34 rfl i34 hW hMs ?_ ?_ ?_); (focus rfl); (focus rfl); simp only [Act.put, List.setIfInBounds_toArray, List.set_cons_zero, List.set_cons_succ])
          | ((with_reducible refine wpl_eqS g34 (HEQ.out _) ?_ ?_ ?_ ?_); (focus rfl); (focus rfl); (focus rfl); simp only [Act.put, List.setIfInBounds_toArray, List.set_cons_zero, List.set_cons_succ])
          | (go_at_call 30; with_reducible refine (HK.out _).mono ?_; rintro e w3 ⟨rfl, rfl⟩; simp only [])
          | (go_at_call 31; with_reducible refine (HV1.out _).mono ?_; rintro e w3 ⟨rfl, rfl⟩; simp only [])
          | go_values | go_skip | go_guarded | go_step | go_upon | go_back)
        go_ret
        exact ⟨rfl, hb⟩
set_option maxRecDepth 20000 in
set_option maxHeartbeats 8000000 in
theorem rmay_k3 (w : World) (key val old tow : ByteArray) (amt : UInt64) :
    Calls Tryd.prog 23 #[.agg (OpV.c ⟨3, key, val, old, tow, amt⟩).toArray] w fun e w' => e = .returned (.bool (decide (OpV.may ⟨3, key, val, old, tow, amt⟩))) ∧ Below w.heap.size w w' := by
  obtain ⟨v, hv⟩ : ∃ v, decide (OpV.may ⟨3, key, val, old, tow, amt⟩) = v := ⟨_, rfl⟩
  rw [hv]
  have hvv : v = true ↔ (OpV.may ⟨3, key, val, old, tow, amt⟩) := by rw [← hv]; exact decide_eq_true_iff
  clear hv
  rw [rmay_get 3 key val old tow amt (.inr rfl)] at hvv
  have hvq := bdec hvv
  clear hvv
  have hvv := hvq
  clear hvq
  simp only [Bool.decide_and] at hvv
  have hLs : (OpV.c ⟨3, key, val, old, tow, amt⟩).toArray.size = 6 := rfl
  have hX := Blk.new w 34 (OpV.c ⟨3, key, val, old, tow, amt⟩).toArray
  have hb := below_alloc w (.cells (OpV.c ⟨3, key, val, old, tow, amt⟩).toArray 34)
  have hcs := fun (z : World) (g : Nat) (h : Blk z g 34 (OpV.c ⟨3, key, val, old, tow, amt⟩).toArray) => op_cells h
  simp only [show ((UInt8.toNat 3 : Nat) : Int) = 3 from rfl] at hcs
  have heq := fun x => eq_op 9998 ⟨3, key, val, old, tow, amt⟩ ⟨3, key, e0, e0, e0, 0⟩ x
  obtain ⟨L, hL⟩ : ∃ L, (OpV.c ⟨3, key, val, old, tow, amt⟩).toArray = L := ⟨_, rfl⟩
  rw [hL] at hLs hX hb ⊢
  simp only [hL] at hcs heq
  clear hL
  obtain ⟨eb, heb⟩ : ∃ b, decide (OpV.mk 3 key val old tow amt = OpV.mk 3 key e0 e0 e0 0) = b := ⟨_, rfl⟩
  rw [heb] at hvv
  simp only [heb] at heq
  have HEQ := Lib.hid heq
  obtain ⟨kb, hkb⟩ : ∃ b, (decide (1 ≤ key.size ∧ key.size ≤ 32)) = b := ⟨_, rfl⟩
  have HK := Lib.hid (fun w => rcall_b hkb (rkey_any w key))
  rw [Bool.decide_and] at hkb
  rw [hkb] at hvv
  have HVV := Lib.hid hvv
  clear hvv heq heb hkb
  go_enter Tryd.func23, Tryd.ntmps23
  go_upto_region 1 with (fail)
  obtain ⟨w1, hw1⟩ : ∃ x, w.alloc (.cells L 34) = x := ⟨_, rfl⟩
  rw [hw1] at hX hb ⊢
  obtain ⟨gx, hgx⟩ : ∃ x, w.heap.size = x := ⟨_, rfl⟩
  rw [hgx] at hX ⊢
  have HGX := Lib.hid hgx
  clear hw1 hgx
  obtain ⟨c0, c1, c2, c3, c4, c5⟩ := hcs _ _ hX
  have HCS := Lib.hid (fun z h => hcs z gx h)
  clear hcs
  have hM1 : (OpV.mk 3 key e0 e0 e0 0).c.toArray.all (·.oneCell') = true := by simp [OpV.c, Value.oneCell']
  repeat (first
    | ((with_reducible refine wpl_store_fresh (OpV.mk 3 key e0 e0 e0 0).c.toArray i34 ?_ rfl hM1 ?_ ?_ ?_); (focus kernel_rfl); (focus rfl); (focus rfl); intro w2 hW hl2 hb2; simp only [Act.put]; refine Hid.out ?_)
    | go_values | go_skip | go_guarded | go_step | go_upon | go_back)
  refine Lib.hid ?_
  have hne : gx ≠ w1.heap.size := Nat.ne_of_lt hX.lt
  have hge : w.heap.size ≤ w1.heap.size := hb.size
  have hb := below_next' hb hb2
  have hX := hX.below hb2 hX.lt
  obtain ⟨gw, hgw⟩ : ∃ x, w1.heap.size = x := ⟨_, rfl⟩
  rw [hgw] at hW hne hge ⊢
  clear hgw hb2 hl2 hM1
  obtain ⟨c0, c1, c2, c3, c4, c5⟩ := HCS.out _ hX
  cases kb
  · obtain rfl : v = false := by rw [HVV.out]; simp
    repeat (first
      | ((with_reducible refine wpl_loadS gx _ L Tryd.underlying34 rfl i34 hX hLs ?_ ?_ ?_); (focus rfl); (focus rfl); simp only [Act.put, List.setIfInBounds_toArray, List.set_cons_zero, List.set_cons_succ])
      | ((with_reducible refine wpl_loadS gw _ M Tryd.underlying34 rfl i34 hW hMs ?_ ?_ ?_); (focus rfl); (focus rfl); simp only [Act.put, List.setIfInBounds_toArray, List.set_cons_zero, List.set_cons_succ])
      | ((with_reducible refine wpl_eqS g34 (HEQ.out _) ?_ ?_ ?_ ?_); (focus rfl); (focus rfl); (focus rfl); simp only [Act.put, List.setIfInBounds_toArray, List.set_cons_zero, List.set_cons_succ])
      | (go_at_call 30; with_reducible refine (HK.out _).mono ?_; rintro e w3 ⟨rfl, rfl⟩; simp only [])
      | go_values | go_skip | go_guarded | go_step | go_upon | go_back)
    go_ret
    exact ⟨rfl, hb⟩
  · go_upto_region 7 with (go_at_call 30; refine (HK.out _).mono ?_; rintro e w3 ⟨rfl, rfl⟩)
    obtain ⟨M, hM⟩ : ∃ M, (OpV.mk 3 key e0 e0 e0 0).c.toArray = M := ⟨_, rfl⟩
    have hMs : M.size = 6 := by rw [← hM]; rfl
    rw [hM] at hW
    have HEQ := Lib.hid (fun x => by have := HEQ.out x; rw [hM] at this; exact this)
    clear hM
    cases eb
    · obtain rfl : v = false := by rw [HVV.out]; simp
      repeat (first
        | ((with_reducible refine wpl_loadS gx _ L Tryd.underlying34 rfl i34 hX hLs ?_ ?_ ?_); (focus rfl); (focus rfl); simp only [Act.put, List.setIfInBounds_toArray, List.set_cons_zero, List.set_cons_succ])
        | ((with_reducible refine wpl_loadS gw _ M Tryd.underlying34 rfl i34 hW hMs ?_ ?_ ?_); (focus rfl); (focus rfl); simp only [Act.put, List.setIfInBounds_toArray, List.set_cons_zero, List.set_cons_succ])
        | ((with_reducible refine wpl_eqS g34 (HEQ.out _) ?_ ?_ ?_ ?_); (focus rfl); (focus rfl); (focus rfl); simp only [Act.put, List.setIfInBounds_toArray, List.set_cons_zero, List.set_cons_succ])
        | (go_at_call 30; with_reducible refine (HK.out _).mono ?_; rintro e w3 ⟨rfl, rfl⟩; simp only [])
        | go_values | go_skip | go_guarded | go_step | go_upon | go_back)
      go_ret
      exact ⟨rfl, hb⟩
    · obtain rfl : v = true := by rw [HVV.out]; simp
      repeat (first
        | ((with_reducible refine wpl_loadS gx _ L Tryd.underlying34 rfl i34 hX hLs ?_ ?_ ?_); (focus rfl); (focus rfl); simp only [Act.put, List.setIfInBounds_toArray, List.set_cons_zero, List.set_cons_succ])
        | ((with_reducible refine wpl_loadS gw _ M Tryd.underlying34 rfl i34 hW hMs ?_ ?_ ?_); (focus rfl); (focus rfl); simp only [Act.put, List.setIfInBounds_toArray, List.set_cons_zero, List.set_cons_succ])
        | ((with_reducible refine wpl_eqS g34 (HEQ.out _) ?_ ?_ ?_ ?_); (focus rfl); (focus rfl); (focus rfl); simp only [Act.put, List.setIfInBounds_toArray, List.set_cons_zero, List.set_cons_succ])
        | (go_at_call 30; with_reducible refine (HK.out _).mono ?_; rintro e w3 ⟨rfl, rfl⟩; simp only [])
        | go_values | go_skip | go_guarded | go_step | go_upon | go_back)
      go_ret
      exact ⟨rfl, hb⟩
set_option maxRecDepth 20000 in
set_option maxHeartbeats 8000000 in
theorem rmay_k4 (w : World) (key val old tow : ByteArray) (amt : UInt64) :
    Calls Tryd.prog 23 #[.agg (OpV.c ⟨4, key, val, old, tow, amt⟩).toArray] w fun e w' => e = .returned (.bool (decide (OpV.may ⟨4, key, val, old, tow, amt⟩))) ∧ Below w.heap.size w w' := by
  obtain ⟨v, hv⟩ : ∃ v, decide (OpV.may ⟨4, key, val, old, tow, amt⟩) = v := ⟨_, rfl⟩
  rw [hv]
  have hvv : v = true ↔ (OpV.may ⟨4, key, val, old, tow, amt⟩) := by rw [← hv]; exact decide_eq_true_iff
  clear hv
  rw [rmay_cas key val old tow amt] at hvv
  have hvq := bdec hvv
  clear hvv
  have hvv := hvq
  clear hvq
  simp only [Bool.decide_and] at hvv
  have hLs : (OpV.c ⟨4, key, val, old, tow, amt⟩).toArray.size = 6 := rfl
  have hX := Blk.new w 34 (OpV.c ⟨4, key, val, old, tow, amt⟩).toArray
  have hb := below_alloc w (.cells (OpV.c ⟨4, key, val, old, tow, amt⟩).toArray 34)
  have hcs := fun (z : World) (g : Nat) (h : Blk z g 34 (OpV.c ⟨4, key, val, old, tow, amt⟩).toArray) => op_cells h
  simp only [show ((UInt8.toNat 4 : Nat) : Int) = 4 from rfl] at hcs
  have heq := fun x => eq_op 9998 ⟨4, key, val, old, tow, amt⟩ ⟨4, key, val, old, e0, 0⟩ x
  obtain ⟨L, hL⟩ : ∃ L, (OpV.c ⟨4, key, val, old, tow, amt⟩).toArray = L := ⟨_, rfl⟩
  rw [hL] at hLs hX hb ⊢
  simp only [hL] at hcs heq
  clear hL
  obtain ⟨eb, heb⟩ : ∃ b, decide (OpV.mk 4 key val old tow amt = OpV.mk 4 key val old e0 0) = b := ⟨_, rfl⟩
  rw [heb] at hvv
  simp only [heb] at heq
  have HEQ := Lib.hid heq
  obtain ⟨kb, hkb⟩ : ∃ b, (decide (1 ≤ key.size ∧ key.size ≤ 32)) = b := ⟨_, rfl⟩
  have HK := Lib.hid (fun w => rcall_b hkb (rkey_any w key))
  rw [Bool.decide_and] at hkb
  rw [hkb] at hvv
  obtain ⟨vb, hvb⟩ : ∃ b, decide (val.size ≤ 128) = b := ⟨_, rfl⟩
  have HV1 := Lib.hid (fun w => rcall_b hvb (rvalue_any w val))
  rw [hvb] at hvv
  clear hvb
  obtain ⟨ob, hob⟩ : ∃ b, decide (old.size ≤ 128) = b := ⟨_, rfl⟩
  have HO := Lib.hid (fun w => rcall_b hob (rvalue_any w old))
  rw [hob] at hvv
  clear hob
  have HVV := Lib.hid hvv
  clear hvv heq heb hkb
  go_enter Tryd.func23, Tryd.ntmps23
  go_upto_region 1 with (fail)
  obtain ⟨w1, hw1⟩ : ∃ x, w.alloc (.cells L 34) = x := ⟨_, rfl⟩
  rw [hw1] at hX hb ⊢
  obtain ⟨gx, hgx⟩ : ∃ x, w.heap.size = x := ⟨_, rfl⟩
  rw [hgx] at hX ⊢
  have HGX := Lib.hid hgx
  clear hw1 hgx
  obtain ⟨c0, c1, c2, c3, c4, c5⟩ := hcs _ _ hX
  have HCS := Lib.hid (fun z h => hcs z gx h)
  clear hcs
  have hM1 : (OpV.mk 4 key e0 e0 e0 0).c.toArray.all (·.oneCell') = true := by simp [OpV.c, Value.oneCell']
  repeat (first
    | ((with_reducible refine wpl_store_fresh (OpV.mk 4 key e0 e0 e0 0).c.toArray i34 ?_ rfl hM1 ?_ ?_ ?_); (focus kernel_rfl); (focus rfl); (focus rfl); intro w2 hW hl2 hb2; simp only [Act.put]; refine Hid.out ?_)
    | go_values | go_skip | go_guarded | go_step | go_upon | go_back)
  refine Lib.hid ?_
  have hne : gx ≠ w1.heap.size := Nat.ne_of_lt hX.lt
  have hge : w.heap.size ≤ w1.heap.size := hb.size
  have hb := below_next' hb hb2
  have hX := hX.below hb2 hX.lt
  obtain ⟨gw, hgw⟩ : ∃ x, w1.heap.size = x := ⟨_, rfl⟩
  rw [hgw] at hW hne hge ⊢
  clear hgw hb2 hl2 hM1
  obtain ⟨c0, c1, c2, c3, c4, c5⟩ := HCS.out _ hX
  cases kb
  · obtain rfl : v = false := by rw [HVV.out]; simp
    repeat (first
      | ((with_reducible refine wpl_loadS gx _ L Tryd.underlying34 rfl i34 hX hLs ?_ ?_ ?_); (focus rfl); (focus rfl); simp only [Act.put, List.setIfInBounds_toArray, List.set_cons_zero, List.set_cons_succ])
      | ((with_reducible refine wpl_loadS gw _ M Tryd.underlying34 rfl i34 hW hMs ?_ ?_ ?_); (focus rfl); (focus rfl); simp only [Act.put, List.setIfInBounds_toArray, List.set_cons_zero, List.set_cons_succ])
      | ((with_reducible refine wpl_eqS g34 (HEQ.out _) ?_ ?_ ?_ ?_); (focus rfl); (focus rfl); (focus rfl); simp only [Act.put, List.setIfInBounds_toArray, List.set_cons_zero, List.set_cons_succ])
      | (go_at_call 30; with_reducible refine (HK.out _).mono ?_; rintro e w3 ⟨rfl, rfl⟩; simp only [])
      | go_values | go_skip | go_guarded | go_step | go_upon | go_back)
    go_ret
    exact ⟨rfl, hb⟩
  · go_upto_region 12 with (go_at_call 30; refine (HK.out _).mono ?_; rintro e w3 ⟨rfl, rfl⟩)
    have u1 := hW.cell 2
    simp only [OpV.c, List.getElem?_toArray, List.getElem?_cons_zero, List.getElem?_cons_succ] at u1
    have f1 := hW.frozen 2
    have hW := hW.set_ 2 (.string val)
    have hX := hX.far (p := ⟨gw, 2, none⟩) hne (.string val)
    have hb := hb.grown (grownBy_set _ gw 2 (.string val)) hb.size (fun q hq => by cases hq; exact hge)
    go_upto_region 13 with (go_at_call 30; refine (HK.out _).mono ?_; rintro e w3 ⟨rfl, rfl⟩)
    obtain ⟨y0, hy⟩ : ∃ x, World.setCell w3 ⟨gw, 2, none⟩ (.string val) = x := ⟨_, rfl⟩
    rw [hy] at hX hW hb ⊢
    clear hy u1 f1 c0 c1 c2 c3 c4 c5
    obtain ⟨c0, c1, c2, c3, c4, c5⟩ := HCS.out _ hX
    go_upto_region 13 with (go_at_call 30; refine (HK.out _).mono ?_; rintro e w3 ⟨rfl, rfl⟩)
    have u1 := hW.cell 3
    simp only [OpV.c, List.setIfInBounds_toArray, List.set_cons_zero, List.set_cons_succ, List.getElem?_toArray, List.getElem?_cons_zero, List.getElem?_cons_succ] at u1
    have f1 := hW.frozen 3
    have hW := hW.set_ 3 (.string old)
    have hX := hX.far (p := ⟨gw, 3, none⟩) hne (.string old)
    have hb := hb.grown (grownBy_set _ gw 3 (.string old)) hb.size (fun q hq => by cases hq; exact hge)
    go_upto_region 14 with (go_at_call 30; refine (HK.out _).mono ?_; rintro e w3 ⟨rfl, rfl⟩)
    obtain ⟨y1, hy⟩ : ∃ x, World.setCell y0 ⟨gw, 3, none⟩ (.string old) = x := ⟨_, rfl⟩
    rw [hy] at hX hW hb ⊢
    clear hy u1 f1 c0 c1 c2 c3 c4 c5
    obtain ⟨c0, c1, c2, c3, c4, c5⟩ := HCS.out _ hX
    have hW : Blk y1 gw _ (OpV.mk 4 key val old e0 0).c.toArray := hW
    obtain ⟨M, hM⟩ : ∃ M, (OpV.mk 4 key val old e0 0).c.toArray = M := ⟨_, rfl⟩
    have hMs : M.size = 6 := by rw [← hM]; rfl
    rw [hM] at hW
    have HEQ := Lib.hid (fun x => by have := HEQ.out x; rw [hM] at this; exact this)
    clear hM
    cases eb
    · obtain rfl : v = false := by rw [HVV.out]; simp
      repeat (first
        | ((with_reducible refine wpl_loadS gx _ L Tryd.underlying34 rfl i34 hX hLs ?_ ?_ ?_); (focus rfl); (focus rfl); simp only [Act.put, List.setIfInBounds_toArray, List.set_cons_zero, List.set_cons_succ])
        | ((with_reducible refine wpl_loadS gw _ M Tryd.underlying34 rfl i34 hW hMs ?_ ?_ ?_); (focus rfl); (focus rfl); simp only [Act.put, List.setIfInBounds_toArray, List.set_cons_zero, List.set_cons_succ])
        | ((with_reducible refine wpl_eqS g34 (HEQ.out _) ?_ ?_ ?_ ?_); (focus rfl); (focus rfl); (focus rfl); simp only [Act.put, List.setIfInBounds_toArray, List.set_cons_zero, List.set_cons_succ])
        | (go_at_call 30; with_reducible refine (HK.out _).mono ?_; rintro e w3 ⟨rfl, rfl⟩; simp only [])
        | (go_at_call 31; with_reducible refine (HV1.out _).mono ?_; rintro e w3 ⟨rfl, rfl⟩; simp only [])
        | (go_at_call 31; with_reducible refine (HO.out _).mono ?_; rintro e w3 ⟨rfl, rfl⟩; simp only [])
        | go_values | go_skip | go_guarded | go_step | go_upon | go_back)
      go_ret
      exact ⟨rfl, hb⟩
    · cases vb
      · obtain rfl : v = false := by rw [HVV.out]; simp
        repeat (first
          | ((with_reducible refine wpl_loadS gx _ L Tryd.underlying34 rfl i34 hX hLs ?_ ?_ ?_); (focus rfl); (focus rfl); simp only [Act.put, List.setIfInBounds_toArray, List.set_cons_zero, List.set_cons_succ])
          | ((with_reducible refine wpl_loadS gw _ M Tryd.underlying34 rfl i34 hW hMs ?_ ?_ ?_); (focus rfl); (focus rfl); simp only [Act.put, List.setIfInBounds_toArray, List.set_cons_zero, List.set_cons_succ])
          | ((with_reducible refine wpl_eqS g34 (HEQ.out _) ?_ ?_ ?_ ?_); (focus rfl); (focus rfl); (focus rfl); simp only [Act.put, List.setIfInBounds_toArray, List.set_cons_zero, List.set_cons_succ])
          | (go_at_call 30; with_reducible refine (HK.out _).mono ?_; rintro e w3 ⟨rfl, rfl⟩; simp only [])
          | (go_at_call 31; with_reducible refine (HV1.out _).mono ?_; rintro e w3 ⟨rfl, rfl⟩; simp only [])
          | (go_at_call 31; with_reducible refine (HO.out _).mono ?_; rintro e w3 ⟨rfl, rfl⟩; simp only [])
          | go_values | go_skip | go_guarded | go_step | go_upon | go_back)
        go_ret
        exact ⟨rfl, hb⟩
      · cases ob
        · obtain rfl : v = false := by rw [HVV.out]; simp
          repeat (first
            | ((with_reducible refine wpl_loadS gx _ L Tryd.underlying34 rfl i34 hX hLs ?_ ?_ ?_); (focus rfl); (focus rfl); simp only [Act.put, List.setIfInBounds_toArray, List.set_cons_zero, List.set_cons_succ])
            | ((with_reducible refine wpl_loadS gw _ M Tryd.underlying34 rfl i34 hW hMs ?_ ?_ ?_); (focus rfl); (focus rfl); simp only [Act.put, List.setIfInBounds_toArray, List.set_cons_zero, List.set_cons_succ])
            | ((with_reducible refine wpl_eqS g34 (HEQ.out _) ?_ ?_ ?_ ?_); (focus rfl); (focus rfl); (focus rfl); simp only [Act.put, List.setIfInBounds_toArray, List.set_cons_zero, List.set_cons_succ])
            | (go_at_call 30; with_reducible refine (HK.out _).mono ?_; rintro e w3 ⟨rfl, rfl⟩; simp only [])
            | (go_at_call 31; with_reducible refine (HV1.out _).mono ?_; rintro e w3 ⟨rfl, rfl⟩; simp only [])
            | (go_at_call 31; with_reducible refine (HO.out _).mono ?_; rintro e w3 ⟨rfl, rfl⟩; simp only [])
            | go_values | go_skip | go_guarded | go_step | go_upon | go_back)
          go_ret
          exact ⟨rfl, hb⟩
        · obtain rfl : v = true := by rw [HVV.out]; simp
          repeat (first
            | ((with_reducible refine wpl_loadS gx _ L Tryd.underlying34 rfl i34 hX hLs ?_ ?_ ?_); (focus rfl); (focus rfl); simp only [Act.put, List.setIfInBounds_toArray, List.set_cons_zero, List.set_cons_succ])
            | ((with_reducible refine wpl_loadS gw _ M Tryd.underlying34 rfl i34 hW hMs ?_ ?_ ?_); (focus rfl); (focus rfl); simp only [Act.put, List.setIfInBounds_toArray, List.set_cons_zero, List.set_cons_succ])
            | ((with_reducible refine wpl_eqS g34 (HEQ.out _) ?_ ?_ ?_ ?_); (focus rfl); (focus rfl); (focus rfl); simp only [Act.put, List.setIfInBounds_toArray, List.set_cons_zero, List.set_cons_succ])
            | (go_at_call 30; with_reducible refine (HK.out _).mono ?_; rintro e w3 ⟨rfl, rfl⟩; simp only [])
            | (go_at_call 31; with_reducible refine (HV1.out _).mono ?_; rintro e w3 ⟨rfl, rfl⟩; simp only [])
            | (go_at_call 31; with_reducible refine (HO.out _).mono ?_; rintro e w3 ⟨rfl, rfl⟩; simp only [])
            | go_values | go_skip | go_guarded | go_step | go_upon | go_back)
          go_ret
          exact ⟨rfl, hb⟩
set_option maxRecDepth 20000 in
set_option maxHeartbeats 8000000 in
theorem rmay_k5 (w : World) (key val old tow : ByteArray) (amt : UInt64) :
    Calls Tryd.prog 23 #[.agg (OpV.c ⟨5, key, val, old, tow, amt⟩).toArray] w fun e w' => e = .returned (.bool (decide (OpV.may ⟨5, key, val, old, tow, amt⟩))) ∧ Below w.heap.size w w' := by
  obtain ⟨v, hv⟩ : ∃ v, decide (OpV.may ⟨5, key, val, old, tow, amt⟩) = v := ⟨_, rfl⟩
  rw [hv]
  have hvv : v = true ↔ (OpV.may ⟨5, key, val, old, tow, amt⟩) := by rw [← hv]; exact decide_eq_true_iff
  clear hv
  rw [rmay_move key val old tow amt] at hvv
  have hvq := bdec hvv
  clear hvv
  have hvv := hvq
  clear hvq
  simp only [Bool.decide_and] at hvv
  have hLs : (OpV.c ⟨5, key, val, old, tow, amt⟩).toArray.size = 6 := rfl
  have hX := Blk.new w 34 (OpV.c ⟨5, key, val, old, tow, amt⟩).toArray
  have hb := below_alloc w (.cells (OpV.c ⟨5, key, val, old, tow, amt⟩).toArray 34)
  have hcs := fun (z : World) (g : Nat) (h : Blk z g 34 (OpV.c ⟨5, key, val, old, tow, amt⟩).toArray) => op_cells h
  simp only [show ((UInt8.toNat 5 : Nat) : Int) = 5 from rfl] at hcs
  have heq := fun x => eq_op 9998 ⟨5, key, val, old, tow, amt⟩ ⟨5, key, e0, e0, tow, amt⟩ x
  obtain ⟨L, hL⟩ : ∃ L, (OpV.c ⟨5, key, val, old, tow, amt⟩).toArray = L := ⟨_, rfl⟩
  rw [hL] at hLs hX hb ⊢
  simp only [hL] at hcs heq
  clear hL
  obtain ⟨eb, heb⟩ : ∃ b, decide (OpV.mk 5 key val old tow amt = OpV.mk 5 key e0 e0 tow amt) = b := ⟨_, rfl⟩
  rw [heb] at hvv
  simp only [heb] at heq
  have HEQ := Lib.hid heq
  obtain ⟨kb, hkb⟩ : ∃ b, (decide (1 ≤ key.size ∧ key.size ≤ 32)) = b := ⟨_, rfl⟩
  have HK := Lib.hid (fun w => rcall_b hkb (rkey_any w key))
  rw [Bool.decide_and] at hkb
  rw [hkb] at hvv
  obtain ⟨tb, htb⟩ : ∃ b, (decide (1 ≤ tow.size ∧ tow.size ≤ 32)) = b := ⟨_, rfl⟩
  have HT := Lib.hid (fun w => rcall_b htb (rkey_any w tow))
  rw [Bool.decide_and] at htb
  rw [htb] at hvv
  clear htb
  have HVV := Lib.hid hvv
  clear hvv heq heb hkb
  go_enter Tryd.func23, Tryd.ntmps23
  go_upto_region 1 with (fail)
  obtain ⟨w1, hw1⟩ : ∃ x, w.alloc (.cells L 34) = x := ⟨_, rfl⟩
  rw [hw1] at hX hb ⊢
  obtain ⟨gx, hgx⟩ : ∃ x, w.heap.size = x := ⟨_, rfl⟩
  rw [hgx] at hX ⊢
  have HGX := Lib.hid hgx
  clear hw1 hgx
  obtain ⟨c0, c1, c2, c3, c4, c5⟩ := hcs _ _ hX
  have HCS := Lib.hid (fun z h => hcs z gx h)
  clear hcs
  have hM1 : (OpV.mk 5 key e0 e0 e0 0).c.toArray.all (·.oneCell') = true := by simp [OpV.c, Value.oneCell']
  repeat (first
    | ((with_reducible refine wpl_store_fresh (OpV.mk 5 key e0 e0 e0 0).c.toArray i34 ?_ rfl hM1 ?_ ?_ ?_); (focus kernel_rfl); (focus rfl); (focus rfl); intro w2 hW hl2 hb2; simp only [Act.put]; refine Hid.out ?_)
    | go_values | go_skip | go_guarded | go_step | go_upon | go_back)
  refine Lib.hid ?_
  have hne : gx ≠ w1.heap.size := Nat.ne_of_lt hX.lt
  have hge : w.heap.size ≤ w1.heap.size := hb.size
  have hb := below_next' hb hb2
  have hX := hX.below hb2 hX.lt
  obtain ⟨gw, hgw⟩ : ∃ x, w1.heap.size = x := ⟨_, rfl⟩
  rw [hgw] at hW hne hge ⊢
  clear hgw hb2 hl2 hM1
  obtain ⟨c0, c1, c2, c3, c4, c5⟩ := HCS.out _ hX
  cases kb
  · obtain rfl : v = false := by rw [HVV.out]; simp
    repeat (first
      | ((with_reducible refine wpl_loadS gx _ L Tryd.underlying34 rfl i34 hX hLs ?_ ?_ ?_); (focus rfl); (focus rfl); simp only [Act.put, List.setIfInBounds_toArray, List.set_cons_zero, List.set_cons_succ])
      | ((with_reducible refine wpl_loadS gw _ M Tryd.underlying34 rfl i34 hW hMs ?_ ?_ ?_); (focus rfl); (focus rfl); simp only [Act.put, List.setIfInBounds_toArray, List.set_cons_zero, List.set_cons_succ])
      | ((with_reducible refine wpl_eqS g34 (HEQ.out _) ?_ ?_ ?_ ?_); (focus rfl); (focus rfl); (focus rfl); simp only [Act.put, List.setIfInBounds_toArray, List.set_cons_zero, List.set_cons_succ])
      | (go_at_call 30; with_reducible refine (HK.out _).mono ?_; rintro e w3 ⟨rfl, rfl⟩; simp only [])
      | go_values | go_skip | go_guarded | go_step | go_upon | go_back)
    go_ret
    exact ⟨rfl, hb⟩
  · go_upto_region 16 with (go_at_call 30; refine (HK.out _).mono ?_; rintro e w3 ⟨rfl, rfl⟩)
    have u1 := hW.cell 4
    simp only [OpV.c, List.getElem?_toArray, List.getElem?_cons_zero, List.getElem?_cons_succ] at u1
    have f1 := hW.frozen 4
    have hW := hW.set_ 4 (.string tow)
    have hX := hX.far (p := ⟨gw, 4, none⟩) hne (.string tow)
    have hb := hb.grown (grownBy_set _ gw 4 (.string tow)) hb.size (fun q hq => by cases hq; exact hge)
    go_upto_region 17 with (go_at_call 30; refine (HK.out _).mono ?_; rintro e w3 ⟨rfl, rfl⟩)
    obtain ⟨y0, hy⟩ : ∃ x, World.setCell w3 ⟨gw, 4, none⟩ (.string tow) = x := ⟨_, rfl⟩
    rw [hy] at hX hW hb ⊢
    clear hy u1 f1 c0 c1 c2 c3 c4 c5
    obtain ⟨c0, c1, c2, c3, c4, c5⟩ := HCS.out _ hX
    go_upto_region 17 with (go_at_call 30; refine (HK.out _).mono ?_; rintro e w3 ⟨rfl, rfl⟩)
    have u1 := hW.cell 5
    simp only [OpV.c, List.setIfInBounds_toArray, List.set_cons_zero, List.set_cons_succ, List.getElem?_toArray, List.getElem?_cons_zero, List.getElem?_cons_succ] at u1
    have f1 := hW.frozen 5
    have hW := hW.set_ 5 (.int .u64 (amt.toNat : Int))
    have hX := hX.far (p := ⟨gw, 5, none⟩) hne (.int .u64 (amt.toNat : Int))
    have hb := hb.grown (grownBy_set _ gw 5 (.int .u64 (amt.toNat : Int))) hb.size (fun q hq => by cases hq; exact hge)
    go_upto_region 18 with (go_at_call 30; refine (HK.out _).mono ?_; rintro e w3 ⟨rfl, rfl⟩)
    obtain ⟨y1, hy⟩ : ∃ x, World.setCell y0 ⟨gw, 5, none⟩ (.int .u64 (amt.toNat : Int)) = x := ⟨_, rfl⟩
    rw [hy] at hX hW hb ⊢
    clear hy u1 f1 c0 c1 c2 c3 c4 c5
    obtain ⟨c0, c1, c2, c3, c4, c5⟩ := HCS.out _ hX
    have hW : Blk y1 gw _ (OpV.mk 5 key e0 e0 tow amt).c.toArray := hW
    obtain ⟨M, hM⟩ : ∃ M, (OpV.mk 5 key e0 e0 tow amt).c.toArray = M := ⟨_, rfl⟩
    have hMs : M.size = 6 := by rw [← hM]; rfl
    rw [hM] at hW
    have HEQ := Lib.hid (fun x => by have := HEQ.out x; rw [hM] at this; exact this)
    clear hM
    cases eb
    · obtain rfl : v = false := by rw [HVV.out]; simp
      repeat (first
        | ((with_reducible refine wpl_loadS gx _ L Tryd.underlying34 rfl i34 hX hLs ?_ ?_ ?_); (focus rfl); (focus rfl); simp only [Act.put, List.setIfInBounds_toArray, List.set_cons_zero, List.set_cons_succ])
        | ((with_reducible refine wpl_loadS gw _ M Tryd.underlying34 rfl i34 hW hMs ?_ ?_ ?_); (focus rfl); (focus rfl); simp only [Act.put, List.setIfInBounds_toArray, List.set_cons_zero, List.set_cons_succ])
        | ((with_reducible refine wpl_eqS g34 (HEQ.out _) ?_ ?_ ?_ ?_); (focus rfl); (focus rfl); (focus rfl); simp only [Act.put, List.setIfInBounds_toArray, List.set_cons_zero, List.set_cons_succ])
        | (go_at_call 30; with_reducible refine (HK.out _).mono ?_; rintro e w3 ⟨rfl, rfl⟩; simp only [])
        | (go_at_call 30; with_reducible refine (HT.out _).mono ?_; rintro e w3 ⟨rfl, rfl⟩; simp only [])
        | go_values | go_skip | go_guarded | go_step | go_upon | go_back)
      go_ret
      exact ⟨rfl, hb⟩
    · cases tb
      · obtain rfl : v = false := by rw [HVV.out]; simp
        repeat (first
          | ((with_reducible refine wpl_loadS gx _ L Tryd.underlying34 rfl i34 hX hLs ?_ ?_ ?_); (focus rfl); (focus rfl); simp only [Act.put, List.setIfInBounds_toArray, List.set_cons_zero, List.set_cons_succ])
          | ((with_reducible refine wpl_loadS gw _ M Tryd.underlying34 rfl i34 hW hMs ?_ ?_ ?_); (focus rfl); (focus rfl); simp only [Act.put, List.setIfInBounds_toArray, List.set_cons_zero, List.set_cons_succ])
          | ((with_reducible refine wpl_eqS g34 (HEQ.out _) ?_ ?_ ?_ ?_); (focus rfl); (focus rfl); (focus rfl); simp only [Act.put, List.setIfInBounds_toArray, List.set_cons_zero, List.set_cons_succ])
          | (go_at_call 30; with_reducible refine (HK.out _).mono ?_; rintro e w3 ⟨rfl, rfl⟩; simp only [])
          | (go_at_call 30; with_reducible refine (HT.out _).mono ?_; rintro e w3 ⟨rfl, rfl⟩; simp only [])
          | go_values | go_skip | go_guarded | go_step | go_upon | go_back)
        go_ret
        exact ⟨rfl, hb⟩
      · by_cases t2 : tow = key
        · have z2 : (tow.toList != key.toList) = false := by rw [t2]; simp
          obtain rfl : v = false := by rw [HVV.out, decide_eq_false (fun h => h t2)]; simp
          repeat (first
            | ((with_reducible refine wpl_loadS gx _ L Tryd.underlying34 rfl i34 hX hLs ?_ ?_ ?_); (focus rfl); (focus rfl); simp only [Act.put, List.setIfInBounds_toArray, List.set_cons_zero, List.set_cons_succ])
            | ((with_reducible refine wpl_loadS gw _ M Tryd.underlying34 rfl i34 hW hMs ?_ ?_ ?_); (focus rfl); (focus rfl); simp only [Act.put, List.setIfInBounds_toArray, List.set_cons_zero, List.set_cons_succ])
            | ((with_reducible refine wpl_eqS g34 (HEQ.out _) ?_ ?_ ?_ ?_); (focus rfl); (focus rfl); (focus rfl); simp only [Act.put, List.setIfInBounds_toArray, List.set_cons_zero, List.set_cons_succ])
            | (go_at_call 30; with_reducible refine (HK.out _).mono ?_; rintro e w3 ⟨rfl, rfl⟩; simp only [])
            | (go_at_call 30; with_reducible refine (HT.out _).mono ?_; rintro e w3 ⟨rfl, rfl⟩; simp only [])
            | go_values | go_skip | go_guarded | go_step | go_upon | go_back)
          go_ret
          exact ⟨rfl, hb⟩
        · have z2 : (tow.toList == key.toList) = false := beq_eq_false_iff_ne.2 (bl_ne t2)
          have z2' : (tow.toList != key.toList) = true := bne_iff_ne.2 (bl_ne t2)
          by_cases t3 : 1 ≤ amt.toNat
          · have z3 : (1 : Int) ≤ (amt.toNat : Int) := by omega
            by_cases t4 : amt.toNat ≤ 1125899906842624
            · have z4 : (amt.toNat : Int) ≤ (1125899906842624 : Int) := by omega
              obtain rfl : v = true := by rw [HVV.out, decide_eq_true t3, decide_eq_true t4, decide_eq_true t2]; rfl
              repeat (first
                | ((with_reducible refine wpl_loadS gx _ L Tryd.underlying34 rfl i34 hX hLs ?_ ?_ ?_); (focus rfl); (focus rfl); simp only [Act.put, List.setIfInBounds_toArray, List.set_cons_zero, List.set_cons_succ])
                | ((with_reducible refine wpl_loadS gw _ M Tryd.underlying34 rfl i34 hW hMs ?_ ?_ ?_); (focus rfl); (focus rfl); simp only [Act.put, List.setIfInBounds_toArray, List.set_cons_zero, List.set_cons_succ])
                | ((with_reducible refine wpl_eqS g34 (HEQ.out _) ?_ ?_ ?_ ?_); (focus rfl); (focus rfl); (focus rfl); simp only [Act.put, List.setIfInBounds_toArray, List.set_cons_zero, List.set_cons_succ])
                | (go_at_call 30; with_reducible refine (HK.out _).mono ?_; rintro e w3 ⟨rfl, rfl⟩; simp only [])
                | (go_at_call 30; with_reducible refine (HT.out _).mono ?_; rintro e w3 ⟨rfl, rfl⟩; simp only [])
                | go_values | go_skip | go_guarded | go_step | go_upon | go_back)
              go_ret
              exact ⟨rfl, hb⟩
            · have z4 : ¬ (amt.toNat : Int) ≤ (1125899906842624 : Int) := by omega
              obtain rfl : v = false := by rw [HVV.out, decide_eq_false t4]; simp
              repeat (first
                | ((with_reducible refine wpl_loadS gx _ L Tryd.underlying34 rfl i34 hX hLs ?_ ?_ ?_); (focus rfl); (focus rfl); simp only [Act.put, List.setIfInBounds_toArray, List.set_cons_zero, List.set_cons_succ])
                | ((with_reducible refine wpl_loadS gw _ M Tryd.underlying34 rfl i34 hW hMs ?_ ?_ ?_); (focus rfl); (focus rfl); simp only [Act.put, List.setIfInBounds_toArray, List.set_cons_zero, List.set_cons_succ])
                | ((with_reducible refine wpl_eqS g34 (HEQ.out _) ?_ ?_ ?_ ?_); (focus rfl); (focus rfl); (focus rfl); simp only [Act.put, List.setIfInBounds_toArray, List.set_cons_zero, List.set_cons_succ])
                | (go_at_call 30; with_reducible refine (HK.out _).mono ?_; rintro e w3 ⟨rfl, rfl⟩; simp only [])
                | (go_at_call 30; with_reducible refine (HT.out _).mono ?_; rintro e w3 ⟨rfl, rfl⟩; simp only [])
                | go_values | go_skip | go_guarded | go_step | go_upon | go_back)
              go_ret
              exact ⟨rfl, hb⟩
          · have z3 : ¬ (1 : Int) ≤ (amt.toNat : Int) := by omega
            obtain rfl : v = false := by rw [HVV.out, decide_eq_false t3]; simp
            repeat (first
              | ((with_reducible refine wpl_loadS gx _ L Tryd.underlying34 rfl i34 hX hLs ?_ ?_ ?_); (focus rfl); (focus rfl); simp only [Act.put, List.setIfInBounds_toArray, List.set_cons_zero, List.set_cons_succ])
              | ((with_reducible refine wpl_loadS gw _ M Tryd.underlying34 rfl i34 hW hMs ?_ ?_ ?_); (focus rfl); (focus rfl); simp only [Act.put, List.setIfInBounds_toArray, List.set_cons_zero, List.set_cons_succ])
              | ((with_reducible refine wpl_eqS g34 (HEQ.out _) ?_ ?_ ?_ ?_); (focus rfl); (focus rfl); (focus rfl); simp only [Act.put, List.setIfInBounds_toArray, List.set_cons_zero, List.set_cons_succ])
              | (go_at_call 30; with_reducible refine (HK.out _).mono ?_; rintro e w3 ⟨rfl, rfl⟩; simp only [])
              | (go_at_call 30; with_reducible refine (HT.out _).mono ?_; rintro e w3 ⟨rfl, rfl⟩; simp only [])
              | go_values | go_skip | go_guarded | go_step | go_upon | go_back)
            go_ret
            exact ⟨rfl, hb⟩
set_option maxRecDepth 20000 in
set_option maxHeartbeats 8000000 in
theorem rmay_any (w : World) (o : OpV) :
    Calls Tryd.prog 23 #[.agg o.c.toArray] w fun e w' => e = .returned (.bool (decide o.may)) ∧ Below w.heap.size w w' := by
  obtain ⟨kind, key, val, old, tow, amt⟩ := o
  by_cases h1 : kind = 1
  · subst h1; exact rmay_k1 w key val old tow amt
  by_cases h2 : kind = 2
  · subst h2; exact rmay_k2 w key val old tow amt
  by_cases h3 : kind = 3
  · subst h3; exact rmay_k3 w key val old tow amt
  by_cases h4 : kind = 4
  · subst h4; exact rmay_k4 w key val old tow amt
  by_cases h5 : kind = 5
  · subst h5; exact rmay_k5 w key val old tow amt
  rw [decide_eq_false (may_none kind key val old tow amt ⟨h1, h2, h3, h4, h5⟩)]
  have z1 := kind_ne (n := 1) (by omega) h1
  have z2 := kind_ne (n := 2) (by omega) h2
  have z3 := kind_ne (n := 3) (by omega) h3
  have z4 := kind_ne (n := 4) (by omega) h4
  have z5 := kind_ne (n := 5) (by omega) h5
  have b1 : ((kind.toNat : Int) == 1) = false := beq_eq_false_iff_ne.2 z1
  have b2 : ((kind.toNat : Int) == 2) = false := beq_eq_false_iff_ne.2 z2
  have b3 : ((kind.toNat : Int) == 3) = false := beq_eq_false_iff_ne.2 z3
  have b4 : ((kind.toNat : Int) == 4) = false := beq_eq_false_iff_ne.2 z4
  have b5 : ((kind.toNat : Int) == 5) = false := beq_eq_false_iff_ne.2 z5
  clear h1 h2 h3 h4 h5
  have hX := Blk.new w 34 (OpV.c ⟨kind, key, val, old, tow, amt⟩).toArray
  have hb := below_alloc w (.cells (OpV.c ⟨kind, key, val, old, tow, amt⟩).toArray 34)
  have hcs := fun (z : World) (g : Nat) (h : Blk z g 34 (OpV.c ⟨kind, key, val, old, tow, amt⟩).toArray) => op_cells h
  obtain ⟨L, hL⟩ : ∃ L, (OpV.c ⟨kind, key, val, old, tow, amt⟩).toArray = L := ⟨_, rfl⟩
  rw [hL] at hX hb ⊢
  simp only [hL] at hcs
  clear hL
  obtain ⟨k, hk⟩ : ∃ k : Int, (kind.toNat : Int) = k := ⟨_, rfl⟩
  simp only [hk] at hcs b1 b2 b3 b4 b5 z1 z2 z3 z4 z5
  clear hk
  go_enter Tryd.func23, Tryd.ntmps23
  go_upto_region 1 with (fail)
  obtain ⟨w1, hw1⟩ : ∃ x, w.alloc (.cells L 34) = x := ⟨_, rfl⟩
  rw [hw1] at hX hb ⊢
  obtain ⟨gx, hgx⟩ : ∃ x, w.heap.size = x := ⟨_, rfl⟩
  rw [hgx] at hX ⊢
  have HGX := Lib.hid hgx
  clear hw1 hgx
  obtain ⟨c0, c1, c2, c3, c4, c5⟩ := hcs _ _ hX
  have HCS := Lib.hid (fun z h => hcs z gx h)
  clear hcs
  have hM1 : (#[.int .u8 k, .string key, .string ⟨#[]⟩, .string ⟨#[]⟩, .string ⟨#[]⟩, .int .u64 0] : Array Value).all (·.oneCell') = true := by simp [Value.oneCell']
  repeat (first
    | ((with_reducible refine wpl_store_fresh #[.int .u8 k, .string key, .string ⟨#[]⟩, .string ⟨#[]⟩, .string ⟨#[]⟩, .int .u64 0] i34 ?_ rfl hM1 ?_ ?_ ?_); (focus kernel_rfl); (focus rfl); (focus rfl); intro w2 hW hl2 hb2; simp only [Act.put]; refine Hid.out ?_)
    | go_values | go_skip | go_guarded | go_step | go_upon | go_back)
  refine Lib.hid ?_
  have hne : gx ≠ w1.heap.size := Nat.ne_of_lt hX.lt
  have hge : w.heap.size ≤ w1.heap.size := hb.size
  have hb := below_next' hb hb2
  have hX := hX.below hb2 hX.lt
  obtain ⟨gw, hgw⟩ : ∃ x, w1.heap.size = x := ⟨_, rfl⟩
  rw [hgw] at hW hne hge ⊢
  clear hgw hb2 hl2 hM1
  obtain ⟨c0, c1, c2, c3, c4, c5⟩ := HCS.out _ hX
  obtain ⟨kb, hkb⟩ : ∃ b, (decide (1 ≤ key.size ∧ key.size ≤ 32)) = b := ⟨_, rfl⟩
  have HK := Lib.hid (fun w => rcall_b hkb (rkey_any w key))
  clear hkb
  cases kb
  · go_wp2_with fail
    refine (HK.out _).mono ?_
    rintro e w3 ⟨rfl, rfl⟩
    simp only []
    go_wp2_with fail
    go_ret
    exact ⟨rfl, hb⟩
  · go_wp2_with fail
    refine (HK.out _).mono ?_
    rintro e w3 ⟨rfl, rfl⟩
    simp only []
    go_wp2_with fail
    go_ret
    exact ⟨rfl, hb⟩
end Go.Proofs.YtbbcofpdfkhljaaDoor
