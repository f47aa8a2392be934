/- message: requests: may one be? -/
import Derived.Test.YtbbcofpdfkhljaaDoorNa
import Derived.Deep.Cut
import Derived.Deep.CutBlock
import Derived.Deep.DeepCutAuto
namespace Go.Proofs.YtbbcofpdfkhljaaDoor
open Go.RowKit Go.Rat
/-- An operation. -/
structure OpV where
  kind : UInt8
  key : ByteArray
  val : ByteArray
  old : ByteArray
  tow : ByteArray
  amt : UInt64
/-- A request. -/
structure RqV where
  cl : Int
  tm : Nat
  op : OpV
  tag : List UInt8
def OpV.c (o : OpV) : List Value := [.int .u8 (o.kind.toNat : Int), .string o.key, .string o.val, .string o.old, .string o.tow, .int .u64 (o.amt.toNat : Int)]
def RqV.c (r : RqV) : List Value := .int .i64 r.cl :: .int .u64 (r.tm : Int) :: .int .u8 (r.op.kind.toNat : Int) :: .string r.op.key :: .string r.op.val :: .string r.op.old :: .string r.op.tow :: .int .u64 (r.op.amt.toNat : Int) :: bvs r.tag
def RqV.asked (r : RqV) : Prop := 1 ≤ r.cl ∧ r.cl ≤ 8 ∧ 1 ≤ r.tm ∧ r.tm ≤ 4611686018427387904 ∧ r.op.key.size ≤ 32 ∧ r.op.tow.size ≤ 32 ∧ r.op.val.size ≤ 128 ∧ r.op.old.size ≤ 128
instance (r : RqV) : Decidable r.asked := by unfold RqV.asked; infer_instance
/-- What a request stands on in memory: its block's cells. -/
theorem rq_cells {w : World} {g : Nat} {T : TypeId} {r : RqV} (h : Blk w g T r.c.toArray) :
    w.cell? ⟨g, 0, none⟩ = some (.int .i64 r.cl) ∧ w.cell? ⟨g, 1, none⟩ = some (.int .u64 (r.tm : Int)) ∧ w.cell? ⟨g, 2, none⟩ = some (.int .u8 (r.op.kind.toNat : Int)) ∧ w.cell? ⟨g, 3, none⟩ = some (.string r.op.key) ∧
    w.cell? ⟨g, 4, none⟩ = some (.string r.op.val) ∧ w.cell? ⟨g, 5, none⟩ = some (.string r.op.old) ∧ w.cell? ⟨g, 6, none⟩ = some (.string r.op.tow) ∧ w.cell? ⟨g, 7, none⟩ = some (.int .u64 (r.op.amt.toNat : Int)) :=
  ⟨h.cell 0, h.cell 1, h.cell 2, h.cell 3, h.cell 4, h.cell 5, h.cell 6, h.cell 7⟩
set_option maxRecDepth 20000 in
set_option maxHeartbeats 4000000 in
theorem rasked_any (w : World) (r : RqV) :
    Calls Tryd.prog 25 #[.agg r.c.toArray] w fun e w' => e = .returned (.bool (decide r.asked)) ∧ Below w.heap.size w w' := by
  have hX := Blk.new w 44 r.c.toArray
  have hb := below_alloc w (.cells r.c.toArray 44)
  obtain ⟨c0, c1, c2, c3, c4, c5, c6, c7⟩ := rq_cells hX
  obtain ⟨L, hL⟩ : ∃ L, r.c.toArray = L := ⟨_, rfl⟩
  rw [hL] at hb c0 c1 c2 c3 c4 c5 c6 c7
  have hdef : r.asked ↔ 1 ≤ r.cl ∧ r.cl ≤ 8 ∧ 1 ≤ r.tm ∧ r.tm ≤ 4611686018427387904 ∧ r.op.key.size ≤ 32 ∧ r.op.tow.size ≤ 32 ∧ r.op.val.size ≤ 128 ∧ r.op.old.size ≤ 128 := Iff.rfl
  obtain ⟨v, hv⟩ : ∃ v, decide r.asked = v := ⟨_, rfl⟩
  have hvv : v = true ↔ r.asked := by rw [← hv]; exact decide_eq_true_iff
  rw [hdef] at hvv
  rw [hL, hv]
  have HVV := Lib.hid hvv
  clear hv hvv hdef hX hL
  obtain ⟨cl, tm, ⟨kind, key, val, old, tow, amt⟩, tag⟩ := r
  simp only at c0 c1 c2 c3 c4 c5 c6 c7 HVV
  obtain ⟨w1, hw1⟩ : ∃ x, w.alloc (.cells L 44) = x := ⟨_, rfl⟩
  rw [hw1] at hb c0 c1 c2 c3 c4 c5 c6 c7
  go_enter Tryd.func25, Tryd.ntmps25
  go_upto_region 1 with (fail)
  try rw [hw1]
  clear hw1
  by_cases h0 : 1 ≤ cl
  · have z0 : (1 : Int) ≤ cl := by omega
    by_cases h1 : cl ≤ 8
    · have z1 : cl ≤ (8 : Int) := by omega
      by_cases h2 : 1 ≤ tm
      · have z2 : (1 : Int) ≤ (tm : Int) := by omega
        by_cases h3 : tm ≤ 4611686018427387904
        · have z3 : (tm : Int) ≤ 4611686018427387904 := by omega
          by_cases h4 : key.size ≤ 32
          · have z4 : (key.size : Int) ≤ 32 := by omega
            by_cases h5 : tow.size ≤ 32
            · have z5 : (tow.size : Int) ≤ 32 := by omega
              by_cases h6 : val.size ≤ 128
              · have z6 : (val.size : Int) ≤ 128 := by omega
                by_cases h7 : old.size ≤ 128
                · have z7 : (old.size : Int) ≤ 128 := by omega
                  obtain rfl : v = true := HVV.out.2 ⟨h0, h1, h2, h3, h4, h5, h6, h7⟩
                  clear HVV
                  go_wp2_with fail
                  go_ret
                  exact ⟨rfl, hb⟩
                · have z7 : ¬ (old.size : Int) ≤ 128 := by omega
                  have hq : v = false := by
                    cases v
                    · rfl
                    · exact absurd (HVV.out.1 rfl).2.2.2.2.2.2.2 h7
                  subst hq
                  clear HVV
                  go_wp2_with fail
                  go_ret
                  exact ⟨rfl, hb⟩
              · have z6 : ¬ (val.size : Int) ≤ 128 := by omega
                have hq : v = false := by
                  cases v
                  · rfl
                  · exact absurd (HVV.out.1 rfl).2.2.2.2.2.2.1 h6
                subst hq
                clear HVV
                go_wp2_with fail
                go_ret
                exact ⟨rfl, hb⟩
            · have z5 : ¬ (tow.size : Int) ≤ 32 := by omega
              have hq : v = false := by
                cases v
                · rfl
                · exact absurd (HVV.out.1 rfl).2.2.2.2.2.1 h5
              subst hq
              clear HVV
              go_wp2_with fail
              go_ret
              exact ⟨rfl, hb⟩
          · have z4 : ¬ (key.size : Int) ≤ 32 := by omega
            have hq : v = false := by
              cases v
              · rfl
              · exact absurd (HVV.out.1 rfl).2.2.2.2.1 h4
            subst hq
            clear HVV
            go_wp2_with fail
            go_ret
            exact ⟨rfl, hb⟩
        · have z3 : ¬ (tm : Int) ≤ 4611686018427387904 := by omega
          have hq : v = false := by
            cases v
            · rfl
            · exact absurd (HVV.out.1 rfl).2.2.2.1 h3
          subst hq
          clear HVV
          go_wp2_with fail
          go_ret
          exact ⟨rfl, hb⟩
      · have z2 : ¬ (1 : Int) ≤ (tm : Int) := by omega
        have hq : v = false := by
          cases v
          · rfl
          · exact absurd (HVV.out.1 rfl).2.2.1 h2
        subst hq
        clear HVV
        go_wp2_with fail
        go_ret
        exact ⟨rfl, hb⟩
    · have z1 : ¬ cl ≤ (8 : Int) := by omega
      have hq : v = false := by
        cases v
        · rfl
        · exact absurd (HVV.out.1 rfl).2.1 h1
      subst hq
      clear HVV
      go_wp2_with fail
      go_ret
      exact ⟨rfl, hb⟩
  · have z0 : ¬ (1 : Int) ≤ cl := by omega
    have hq : v = false := by
      cases v
      · rfl
      · exact absurd (HVV.out.1 rfl).1 h0
    subst hq
    clear HVV
    go_wp2_with fail
    go_ret
    exact ⟨rfl, hb⟩
set_option maxRecDepth 20000 in
set_option maxHeartbeats 4000000 in
theorem asked_any (w : World) (r : RqV) :
    Calls Tryd.prog 28 #[.agg r.c.toArray] w fun e w' => e = .returned (.bool (decide r.asked)) ∧ Below w.heap.size w w' := by
  have hX := Blk.new w 44 r.c.toArray
  have hb := below_alloc w (.cells r.c.toArray 44)
  obtain ⟨c0, c1, c2, c3, c4, c5, c6, c7⟩ := rq_cells hX
  obtain ⟨L, hL⟩ : ∃ L, r.c.toArray = L := ⟨_, rfl⟩
  rw [hL] at hb c0 c1 c2 c3 c4 c5 c6 c7
  have hdef : r.asked ↔ 1 ≤ r.cl ∧ r.cl ≤ 8 ∧ 1 ≤ r.tm ∧ r.tm ≤ 4611686018427387904 ∧ r.op.key.size ≤ 32 ∧ r.op.tow.size ≤ 32 ∧ r.op.val.size ≤ 128 ∧ r.op.old.size ≤ 128 := Iff.rfl
  obtain ⟨v, hv⟩ : ∃ v, decide r.asked = v := ⟨_, rfl⟩
  have hvv : v = true ↔ r.asked := by rw [← hv]; exact decide_eq_true_iff
  rw [hdef] at hvv
  rw [hL, hv]
  have HVV := Lib.hid hvv
  clear hv hvv hdef hX hL
  obtain ⟨cl, tm, ⟨kind, key, val, old, tow, amt⟩, tag⟩ := r
  simp only at c0 c1 c2 c3 c4 c5 c6 c7 HVV
  obtain ⟨w1, hw1⟩ : ∃ x, w.alloc (.cells L 44) = x := ⟨_, rfl⟩
  rw [hw1] at hb c0 c1 c2 c3 c4 c5 c6 c7
  go_enter Tryd.func28, Tryd.ntmps28
  go_upto_region 1 with (fail)
  try rw [hw1]
  clear hw1
  by_cases h0 : 1 ≤ cl
  · have z0 : (1 : Int) ≤ cl := by omega
    by_cases h1 : cl ≤ 8
    · have z1 : cl ≤ (8 : Int) := by omega
      by_cases h2 : 1 ≤ tm
      · have z2 : (1 : Int) ≤ (tm : Int) := by omega
        by_cases h3 : tm ≤ 4611686018427387904
        · have z3 : (tm : Int) ≤ 4611686018427387904 := by omega
          by_cases h4 : key.size ≤ 32
          · have z4 : (key.size : Int) ≤ 32 := by omega
            by_cases h5 : tow.size ≤ 32
            · have z5 : (tow.size : Int) ≤ 32 := by omega
              by_cases h6 : val.size ≤ 128
              · have z6 : (val.size : Int) ≤ 128 := by omega
                by_cases h7 : old.size ≤ 128
                · have z7 : (old.size : Int) ≤ 128 := by omega
                  obtain rfl : v = true := HVV.out.2 ⟨h0, h1, h2, h3, h4, h5, h6, h7⟩
                  clear HVV
                  by_cases q1 : key.size < tow.size
                  · by_cases q2 : val.size < old.size
                    all_goals
                      first
                      | (exfalso; omega)
                      | (try have y1 : ¬ (key.size : Int) ≤ 32 := by omega
                         try have y2 : ¬ (tow.size : Int) ≤ 32 := by omega
                         try have y3 : ¬ (val.size : Int) ≤ 128 := by omega
                         try have y4 : ¬ (old.size : Int) ≤ 128 := by omega
                         go_wp2_with fail
                         go_ret
                         exact ⟨rfl, hb⟩)
                  · by_cases q2 : val.size < old.size
                    all_goals
                      first
                      | (exfalso; omega)
                      | (try have y1 : ¬ (key.size : Int) ≤ 32 := by omega
                         try have y2 : ¬ (tow.size : Int) ≤ 32 := by omega
                         try have y3 : ¬ (val.size : Int) ≤ 128 := by omega
                         try have y4 : ¬ (old.size : Int) ≤ 128 := by omega
                         go_wp2_with fail
                         go_ret
                         exact ⟨rfl, hb⟩)
                · have z7 : ¬ (old.size : Int) ≤ 128 := by omega
                  have hq : v = false := by
                    cases v
                    · rfl
                    · exact absurd (HVV.out.1 rfl).2.2.2.2.2.2.2 h7
                  subst hq
                  clear HVV
                  by_cases q1 : key.size < tow.size
                  · by_cases q2 : val.size < old.size
                    all_goals
                      first
                      | (exfalso; omega)
                      | (try have y1 : ¬ (key.size : Int) ≤ 32 := by omega
                         try have y2 : ¬ (tow.size : Int) ≤ 32 := by omega
                         try have y3 : ¬ (val.size : Int) ≤ 128 := by omega
                         try have y4 : ¬ (old.size : Int) ≤ 128 := by omega
                         go_wp2_with fail
                         go_ret
                         exact ⟨rfl, hb⟩)
                  · by_cases q2 : val.size < old.size
                    all_goals
                      first
                      | (exfalso; omega)
                      | (try have y1 : ¬ (key.size : Int) ≤ 32 := by omega
                         try have y2 : ¬ (tow.size : Int) ≤ 32 := by omega
                         try have y3 : ¬ (val.size : Int) ≤ 128 := by omega
                         try have y4 : ¬ (old.size : Int) ≤ 128 := by omega
                         go_wp2_with fail
                         go_ret
                         exact ⟨rfl, hb⟩)
              · have z6 : ¬ (val.size : Int) ≤ 128 := by omega
                have hq : v = false := by
                  cases v
                  · rfl
                  · exact absurd (HVV.out.1 rfl).2.2.2.2.2.2.1 h6
                subst hq
                clear HVV
                by_cases q1 : key.size < tow.size
                · by_cases q2 : val.size < old.size
                  all_goals
                    first
                    | (exfalso; omega)
                    | (try have y1 : ¬ (key.size : Int) ≤ 32 := by omega
                       try have y2 : ¬ (tow.size : Int) ≤ 32 := by omega
                       try have y3 : ¬ (val.size : Int) ≤ 128 := by omega
                       try have y4 : ¬ (old.size : Int) ≤ 128 := by omega
                       go_wp2_with fail
                       go_ret
                       exact ⟨rfl, hb⟩)
                · by_cases q2 : val.size < old.size
                  all_goals
                    first
                    | (exfalso; omega)
                    | (try have y1 : ¬ (key.size : Int) ≤ 32 := by omega
                       try have y2 : ¬ (tow.size : Int) ≤ 32 := by omega
                       try have y3 : ¬ (val.size : Int) ≤ 128 := by omega
                       try have y4 : ¬ (old.size : Int) ≤ 128 := by omega
                       go_wp2_with fail
                       go_ret
                       exact ⟨rfl, hb⟩)
            · have z5 : ¬ (tow.size : Int) ≤ 32 := by omega
              have hq : v = false := by
                cases v
                · rfl
                · exact absurd (HVV.out.1 rfl).2.2.2.2.2.1 h5
              subst hq
              clear HVV
              by_cases q1 : key.size < tow.size
              · by_cases q2 : val.size < old.size
                all_goals
                  first
                  | (exfalso; omega)
                  | (try have y1 : ¬ (key.size : Int) ≤ 32 := by omega
                     try have y2 : ¬ (tow.size : Int) ≤ 32 := by omega
                     try have y3 : ¬ (val.size : Int) ≤ 128 := by omega
                     try have y4 : ¬ (old.size : Int) ≤ 128 := by omega
                     go_wp2_with fail
                     go_ret
                     exact ⟨rfl, hb⟩)
              · by_cases q2 : val.size < old.size
                all_goals
                  first
                  | (exfalso; omega)
                  | (try have y1 : ¬ (key.size : Int) ≤ 32 := by omega
                     try have y2 : ¬ (tow.size : Int) ≤ 32 := by omega
                     try have y3 : ¬ (val.size : Int) ≤ 128 := by omega
                     try have y4 : ¬ (old.size : Int) ≤ 128 := by omega
                     go_wp2_with fail
                     go_ret
                     exact ⟨rfl, hb⟩)
          · have z4 : ¬ (key.size : Int) ≤ 32 := by omega
            have hq : v = false := by
              cases v
              · rfl
              · exact absurd (HVV.out.1 rfl).2.2.2.2.1 h4
            subst hq
            clear HVV
            by_cases q1 : key.size < tow.size
            · by_cases q2 : val.size < old.size
              all_goals
                first
                | (exfalso; omega)
                | (try have y1 : ¬ (key.size : Int) ≤ 32 := by omega
                   try have y2 : ¬ (tow.size : Int) ≤ 32 := by omega
                   try have y3 : ¬ (val.size : Int) ≤ 128 := by omega
                   try have y4 : ¬ (old.size : Int) ≤ 128 := by omega
                   go_wp2_with fail
                   go_ret
                   exact ⟨rfl, hb⟩)
            · by_cases q2 : val.size < old.size
              all_goals
                first
                | (exfalso; omega)
                | (try have y1 : ¬ (key.size : Int) ≤ 32 := by omega
                   try have y2 : ¬ (tow.size : Int) ≤ 32 := by omega
                   try have y3 : ¬ (val.size : Int) ≤ 128 := by omega
                   try have y4 : ¬ (old.size : Int) ≤ 128 := by omega
                   go_wp2_with fail
                   go_ret
                   exact ⟨rfl, hb⟩)
        · have z3 : ¬ (tm : Int) ≤ 4611686018427387904 := by omega
          have hq : v = false := by
            cases v
            · rfl
            · exact absurd (HVV.out.1 rfl).2.2.2.1 h3
          subst hq
          clear HVV
          go_wp2_with fail
          go_ret
          exact ⟨rfl, hb⟩
      · have z2 : ¬ (1 : Int) ≤ (tm : Int) := by omega
        have hq : v = false := by
          cases v
          · rfl
          · exact absurd (HVV.out.1 rfl).2.2.1 h2
        subst hq
        clear HVV
        go_wp2_with fail
        go_ret
        exact ⟨rfl, hb⟩
    · have z1 : ¬ cl ≤ (8 : Int) := by omega
      have hq : v = false := by
        cases v
        · rfl
        · exact absurd (HVV.out.1 rfl).2.1 h1
      subst hq
      clear HVV
      go_wp2_with fail
      go_ret
      exact ⟨rfl, hb⟩
  · have z0 : ¬ (1 : Int) ≤ cl := by omega
    have hq : v = false := by
      cases v
      · rfl
      · exact absurd (HVV.out.1 rfl).1 h0
    subst hq
    clear HVV
    go_wp2_with fail
    go_ret
    exact ⟨rfl, hb⟩
end Go.Proofs.YtbbcofpdfkhljaaDoor
