/- cell: the iterator of a slot's sectors. -/
import Derived.Test.YtmjdfajdompkeaaAz
import Derived.Test.YtmjdfajdompkeaaCc
import Derived.Test.YtmjdfajdompkeaaOcu
import Derived.Test.YtmjdfajdompkeaaIr
namespace Go.Proofs.Ytmjdfajdompkeaa
open Go.RowKit Go.Rat
/-- What the iterator holds. -/
structure Secs (w : World) (gc ga gb : Nat) (c : Nat) (xs : List UInt8) : Prop where
  cnt : Blk w gc 90 #[.int .u64 (c : Int)]
  hdr : ∃ cap, Blk w ga 22 #[.slice (some ⟨gb, 0, none⟩) 1200 cap] ∧ 1200 ≤ cap ∧ cap ≤ 9223372036854775807
  row : RB w (some ⟨gb, 0, none⟩) 1200 xs
set_option maxHeartbeats 1000000 in
theorem sectors_any (w : World) (c : Nat) (A : Option Addr) (n cap : Nat) (xs : List UInt8) (hr : RB w A n xs) (hn : n ≤ 1100) :
    Calls Try.prog 91 #[.int .u64 (c : Int), .slice A n cap] w fun e w' => ∃ gc ga gb, e = .returned (.func (.func 104) #[] #[.pointer (some ⟨gc, 0, none⟩), .pointer (some ⟨ga, 0, none⟩)]) ∧
      Secs w' gc ga gb c (allB xs) ∧ w.heap.size ≤ gc ∧ w.heap.size ≤ ga ∧ w.heap.size ≤ gb ∧ gb < w'.heap.size ∧ Below w.heap.size w w' := by
  have hxl := hr.len
  go_enter Try.func91, Try.ntmps91
  go_wp2_with fail
  have hX := Blk.new w 90 #[.int .u64 (c : Int)]
  have hb1 := below_alloc w (.cells #[.int .u64 (c : Int)] 90)
  obtain ⟨w1, hw1⟩ : ∃ x, w.alloc (.cells #[.int .u64 (c : Int)] 90) = x := ⟨_, rfl⟩
  rw [hw1] at hX hb1 ⊢
  have hr1 := hr.below hb1
  have hgc : w.heap.size < w1.heap.size := hX.lt
  clear hw1
  refine (half_any _ none 0 0 [] n (RB.nil_ _ _) (by omega) (by omega)).mono ?_
  rintro e w2 ⟨A2, N2, c2, rfl, hO2, hb2⟩
  rw [List.nil_append] at hO2
  have hN2 := hO2.len
  rw [be_length] at hN2
  subst hN2
  have hr2 := hr1.below hb2
  have hX2 := hX.below hb2 hX.lt
  simp only []
  go_upto_region 2 with (at_builtin; refine app_bytes rfl _ _ rfl w1.heap.size A2 2 c2 (be 2 n) rfl hO2 A n cap xs rfl hr2 (by omega) hb2.size ?_; intro A3 N3 c3 w3 hc3 hc3' hO3 hG3)
  have hN3 := hO3.len
  rw [List.length_append, be_length, hxl] at hN3
  subst hN3
  have hb3 : Below w1.heap.size w1 w3 := hG3.own hb2 (Nat.le_refl _) hO2
  have hX3 := hX.below hb3 hX.lt
  have hO4 := hO3.alloc (.cells #[.slice A3 (2 + n) c3] 22)
  have hX4 := hX3.alloc (.cells #[.slice A3 (2 + n) c3] 22)
  have hH4 := Blk.new w3 22 #[.slice A3 (2 + n) c3]
  have hb4 := below_alloc2 hb3 (Nat.le_refl _) (.cells #[.slice A3 (2 + n) c3] 22)
  have hga : w1.heap.size ≤ w3.heap.size := hb3.size
  have hAlt : ∀ k, A3.map (·.block) = some k → k < w3.heap.size := fun k hk => (hO3.ge k hk).2
  obtain ⟨w4, hw4⟩ : ∃ x, w3.alloc (.cells #[.slice A3 (2 + n) c3] 22) = x := ⟨_, rfl⟩
  rw [hw4] at hO4 hX4 hH4 hb4 ⊢
  obtain ⟨ga, hgae⟩ : ∃ x, w3.heap.size = x := ⟨_, rfl⟩
  rw [hgae] at hH4 hga hAlt ⊢
  clear hX2 hX3 hO3 hO2 hG3 hb2 hb3 hr1 hr2 hw4 hgae hX
  have h0 := hH4.cell 0
  have f0 := hH4.frozen 0
  simp only [List.getElem?_toArray, List.getElem?_cons_zero] at h0
  have hk0 : 0 < 1198 - n := by omega
  have hbyt : 2 + n + (1198 - n) ≤ 140737488355328 := by omega
  go_wp2_with (at_builtin; refine app_noughts rfl _ _ rfl w1.heap.size A3 (2 + n) c3 (be 2 n ++ xs) rfl hO4 (1198 - n) (congrArg (Value.int .i64) (by omega)) hk0 hbyt hb4.size ?_; intro A5 N5 c5 w5 hc5 hc5' hO5 hG5; refine Hid.out ?_)
  refine Lib.hid ?_
  have hN5 := hO5.len
  have hall : be 2 n ++ xs ++ List.replicate (1198 - n) 0 = allB xs := by rw [allB, hxl]
  rw [hall, allB_length (by omega)] at hN5
  subst hN5
  rw [hall] at hO5
  have hgaw : ga < w4.heap.size := hH4.lt
  obtain ⟨gb, rfl⟩ : ∃ gb, A5 = some ⟨gb, 0, none⟩ := by
    rcases hO5.2 with ⟨h, _⟩ | ⟨g, cap, cur, hv, _⟩
    · injection h with h1 h2 h3
      cases h2
    · injection hv with h3 h4 h5
      exact ⟨g, h3⟩
  have hgab : gb ≠ ga := by
    intro e
    rcases hG5.lies with h | ⟨k, h, hk1, hk2⟩
    · have := hAlt gb (by rw [← h]; rfl)
      omega
    · have h : gb = k := Option.some.inj h
      omega
  have hgbx := hO5.ge gb rfl
  have hb5 : Below w1.heap.size w1 w5 := hG5.own hb4 (Nat.le_refl _) hO4
  have hX5 : Blk w5 w.heap.size 90 #[.int .u64 (c : Int)] := hX4.grown hG5.grown (fun e => by have := (hO4.ge _ e.symm).1; omega)
  have hH5 : Blk w5 ga 22 #[.slice A3 (2 + n) c3] := hH4.grown hG5.grown (fun e => by have := hAlt _ e.symm; omega)
  have hR5 := hO5.reads
  have h0 := hH5.cell 0
  have f0 := hH5.frozen 0
  simp only [List.getElem?_toArray, List.getElem?_cons_zero] at h0
  have hH6 := hH5.set_ 0 (.slice (some ⟨gb, 0, none⟩) 1200 c5)
  have hgs := grownBy_set w5 ga 0 (.slice (some ⟨gb, 0, none⟩) 1200 c5)
  have hX6 := hX5.grown hgs (fun e => by injection e with e; omega)
  have hR6 := hR5.grown hgs (.inl (fun e => by injection e with e; exact hgab e))
  have hb6 : Below w1.heap.size w1 (w5.setCell ⟨ga, 0, none⟩ (.slice (some ⟨gb, 0, none⟩) 1200 c5)) := hb5.grown hgs hb5.size (fun k e => by cases e; exact hga)
  have hgb6 : gb < (w5.setCell ⟨ga, 0, none⟩ (.slice (some ⟨gb, 0, none⟩) 1200 c5)).heap.size := by have := hgs.size; omega
  have hwga : w.heap.size ≤ ga := by omega
  have hwgb : w.heap.size ≤ gb := by omega
  clear hX4 hH4 hO4 hG5 hAlt hX5 hH5 hR5 hO5 hb4 hb5 hgs
  go_wp2_with fail
  go_ret
  exact ⟨_, ga, gb, rfl, ⟨hX6, ⟨c5, hH6, hc5, hc5'⟩, hR6⟩, Nat.le_refl _, hwga, hwgb, hgb6, hb1.trans (hb6.mono (by omega))⟩
end Go.Proofs.Ytmjdfajdompkeaa
