/- ref01, octet: Text. -/
import Derived.Test.YtbbcofpdfkhljaaDoorNa
namespace Go.Proofs.YtbbcofpdfkhljaaDoor
open Go.RowKit Go.Rat
set_option maxHeartbeats 400000 in
theorem rhalf_any (w : World) (A : Option Addr) (n c : Nat) (xs : List UInt8) (x : Nat) (hr : RB w A n xs) (hn : n ≤ 140737487000000) (hx : x < 2 ^ 16) :
    Calls Tryd.prog 51 #[.slice A n c, .int .u16 x] w fun e w' => ∃ A' N' c', e = .returned (.slice A' N' c') ∧ OB 5 w' w.heap.size A' N' c' (xs ++ be 2 x) ∧ Below w.heap.size w w' := by
  go_enter Tryd.func51, Tryd.ntmps51
  go_wp2_with (go_at_call 50; refine (rput_any _ A n c xs x 2 hr hn (by omega) (by omega)).mono ?_; rintro e w1 ⟨A1, N1, c1, rfl, hO1, hb1⟩)
  go_ret
  exact ⟨A1, N1, c1, rfl, hO1, hb1⟩
/-- A text as bytes: how many, and they. -/
def textB (s : ByteArray) : List UInt8 := be 2 s.size ++ s.data.toList
set_option maxHeartbeats 400000 in
theorem text_any (w : World) (A : Option Addr) (n c : Nat) (xs : List UInt8) (s : ByteArray) (hr : RB w A n xs) (hn : n ≤ 140737480000000) (hs : s.size ≤ 65535) :
    Calls Tryd.prog 47 #[.slice A n c, .string s] w fun e w' => ∃ A' N' c', e = .returned (.tuple #[.slice A' N' c', .int .i64 0]) ∧ OB 5 w' w.heap.size A' N' c' (xs ++ textB s) ∧ Below w.heap.size w w' := by
  have hl := hr.len
  have hd : decide ((65536 : Int) ≤ (s.size : Int)) = false := by simp; omega
  have HS := Lib.hid hs
  have HW := Lib.hid (IntWalk.u16_in (s.size : Int) ⟨by omega, by omega⟩)
  clear hs
  go_enter Tryd.func47, Tryd.ntmps47
  go_wp2_with (first | (go_at_call 57; rw [HW.out]; refine (half_any w A n c xs s.size hr (by omega) (by have := HS.out; omega)).mono ?_; rintro e w1 ⟨A1, N1, c1, rfl, hO1, hb1⟩) | (at_builtin; refine app_str rfl _ _ rfl w.heap.size _ _ _ _ rfl hO1 _ rfl (by have h1 := hO1.len; simp [be_length] at h1; have h2 := HS.out; omega) hb1.size ?_; intro A2 N2 c2 w2 hc2 hc3 hO2 hg2))
  go_ret2
  exact ⟨A2, N2, c2, rfl, by simpa [textB] using hO2, hb1.grown hg2 hb1.size (fun g hg => (hO1.ge g hg).1)⟩
set_option maxHeartbeats 400000 in
theorem rtext_any (w : World) (A : Option Addr) (n c : Nat) (xs : List UInt8) (s : ByteArray) (hr : RB w A n xs) (hn : n ≤ 140737480000000) (hs : s.size ≤ 65535) :
    Calls Tryd.prog 42 #[.slice A n c, .string s] w fun e w' => ∃ A' N' c', e = .returned (.tuple #[.slice A' N' c', .int .i64 0]) ∧ OB 5 w' w.heap.size A' N' c' (xs ++ textB s) ∧ Below w.heap.size w w' := by
  have hl := hr.len
  have hd : decide ((65535 : Int) < (s.size : Int)) = false := by simp; omega
  have HS := Lib.hid hs
  have HW := Lib.hid (IntWalk.u16_in (s.size : Int) ⟨by omega, by omega⟩)
  clear hs
  go_enter Tryd.func42, Tryd.ntmps42
  go_wp2_with (first | (go_at_call 51; rw [HW.out]; refine (rhalf_any w A n c xs s.size hr (by omega) (by have := HS.out; omega)).mono ?_; rintro e w1 ⟨A1, N1, c1, rfl, hO1, hb1⟩) | (at_builtin; refine app_str rfl _ _ rfl w.heap.size _ _ _ _ rfl hO1 _ rfl (by have h1 := hO1.len; simp [be_length] at h1; have h2 := HS.out; omega) hb1.size ?_; intro A2 N2 c2 w2 hc2 hc3 hO2 hg2))
  go_ret2
  exact ⟨A2, N2, c2, rfl, by simpa [textB] using hO2, hb1.grown hg2 hb1.size (fun g hg => (hO1.ge g hg).1)⟩
/-- From w to w': new blocks; of the old ones only those of F may have turned. -/
structure Chg (F : Nat → Prop) (w w' : World) : Prop where
  os : w'.os = w.os
  tape : w'.tape = w.tape
  output : w'.output = w.output
  size : w.heap.size ≤ w'.heap.size
  block : ∀ k, k < w.heap.size → ¬ F k → w'.heap[k]? = w.heap[k]?
section
variable {F G : Nat → Prop} {w w' w'' : World}
theorem Chg.refl (F : Nat → Prop) (w : World) : Chg F w w := ⟨rfl, rfl, rfl, Nat.le_refl _, fun _ _ _ => rfl⟩
theorem Chg.trans (h : Chg F w w') (k : Chg G w' w'') (hG : ∀ x, G x → F x ∨ w.heap.size ≤ x) : Chg F w w'' :=
  ⟨k.os.trans h.os, k.tape.trans h.tape, k.output.trans h.output, Nat.le_trans h.size k.size, fun x hx hF => (k.block x (Nat.lt_of_lt_of_le hx h.size) (fun hg => by
    rcases hG x hg with h1 | h1
    · exact hF h1
    · omega)).trans (h.block x hx hF)⟩
theorem Chg.mono (h : Chg F w w') (hG : ∀ x, F x → G x) : Chg G w w' := ⟨h.os, h.tape, h.output, h.size, fun x hx hF => h.block x hx (fun hf => hF (hG x hf))⟩
theorem Chg.of_grown {g : Nat} (h : w.grownBy w' (some g)) (hg : F g) : Chg F w w' := ⟨h.os, h.tape, h.output, h.size, fun x hx hF => h.block x hx (fun e => hF (by cases e; exact hg))⟩
theorem Chg.of_grown' {row : Option Nat} (h : w.grownBy w' row) (hg : ∀ g, row = some g → F g) : Chg F w w' := ⟨h.os, h.tape, h.output, h.size, fun x hx hF => h.block x hx (fun e => hF (hg x e.symm))⟩
theorem Chg.of_below (F : Nat → Prop) (h : Below w.heap.size w w') : Chg F w w' := ⟨h.os, h.tape, h.output, h.size, fun x hx _ => h.block x hx⟩
theorem Chg.below {B : Nat} (h : Chg F w w') (hF : ∀ x, F x → B ≤ x) (hB : B ≤ w.heap.size) : Below B w w' := ⟨h.os, h.tape, h.output, h.size, fun x hx => h.block x (by omega) (fun hf => by have := hF x hf; omega)⟩
theorem Chg.blk {g : Nat} {T : TypeId} {cs : Array Value} (h : Chg F w w') (hB : Blk w g T cs) (hg : ¬ F g) : Blk w' g T cs := (h.block g hB.lt hg).trans hB
theorem Chg.own {base size n c : Nat} {e : TypeId} {A : Option Addr} {xs : List Value} (h : Chg F w w') (hO : w.ownsRow base e size (.slice A n c) n xs) (hg : ∀ x, A.map (·.block) = some x → ¬ F x) : w'.ownsRow base e size (.slice A n c) n xs := by
  refine ⟨hO.1, ?_⟩
  rcases hO.2 with h1 | ⟨g, cap, cur, hv, hb, hgg, rest⟩
  · exact .inl h1
  · refine .inr ⟨g, cap, cur, hv, hb, ?_, rest⟩
    injection hv with h3 h4 h5
    subst h3
    rw [h.block g (Array.getElem?_eq_some_iff.1 hgg).1 (hg g rfl)]
    exact hgg
theorem Chg.rb {A : Option Addr} {n : Nat} {xs : List UInt8} (h : Chg F w w') (hr : RB w A n xs) (hg : ∀ x, A.map (·.block) = some x → ¬ F x) : RB w' A n xs := by
  refine ⟨hr.1, fun hn => ?_⟩
  obtain ⟨ad, rfl, hb, hc⟩ := hr.2 hn
  refine ⟨ad, rfl, Nat.lt_of_lt_of_le hb h.size, fun j u hu => ?_⟩
  rw [World.cell?_of_block (w := w) (h.block _ (by rw [block_of_add]; exact hb) (by rw [block_of_add]; exact hg _ rfl))]
  exact hc j u hu
end
theorem below_next' {a b c : World} (h : Below a.heap.size a b) (k : Below b.heap.size b c) : Below a.heap.size a c := h.trans (k.mono h.size)
theorem OB.below {w w' : World} {base n c : Nat} {e : TypeId} {A : Option Addr} {xs : List UInt8} (h : OB e w base A n c xs) (hb : Below w.heap.size w w') : OB e w' base A n c xs := OB.grown h (grownBy_of_below hb none) (.inr rfl)
end Go.Proofs.YtbbcofpdfkhljaaDoor
