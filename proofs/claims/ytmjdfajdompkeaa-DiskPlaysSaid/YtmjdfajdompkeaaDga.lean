/- disk: the contracts by the pointer's own number; what stands beside a disk. -/
import Derived.Test.YtmjdfajdompkeaaDh
namespace Go.Proofs.Ytmjdfajdompkeaa
open Go.RowKit Go.Rat
theorem bytes_lit (w : World) (c : UInt8) (k : Int) (hk : (c.toNat : Int) = k) : Calls Try.prog 22 #[.int .u8 k] w fun e w' => e = .returned (.agg (bvs (rep c)).toArray) ∧ Below w.heap.size w w' := by
  subst hk
  exact bytes_any w c
/-- What a disk's move leaves of what was there before the disk. -/
theorem below_moved {w a b : World} {l l' : DL} {d : DS} {base : Nat} (h : Below w.heap.size w a) (hw : w.heap.size ≤ base) (hD : DiskAt a base l d) (hm : Moved a b l l') : Below w.heap.size w b :=
  h.trans (hm.chg.below (fun _ hx => Nat.le_trans hw (hD.fp_lt hx).1) h.size)
/-- A block beside the disk. -/
def Out (w : World) (l : DL) (g : Nat) (T : TypeId) (cs : Array Value) : Prop := Blk w g T cs ∧ ¬ l.fp g
section
variable {w w' : World} {base : Nat} {l l' : DL} {d : DS} {g : Nat} {T : TypeId} {cs : Array Value}
theorem Out.below (h : Out w l g T cs) (hb : Below w.heap.size w w') : Out w' l g T cs := ⟨h.1.below hb h.1.lt, h.2⟩
theorem Out.moved (h : Out w l g T cs) (hm : Moved w w' l l') : Out w' l' g T cs := ⟨hm.chg.blk h.1 h.2, fun hx => by
  rcases hm.fp g hx with h1 | h1
  · exact h.2 h1
  · have := h.1.lt
    omega⟩
theorem Out.new (hD : DiskAt w base l d) {z : World} (hB : Blk z w.heap.size T cs) : Out z l w.heap.size T cs := ⟨hB, fun hx => by have := (hD.fp_lt hx).2; omega⟩
/-- A slice beside the disk. -/
structure OutR (w : World) (l : DL) (A : Option Addr) (n : Nat) (xs : List UInt8) : Prop where
  r : RB w A n xs
  out : ∀ x, A.map (·.block) = some x → ¬ l.fp x
  lt : ∀ x, A.map (·.block) = some x → x < w.heap.size
theorem OutR.below {A : Option Addr} {n : Nat} {xs : List UInt8} (h : OutR w l A n xs) (hb : Below w.heap.size w w') : OutR w' l A n xs := ⟨h.r.below hb, h.out, fun x hx => Nat.lt_of_lt_of_le (h.lt x hx) hb.size⟩
theorem OutR.moved {A : Option Addr} {n : Nat} {xs : List UInt8} (h : OutR w l A n xs) (hm : Moved w w' l l') : OutR w' l' A n xs :=
  ⟨hm.chg.rb h.r h.out, fun x hx hf => by
    rcases hm.fp x hf with h1 | h1
    · exact h.out x hx h1
    · have := h.lt x hx
      omega, fun x hx => Nat.lt_of_lt_of_le (h.lt x hx) hm.chg.size⟩
theorem OutR.below_base {A : Option Addr} {n : Nat} {xs : List UInt8} (hD : DiskAt w base l d) (hr : RB w A n xs) (hlt : ∀ x, A.map (·.block) = some x → x < base) (hb : base ≤ w.heap.size) : OutR w l A n xs :=
  ⟨hr, fun x hx hf => by have := (hD.fp_lt hf).1; have := hlt x hx; omega, fun x hx => by have := hlt x hx; omega⟩
theorem one_out (hD : DiskAt w base l d) : ∀ x, (some (⟨w.heap.size, 0, none⟩ : Addr)).map (·.block) = some x → ¬ l.fp x := fun x hx hf => by
  have h1 := (hD.fp_lt hf).2
  have h2 : w.heap.size = x := by simpa using hx
  omega
end
section
variable (w : World) (base : Nat) (g : Nat) (l : DL) (d : DS) (h : DiskAt w base l d) (hg : l.g = g)
include h hg
theorem gpower : Calls Try.prog 36 #[.pointer (some ⟨g, 0, none⟩)] w fun e w' => e = .returned (.bool (!d.off)) ∧ w = w' := by subst hg; exact dpower_any w base l d h
theorem gloose : Calls Try.prog 27 #[.pointer (some ⟨g, 0, none⟩)] w fun e w' => e = .returned (.int .i64 (d.loose.length : Int)) ∧ w = w' := by subst hg; exact dloose_any w base l d h
theorem gread (a : Int) : Calls Try.prog 26 #[.pointer (some ⟨g, 0, none⟩), .int .i64 a] w fun e w' => e = .returned (.tuple #[.agg (bvs (readB d a)).toArray, .int .i64 (readE d a)]) ∧ Below w.heap.size w w' := by subst hg; exact dread_any w base l d h a
theorem goff : Calls Try.prog 24 #[.pointer (some ⟨g, 0, none⟩)] w fun e w' => ∃ l', e = .returned (.tuple #[]) ∧ l'.g = g ∧ DiskAt w' base l' (offD d) ∧ Moved w w' l l' := by
  subst hg
  refine (doff_any w base l d h).mono ?_
  rintro e w' ⟨h1, h2, h3⟩
  exact ⟨l, h1, rfl, h2, Moved.of_grown h3⟩
theorem gfuse (n : Int) (hn : n ≤ 9223372036854775807) : Calls Try.prog 33 #[.pointer (some ⟨g, 0, none⟩), .int .i64 n] w fun e w' => ∃ l', e = .returned (.tuple #[]) ∧ l'.g = g ∧ DiskAt w' base l' (fuseD d n) ∧ Moved w w' l l' := by
  subst hg
  refine (dfuse_any w base l d h n hn).mono ?_
  rintro e w' ⟨h1, h2, h3⟩
  exact ⟨l, h1, rfl, h2, Moved.of_grown h3⟩
theorem gwrite (hbase : base ≤ w.heap.size) (a : Int) (b : List UInt8) (hb : b.length = 128) (hlo : d.loose.length < 1000000000) : Calls Try.prog 21 #[.pointer (some ⟨g, 0, none⟩), .int .i64 a, .agg (bvs b).toArray] w fun e w' => ∃ l', e = .returned (.int .i64 (writeE d a)) ∧ l'.g = g ∧ DiskAt w' base l' (writeD d a b) ∧ Moved w w' l l' := by
  subst hg
  refine (dwrite_any w base l d h hbase a b hb hlo).mono ?_
  rintro e w' ⟨l', h1, h2, h3⟩
  exact ⟨l', h1, congrArg Prod.fst h3.g, h2, h3⟩
theorem gsync : Calls Try.prog 23 #[.pointer (some ⟨g, 0, none⟩)] w fun e w' => ∃ l', e = .returned (.int .i64 (syncE d)) ∧ l'.g = g ∧ DiskAt w' base l' (syncAll d) ∧ Moved w w' l l' := by
  subst hg
  refine (dsync_any w base l d h).mono ?_
  rintro e w' ⟨l', h1, h2, h3⟩
  exact ⟨l', h1, congrArg Prod.fst h3.g, h2, h3⟩
theorem gonN (A' : Option Addr) (m c' : Nat) (ps : List UInt8) (hr : RB w A' m ps) (hap : m ≠ 0 → ∀ x, A'.map (·.block) = some x → ¬ l.fp x) : Calls Try.prog 25 #[.pointer (some ⟨g, 0, none⟩), .slice A' m c'] w fun e w' => ∃ l', e = .returned (.int .i64 (onE d)) ∧ l'.g = g ∧ DiskAt w' base l' (onAll d ps) ∧ Moved w w' l l' := by
  subst hg
  refine (don_any w base l d h A' m c' ps hr hap).mono ?_
  rintro e w' ⟨l', h1, h2, h3⟩
  exact ⟨l', h1, congrArg Prod.fst h3.g, h2, h3⟩
theorem gon (A' : Option Addr) (m c' : Nat) (ps : List UInt8) (hr : RB w A' m ps) (hap : ∀ x, A'.map (·.block) = some x → ¬ l.fp x) : Calls Try.prog 25 #[.pointer (some ⟨g, 0, none⟩), .slice A' m c'] w fun e w' => ∃ l', e = .returned (.int .i64 (onE d)) ∧ l'.g = g ∧ DiskAt w' base l' (onAll d ps) ∧ Moved w w' l l' := by
  subst hg
  refine (don_any w base l d h A' m c' ps hr (fun _ => hap)).mono ?_
  rintro e w' ⟨l', h1, h2, h3⟩
  exact ⟨l', h1, congrArg Prod.fst h3.g, h2, h3⟩
end
def wd1 : DS := writeD ds0 3 (rep 1)
def wd2 : DS := offD wd1
def wd3 : DS := onAll wd2 []
def wd4 : DS := writeD wd3 3 (rep 1)
def wd5 : DS := syncAll wd4
def wd6 : DS := offD wd5
def wd7 : DS := onAll wd6 [0]
def wd8 : DS := writeD wd7 3 (rep 2)
def wd9 : DS := offD wd8
def wd10 : DS := onAll wd9 [2]
theorem wd_facts : (writeE ds0 3 = 0 ∧ onE wd2 = 0 ∧ readB wd3 3 = zs ∧ readE wd3 3 = 0) ∧ (writeE wd3 3 = 0 ∧ syncE wd4 = 0 ∧ onE wd6 = 0 ∧ readB wd7 3 = rep 1 ∧ readE wd7 3 = 0) ∧ (writeE wd7 3 = 0 ∧ onE wd9 = 0 ∧ readE wd10 3 = 9) := by decide +kernel
theorem wd_len : ds0.loose.length = 0 ∧ wd3.loose.length = 0 ∧ wd7.loose.length = 0 := by decide +kernel
theorem onAll_ok {d : DS} (h : DOk d) (ps : List UInt8) : DOk (onAll d ps) := by
  unfold onAll
  split
  · exact onD_ok h ps
  · exact h
theorem burnD_ok {d : DS} (h : DOk d) : DOk (burnD d) := by
  have := h.fuse
  unfold burnD
  split
  · exact ⟨h.sure, h.now, h.loose, by simp [offD]⟩
  · split
    · exact ⟨h.sure, h.now, h.loose, by simp only; omega⟩
    · exact h
theorem offD_ok {d : DS} (h : DOk d) : DOk (offD d) := ⟨h.sure, h.now, h.loose, by simp [offD]⟩
theorem writeD_ok {d : DS} (h : DOk d) (a : Int) {b : List UInt8} (hb : b.length = 128) : DOk (writeD d a b) := by
  unfold writeD
  split
  · next hr => exact burnD_ok (putD_ok h (readyE_zero hr).2 hb)
  · exact h
theorem syncAll_ok {d : DS} (h : DOk d) : DOk (syncAll d) := by
  unfold syncAll
  split
  · exact h
  · split
    · exact burnD_ok h
    · exact syncD_ok (burnD_ok h)
theorem wd9_ok : DOk wd9 := offD_ok (writeD_ok (onAll_ok (offD_ok (syncAll_ok (writeD_ok (onAll_ok (offD_ok (writeD_ok ds0_ok 3 (rep_length 1))) []) 3 (rep_length 1)))) [0]) 3 (rep_length 2))
theorem below_base {w a b : World} {base : Nat} (h : Below w.heap.size w a ∧ base ≤ a.heap.size) (k : Below a.heap.size a b) : Below w.heap.size w b ∧ base ≤ b.heap.size := ⟨below_next' h.1 k, Nat.le_trans h.2 k.size⟩
theorem base_moved {w a b : World} {l l' : DL} {d : DS} {base : Nat} (h : Below w.heap.size w a ∧ base ≤ a.heap.size) (hw : w.heap.size ≤ base) (hD : DiskAt a base l d) (hm : Moved a b l l') : Below w.heap.size w b ∧ base ≤ b.heap.size :=
  ⟨below_moved h.1 hw hD hm, Nat.le_trans h.2 hm.chg.size⟩
end Go.Proofs.Ytmjdfajdompkeaa
