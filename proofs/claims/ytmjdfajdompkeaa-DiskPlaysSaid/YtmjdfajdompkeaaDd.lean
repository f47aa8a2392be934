/- disk: Sync, On: what they come to. -/
import Derived.Test.YtmjdfajdompkeaaDca
namespace Go.Proofs.Ytmjdfajdompkeaa
open Go.RowKit Go.Rat
def upd (f : Int → Sec) (a : Int) (s : Sec) : Int → Sec := fun x => if x = a then s else f x
/-- What Sync makes sure: of each loose write's sector what is there now. -/
def syncF (now : Int → Sec) : List (Int × List UInt8) → (Int → Sec) → (Int → Sec)
  | [], f => f
  | x :: r, f => syncF now r (upd f x.1 (now x.1))
def syncD (d : DS) : DS := { d with sure := syncF d.now d.loose d.sure, loose := [] }
/-- What is picked of a loose write: 0 nothing, 1 and 3 itself, 2 lost. -/
def pickF (f : Int → Sec) (x : Int × List UInt8) (p : Nat) : Int → Sec :=
  if p % 4 = 0 then f else if p % 4 = 2 then upd f x.1 ⟨zs, true⟩ else upd f x.1 ⟨x.2, false⟩
def picksF : List (Int × List UInt8) → Nat → List UInt8 → (Int → Sec) → (Int → Sec)
  | [], _, _, f => f
  | x :: r, i, ps, f => picksF r (i + 1) ps (pickF f x (ps.getD i 0).toNat)
def onD (d : DS) (ps : List UInt8) : DS :=
  { d with sure := picksF d.loose 0 ps d.sure, now := syncF (picksF d.loose 0 ps d.sure) d.loose d.now, loose := [], off := false, fuse := -1 }
theorem syncF_snoc (now : Int → Sec) (l : List (Int × List UInt8)) (x : Int × List UInt8) : ∀ f, syncF now (l ++ [x]) f = upd (syncF now l f) x.1 (now x.1) := by
  induction l with
  | nil => intro f; rfl
  | cons y l ih => intro f; exact ih _
theorem picksF_snoc (l : List (Int × List UInt8)) (x : Int × List UInt8) (ps : List UInt8) : ∀ i f, picksF (l ++ [x]) i ps f = pickF (picksF l i ps f) x (ps.getD (i + l.length) 0).toNat := by
  induction l with
  | nil => intro i f; rfl
  | cons y l ih =>
    intro i f
    simp only [List.cons_append, picksF, ih, List.length_cons]
    rw [show i + 1 + l.length = i + (l.length + 1) by omega]
theorem upd_len {f : Int → Sec} (h : ∀ a, (f a).b.length = 128) {s : Sec} (hs : s.b.length = 128) (a : Int) : ∀ x, (upd f a s x).b.length = 128 := by
  intro x
  unfold upd
  split
  · exact hs
  · exact h x
theorem syncF_len {now : Int → Sec} (hn : ∀ a, (now a).b.length = 128) (l : List (Int × List UInt8)) : ∀ f : Int → Sec, (∀ a, (f a).b.length = 128) → ∀ x, (syncF now l f x).b.length = 128 := by
  induction l with
  | nil => intro f h; exact h
  | cons y l ih => intro f h; exact ih _ (upd_len h (hn _) _)
theorem pickF_len {f : Int → Sec} (h : ∀ a, (f a).b.length = 128) {x : Int × List UInt8} (hx : x.2.length = 128) (p : Nat) : ∀ a, (pickF f x p a).b.length = 128 := by
  unfold pickF
  split
  · exact h
  · split
    · exact upd_len h zs_length _
    · exact upd_len h hx _
theorem picksF_len (l : List (Int × List UInt8)) (ps : List UInt8) : (∀ x ∈ l, x.2.length = 128) → ∀ i (f : Int → Sec), (∀ a, (f a).b.length = 128) → ∀ x, (picksF l i ps f x).b.length = 128 := by
  induction l with
  | nil => intro _ i f h; exact h
  | cons y l ih => intro hl i f h; exact ih (fun x hx => hl x (by simp [hx])) _ _ (pickF_len h (hl y (by simp)) _)
theorem syncD_ok {d : DS} (h : DOk d) : DOk (syncD d) := ⟨syncF_len h.now _ _ h.sure, h.now, by simp [syncD], h.fuse⟩
theorem onD_ok {d : DS} (h : DOk d) (ps : List UInt8) : DOk (onD d ps) :=
  ⟨picksF_len _ _ (fun x hx => (h.loose x hx).2) _ _ h.sure, syncF_len (picksF_len _ _ (fun x hx => (h.loose x hx).2) _ _ h.sure) _ _ h.now, by simp [onD], by simp [onD]⟩
/-- The cells of the k-th loose write. -/
theorem looseC_at (l : List (Int × List UInt8)) (hl : ∀ x ∈ l, x.2.length = 128) : ∀ k, (hk : k < l.length) → ((looseC l).drop (k * 129)).take 129 = .int .i64 l[k].1 :: bvs l[k].2 := by
  induction l with
  | nil => intro k hk; simp at hk
  | cons x l ih =>
    intro k hk
    have hx : (Value.int .i64 x.1 :: bvs x.2).length = 129 := by rw [List.length_cons, bvs_length, hl x (by simp)]
    have hc : looseC (x :: l) = (.int .i64 x.1 :: bvs x.2) ++ looseC l := by simp [looseC]
    cases k with
    | zero => rw [hc, Nat.zero_mul, List.drop_zero, ← hx, List.take_left]; rfl
    | succ k =>
      rw [hc, show (k + 1) * 129 = (Value.int .i64 x.1 :: bvs x.2).length + k * 129 by rw [hx]; omega, List.drop_append]
      rw [List.drop_of_length_le (by omega), List.nil_append, Nat.add_sub_cancel_left]
      exact ih (fun x hx => hl x (by simp [hx])) k (by simpa using hk)
section
variable {w w' : World} {base : Nat} {l : DL} {d : DS}
theorem DiskAt.setSure (h : DiskAt w base l d) (hg : w.grownBy w' (some l.gs)) {f : Int → Sec} (hM : MapV (secV zsec) w' l.gs (fun a => secV (f a))) (hf : ∀ a, (f a).b.length = 128) : DiskAt w' base l { d with sure := f } :=
  ⟨h.blk.grown hg (by intro e; injection e with e; exact h.ne1 e), hM, h.now.grown hg (by intro e; injection e with e; exact h.ne3 e.symm),
    (Chg.of_grown (F := fun x => x = l.gs) hg rfl).own h.row (fun x hx e => h.rs (by rw [hx, e])), h.ne1, h.ne2, h.ne3, h.rg, h.rs, h.rn, h.bg, h.bs, h.bn, ⟨hf, h.ok.now, h.ok.loose, h.ok.fuse⟩⟩
theorem DiskAt.setNow (h : DiskAt w base l d) (hg : w.grownBy w' (some l.gn)) {f : Int → Sec} (hM : MapV (secV zsec) w' l.gn (fun a => secV (f a))) (hf : ∀ a, (f a).b.length = 128) : DiskAt w' base l { d with now := f } :=
  ⟨h.blk.grown hg (by intro e; injection e with e; exact h.ne2 e), h.sure.grown hg (by intro e; injection e with e; exact h.ne3 e), hM,
    (Chg.of_grown (F := fun x => x = l.gn) hg rfl).own h.row (fun x hx e => h.rn (by rw [hx, e])), h.ne1, h.ne2, h.ne3, h.rg, h.rs, h.rn, h.bg, h.bs, h.bn, ⟨h.ok.sure, hf, h.ok.loose, h.ok.fuse⟩⟩
theorem DiskAt.clear (h : DiskAt w base l d) (off : Bool) (fuse : Int) (hf : -1 ≤ fuse ∧ fuse ≤ 9223372036854775807) (hg : w.grownBy w' (some l.g))
    (hB : Blk w' l.g 107 #[.map (some l.gs), .map (some l.gn), .slice none 0 0, .bool off, .int .i64 fuse]) : DiskAt w' base { l with A := none, c := 0 } { d with loose := [], off := off, fuse := fuse } :=
  ⟨hB, h.sure.grown hg (by intro e; injection e with e; exact h.ne1 e.symm), h.now.grown hg (by intro e; injection e with e; exact h.ne2 e.symm), World.ownsRow_nil _ _ _ _,
    h.ne1, h.ne2, h.ne3, by simp, by simp, by simp, h.bg, h.bs, h.bn, ⟨h.ok.sure, h.ok.now, by simp, hf⟩⟩
/-- The block of the loose writes, and where the k-th lies. -/
theorem DiskAt.loose_at (h : DiskAt w base l d) {k : Nat} (hk : k < d.loose.length) : ∃ (g : Nat) (L : List Value), l.A = some ⟨g, 0, none⟩ ∧ Blk w g 112 L.toArray ∧ (L.drop (k * 129)).take 129 = .int .i64 d.loose[k].1 :: bvs d.loose[k].2 ∧ g ≠ l.g ∧ g ≠ l.gs ∧ g ≠ l.gn := by
  rcases h.row.2 with ⟨h1, h2⟩ | ⟨g, cap, cur, hv, hb, hg, hnc, hm, hcs, ht⟩
  · omega
  · injection hv with h3 h4 h5
    refine ⟨g, cur.toList, h3, hg, ?_, fun e => h.rg (by rw [h3, ← e]; rfl), fun e => h.rs (by rw [h3, ← e]; rfl), fun e => h.rn (by rw [h3, ← e]; rfl)⟩
    have := looseC_at d.loose (fun x hx => (h.ok.loose x hx).2) k hk
    have hle : (k + 1) * 129 ≤ d.loose.length * 129 := Nat.mul_le_mul_right _ hk
    rw [← ht, List.drop_take, List.take_take, Nat.min_eq_left (by omega)] at this
    exact this
end
theorem look_run {P : Program} {w : World} {ρ : Operand → Value} {d : Option Tmp} {m x : Operand} {t k e ty : TypeId} {p : String} {af : Array Edge} {gd : Option (Nat × Bool)} {z : Value} {b : Nat} {f : Int → Value} (h : MapV z w b f) (hk : P.underlying k = some (.int .i64)) (ht : P.underlying t = some (.map k e)) (hz : (zeroValue e).run P w = .ok z w) (i : Int) (hi : (Lit.int .i64 i).wf = true)
    (hm : ρ m = .map (some b)) (hx : ρ x = .int .i64 i) : (execOp ρ { dst := d, op := .lookup t m x false, type := ty, pos := p, after := af, guard := gd }).run P w = .ok (.value (f i)) w := by
  have hr := h.look hk ht hz i hi
  simp only [execOp, hm, hx, Sem.run_bind, Sem.run_pure, Result.andThen_ok, hr]
theorem cells_len {i : Int} {b : List UInt8} (hb : b.length = 128) : (.int .i64 i :: bvs b : List Value).length = 129 := by rw [List.length_cons, bvs_length, hb]
theorem cells_one {i : Int} {b : List UInt8} : (.int .i64 i :: bvs b : List Value).toArray.all (·.oneCell') = true := by simp [bvs, bv, Value.oneCell']
end Go.Proofs.Ytmjdfajdompkeaa
