/- disk: what the laws need, in plain words. -/
import Derived.Test.YtmjdfajdompkeaaDi
namespace Go.Proofs.Ytmjdfajdompkeaa
open Go.RowKit Go.Rat
theorem DiskAt.beside {w w' : World} {base : Nat} {l : DL} {d : DS} {g : Nat} (hD : DiskAt w base l d) (hg : w.grownBy w' (some g)) (hn : ¬ l.fp g) : DiskAt w' base l d :=
  hD.kept (Chg.of_grown (F := fun x => x = g) hg rfl) (fun x hx e => hn (by rw [← e]; exact hx))
theorem Out.set {w : World} {l : DL} {g : Nat} {T : TypeId} {cs : Array Value} (h : Out w l g T cs) (cs' : Array Value) : Out (w.setRow g cs') l g T cs' := ⟨h.1.setRow cs', h.2⟩
theorem syncF_at (now : Int → Sec) (l : List (Int × List UInt8)) (a : Int) : ∀ f, syncF now l f a = if (l.any fun x => decide (x.1 = a)) = true then now a else f a := by
  induction l with
  | nil => intro f; simp [syncF]
  | cons x l ih =>
    intro f
    rw [syncF, ih, List.any_cons]
    by_cases h1 : (l.any fun x => decide (x.1 = a)) = true
    · simp [h1]
    · rw [if_neg h1]
      by_cases h2 : x.1 = a
      · simp [h2, upd]
      · simp [h1, h2, upd, Ne.symm h2]
theorem syncF_all5 (now : Int → Sec) (l : List (Int × List UInt8)) (a : Int) (h : ∀ x ∈ l, x.1 = a) (f : Int → Sec) : syncF now l f a = if l = [] then f a else now a := by
  rw [syncF_at]
  cases l with
  | nil => simp
  | cons x l => simp [h x (by simp)]
theorem writeD_on {d : DS} (ho : d.off = false) (hf : d.fuse = -1) {a : Int} (ha : 0 ≤ a ∧ a < 32768) (b : List UInt8) : writeD d a b = putD d a b ∧ writeE d a = 0 := by
  have hr : readyE d.off a = 0 := by rw [ho]; exact readyE_ok ha
  have hb : burnD (putD d a b) = putD d a b := by
    have : (putD d a b).fuse = -1 := hf
    rw [burnD, if_neg (by omega), if_neg (by omega)]
  refine ⟨by rw [writeD, if_pos hr, hb], ?_⟩
  rw [writeE, if_pos hr, if_neg]
  rw [burnB, decide_eq_true_eq]
  omega
theorem syncAll_on {d : DS} (ho : d.off = false) (hf : d.fuse = -1) : syncAll d = syncD d ∧ syncE d = 0 := by
  have hb : burnB d = false := by rw [burnB, decide_eq_false_iff_not]; omega
  have hd : burnD d = d := by rw [burnD, if_neg (by omega), if_neg (by omega)]
  simp [syncAll, syncE, ho, hb, hd]
/-- DiskLast: the sector that the picks leave. -/
def lastS (first : UInt8) (l ps : List UInt8) : Nat → Sec
  | 0 => ⟨rep first, false⟩
  | k + 1 => if (ps.getD k 0).toNat % 4 = 0 then lastS first l ps k else if (ps.getD k 0).toNat % 4 = 2 then ⟨zs, true⟩ else ⟨rep (l.getD k 0), false⟩
def errS (s : Sec) : Int := if s.lost = true then 9 else 0
structure LastInv (first : UInt8) (l : List UInt8) (k : Nat) (d : DS) : Prop where
  off : d.off = false
  fuse : d.fuse = -1
  sure : d.sure 5 = ⟨rep first, false⟩
  now : k = 0 → d.now 5 = ⟨rep first, false⟩
  loose : d.loose = (l.take k).map fun c => (5, rep c)
theorem last_len (first : UInt8) (l ps : List UInt8) : ∀ k, (lastS first l ps k).b.length = 128 ∧ ((lastS first l ps k).lost = true → (lastS first l ps k).b = zs)
  | 0 => ⟨rep_length _, fun h => by cases h⟩
  | k + 1 => by
    unfold lastS
    split
    · exact last_len first l ps k
    · split
      · exact ⟨zs_length, fun _ => rfl⟩
      · exact ⟨rep_length _, fun h => by cases h⟩
theorem last_start (first : UInt8) (l : List UInt8) : LastInv first l 0 (syncAll (writeD ds0 5 (rep first))) ∧ writeE ds0 5 = 0 ∧ syncE (writeD ds0 5 (rep first)) = 0 := by
  obtain ⟨h1, h2⟩ := writeD_on (d := ds0) rfl rfl (a := 5) (by omega) (rep first)
  obtain ⟨h3, h4⟩ := syncAll_on (d := putD ds0 5 (rep first)) rfl rfl
  rw [h1, h3]
  exact ⟨⟨rfl, rfl, rfl, fun _ => rfl, rfl⟩, h2, h4⟩
theorem last_step {first : UInt8} {l : List UInt8} {k : Nat} {d : DS} (h : LastInv first l k d) (hk : k < l.length) : LastInv first l (k + 1) (writeD d 5 (rep (l.getD k 0))) ∧ writeE d 5 = 0 := by
  obtain ⟨h1, h2⟩ := writeD_on h.off h.fuse (a := 5) (by omega) (rep (l.getD k 0))
  rw [h1]
  refine ⟨⟨h.off, h.fuse, h.sure, fun h0 => by omega, ?_⟩, h2⟩
  show d.loose ++ [_] = _
  rw [h.loose, List.take_add_one, List.getElem?_eq_getElem hk, List.map_append, List.getD_eq_getElem?_getD, List.getElem?_eq_getElem hk]
  rfl
theorem last_picks (first : UInt8) (l ps : List UInt8) (f : Int → Sec) (hf : f 5 = ⟨rep first, false⟩) : ∀ k, k ≤ l.length → picksF ((l.take k).map fun c => (5, rep c)) 0 ps f 5 = lastS first l ps k
  | 0, _ => hf
  | k + 1, hk => by
    rw [List.take_add_one, List.getElem?_eq_getElem (by omega), List.map_append]
    show picksF (_ ++ [_]) 0 ps f 5 = _
    rw [picksF_snoc, List.length_map, List.length_take, Nat.zero_add, Nat.min_eq_left (by omega), lastS, pickF]
    split
    · exact last_picks first l ps f hf k (by omega)
    · split
      · simp [upd]
      · simp [upd, List.getD_eq_getElem?_getD, List.getElem?_eq_getElem (show k < l.length by omega)]
theorem last_end {first : UInt8} {l ps : List UInt8} {d : DS} (h : LastInv first l l.length d) : onE (offD d) = 0 ∧ readB (onAll (offD d) ps) 5 = (lastS first l ps l.length).b ∧ readE (onAll (offD d) ps) 5 = errS (lastS first l ps l.length) ∧ (onAll (offD d) ps).off = false ∧ (onAll (offD d) ps).fuse = -1 ∧ (onAll (offD d) ps).loose = [] := by
  have hon : onAll (offD d) ps = onD (offD d) ps := by unfold onAll; exact if_pos rfl
  have hnow : (onD (offD d) ps).now 5 = lastS first l ps l.length := by
    show syncF (picksF d.loose 0 ps d.sure) d.loose d.now 5 = _
    rw [h.loose, List.take_length, syncF_all5 _ _ 5 (by intro x hx; simp at hx; obtain ⟨c, _, rfl⟩ := hx; rfl)]
    have hp := last_picks first l ps d.sure h.sure l.length (Nat.le_refl _)
    rw [List.take_length] at hp
    split
    · next he =>
      have : l = [] := by simpa using he
      subst this
      exact h.now rfl
    · exact hp
  have hb := last_len first l ps l.length
  have hr : readyE (onD (offD d) ps).off 5 = 0 := readyE_ok (by omega)
  rw [hon]
  refine ⟨by unfold onE; exact if_pos rfl, ?_, ?_, rfl, rfl, rfl⟩
  · rw [readB, hnow]
    cases hl : (lastS first l ps l.length).lost
    · rw [if_pos ⟨hr, rfl⟩]
    · rw [if_neg (by simp), hb.2 hl]
  · rw [readE, if_pos hr, hnow]
    rfl
end Go.Proofs.Ytmjdfajdompkeaa
