/- UsigOnce: in plain words; a row of strings. -/
import Derived.Test.YtmjdfajdompkeaaDoorVk
namespace Go.Proofs.YtmjdfajdompkeaaDoor
open Go.RowKit Go.Rat
structure PwInv (k : Nat) (has : List UInt8) (d : DS) : Prop where
  calm : Calm d
  st : ∃ which n, CellSt d 0 which n has (2 + k)
theorem pw_start : PwInv 0 [] (fmF ds0 0).1 ∧ (fmF ds0 0).2 = 0 ∧ (fmF ds0 0).1.loose = [] := by
  obtain ⟨h1, h2, h3, h4, h5, _, h7⟩ := format_calm (d := ds0) (p := 0) (by omega) rfl rfl
  have hC : Calm (fmF ds0 0).1 := ⟨h2, h3, h4, h7 (fun _ => .inl rfl)⟩
  exact ⟨⟨hC, 0, 2, h5⟩, h1, hC.loose⟩
theorem PwInv.open_ {k : Nat} {has : List UInt8} {d : DS} (h : PwInv k has d) : opE d 0 = 0 ∧ (∃ which, which ≤ 1 ∧ openCell d 0 = ⟨0, has, which, false⟩) ∧ has.length ≤ 1100 := by
  obtain ⟨which, n, hs⟩ := h.st
  obtain ⟨h1, h2⟩ := hs.open_
  exact ⟨h1, ⟨which, hs.wh, by rw [openCell, h2]⟩, hs.len⟩
theorem PwInv.step {k : Nat} {has : List UInt8} {d : DS} (h : PwInv k has d) (hk : k < 1000) (f : Int) {b : List UInt8} (hb : b.length ≤ 1100) (ps : List UInt8) {which : Nat} (hw : openCell d 0 = ⟨0, has, which, false⟩) :
    ((ptF (fuseD d f) 0 which b).2 = 0 ∨ (ptF (fuseD d f) 0 which b).2 = 8) ∧ onE (offD (ptF (fuseD d f) 0 which b).1) = 0 ∧ (fuseD d f).loose = [] ∧
    (PwInv (k + 1) b (onAll (offD (ptF (fuseD d f) 0 which b).1) ps) ∨ ((ptF (fuseD d f) 0 which b).2 = 8 ∧ PwInv (k + 1) has (onAll (offD (ptF (fuseD d f) 0 which b).1) ps))) := by
  obtain ⟨wh, n, hs⟩ := h.st
  obtain ⟨h1, h2⟩ := hs.open_
  have hwe : wh = which := by
    have : openCell d 0 = ⟨0, has, wh, false⟩ := by rw [openCell, h2]
    rw [this] at hw
    cases hw
    rfl
  subst hwe
  have h64 : (2 : Nat) ^ 64 = 18446744073709551616 := by decide
  obtain ⟨k1, k2, k3⟩ := put_power h.calm hs (by omega) f hb ps
  refine ⟨k1, (on_now _ ps 0).2.2.2.2.2, h.calm.loose, ?_⟩
  rcases k3 with k3 | ⟨k4, k3⟩
  · exact .inl ⟨k2, _, _, k3⟩
  · exact .inr ⟨k4, k2, _, _, k3⟩
/-- What stands on the disk: the counter at N, which sealed b last. -/
def OnD (k N : Nat) (b : List UInt8) (d : DS) : Prop := N ≤ k ∧ b.length ≤ 1024 ∧ ∃ has, usigF has = some (N, b) ∧ PwInv k has d
theorem OnD.new {k N : Nat} {b : List UInt8} {d : DS} (h : OnD k N b d) : newE 3 d 0 = 0 ∧ ∃ c, openCell d 0 = c ∧ usigF c.b = some (N, b) ∧ c.p = 0 := by
  obtain ⟨_, _, has, hu, hp⟩ := h
  obtain ⟨h1, ⟨which, _, h2⟩, _⟩ := hp.open_
  have h3 : (opF d 0).2 = has := by
    have := congrArg CS.b h2
    exact this
  refine ⟨?_, _, rfl, by rw [h2]; exact hu, by rw [h2]⟩
  rw [newE, if_neg (by decide), h1, if_neg (by decide), h3, hu, if_neg (by simp)]
structure OnNext (k N : Nat) (b b1 : List UInt8) (T : List UInt8) (d8 dr : DS) (M : Nat) (S : List UInt8) (E : Int) : Prop where
  on : onE (offD dr) = 0
  res : (M = N + 1 ∧ S = T ∧ E = 0 ∧ OnD (k + 1) (N + 1) b1 d8) ∨ (M = 0 ∧ S = z32 ∧ E = 8 ∧ (OnD (k + 1) (N + 1) b1 d8 ∨ OnD (k + 1) N b d8))
theorem OnD.step {k N : Nat} {b : List UInt8} {d : DS} (h : OnD k N b d) (hk : k < 1000) (n : Nat) (tb : List Int) {c : CS} (hc : openCell d 0 = c) (f : Int) {b1 : List UInt8} (hb1 : b1.length ≤ 1024) (ps : List UInt8) :
    (fuseD d f).loose = [] ∧ ∃ dr s' M S E, nextU n tb (fuseD d f) ⟨3, N, b, c⟩ b1 = (dr, s', M, S, E) ∧ OnNext k N b b1 (H.numF n tb 3 (N + 1) b1) (onAll (offD dr) ps) dr M S E := by
  obtain ⟨hN, hb, has, hu, hp⟩ := h
  obtain ⟨h1, ⟨which, _, h2⟩, _⟩ := hp.open_
  rw [h2] at hc
  subst hc
  have hl : (be 8 (N + 1) ++ b1).length ≤ 1100 := by rw [List.length_append, be_length]; omega
  have hu2 := usigF_put (N + 1) (by omega) b1 hb1
  obtain ⟨k1, k2, k3, k4⟩ := hp.step hk f hl ps h2
  refine ⟨k3, ?_⟩
  have hx : nextU n tb (fuseD d f) ⟨3, N, b, ⟨0, has, which, false⟩⟩ b1 = if (ptF (fuseD d f) 0 which (be 8 (N + 1) ++ b1)).2 = 0 then ((ptF (fuseD d f) 0 which (be 8 (N + 1) ++ b1)).1, ⟨3, N + 1, b1, putCell ⟨0, has, which, false⟩ (be 8 (N + 1) ++ b1) 0⟩, N + 1, H.numF n tb 3 (N + 1) b1, 0)
      else ((ptF (fuseD d f) 0 which (be 8 (N + 1) ++ b1)).1, ⟨3, N, b, putCell ⟨0, has, which, false⟩ (be 8 (N + 1) ++ b1) (ptF (fuseD d f) 0 which (be 8 (N + 1) ++ b1)).2⟩, 0, z32, (ptF (fuseD d f) 0 which (be 8 (N + 1) ++ b1)).2) := by
    rw [nextU, if_neg (by omega), if_neg (show ¬ 65536 ≤ N by omega), if_neg (show ¬ (false = true) by decide)]
  rw [hx]
  clear hx
  rcases k1 with e0 | e8
  · rw [if_pos e0]
    refine ⟨_, _, _, _, _, rfl, k2, .inl ⟨rfl, rfl, rfl, by omega, hb1, _, hu2, ?_⟩⟩
    rcases k4 with k4 | ⟨k5, _⟩
    · exact k4
    · rw [e0] at k5
      exact absurd k5 (by decide)
  · rw [e8, if_neg (by decide)]
    refine ⟨_, _, _, _, _, rfl, k2, .inr ⟨rfl, rfl, rfl, ?_⟩⟩
    rcases k4 with k4 | ⟨_, k4⟩
    · exact .inl ⟨by omega, hb1, _, hu2, k4⟩
    · exact .inr ⟨by omega, hb, _, hu, k4⟩
/-- The strings given, by number: all that stand on the disk, but for the last, maybe. -/
def Given (gs : List (List UInt8)) (N : Nat) (b : List UInt8) : Prop := gs.length = N ∧ (0 < N → gs[N - 1]? = some b)
def Given1 (gs : List (List UInt8)) (N : Nat) (b : List UInt8) : Prop := Given gs N b ∨ N = gs.length + 1
theorem Given.push {gs : List (List UInt8)} {N : Nat} (h : gs.length = N) (b1 : List UInt8) : Given (gs ++ [b1]) (N + 1) b1 := by
  refine ⟨by rw [List.length_append, h]; rfl, fun _ => ?_⟩
  rw [Nat.add_sub_cancel, List.getElem?_append_right (by omega), h, Nat.sub_self]
  rfl
abbrev Crash := SB × UInt8 × SB
def crashC (x : Crash) : List Value := [x.1.v] ++ ([.int .u8 (x.2.1.toNat : Int)] ++ [x.2.2.v])
theorem crash_at {w : World} {A : Option Addr} {n : Nat} {l : List Crash} (h : Reads w w.heap.size 3 A n (l.flatMap crashC)) {k : Nat} (hk : k < n) :
    ∃ ad x, A = some ad ∧ x ∈ l ∧ (ad.add (k * 3)).block < w.heap.size ∧ w.cell? (ad.add (k * 3)) = some x.1.v ∧ w.cell? ⟨(ad.add (k * 3)).block, (ad.add (k * 3)).off + 1, none⟩ = some (.int .u8 (x.2.1.toNat : Int)) ∧ w.cell? ⟨(ad.add (k * 3)).block, (ad.add (k * 3)).off + 2, none⟩ = some x.2.2.v := by
  obtain ⟨ad, rfl, hb, hc⟩ := h.2 (by omega)
  have hlen := flat_len crashC 3 (fun _ => rfl) l
  have hkl : k < l.length := by have := h.1; omega
  have hg : l[k]? = some l[k] := List.getElem?_eq_getElem hkl
  have F := flat_get crashC 3 (fun _ => rfl) l k
  refine ⟨ad, l[k], rfl, List.getElem_mem hkl, by rw [block_of_add]; exact hb, ?_, ?_, ?_⟩
  · exact hc _ _ (by have := F 0 _ hg (by omega); simpa [crashC] using this)
  · rw [add_field _ _ _ (by omega)]
    exact hc _ _ (by have := F 1 _ hg (by omega); simpa [crashC] using this)
  · rw [add_field _ _ _ (by omega)]
    exact hc _ _ (by have := F 2 _ hg (by omega); simpa [crashC] using this)
def sv (xs : List UInt8) : Value := .string (bstr xs)
theorem strinfo : (Tryd.prog.info? 9).map (fun i => (i.zero, i.size, i.bytes)) = some (some (.string ⟨#[]⟩), 1, 16) := by kernel_rfl
theorem str_neU : (9 : TypeId) ≠ 85 := by decide
theorem str_neC : (9 : TypeId) ≠ 76 := by decide
theorem str_ne8 : (9 : TypeId) ≠ 5 := by decide
theorem str_ne32 : (9 : TypeId) ≠ 24 := by decide
/-- A row of strings of the call's own, beside the disk. -/
structure SRow (w : World) (l : DL) (base : Nat) (A : Option Addr) (c : Nat) (gs : List (List UInt8)) : Prop where
  own : w.ownsRow base 9 1 (.slice A gs.length c) gs.length (gs.map sv)
  outA : ∀ g, A.map (·.block) = some g → ¬ l.fp g
section
variable {w w' : World} {l l' : DL} {base c : Nat} {A : Option Addr} {gs : List (List UInt8)}
theorem SRow.nil (w : World) (l : DL) (base : Nat) : SRow w l base none 0 [] := ⟨World.ownsRow_nil _ _ _ _, by simp⟩
theorem SRow.ltA (h : SRow w l base A c gs) : ∀ g, A.map (·.block) = some g → base ≤ g ∧ g < w.heap.size := fun g hg =>
  World.ownsRow.lt h.own g (by cases A <;> simp_all [Value.ownBlock])
theorem SRow.ne (h : SRow w l base A c gs) {x : Nat} {T : TypeId} {cs : Array Value} (hB : Blk w x T cs) (hT : (9 : TypeId) ≠ T) : ∀ g, A.map (·.block) = some g → g ≠ x := by
  rintro g hg rfl
  rcases h.own.2 with h1 | ⟨g2, cap, cur, hv, _, hgg, _⟩
  · injection h1.1 with h1
    subst h1
    cases hg
  · injection hv with hv
    subst hv
    cases hg
    have : some (Obj.cells cs T (0, 0)) = some (Obj.cells cur 9 (0, 0)) := (show w.heap[g2]? = _ from hB).symm.trans hgg
    injection this with this
    injection this with _ e
    exact hT e.symm
theorem SRow.chg {F : Nat → Prop} (h : SRow w l base A c gs) (hc : Chg F w w') (hF : ∀ g, A.map (·.block) = some g → ¬ F g) (hfp : ∀ x, l'.fp x → l.fp x ∨ w.heap.size ≤ x) : SRow w' l' base A c gs :=
  ⟨hc.own h.own hF, fun g hg hf => by
    rcases hfp g hf with h1 | h1
    · exact h.outA g hg h1
    · have := h.ltA g hg
      omega⟩
theorem SRow.moved (h : SRow w l base A c gs) (hm : Moved w w' l l') : SRow w' l' base A c gs := h.chg hm.chg h.outA hm.fp
theorem SRow.below (h : SRow w l base A c gs) (hb : Below w.heap.size w w') : SRow w' l base A c gs := h.moved (Moved.of_below hb)
theorem SRow.umoved {k kc : Nat} {s : US} (h : SRow w l base A c gs) (hm : UMoved w w' l l' k kc) (hU : UsigAt w base l k kc s) : SRow w' l' base A c gs := by
  obtain ⟨_, _, _, b1, _⟩ := hU.blk
  obtain ⟨_, _, _, b2, _⟩ := hU.cell.blk
  refine h.chg hm.chg (fun g hg => ?_) hm.fp
  rintro (q | q | q)
  · exact h.outA g hg q
  · exact h.ne b1 str_neU g hg q
  · exact h.ne b2 str_neC g hg q
theorem SRow.at_ (h : SRow w l base A c gs) {k : Nat} {b : List UInt8} (hk : gs[k]? = some b) : ∃ ad : Addr, A = some ad ∧ w.cell? (ad.add k) = some (.string (bstr b)) := by
  have hlt : k < gs.length := by
    rcases Nat.lt_or_ge k gs.length with h1 | h1
    · exact h1
    · rw [List.getElem?_eq_none h1] at hk
      cases hk
  obtain ⟨g, cap, hv, _, _⟩ := World.ownsRow.form h.own (by omega)
  have hA : A = some ⟨g, 0, none⟩ := by injection hv
  exact ⟨⟨g, 0, none⟩, hA, World.ownsRow.cells (g := g) h.own (by rw [hA]; rfl) k (.string (bstr b)) (by rw [List.getElem?_map, hk]; rfl)⟩
end
theorem app_strs {w : World} {ops : Array Oper} {rest : List Oper} {o : Oper} {a : Act} {Q : Exit → Act → World → Prop} (hgd : o.guard = none) (s x : Operand)
    (ho : o.op = .call { callee := .builtin .append, args := #[s, x], argTypes := #[58, 58] })
    (l : DL) (hlt : ∀ x, l.fp x → x < w.heap.size) (base : Nat) (A : Option Addr) (c : Nat) (gs : List (List UInt8)) (hs : a.eval s = .slice A gs.length c) (hR : SRow w l base A c gs)
    (b : List UInt8) (T : TypeId)
    (w0 : World) (hw : w0 = w.alloc (.cells #[.string (bstr b)] T))
    (hx : a.eval x = .slice (some ⟨w.heap.size, 0, none⟩) 1 1) (hn : gs.length < 1000000) (hbase : base ≤ w.heap.size)
    (h : ∀ A2 c2 w2, SRow w2 l base A2 c2 (gs ++ [b]) → Below base w0 w2 → w0.grownBy w2 (A.map (·.block)) → wpList Tryd.prog ops Q rest (a.put o.dst (.slice A2 (gs.length + 1) c2)) w2) :
    wpList Tryd.prog ops Q (o :: rest) a w0 := by
  obtain ⟨i0, hi, hz0, hz1, hz2⟩ := info_parts strinfo
  subst hw
  have hR0 := hR.below (below_alloc w (.cells #[.string (bstr b)] T))
  have hread : Reads (w.alloc (.cells #[.string (bstr b)] T)) (w.heap.size + 1) 1 (some ⟨w.heap.size, 0, none⟩) 1 [.string (bstr b)] :=
    ⟨rfl, fun _ => ⟨_, rfl, Nat.lt_succ_self _, cell_one_new w (.string (bstr b)) T⟩⟩
  refine wpl_append hgd s x 58 ho base 9 i0 _ 1 16 Tryd.underlying58 hi hz0 hz1 hz2 rfl (by omega) A gs.length c (gs.map sv) hs hR0.own _ 1 1 [.string (bstr b)] hx ⟨_, hread⟩ (by intro u hu; simp at hu; subst hu; rfl) (by simp only [maxLen]; omega) (by omega) (by simp; omega) ?_
  intro A2 N2 c2 w2 _ _ hO hG
  have hN2 : N2 = gs.length + 1 := by
    have h1 := hO.1
    rw [List.length_append, List.length_map] at h1
    simp at h1
    omega
  subst hN2
  have hb : Below base (w.alloc (.cells #[.string (bstr b)] T)) w2 := (Below.refl _ _).grown hG.grown (by simp; omega) (fun k hk => by
    have := World.ownsRow.lt hR.own k (by cases A <;> simp_all [Value.ownBlock])
    exact this.1)
  refine h A2 c2 w2 ⟨?_, ?_⟩ hb hG.grown
  · rw [List.map_append, List.length_append]
    exact hO
  · intro g hg hf
    have hl := hlt g hf
    rcases hG.lies with h1 | ⟨g', h1, h2, _⟩
    · exact hR.outA g (h1 ▸ hg) hf
    · rw [h1] at hg
      cases hg
      simp at h2
      omega
section
variable {w w2 : World} {l : DL} {base c : Nat} {A : Option Addr} {gs : List (List UInt8)}
theorem SRow.blk (h : SRow w l base A c gs) {x : Nat} (hx : A.map (·.block) = some x) : ∃ cur, Blk w x 9 cur := by
  rcases h.own.2 with h1 | ⟨g2, cap, cur, hv, _, hgg, _⟩
  · injection h1.1 with h1
    subst h1
    cases hx
  · injection hv with hv
    subst hv
    cases hx
    exact ⟨cur, hgg⟩
theorem SRow.keepU (h : SRow w l base A c gs) (hg : w.grownBy w2 (A.map (·.block))) {k kc : Nat} {s : US} (hU : UsigAt w base l k kc s) : UsigAt w2 base l k kc s := by
  obtain ⟨_, _, _, b1, _⟩ := hU.blk
  obtain ⟨_, _, _, b2, _⟩ := hU.cell.blk
  refine hU.kept (F := fun x => A.map (·.block) = some x) (Chg.of_grown' hg (fun _ h => h)) (fun e => h.ne b1 str_neU _ e rfl) (fun e => h.ne b2 str_neC _ e rfl) (fun x hx => ?_) rfl (fun _ q => .inl q)
  obtain ⟨cur, hc⟩ := h.blk hx
  exact .inr ⟨_, _, hc, str_ne8⟩
theorem SRow.keepB (h : SRow w l base A c gs) (hg : w.grownBy w2 (A.map (·.block))) {x : Nat} {cs : Array Value} (hB : Blk w x 24 cs) : Blk w2 x 24 cs :=
  hB.grown hg (fun e => h.ne hB str_ne32 _ e.symm rfl)
theorem SRow.keepD (h : SRow w l base A c gs) (hg : w.grownBy w2 (A.map (·.block))) {d : DS} (hD : DiskAt w base l d) : DiskAt w2 base l d :=
  hD.kept (Chg.of_grown' (F := fun x => A.map (·.block) = some x) hg (fun _ h => h)) (fun x hx hf => h.outA x hf hx)
theorem SRow.keepR (h : SRow w l base A c gs) (hg : w.grownBy w2 (A.map (·.block))) {B : Option Addr} {n : Nat} {xs : List UInt8} (hR : RB w B n xs) {T : TypeId} (hT : ∀ x, B.map (·.block) = some x → ∃ cs, Blk w x T cs) (hne : (9 : TypeId) ≠ T) : RB w2 B n xs := by
  refine RB.grown hR hg ?_
  by_cases hA : A.map (·.block) = none
  · exact .inr hA
  · obtain ⟨g, hgA⟩ := Option.ne_none_iff_exists'.1 hA
    refine .inl fun e => ?_
    obtain ⟨cs, hc⟩ := hT g (e.trans hgA)
    exact h.ne hc hne g hgA rfl
end
theorem obBelow {w w' : World} {base n c : Nat} {e : TypeId} {A : Option Addr} {xs : List UInt8} (h : OB e w base A n c xs) (hb : Below w.heap.size w w') : OB e w' base A n c xs := OB.grown h (grownBy_of_below hb none) (.inr rfl)
end Go.Proofs.YtmjdfajdompkeaaDoor
