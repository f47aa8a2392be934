/- book: a page that is spoilt, in plain words. -/
import Derived.Test.YtmjdfajdompkeaaBk4
import Derived.Test.YtmjdfajdompkeaaBkv
namespace Go.Proofs.Ytmjdfajdompkeaa
open Go.RowKit Go.Rat
/-- How many pages records have in all. -/
def pgs (rs : List (List UInt8)) : Nat := (rs.map fun r => pagesN r.length).sum
theorem pgs_cons (r : List UInt8) (rs : List (List UInt8)) : pgs (r :: rs) = pagesN r.length + pgs rs := rfl
theorem pgs_snoc (r : List UInt8) (rs : List (List UInt8)) : pgs (rs ++ [r]) = pgs rs + pagesN r.length := by simp [pgs]
section
variable {V V' : Int → Option (List UInt8)} {lim p q : Int} {n fr z : Nat} {rs : List (List UInt8)}
theorem Chn.pgs (h : Chn V lim p n fr rs q z) : q = p + (pgs rs : Int) := by
  induction h with
  | nil => simp [Go.Proofs.Ytmjdfajdompkeaa.pgs]
  | @cons p q n fr a z r rs hr hf ha hp hV h ih => rw [pgs_cons]; omega
theorem Chn.split (h : Chn V lim p n fr rs q z) (k : Nat) (hk : k ≤ rs.length) : ∃ q' z', Chn V lim p n fr (rs.take k) q' z' ∧ Chn V lim q' (n + k) z' (rs.drop k) q z := by
  induction h generalizing k with
  | nil => exact ⟨_, _, by rw [List.take_nil]; exact .nil, by rw [List.drop_nil]; exact .nil⟩
  | @cons p q n fr a z r rs hr hf ha hp hV h ih =>
    match k with
    | 0 => exact ⟨p, fr, .nil, .cons hr hf ha hp hV h⟩
    | k + 1 =>
      obtain ⟨q', z', h1, h2⟩ := ih k (by simpa using hk)
      exact ⟨q', z', .cons hr hf ha hp hV h1, by rw [List.drop_succ_cons, show n + (k + 1) = n + 1 + k by omega]; exact h2⟩
/-- The lives of all pages that stand. -/
theorem Chn.low (h : Chn V lim p n fr rs q z) (hn : n + rs.length < 2 ^ 64) : ∀ a, p ≤ a → a < q → ∃ s, V a = some s ∧ (headR s).life ≤ z := by
  induction h with
  | nil => intro a h1 h2; omega
  | @cons p q n fr b z r rs hr hf ha hp hV h ih =>
    intro a h1 h2
    simp only [List.length_cons] at hn
    have hz := h.le.2.1
    by_cases hc : a < p + (pagesN r.length : Int)
    · obtain ⟨k, rfl⟩ : ∃ k : Nat, a = p + (k : Int) := ⟨(a - p).toNat, by omega⟩
      have hk : k < pagesN r.length := by omega
      exact ⟨_, hV k hk, by rw [head_recP ha (by omega) hr hk]; exact hz⟩
    · exact ih (by omega) a (by omega) h2
end
/-- A page of record k is spoilt: the records ahead of it are there, none behind. -/
theorem BookSt.spoil {d d' : DS} {p lim : Int} {life M K : Nat} {rs : List (List UInt8)} {q : Int} {z : Nat} (h : BookSt d p lim life M K rs q z) (hl1 : 1 ≤ life) (k : Nat) (hk : k < rs.length) (j : Nat) (hj : j < pagesN (rs.getD k []).length) (a : Int) (ha : a = p + 20 + (pgs (rs.take k) : Int) + (j : Int))
    (ho : d'.off = false) (hout : ∀ b, b ≠ a → d'.now b = d.now b) (hin : (d'.now a).lost = true ∨ d'.now a = ⟨rep 255, false⟩) :
    ∃ z', BookSt d' p lim life (life + 1) K (rs.take k) (p + 20 + (pgs (rs.take k) : Int)) z' := by
  obtain ⟨which, N, has, hc, hh⟩ := h.cell
  obtain ⟨q', z', c1, c2⟩ := h.chn.split k (by omega)
  have hq' := c1.pgs
  have hlim := h.lim_
  have hqq := h.q_
  have hle1 := c1.le
  have hle2 := c2.le
  have hz := h.zl
  have hdrop : rs.drop k = rs.getD k [] :: rs.drop (k + 1) := by
    rw [List.getD_eq_getElem?_getD, List.getElem?_eq_getElem hk]
    exact List.drop_eq_getElem_cons hk
  have hlen : rs.length < 2 ^ 62 := by omega
  have hlow := c2.low (by rw [List.length_drop]; omega)
  rw [hdrop] at c2
  obtain ⟨r, hr⟩ : ∃ r, rs.getD k [] = r := ⟨_, rfl⟩
  rw [hr] at c2 hj hdrop
  rw [← hq'] at ha ⊢
  have hlt : a < lim := by
    cases c2 with
    | cons hr hf ha' hp hV h => omega
  have hsee : ∀ b, b ≠ a → p ≤ b → b < lim → seeD d' b = seeD d b := fun b h0 h1 h2 => see_same h.off ho (by omega) (hout b h0)
  have hsa : seeD d' a = none ∨ seeD d' a = some (rep 255) := by
    rcases hin with h1 | h1
    · exact .inl (by rw [see_on ho (by omega), if_pos h1])
    · exact .inr (see_is ho (by omega) h1)
  have hhead : (headR (rep 255)).life = 2 ^ 64 - 1 := by decide +kernel
  have hold : ∀ b, q' ≤ b → b < lim → ∀ s, seeD d' b = some s → (headR s).life < life + 1 ∨ 2 ^ 63 ≤ (headR s).life := fun b h1 h2 s hs => by
    by_cases hba : b = a
    · subst hba
      rcases hsa with h3 | h3
      · rw [h3] at hs; cases hs
      · rw [h3] at hs
        cases hs
        rw [hhead]
        omega
    · rw [hsee b hba (by omega) h2] at hs
      by_cases hbq : b < q
      · obtain ⟨s', h3, h4⟩ := hlow b h1 hbq
        rw [hs] at h3
        cases h3
        omega
      · have := h.old b (by omega) h2 s hs
        have := h.ml
        omega
  refine ⟨z', ⟨which, N, has, hc.keep ho (fun b h1 h2 => hout b (by omega)), hh⟩, hlim, h.life62, c1.ext (fun b h1 h2 => (hsee b (by omega) (by omega) (by omega)).symm), by omega, hold, Nat.le_refl _, ?_⟩
  match hrd : readF (seeD d') lim q' (rs.take k).length z' life with
  | none => rfl
  | some (r2, g) =>
    exfalso
    obtain ⟨a1, a2, a3, a4, a5, _, _, a6⟩ := readF_pages hrd
    have hbad : ∀ i : Nat, i < g.pages → q' + (i : Int) ≠ a := by
      intro i hi e
      obtain ⟨s, hs, hs1, _⟩ := a6 i hi
      rw [e] at hs
      rcases hsa with h3 | h3
      · rw [h3] at hs; cases hs
      · rw [h3] at hs
        cases hs
        rw [hhead] at hs1
        have := h.life62
        omega
    by_cases hj0 : j = 0
    · exact hbad 0 (by omega) (by omega)
    · cases c2 with
      | @cons _ _ _ _ b _ _ _ hr' hf ha' hp hV c3 =>
        obtain ⟨s, hs, hs1, hs2, hs3, hs4⟩ := a6 0 (by omega)
        rw [hsee _ (by omega) (by omega) (by omega), hV 0 (by omega)] at hs
        cases hs
        rw [head_recP ha' (by omega) hr' (by omega)] at hs4
        simp only at hs4
        exact hbad j (by omega) (by omega)
end Go.Proofs.Ytmjdfajdompkeaa
namespace Go.Proofs.Ytmjdfajdompkeaa
open Go.RowKit Go.Rat
theorem wpl_unguard {P : Program} {w : World} {ops : Array Oper} {rest : List Oper} {o : Oper} {a : Act} {Q : Exit → Act → World → Prop} (hw : Region.wanted o (yielded ops a.tmps) = true)
    (h : wpList P ops Q ({ o with guard := none } :: rest) a w) : wpList P ops Q (o :: rest) a w := by
  rw [wpList, if_pos hw]
  rw [wpList, if_pos (by simp [Region.wanted])] at h
  exact h
structure TnSt (d : DS) (rs : List (List UInt8)) (q : Int) (z : Nat) : Prop where
  st : BookSt d 0 400 1 1 3 rs q z
  f : d.fuse = -1
  l : d.loose = []
  q_ : q ≤ 20 + 5 * (rs.length : Int)
theorem torn_start : ∃ d1 d2, fmF ds0 0 = (d1, 0) ∧ d1.loose = [] ∧ OpOf d1 d2 0 400 400 0 2 [] 20 1 ∧ TnSt d2 [] 20 1 := by
  obtain ⟨h1, h2, h3, h4, _⟩ := book_format (d := ds0) (p := 0) (lim := 400) (by omega) rfl rfl (fun _ _ _ => rfl)
  obtain ⟨d2, o1⟩ := h2.op h3 (by decide) (by decide) 400 (by omega)
  exact ⟨_, d2, Prod.ext rfl h1, h4, o1, ⟨o1.st, o1.f, o1.l, by decide⟩⟩
structure SpSt (d : DS) (rs : List (List UInt8)) (q : Int) : Prop where
  st : ∃ z, BookSt d 0 400 1 2 3 rs q z
  f : d.fuse = -1
  l : d.loose.length ≤ 1
structure SpOf (d : DS) (a : Int) (rs : List (List UInt8)) (q : Int) : Prop where
  e : writeE d a = 0
  s : SpSt (writeD d a (rep 255)) rs q
  o : onE (offD (writeD d a (rep 255))) = 0
  t : SpSt (onAll (offD (writeD d a (rep 255))) [2]) rs q
theorem TnSt.spoil {d : DS} {rs : List (List UInt8)} {q : Int} {z : Nat} (h : TnSt d rs q z) (k : Nat) (hk : k < rs.length) (j : Nat) (hj : j < pagesN (rs.getD k []).length) (a : Int) (ha : a = 20 + (pgs (rs.take k) : Int) + (j : Int)) (ha4 : a < 400) :
    SpOf d a (rs.take k) (20 + (pgs (rs.take k) : Int)) := by
  obtain ⟨_, _, h3⟩ := write_eff (d := d) (rep 255) h.st.off (a := a) (by omega)
  obtain ⟨e1, e2⟩ := h3 (by rw [h.f]; decide)
  have hl : (putD d a (rep 255)).loose = [(a, rep 255)] := by
    show d.loose ++ [_] = _
    rw [h.l]; rfl
  have hnow : ∀ b, (putD d a (rep 255)).now b = if b = a then ⟨rep 255, false⟩ else d.now b := fun b => rfl
  obtain ⟨z1, s1⟩ := h.st.spoil (d' := putD d a (rep 255)) (Nat.le_refl _) k hk j hj a (by omega) h.st.off (fun b hb => by rw [hnow, if_neg hb]) (.inr (by rw [hnow, if_pos rfl]))
  obtain ⟨_, _, g3, g4, g5, g6⟩ := on_now (putD d a (rep 255)) [2] 0
  obtain ⟨z2, s2⟩ := h.st.spoil (d' := onAll (offD (putD d a (rep 255))) [2]) (Nat.le_refl _) k hk j hj a (by omega) g3 (fun b hb => by
    obtain ⟨g1, _⟩ := on_now (putD d a (rep 255)) [2] b
    rw [g1, hl, if_neg (by simp; exact fun e => hb e.symm), hnow, if_neg hb]) (.inl (by
    obtain ⟨g1, _⟩ := on_now (putD d a (rep 255)) [2] a
    rw [g1, hl, if_pos (by simp)]
    simp [picksF, pickF, upd]))
  have hz : (0 : Int) + 20 + (pgs (rs.take k) : Int) = 20 + (pgs (rs.take k) : Int) := by omega
  rw [hz] at s1 s2
  refine ⟨e1, by rw [e2]; exact ⟨⟨z1, s1⟩, h.f, by rw [hl]; exact Nat.le_refl _⟩, by rw [e2]; exact g6, by rw [e2]; exact ⟨⟨z2, s2⟩, g4, by rw [g5]; exact Nat.zero_le _⟩⟩
end Go.Proofs.Ytmjdfajdompkeaa
namespace Go.Proofs.Ytmjdfajdompkeaa
open Go.RowKit Go.Rat
def SB.pt (s : SB) : Pt := ⟨s.A, s.n, s.c, s.xs⟩
theorem sb_row {w : World} {A : Option Addr} {m : Nat} {l : List SB} (h : Reads w w.heap.size 1 A m (l.flatMap fun x => [x.v])) (hi : ∀ x ∈ l, SB.ok w x) (hl : l.length = m) {k : Nat} (hk : k ≤ m) : RowR w A k ((l.take k).map SB.pt) := by
  have hmap : (l.flatMap fun x => [x.v]) = l.map SB.v := by
    clear h hi hl
    induction l with
    | nil => rfl
    | cons x l ih => rw [List.flatMap_cons, ih]; rfl
  rw [hmap] at h
  refine ⟨by rw [List.length_map, List.length_take]; omega, fun hk0 => ?_, fun p hp => ?_⟩
  · obtain ⟨ad, rfl, hb, hc⟩ := h.2 (by omega)
    refine ⟨ad, rfl, fun i p hp => ?_⟩
    rw [List.getElem?_map, List.getElem?_take] at hp
    split at hp
    · rw [Option.map_eq_some_iff] at hp
      obtain ⟨s, hs, rfl⟩ := hp
      exact hc i _ (by rw [List.getElem?_map, hs]; rfl)
    · cases hp
  · rw [List.mem_map] at hp
    obtain ⟨s, hs, rfl⟩ := hp
    obtain ⟨h1, h2, _⟩ := hi s (List.mem_of_mem_take hs)
    exact ⟨h1, h2⟩
theorem app_rows {w : World} {ops : Array Oper} {rest : List Oper} {o : Oper} {a : Act} {Q : Exit → Act → World → Prop} (hw : Region.wanted o (yielded ops a.tmps) = true) (s x : Operand)
    (ho : o.op = .call { callee := .builtin .append, args := #[s, x], argTypes := #[68, 68] })
    (base : Nat) (A : Option Addr) (n c : Nat) (vs : List Value) (hs : a.eval s = .slice A n c) (hown : w.ownsRow base 22 1 (.slice A n c) n vs)
    (A' : Option Addr) (n' c' : Nat) (us : List Value) (hx : a.eval x = .slice A' n' c') (hr : ∃ B, Reads w B 1 A' n' us) (h1 : ∀ u ∈ us, u.oneCell' = true) (hn : n + n' < 1000000) (hbase : base ≤ w.heap.size)
    (h : ∀ A2 N2 c2 w2, w2.ownsRow base 22 1 (.slice A2 N2 c2) N2 (vs ++ us) → Grew w w2 A A2 → wpList Try.prog ops Q rest (a.put o.dst (.slice A2 N2 c2)) w2) : wpList Try.prog ops Q (o :: rest) a w := by
  obtain ⟨i0, hi, hz0, hz1, hz2⟩ := info_parts slinfo
  refine wpl_unguard hw ?_
  exact wpl_append rfl s x 68 ho base 22 i0 _ 1 24 Try.underlying68 hi hz0 hz1 hz2 rfl (by omega) A n c vs hs hown A' n' c' us hx hr h1 (by simp only [maxLen]; omega) (by omega) hbase (fun A2 N2 c2 w2 _ _ h2 h3 => h A2 N2 c2 w2 h2 h3)
theorem RowR.toReads {w : World} {A : Option Addr} {N : Nat} {ps : List Pt} (h : RowR w A N ps) : ∃ B, Reads w B 1 A N (ps.map Pt.v) := by
  refine ⟨w.heap.size, by rw [List.length_map, h.len, Nat.mul_one], fun hn => ?_⟩
  obtain ⟨ad, e, hc⟩ := h.cells (by omega)
  have hl := h.len
  have h0 : ps[0]? = some ps[0] := List.getElem?_eq_getElem (by omega)
  have hb := lt_of_cell (hc 0 _ h0)
  rw [block_of_add] at hb
  refine ⟨ad, e, hb, fun j u hu => ?_⟩
  rw [List.getElem?_map, Option.map_eq_some_iff] at hu
  obtain ⟨p, hp, rfl⟩ := hu
  exact hc j p hp
theorem own_rowR {w : World} {base N c : Nat} {A : Option Addr} {ps : List Pt} (h : w.ownsRow base 22 1 (.slice A N c) N (ps.map Pt.v)) (hok : ∀ p ∈ ps, PtOk w p) : RowR w A N ps := by
  have hl : ps.length = N := by have := h.1; rw [List.length_map] at this; omega
  refine ⟨hl, fun hN => ?_, hok⟩
  obtain ⟨g, cap, hv, _, _⟩ := World.ownsRow.form h (by omega)
  have hA : A = some ⟨g, 0, none⟩ := by injection hv
  exact ⟨⟨g, 0, none⟩, hA, fun k p hp => World.ownsRow.cells (g := g) h (by rw [hA]; rfl) k p.v (by rw [List.getElem?_map, hp]; rfl)⟩
theorem sb_get {w : World} {A : Option Addr} {n : Nat} {l : List SB} (h : Reads w w.heap.size 1 A n (l.flatMap fun x => [x.v])) (hl : l.length = n) {k : Nat} (hk : k < n) :
    ∃ ad x, A = some ad ∧ x ∈ l ∧ (ad.add k).block < w.heap.size ∧ w.cell? (ad.add k) = some x.v ∧ l[k]? = some x := by
  obtain ⟨ad, rfl, hb, hc⟩ := h.2 (by omega)
  have hg : l[k]? = some l[k] := List.getElem?_eq_getElem (by omega)
  have F := flat_get (fun x : SB => [x.v]) 1 (fun _ => rfl) l k
  refine ⟨ad, l[k], rfl, List.getElem_mem (by omega), by rw [block_of_add]; exact hb, ?_, hg⟩
  exact hc _ _ (by have := F 0 _ hg (by omega); simpa using this)
theorem pgs_take_le (rs : List (List UInt8)) (k : Nat) : pgs (rs.take k) ≤ pgs rs := by
  induction rs generalizing k with
  | nil => simp
  | cons r rs ih =>
    match k with
    | 0 => simp [pgs]
    | k + 1 =>
      rw [List.take_succ_cons, pgs_cons, pgs_cons]
      have := ih k
      omega
set_option maxRecDepth 20000 in
set_option maxHeartbeats 8000000 in
theorem bookTorn_walk (w : World) (A : Option Addr) (m c : Nat) (l : List SB) (hlm : l.length = m) (hr : Reads w w.heap.size 1 A m (l.flatMap fun x => [x.v])) (hi : ∀ x ∈ l, SB.ok w x) (hmcap : m ≤ c) (which part : UInt8) (lost : Bool)
    (Am : Option Addr) (nm cm : Nat) (more : List UInt8) (_ : more.length = nm) (hrm : RB w Am nm more) (hmc : nm ≤ cm) (_ : nm ≤ 140737488351232) :
    Calls Try.prog 15 #[.slice A m c, .int .u8 (which.toNat : Int), .int .u8 (part.toNat : Int), .bool lost, .slice Am nm cm] w fun e w' => e = .returned (.bool true) ∧ Below w.heap.size w w' := by
  by_cases h1 : 20 < m
  · have hbi : (20 : Int) < (m : Int) := by omega
    go_enter Try.func15, Try.ntmps15
    go_wp2_with (go_at_call 43; refine (works6_any w).mono ?_; rintro e w2 ⟨rfl, hb2⟩)
    go_ret
    exact ⟨rfl, hb2⟩
  have hbi : ¬ (20 : Int) < (m : Int) := by omega
  by_cases h2 : m = 0
  · subst h2
    go_enter Try.func15, Try.ntmps15
    go_wp2_with (go_at_call 43; refine (works6_any w).mono ?_; rintro e w2 ⟨rfl, hb2⟩)
    go_ret
    exact ⟨rfl, hb2⟩
  have hzi : ¬ (m : Int) = 0 := by omega
  have hzj : ((m : Int) == 0) = false := by simpa using hzi
  by_cases h3 : 500 < nm
  · have hbi3 : (500 : Int) < (nm : Int) := by omega
    go_enter Try.func15, Try.ntmps15
    go_wp2_with (go_at_call 43; refine (works6_any w).mono ?_; rintro e w2 ⟨rfl, hb2⟩)
    go_ret
    exact ⟨rfl, hb2⟩
  have hbi3 : ¬ (500 : Int) < (nm : Int) := by omega
  obtain ⟨d1, d2, hf, hl1, ho, hst0⟩ := torn_start
  have HF := Lib.hid hf
  have HL1 := Lib.hid hl1
  have HO := Lib.hid ho
  have HST := Lib.hid hst0
  have HI := Lib.hid hi
  have HLM := Lib.hid hlm
  obtain ⟨W, hW⟩ : ∃ W, which.toNat = W := ⟨_, rfl⟩
  obtain ⟨Pt_, hPt⟩ : ∃ W, part.toNat = W := ⟨_, rfl⟩
  have hW1 : W < 256 := by have := which.toNat_lt; omega
  have hPt1 : Pt_ < 256 := by have := part.toNat_lt; omega
  rw [hW, hPt]
  obtain ⟨base, hbase⟩ : ∃ b, w.heap.size = b := ⟨_, rfl⟩
  have HBASE := Lib.hid hbase
  clear hf hl1 ho hst0 hi hlm hW hPt
  go_enter Try.func15, Try.ntmps15
  go_wp2_with fail
  refine (dnew_any w).mono ?_
  rintro e w1 ⟨l0, rfl, hD, hb⟩
  have hbb : Below w.heap.size w w1 ∧ base ≤ w1.heap.size := ⟨hb, by rw [← hbase]; exact hb.size⟩
  rw [hbase] at hD
  clear hb hbase
  simp only []
  obtain ⟨g, hlg⟩ : ∃ g, l0.g = g := ⟨_, rfl⟩
  rw [hlg]
  go_wp2_with fail
  refine (bformat_any w1 base l0 ds0 hD g hlg hbb.2 (by decide) 0 (by omega)).mono ?_
  rw [HF.out]
  rintro e w2 ⟨l1, rfl, hlg1, hD1, hm⟩
  have hbb := base_moved hbb (Nat.le_of_eq HBASE.out) hD hm
  simp only [] at hD1 ⊢
  clear hm hD hlg
  go_wp2_with fail
  refine (bopen_any w2 base l1 d1 hD1 g hlg1 hbb.2 (by rw [HL1.out]; decide) 0 400).mono ?_
  rw [HO.out.e, HO.out.d_, HO.out.s, HO.out.a]
  rintro e w3 ⟨l2, hlg2, hD2, hm, (⟨h, _⟩ | ⟨_, kb, A', N, c', ps, rfl, hk, hB, hR, hxs⟩)⟩
  · exact absurd rfl h
  have hbb := base_moved hbb (Nat.le_of_eq HBASE.out) hD1 hm
  simp only []
  clear hm hD1 hlg1 hR hxs hk
  go_upto_block 0 with (fail)
  have hbb1 := hbb.1
  have hbb2 := hbb.2
  have hTm : W % m < m := Nat.mod_lt _ (by omega)
  rw [← Int.natCast_emod]
  obtain ⟨T, hT⟩ : ∃ T, W % m = T := ⟨_, rfl⟩
  rw [hT] at hTm ⊢
  clear hT
  go_cut [16] (fun pv wx => ∃ (d : DS) (l' : DL) (rs : List (List UInt8)) (q : Int) (z : Nat), rs = (l.take m).map (·.xs) ∧ (∀ x ∈ l.take m, x.n ≤ 500) ∧ pv = .int .i64 (20 + (pgs (rs.take T) : Int)) ∧ TnSt d rs q z ∧ DiskAt wx base l' d ∧ l'.g = g ∧ BookAt wx base l' kb ⟨q, 400, 1, rs.length, false⟩ ∧ Below w.heap.size w wx ∧ base ≤ wx.heap.size)
  case first =>
    go_wp2_with fail
    go_loopw [16, 17] (fun pv iv wr => ∃ (k : Nat) (d : DS) (l' : DL) (rs : List (List UInt8)) (q : Int) (z : Nat), k ≤ m ∧ iv = .int .i64 (k : Int) ∧ rs = (l.take k).map (·.xs) ∧ (∀ x ∈ l.take k, x.n ≤ 500) ∧ pv = .int .i64 (20 + (pgs (rs.take T) : Int)) ∧ TnSt d rs q z ∧ DiskAt wr base l' d ∧ l'.g = g ∧ BookAt wr base l' kb ⟨q, 400, 1, rs.length, false⟩ ∧ Below w.heap.size w wr ∧ base ≤ wr.heap.size) (fun _ iv _ => m - (intOf iv).toNat)
    case atStart => exact ⟨0, d2, l2, [], 20, 1, Nat.zero_le _, rfl, by simp, by simp, by simp [pgs], HST.out, hD2, hlg2, hB, hbb1, hbb2⟩
    case round =>
      clear hbb hD2 hbb1 hbb2 hB
      obtain ⟨k, d, l', rs, q, z, hk, rfl, hrs, hx5, rfl, hst, hDk, hlk, hBk, hbk, hbks⟩ := hrel
      have hlen : rs.length = k := by rw [hrs, List.length_map, List.length_take, HLM.out]; omega
      have hqq := hst.st.q_
      have hqk := hst.q_
      by_cases hkm : k < m
      · obtain ⟨ad, ⟨A1, n, z1, b⟩, e, hxl, hadl, q0, hget⟩ := sb_get hr HLM.out hkm
        cases e
        obtain ⟨hR1, _, _⟩ := HI.out _ hxl
        simp only [SB.v] at q0 hR1
        have hl1 := hR1.len
        obtain ⟨Pa, hPa⟩ : ∃ P, ad.add k = P := ⟨_, rfl⟩
        have Q0 : Hid (∀ z, Below w.heap.size w z → z.cell? Pa = some (.slice A1 n z1)) := Lib.hid (fun z hz => by rw [hPa] at hadl q0; exact (hz.cell hadl).trans q0)
        have HL1 := Lib.hid hl1
        have g1 : (k : Int) < (m : Int) := by omega
        have g0 : (0 : Int) ≤ (k : Int) := by omega
        clear hxl q0 hl1 hadl
        have c0 := Q0.out _ hbk
        by_cases hb1 : 500 < n
        · have hb1' : (500 : Int) < (n : Int) := by omega
          clear hb1 hqq hqk hlen
          go_wp2_with (go_at_call 43; refine (works6_any _).mono ?_; rintro e w2 ⟨rfl, hb2⟩)
          go_ret
          exact ⟨rfl, below_next' hbk hb2⟩
        · have hb1' : ¬ (500 : Int) < (n : Int) := by omega
          have hbl : b.length ≤ 500 := by have := HL1.out; omega
          obtain ⟨P, hP⟩ : ∃ P, pagesN n = P := ⟨_, rfl⟩
          have hPb : pagesN b.length = P := by rw [HL1.out]; exact hP
          have hP5 : P ≤ 5 := by rw [← hP]; unfold pagesN; omega
          have HP := Lib.hid hP
          obtain ⟨d', ap⟩ := hst.st.ap (Nat.le_refl _) (Nat.le_refl _) hst.f (r := b) (by omega) (by rw [hPb]; omega)
          have hae := ap.e
          have hast := ap.st
          rw [hPb] at hae hast
          have hlen' : (rs ++ [b]).length = rs.length + 1 := by simp
          have hst' : TnSt d' (rs ++ [b]) (q + (P : Int)) 1 := ⟨hast, ap.f, ap.l, by rw [hlen']; omega⟩
          have hpg : pgs ((rs ++ [b]).take T) = pgs (rs.take T) + if k < T then P else 0 := by
            by_cases hkT : k < T
            · rw [if_pos hkT, List.take_of_length_le (by rw [hlen']; omega), List.take_of_length_le (by omega), pgs_snoc, hPb]
            · rw [if_neg hkT, List.take_append_of_le_length (by omega), Nat.add_zero]
          have hpgb : pgs (rs.take T) ≤ 400 := by
            have e1 := hst.st.chn.pgs
            have e2 := pgs_take_le rs T
            omega
          have htk : (l.take (k + 1)) = l.take k ++ [⟨A1, n, z1, b⟩] := by rw [List.take_add_one, hget]; rfl
          have hrs' : rs ++ [b] = (l.take (k + 1)).map (·.xs) := by rw [htk, List.map_append, ← hrs]; rfl
          have hx5' : ∀ x ∈ l.take (k + 1), x.n ≤ 500 := by
            intro x hx
            rw [htk] at hx
            rcases List.mem_append.1 hx with h | h
            · exact hx5 x h
            · obtain rfl : x = ⟨A1, n, z1, b⟩ := by simpa using h
              simp only
              omega
          have HAE := Lib.hid hae
          have HLEN := Lib.hid hlen'
          have HPG := Lib.hid hpg
          have HRS := Lib.hid hrs'
          have hbnd : 0 ≤ q ∧ q ≤ 32768 ∧ (400 : Int) ≤ 32768 ∧ rs.length ≤ 32767 ∧ 1 < 2 ^ 64 := by omega
          have HB := Lib.hid hbnd
          have hlo : d.loose.length < 800000000 := by rw [hst.l]; decide
          have hrb := hR1.below hbk
          have hn5 : n ≤ 500 := by omega
          clear hae hast ap hlen' hPb hpg hrs' htk hbnd hb1 hP hget hqq hqk hlen hrs hx5
          go_wp2_with fail
          refine (bappend_any wr base l' d hDk hbks hlo kb _ hBk HB.out A1 n z1 b hrb (by omega)).mono ?_
          rw [HAE.out]
          rintro e w4 ⟨l4, rfl, hl4, hD4, hB4, hm4⟩
          have hbb4 := base_cmoved ⟨hbk, hbks⟩ (Nat.le_of_eq HBASE.out) hDk hBk hm4
          simp only [] at hD4 hB4 ⊢
          have c0 := Q0.out _ hbb4.1
          clear hDk hBk hm4 hrb hlo hst
          by_cases hkT : k < T
          · have g2 : (k : Int) < (T : Int) := by omega
            have hpg := HPG.out
            rw [if_pos hkT] at hpg
            have HPG := Lib.hid hpg
            clear hpg hkT
            go_wp2_with fail
            refine (lpages_any w4 n (by omega)).mono ?_
            rw [HP.out]
            rintro e w4' ⟨rfl, rfl⟩
            simp only []
            go_wp2_with fail
            exact ⟨⟨k + 1, d', l4, rs ++ [b], q + (P : Int), 1, by omega, congrArg (Value.int .i64) (by omega), HRS.out, hx5', congrArg (Value.int .i64) (by rw [HPG.out]; omega), hst', hD4, hl4.trans hlk, by rw [HLEN.out]; exact hB4, hbb4.1, hbb4.2⟩, by simp only [intOf]; omega⟩
          · have g2 : ¬ (k : Int) < (T : Int) := by omega
            have hpg := HPG.out
            rw [if_neg hkT] at hpg
            have HPG := Lib.hid hpg
            clear hpg hkT
            go_wp2_with fail
            exact ⟨⟨k + 1, d', l4, rs ++ [b], q + (P : Int), 1, by omega, congrArg (Value.int .i64) (by omega), HRS.out, hx5', congrArg (Value.int .i64) (by rw [HPG.out]; omega), hst', hD4, hl4.trans hlk, by rw [HLEN.out]; exact hB4, hbb4.1, hbb4.2⟩, by simp only [intOf]; omega⟩
      · obtain rfl : k = m := by omega
        have g1 : ¬ (k : Int) < (k : Int) := by omega
        have HRS := Lib.hid hrs
        clear hrs hlen hqq hqk
        go_wp2_with fail
        go_meet
        exact ⟨d, l', rs, q, z, HRS.out, hx5, rfl, hst, hDk, hlk, hBk, hbk, hbks⟩
  case rest =>
    obtain ⟨d, l', rs, q, z, hrs, hx5, rfl, hst, hDk, hlk, hBk, hbk, hbks⟩ := hcut
    have hlen : rs.length = m := by rw [hrs, List.length_map, List.length_take, HLM.out]; omega
    obtain ⟨ad, ⟨A1, n, z1, b⟩, e, hxl, hadl, q0, hget⟩ := sb_get hr HLM.out hTm
    cases e
    have hn5 : n ≤ 500 := hx5 ⟨A1, n, z1, b⟩ (by rw [List.take_of_length_le (by rw [HLM.out]; exact Nat.le_refl _)]; exact hxl)
    obtain ⟨hR1, _, _⟩ := HI.out _ hxl
    simp only [SB.v] at q0 hR1
    have hl1 := hR1.len
    have hgD : rs.getD T [] = b := by
      rw [hrs, List.take_of_length_le (by rw [HLM.out]; exact Nat.le_refl _), List.getD_eq_getElem?_getD, List.getElem?_map, hget]
      rfl
    obtain ⟨P, hP⟩ : ∃ P, pagesN n = P := ⟨_, rfl⟩
    have hPb : pagesN b.length = P := by rw [hl1]; exact hP
    have hP15 : 1 ≤ P ∧ P ≤ 5 := by rw [← hP]; unfold pagesN; omega
    have hjP : Pt_ % P < P := Nat.mod_lt _ (by omega)
    have hpg4 : pgs (rs.take T) ≤ 100 := by
      have e1 := hst.st.chn.pgs
      have e2 := pgs_take_le rs T
      have e3 := hst.q_
      omega
    have hsp := hst.spoil T (by omega) (Pt_ % P) (by rw [hgD, hPb]; exact hjP) (20 + (pgs (rs.take T) : Int) + ((Pt_ % P : Nat) : Int)) rfl (by omega)
    have HSP := Lib.hid hsp
    have HP := Lib.hid hP
    have hrsT : rs.take T = (l.take T).map (·.xs) := by rw [hrs, ← List.map_take, List.take_take, Nat.min_eq_left (Nat.le_of_lt hTm)]
    obtain ⟨J, hJ⟩ : ∃ J, Pt_ % P = J := ⟨_, rfl⟩
    rw [hJ] at HSP hjP
    obtain ⟨rT, hrT⟩ : ∃ x, rs.take T = x := ⟨_, rfl⟩
    rw [hrT] at HSP hrsT hpg4 ⊢
    have HRT := Lib.hid hrsT
    obtain ⟨Pa, hPa⟩ : ∃ P, ad.add T = P := ⟨_, rfl⟩
    have Q0 : Hid (∀ z, Below w.heap.size w z → z.cell? Pa = some (.slice A1 n z1)) := Lib.hid (fun z hz => by rw [hPa] at hadl q0; exact (hz.cell hadl).trans q0)
    have g1 : (T : Int) < (m : Int) := by omega
    have g0 : (0 : Int) ≤ (T : Int) := by omega
    have c0 := Q0.out _ hbk
    have hlo : d.loose.length < 1000000000 := by rw [hst.l]; decide
    have hPz : ¬ (P : Int) = 0 := by omega
    have hPz' : ((P : Int) == 0) = false := by simpa using hPz
    have hmod : (Pt_ : Int) % (P : Int) = (J : Int) := by rw [← hJ, Int.natCast_emod]
    clear hrs hx5 hlen hget hxl hadl q0 hl1 hgD hPb hst hsp hrT hJ hrsT hP hBk
    go_wp2_with fail
    refine (lpages_any wc n (by omega)).mono ?_
    rw [HP.out]
    rintro e wc' ⟨rfl, rfl⟩
    simp only []
    obtain ⟨pg, hpg⟩ : ∃ x, 20 + (pgs rT : Int) + (J : Int) = x := ⟨_, rfl⟩
    have hpgn : (20 : Int) + (pgs rT : Int) + (J : Int) ≤ 200 := by omega
    rw [hpg] at HSP
    go_upto_region 21 with (fail)
    skip
    clear hpgn hpg hmod hjP hPz hPz' hP15 hPt1
    go_wp2_with fail
    refine (bytes_lit wc 255 255 rfl).mono ?_
    rintro e w4 ⟨rfl, hb4⟩
    have hbb := below_base ⟨hbk, hbks⟩ hb4
    have hD4 := hDk.below hb4
    simp only []
    clear hb4 hDk hbk hbks c0
    go_wp2_with fail
    refine (gwrite w4 base g l' d hD4 hlk hbb.2 pg (rep 255) (rep_length 255) hlo).mono ?_
    rw [HSP.out.e]
    rintro e w5 ⟨l5, rfl, hl5, hD5, hm5⟩
    have hbb := base_moved hbb (Nat.le_of_eq HBASE.out) hD4 hm5
    simp only []
    clear hD4 hm5 hlk
    go_upto_if 103 with (fail)
    have hbb1 := hbb.1
    have hbb2 := hbb.2
    go_cut [16] (fun pv wx => ∃ (d : DS) (l' : DL), SpSt d rT (20 + (pgs rT : Int)) ∧ DiskAt wx base l' d ∧ l'.g = g ∧ Below w.heap.size w wx ∧ base ≤ wx.heap.size)
    case first =>
      cases lost
      · go_wp2_with fail
        go_meet
        exact ⟨_, l5, HSP.out.s, hD5, hl5, hbb1, hbb2⟩
      · go_wp2_with fail
        refine (goff w5 base g l5 _ hD5 hl5).mono ?_
        rintro e w6 ⟨l6, rfl, hl6, hD6, hm6⟩
        have hbb := base_moved ⟨hbb1, hbb2⟩ (Nat.le_of_eq HBASE.out) hD5 hm6
        simp only []
        clear hD5 hm6 hbb1 hbb2
        go_wp2_with fail
        have hb7 := below_alloc w6 (.cells #[.int .u8 2] 5)
        have hbb := below_base hbb hb7
        have hD7 := hD6.below hb7
        refine (gon _ base g l6 _ hD7 hl6 _ 1 1 [2] (RB.one_ _ _ rfl) (one_out hD6)).mono ?_
        rw [HSP.out.o]
        rintro e w8 ⟨l8, rfl, hl8, hD8, hm8⟩
        have hbb := base_moved hbb (Nat.le_of_eq HBASE.out) hD7 hm8
        simp only []
        clear hD6 hD7 hm8 hb7
        go_wp2_with fail
        go_meet
        exact ⟨_, l8, HSP.out.t, hD8, hl8, hbb.1, hbb.2⟩
    case rest =>
      obtain ⟨ds, l6, hsp, hD6, hl6, hbk, hbks⟩ := hcut
      obtain ⟨z', hst'⟩ := hsp.st
      obtain ⟨da, opa⟩ := hst'.op hsp.f (by decide) (by decide) 400 (by omega)
      have hP5m : pagesN more.length ≤ 5 := by have := hrm.len; unfold pagesN; omega
      obtain ⟨dc, apc⟩ := opa.st.ap (Nat.le_refl _) (by decide) opa.f (r := more) (by have := hrm.len; omega) (by omega)
      obtain ⟨dd, opd⟩ := apc.st.op apc.f (by decide) (by decide) 400 (by omega)
      have HOA := Lib.hid opa
      have HAC := Lib.hid apc
      have hae := apc.e
      have HAE := Lib.hid hae
      have HOD := Lib.hid opd
      have hlo : ds.loose.length < 900000000 := by have := hsp.l; omega
      have hloa : da.loose.length < 800000000 := by rw [opa.l]; decide
      have hloc : dc.loose.length < 900000000 := by rw [apc.l]; decide
      have hrTl : rT.length = T := by rw [HRT.out, List.length_map, List.length_take, HLM.out]; omega
      have hrowT := sb_row hr HI.out HLM.out (Nat.le_of_lt hTm)
      clear hst' hsp opa apc opd hae HSP hD2 hB hbb hbb1 hbb2
      go_wp2_with fail
      refine (bopen_any wc base l6 ds hD6 g hl6 hbks hlo 0 400).mono ?_
      rw [HOA.out.e, HOA.out.d_, HOA.out.s, HOA.out.a]
      rintro e w7 ⟨l7, hl7, hD7, hm, (⟨h, _⟩ | ⟨_, kc, A2, N2, c2, ps2, rfl, _, hB7, hR2, hxs2⟩)⟩
      · exact absurd rfl h
      have hbb := base_moved ⟨hbk, hbks⟩ (Nat.le_of_eq HBASE.out) hD6 hm
      have hN2 : N2 = T := by
        have e1 := hR2.len
        have e2 := congrArg List.length hxs2
        rw [List.length_map] at e2
        simp only at e2
        omega
      simp only []
      clear hm hD6 hl6 hbk hbks hlo
      subst hN2
      have hTc : (N2 : Int) ≤ (c : Int) := by omega
      have hbnd : 0 ≤ 20 + (pgs rT : Int) ∧ 20 + (pgs rT : Int) ≤ 32768 ∧ (400 : Int) ≤ 32768 ∧ rT.length ≤ 32767 ∧ 2 < 2 ^ 64 := by omega
      have HB := Lib.hid hbnd
      have hxsT : ((l.take N2).map SB.pt).map (·.xs) = rT := by rw [HRT.out, List.map_map]; rfl
      have HXT := Lib.hid hxsT
      clear hbnd hxsT
      go_wp2_with fail
      refine (same_any w7 A2 N2 c2 ps2 hR2.reads (some ad) N2 c _ (hrowT.below hbb.1) (by omega) (hxs2.trans HXT.out.symm)).mono ?_
      rintro e w8 ⟨rfl, hb8⟩
      have hbb := below_base hbb hb8
      have hD8 := hD7.below hb8
      have hB8 := hB7.below hb8
      simp only []
      clear hb8 hD7 hB7 hR2 hxs2
      go_wp2_with fail
      refine (bappend_any w8 base l7 da hD8 hbb.2 hloa kc _ hB8 HB.out Am nm cm more (hrm.below hbb.1) (by omega)).mono ?_
      rw [HAE.out]
      rintro e w9 ⟨l9, rfl, hl9, hD9, _, hm9⟩
      have hbb := base_cmoved hbb (Nat.le_of_eq HBASE.out) hD8 hB8 hm9
      have hl9 := hl9.trans hl7
      simp only [] at hD9 ⊢
      clear hD8 hB8 hm9 hl7
      go_wp2_with fail
      refine (bopen_any w9 base l9 dc hD9 g hl9 hbb.2 hloc 0 400).mono ?_
      rw [HOD.out.e, HOD.out.d_, HOD.out.s, HOD.out.a]
      rintro e w10 ⟨l10, hl10, hD10, hm, (⟨h, _⟩ | ⟨_, kd, A3, N3, c3, ps3, rfl, _, _, hR3, hxs3⟩)⟩
      · exact absurd rfl h
      have hbb := base_moved hbb (Nat.le_of_eq HBASE.out) hD9 hm
      have hRR := hR3.reads
      have hN3 : N3 ≤ 100000 := by
        have e1 := hR3.len
        have e2 := congrArg List.length hxs3
        rw [List.length_map, List.length_append] at e2
        simp only [List.length_cons, List.length_nil] at e2
        omega
      simp only []
      clear hm hD9 hl9 hD10 hR3
      have hwb := HBASE.out
      have hb1 : Below w.heap.size w (w10.alloc (.cells #[] 22)) := hbb.1.alloc (by omega) _
      have hE0 : (w10.alloc (.cells #[] 22)).ownsRow w10.heap.size 22 1 (.slice (some ⟨w10.heap.size, 0, none⟩) 0 0) 0 [] := World.ownsRow_made w10 #[] 0 (Nat.le_refl _) (by simp [maxLen]) (by simp)
      have hRd := (hrowT.below hb1).toReads
      have hpl : ((l.take N2).map SB.pt).length = N2 := hrowT.len
      have hone : ∀ u ∈ ((l.take N2).map SB.pt).map Pt.v, u.oneCell' = true := by
        intro u hu
        rw [List.mem_map] at hu
        obtain ⟨p, _, rfl⟩ := hu
        rfl
      have hs0 : w10.heap.size ≤ (w10.alloc (.cells #[] 22)).heap.size := (below_alloc w10 _).size
      have hw10 : w.heap.size ≤ w10.heap.size := hbb.1.size
      have hone1 : ∀ u ∈ [(.slice Am nm cm : Value)], u.oneCell' = true := by
        intro u hu
        rw [List.mem_singleton] at hu
        subst hu
        rfl
      have hNs : 0 + N2 < 1000000 := by omega
      have hNs1 : N2 + 1 < 1000000 := by omega
      go_wp2_with (first
        | (at_builtin; refine app_rows rfl _ _ rfl w10.heap.size _ 0 0 [] rfl hE0 (some ad) N2 c _ rfl hRd hone hNs hs0 ?_; intro A4 N4 c4 w11 hO4 hG4; have hN4 : N4 = N2 := (by have e1 := hO4.1; rw [List.nil_append, List.length_map, hpl] at e1; omega); subst hN4; have hb2 : Below w.heap.size w w11 := hb1.grown hG4.grown (Nat.le_trans hw10 hs0) (fun q hq => by cases hq; exact hw10))
        | (at_builtin; refine app_rows rfl _ _ rfl w10.heap.size _ N4 c4 _ rfl (World.ownsRow.alloc hO4 (.cells #[.slice Am nm cm] 22)) _ 1 1 [.slice Am nm cm] rfl ⟨w11.heap.size + 1, rfl, fun _ => ⟨_, rfl, Nat.lt_succ_self _, cell_one_new w11 _ _⟩⟩ hone1 hNs1 (Nat.le_trans hs0 (Nat.le_trans hG4.grown.size (below_alloc w11 _).size)) ?_; intro A5 N5 c5 w12 hO5 hG5))
      have hA4 : ∀ q, A4.map (·.block) = some q → w10.heap.size ≤ q := fun q hq => (World.ownsRow.lt hO4 q (by cases A4 <;> simp_all [Value.ownBlock])).1
      have hz1 : Below w10.heap.size w10 w11 := (below_alloc w10 (.cells #[] 22)).grown hG4.grown hs0 (fun q hq => by cases hq; exact Nat.le_refl _)
      have hz2 : Below w10.heap.size w10 w12 := (hz1.alloc hz1.size (.cells #[.slice Am nm cm] 22)).grown hG5.grown (hz1.alloc hz1.size (.cells #[.slice Am nm cm] 22)).size (fun q hq => hA4 q hq)
      have hb3 := below_next' hbb.1 hz2
      have hO5 : w12.ownsRow w10.heap.size 22 1 (.slice A5 N5 c5) N5 (((l.take N4).map SB.pt ++ [(⟨Am, nm, cm, more⟩ : Pt)]).map Pt.v) := by
        rw [List.map_append]
        exact hO5
      have hrr := own_rowR hO5 (fun p hp => by
        rcases List.mem_append.1 hp with h | h
        · exact (hrowT.below hb3).ok p h
        · obtain rfl : p = ⟨Am, nm, cm, more⟩ := by simpa using h
          exact ⟨hrm.below hb3, hmc⟩)
      refine (same_any w12 A3 N3 c3 ps3 (hRR.below hz2) A5 N5 c5 _ hrr hN3 (by rw [List.map_append, HXT.out]; exact hxs3)).mono ?_
      rintro e w13 ⟨rfl, hb13⟩
      have hb4 := below_next' hb3 hb13
      simp only []
      clear hz1 hz2 hO5 hrr hA4 hG4 hG5 hO4 hRd hE0 hb13
      go_wp2_with fail
      refine (works6_any w13).mono ?_
      rintro e w14 ⟨rfl, hb14⟩
      simp only []
      go_wp2_with fail
      go_ret
      exact ⟨rfl, below_next' hb4 hb14⟩
end Go.Proofs.Ytmjdfajdompkeaa
