/- book: pages, places, lives. -/
import Derived.Test.YtmjdfajdompkeaaKq12
namespace Go.Proofs.Ytmjdfajdompkeaa
open Go.RowKit Go.Rat
def pagesN (n : Nat) : Nat := (n + 109) / 108
theorem bpages_any (w : World) (n : Nat) (hn : n ≤ 140737488355328) : Calls Try.prog 70 #[.int .i64 (n : Int)] w fun e w' => e = .returned (.int .i64 (pagesN n : Int)) ∧ w = w' := by
  have h : ((n : Int) + 2 + 108 - 1) / 108 = ((pagesN n : Nat) : Int) := by unfold pagesN; omega
  have H := Lib.hid h
  clear h
  go_enter Try.func70, Try.ntmps70
  go_wp2_with fail
  go_ret
  exact ⟨congrArg (fun i => Ending.returned (.int .i64 i)) (by have := H.out; omega), rfl⟩
def bmayE (p size : Int) : Int := if size < 21 ∨ 32768 < size ∨ p < 0 ∨ 32768 - size < p then 1 else 0
theorem bmay_nil (w : World) (p size : Int) : Calls Try.prog 67 #[.pointer none, .int .i64 p, .int .i64 size] w fun e w' => e = .returned (.int .i64 2) ∧ w = w' := by
  go_enter Try.func67, Try.ntmps67
  go_wp2_with fail
  go_ret
  exact ⟨rfl, rfl⟩
theorem bmay_any (w : World) (g : Nat) (p size : Int) : Calls Try.prog 67 #[.pointer (some ⟨g, 0, none⟩), .int .i64 p, .int .i64 size] w fun e w' => e = .returned (.int .i64 (bmayE p size)) ∧ w = w' := by
  obtain ⟨E, hE⟩ : ∃ E, bmayE p size = E := ⟨_, rfl⟩
  rw [hE]
  have H := Lib.hid hE
  clear hE
  by_cases h1 : size < 21
  · go_enter Try.func67, Try.ntmps67
    go_wp2_with fail
    go_ret
    have hE := H.out
    rw [bmayE, if_pos (.inl h1)] at hE
    exact ⟨congrArg (fun i => Ending.returned (.int .i64 i)) hE, rfl⟩
  by_cases h2 : 32768 < size
  · go_enter Try.func67, Try.ntmps67
    go_wp2_with fail
    go_ret
    have hE := H.out
    rw [bmayE, if_pos (.inr (.inl h2))] at hE
    exact ⟨congrArg (fun i => Ending.returned (.int .i64 i)) hE, rfl⟩
  by_cases h3 : p < 0
  · go_enter Try.func67, Try.ntmps67
    go_wp2_with fail
    go_ret
    have hE := H.out
    rw [bmayE, if_pos (.inr (.inr (.inl h3)))] at hE
    exact ⟨congrArg (fun i => Ending.returned (.int .i64 i)) hE, rfl⟩
  by_cases h4 : 32768 - size < p
  · go_enter Try.func67, Try.ntmps67
    go_wp2_with fail
    go_ret
    have hE := H.out
    rw [bmayE, if_pos (.inr (.inr (.inr h4)))] at hE
    exact ⟨congrArg (fun i => Ending.returned (.int .i64 i)) hE, rfl⟩
  · go_enter Try.func67, Try.ntmps67
    go_wp2_with fail
    go_ret
    have hE := H.out
    rw [bmayE, if_neg (by omega)] at hE
    exact ⟨congrArg (fun i => Ending.returned (.int .i64 i)) hE, rfl⟩
/-- A book's cell's life, or why there is none. -/
def livedF (d : DS) (p : Int) : Int × Nat :=
  if opE d p ≠ 0 then (opE d p, 0) else if (opF d p).2.length = 0 then (0, 0) else if (opF d p).2.length = 8 then (0, num (opF d p).2) else (9, 0)
set_option maxRecDepth 20000 in
set_option maxHeartbeats 4000000 in
theorem blived_any (w : World) (base : Nat) (l : DL) (d : DS) (hD : DiskAt w base l d) (g : Nat) (hg : l.g = g) (hbase : base ≤ w.heap.size) (p : Int) (hp : 0 ≤ p ∧ p + 20 ≤ 32768) :
    Calls Try.prog 82 #[.pointer (some ⟨g, 0, none⟩), .int .i64 p] w fun e w' => (((livedF d p).1 ≠ 0 ∧ e = .returned (.tuple #[.pointer none, .int .u64 0, .int .i64 (livedF d p).1])) ∨
      ((livedF d p).1 = 0 ∧ ∃ k, e = .returned (.tuple #[.pointer (some ⟨k, 0, none⟩), .int .u64 ((livedF d p).2 : Int), .int .i64 0]) ∧ CellAt w' base l k (openCell d p) ∧ w.heap.size ≤ k)) ∧ Below w.heap.size w w' := by
  have hF : livedF d p = if opE d p ≠ 0 then (opE d p, 0) else if (openCell d p).b.length = 0 then (0, 0) else if (openCell d p).b.length = 8 then (0, num (openCell d p).b) else (9, 0) := rfl
  obtain ⟨s, hs⟩ : ∃ s, openCell d p = s := ⟨_, rfl⟩
  obtain ⟨E, hE⟩ : ∃ E, opE d p = E := ⟨_, rfl⟩
  rw [hs, hE] at hF
  have HS := Lib.hid hs
  have HE := Lib.hid hE
  rw [hF, hs]
  clear hF hs hE
  obtain ⟨R, hR⟩ : ∃ R : Int × Nat, (if E ≠ 0 then (E, 0) else if s.b.length = 0 then (0, 0) else if s.b.length = 8 then (0, num s.b) else (9, 0)) = R := ⟨_, rfl⟩
  rw [hR]
  have HR := Lib.hid hR
  clear hR
  go_enter Try.func82, Try.ntmps82
  go_wp2_with fail
  refine (copen_any w base l d hD g hg hbase p hp).mono ?_
  rw [HE.out, HS.out]
  rintro e w3 ⟨(⟨hne, rfl⟩ | ⟨he, k, rfl, hC, hk⟩), hb⟩
  · have hne' : (E == 0) = false := by simpa using hne
    have hR := HR.out
    rw [if_pos hne] at hR
    subst hR
    simp only []
    go_wp2_with fail
    go_ret3
    first | exact ⟨rfl, hb⟩ | exact ⟨.inl ⟨hne, rfl⟩, hb⟩
  · have hR := HR.out
    rw [if_neg (by simpa using he)] at hR
    have HR := Lib.hid hR
    simp only []
    clear hR
    subst he
    go_wp2_with fail
    refine (cget_any w3 base l k s hC).mono ?_
    rintro e w4 ⟨A, c, rfl, hO, hb4⟩
    have hC := hC.below hb4
    have hb := below_next' hb hb4
    simp only []
    by_cases h0 : s.b.length = 0
    · have hR := HR.out
      rw [if_pos h0] at hR
      subst hR
      have h0' : ((s.b.length : Nat) : Int) = 0 := by omega
      clear h0 hb4 hO
      go_wp2_with fail
      go_ret3
      first | exact ⟨⟨k, rfl, hC, hk⟩, hb⟩ | exact ⟨.inr ⟨rfl, k, rfl, hC, hk⟩, hb⟩
    · have hR := HR.out
      rw [if_neg h0] at hR
      have h0' : ¬ ((s.b.length : Nat) : Int) = 0 := by omega
      by_cases h8 : s.b.length = 8
      · rw [if_pos h8] at hR
        subst hR
        have h8' : ((s.b.length : Nat) : Int) = 8 := by omega
        have hrd := hO.reads
        have h8s : s.b.length ≤ 140737488355328 := by omega
        have htk : num (takeF s.b false 8).1 = num s.b := by
          have h1 : takeF s.b false 8 = (s.b.take 8, s.b.drop 8, false) := takeF_ok (xs := s.b) (k := 8) (by omega)
          rw [h1]
          show num (s.b.take 8) = _
          rw [List.take_of_length_le (by omega)]
        have HT := Lib.hid htk
        clear h0 h0' h8 hb4 hO htk
        go_wp2_with fail
        refine (cnew_any w4 A _ c s.b hrd h8s).mono ?_
        rintro e w5 ⟨gc, gb, rfl, hU, hg1, hg2, hg3, hb5⟩
        simp only []
        go_wp2_with fail
        refine (cword_any w5 gc gb _ false hU).mono ?_
        rw [HT.out]
        rintro e w6 ⟨rfl, _, hg6⟩
        have hb6 : Below w4.heap.size w4 w6 := hb5.grown hg6 hb5.size (fun q hq => by cases hq; exact hg1)
        have hC := hC.below hb6
        have hb := below_next' hb hb6
        simp only []
        clear hb5 hb6 hg6 hg1 hg2 hg3 hU hrd
        go_wp2_with fail
        go_ret3
        first | exact ⟨⟨k, rfl, hC, hk⟩, hb⟩ | exact ⟨.inr ⟨rfl, k, rfl, hC, hk⟩, hb⟩
      · rw [if_neg h8] at hR
        subst hR
        have h8' : ¬ ((s.b.length : Nat) : Int) = 8 := by omega
        clear h0 h8 hb4 hO
        go_wp2_with fail
        go_ret3
        first | exact ⟨rfl, hb⟩ | exact ⟨.inl ⟨by decide, rfl⟩, hb⟩
end Go.Proofs.Ytmjdfajdompkeaa
namespace Go.Proofs.Ytmjdfajdompkeaa
open Go.RowKit Go.Rat
def lifeF (d : DS) (p : Int) : Nat := ((livedF d p).2 + 1) % 2 ^ 64
/-- live: the disk, the error, the life. -/
def liveF (d : DS) (p : Int) : DS × Int × Nat :=
  if (livedF d p).1 ≠ 0 then (d, (livedF d p).1, 0) else ((ptF d p (opF d p).1 (be 8 (lifeF d p))).1, (ptF d p (opF d p).1 (be 8 (lifeF d p))).2, lifeF d p)
theorem CMoved.fresh {w w1 w2 : World} {l l' : DL} {k : Nat} (h : Below w.heap.size w w1) (hk : w.heap.size ≤ k) (q : CMoved w1 w2 l l' k) : Moved w w2 l l' :=
  ⟨q.g, (Chg.of_below l.fp h).trans q.chg (fun x hx => by
    rcases hx with hx | hx
    · exact .inl hx
    · exact .inr (by omega)), fun x hx => by
    rcases q.fp x hx with h1 | h1
    · exact .inl h1
    · exact .inr (Nat.le_trans h.size h1)⟩
set_option maxRecDepth 20000 in
set_option maxHeartbeats 4000000 in
theorem blive_any (w : World) (base : Nat) (l : DL) (d : DS) (hD : DiskAt w base l d) (g : Nat) (hg : l.g = g) (hbase : base ≤ w.heap.size) (hlo : d.loose.length < 900000000) (p : Int) (hp : 0 ≤ p ∧ p + 20 ≤ 32768) :
    Calls Try.prog 68 #[.pointer (some ⟨g, 0, none⟩), .int .i64 p] w fun e w' => ∃ l', e = .returned (.tuple #[.int .u64 ((liveF d p).2.2 : Int), .int .i64 (liveF d p).2.1]) ∧ l'.g = g ∧ DiskAt w' base l' (liveF d p).1 ∧ Moved w w' l l' := by
  obtain ⟨R, hR⟩ : ∃ R, liveF d p = R := ⟨_, rfl⟩
  rw [hR]
  rw [liveF] at hR
  obtain ⟨⟨E, n⟩, hE⟩ : ∃ E, livedF d p = E := ⟨_, rfl⟩
  have hL : lifeF d p = (n + 1) % 2 ^ 64 := by rw [lifeF, hE]
  have hn64 : lifeF d p < 2 ^ 64 := Nat.mod_lt _ (by decide)
  obtain ⟨y, hy⟩ : ∃ y, lifeF d p = y := ⟨_, rfl⟩
  rw [hE, hy] at hR
  rw [hy] at hL hn64
  obtain ⟨s, hs⟩ : ∃ s, openCell d p = s := ⟨_, rfl⟩
  have hsp : s.p = p ∧ s.which = (opF d p).1 ∧ s.dead = false := by rw [← hs]; exact ⟨rfl, rfl, rfl⟩
  have hR : (if E ≠ 0 then (d, E, 0) else ((ptF d s.p s.which (be 8 y)).1, (ptF d s.p s.which (be 8 y)).2, y)) = R := by rw [hsp.1, hsp.2.1]; exact hR
  have HE := Lib.hid hE
  have HR := Lib.hid hR
  have HY := Lib.hid hL
  have HS := Lib.hid hs
  have HSP := Lib.hid hsp
  have HN := Lib.hid hn64
  clear hR hE hL hy hs hsp hn64
  have hwr := wrap64u n
  rw [← HY.out] at hwr
  go_enter Try.func68, Try.ntmps68
  go_wp2_with fail
  refine (blived_any w base l d hD g hg hbase p hp).mono ?_
  rw [HE.out, HS.out]
  rintro e w3 ⟨(⟨hne, rfl⟩ | ⟨he, k, rfl, hC, hk⟩), hb⟩
  · simp only at hne
    have hne' : (E == 0) = false := by simpa using hne
    have hR := HR.out
    rw [if_pos hne] at hR
    subst hR
    simp only []
    have hD := hD.below hb
    go_wp2_with fail
    go_ret2
    first | exact ⟨rfl, l, hg, hD, .of_below hb⟩ | exact ⟨l, rfl, hg, hD, .of_below hb⟩
  · simp only at he
    subst he
    have hR := HR.out
    rw [if_neg (by decide)] at hR
    have HR2 := Lib.hid hR
    simp only []
    have hD := hD.below hb
    clear hR HR
    go_wp2_with fail
    refine (word_any w3 none 0 0 [] y (RB.nil_ _ _) (by omega) HN.out).mono ?_
    rintro e w4 ⟨A, N, c, rfl, hO, hb4⟩
    have hfl : ∀ x, l.fp x → x < w3.heap.size := fun x hf => (hD.fp_lt hf).2
    have hkl := hC.lt
    have hD := hD.below hb4
    have hC := hC.below hb4
    have hlen : N = 8 := by
      have := hO.len
      rw [List.nil_append, be_length] at this
      exact this.symm
    subst hlen
    have hrd := hO.reads
    rw [List.nil_append] at hrd
    have hap : 8 ≠ 0 → ∀ x, A.map (·.block) = some x → ¬ l.fp x ∧ x ≠ k := fun _ x hx => by
      have h1 := (hO.ge x hx).1
      exact ⟨fun hf => by have := hfl x hf; omega, by omega⟩
    have hb := below_next' hb hb4
    simp only []
    have hs4 := hb.size
    clear hO hb4 hfl hkl hwr
    go_wp2_with fail
    refine (cput_any w4 base l d hD g hg (by omega) hlo k s hC (by rw [HSP.out.1]; exact hp) HSP.out.2.2 A 8 c (be 8 y) hrd (by omega) hap).mono ?_
    have hR := HR2.out
    obtain ⟨⟨D2, E2⟩, hp2⟩ : ∃ x, ptF d s.p s.which (be 8 y) = x := ⟨_, rfl⟩
    rw [hp2] at hR ⊢
    subst hR
    rintro e w5 ⟨l5, rfl, hg5, hD5, _, hm⟩
    have hm := hm.fresh hb hk
    simp only [] at hD5 ⊢
    clear hap hrd hD hC HR2 hp2
    go_wp2_with fail
    go_ret2
    first | exact ⟨rfl, l5, hg5, hD5, hm⟩ | exact ⟨l5, rfl, hg5, hD5, hm⟩
end Go.Proofs.Ytmjdfajdompkeaa
namespace Go.Proofs.Ytmjdfajdompkeaa
open Go.RowKit Go.Rat
/-- A book: where the next page stands, where its room ends, its life, how many records, whether it is dead. -/
structure BS where
  next : Int
  lim : Int
  life : Nat
  n : Nat
  dead : Bool
structure BookAt (w : World) (base : Nat) (l : DL) (k : Nat) (s : BS) : Prop where
  blk : Blk w k 131 #[.pointer (some ⟨l.g, 0, none⟩), .int .i64 s.next, .int .i64 s.lim, .int .u64 (s.life : Int), .int .i64 (s.n : Int), .bool s.dead]
  out : ¬ l.fp k
  bk : base ≤ k
theorem BookAt.moved {w w' : World} {base : Nat} {l l' : DL} {k : Nat} {s : BS} (h : BookAt w base l k s) (hm : Moved w w' l l') : BookAt w' base l' k s := by
  have hg : l'.g = l.g := congrArg Prod.fst hm.g
  refine ⟨by rw [hg]; exact hm.chg.blk h.blk h.out, fun q => ?_, h.bk⟩
  rcases hm.fp k q with h1 | h1
  · exact h.out h1
  · have := h.blk.lt
    omega
theorem BookAt.below {w w' : World} {base : Nat} {l : DL} {k : Nat} {s : BS} (h : BookAt w base l k s) (hb : Below w.heap.size w w') : BookAt w' base l k s := h.moved (Moved.of_below hb)
theorem blen_nil (w : World) : Calls Try.prog 46 #[.pointer none] w fun e w' => e = .returned (.int .i64 0) ∧ w = w' := by
  go_enter Try.func46, Try.ntmps46
  go_wp2_with fail
  go_ret
  exact ⟨rfl, rfl⟩
theorem blen_any (w : World) (base : Nat) (l : DL) (k : Nat) (s : BS) (h : BookAt w base l k s) : Calls Try.prog 46 #[.pointer (some ⟨k, 0, none⟩)] w fun e w' => e = .returned (.int .i64 (s.n : Int)) ∧ w = w' := by
  have c4 := h.blk.cell 4
  have c0 := h.blk.cell 0
  simp only [List.getElem?_toArray, List.getElem?_cons_zero, List.getElem?_cons_succ] at c4 c0
  go_enter Try.func46, Try.ntmps46
  go_wp2_with fail
  go_ret
  exact ⟨rfl, rfl⟩
theorem bformat_any (w : World) (base : Nat) (l : DL) (d : DS) (hD : DiskAt w base l d) (g : Nat) (hg : l.g = g) (hbase : base ≤ w.heap.size) (hlo : d.loose.length < 800000000) (p : Int) (hp : 0 ≤ p ∧ p + 20 ≤ 32768) :
    Calls Try.prog 47 #[.pointer (some ⟨g, 0, none⟩), .int .i64 p] w fun e w' => ∃ l', e = .returned (.int .i64 (fmF d p).2) ∧ l'.g = g ∧ DiskAt w' base l' (fmF d p).1 ∧ Moved w w' l l' := by
  obtain ⟨⟨d', E⟩, hR⟩ : ∃ R, fmF d p = R := ⟨_, rfl⟩
  rw [hR]
  have HR := Lib.hid hR
  clear hR
  go_enter Try.func47, Try.ntmps47
  go_wp2_with fail
  refine (cformat_any w base l d hD g hg hbase hlo p hp).mono ?_
  rw [HR.out]
  rintro e w2 ⟨l1, rfl, hlg1, hD1, hm⟩
  simp only [] at hD1 ⊢
  go_wp2_with fail
  go_ret
  first | exact ⟨rfl, l1, hlg1, hD1, hm⟩ | exact ⟨l1, rfl, hlg1, hD1, hm⟩
end Go.Proofs.Ytmjdfajdompkeaa
namespace Go.Proofs.Ytmjdfajdompkeaa
open Go.RowKit Go.Rat
def partP (all : List UInt8) (k : Nat) : List UInt8 := (all.drop (k * 108)).take 108
theorem partP_length {all : List UInt8} {k : Nat} (h : (k + 1) * 108 ≤ all.length) : (partP all k).length = 108 := by
  rw [partP, List.length_take, List.length_drop]; omega
structure PH where
  life : Nat
  number : Nat
  page : Nat
  pages : Nat
def pageB (h : PH) (rest : List UInt8) : List UInt8 := be 8 h.life ++ (be 8 h.number ++ (be 2 h.page ++ (be 2 h.pages ++ rest)))
def headR (s : List UInt8) : PH := ⟨num (s.take 8), num ((s.drop 8).take 8), num (((s.drop 8).drop 8).take 2), num ((((s.drop 8).drop 8).drop 2).take 2)⟩
def restR (s : List UInt8) : List UInt8 := (((((s.drop 8).drop 8).drop 2).drop 2)).take 108
theorem take_be (n a : Nat) (r : List UInt8) : (be n a ++ r).take n = be n a := by
  rw [List.take_append_of_le_length (by rw [be_length]; exact Nat.le_refl n), List.take_of_length_le (by rw [be_length]; exact Nat.le_refl n)]
theorem drop_be (n a : Nat) (r : List UInt8) : (be n a ++ r).drop n = r := by
  rw [List.drop_append_of_le_length (by rw [be_length]; exact Nat.le_refl n), List.drop_of_length_le (by rw [be_length]; exact Nat.le_refl n), List.nil_append]
theorem pageB_length (h : PH) {rest : List UInt8} (hr : rest.length = 108) : (pageB h rest).length = 128 := by
  simp only [pageB, List.length_append, be_length, hr]
theorem headR_pageB {h : PH} (h1 : h.life < 2 ^ 64) (h2 : h.number < 2 ^ 64) (h3 : h.page < 2 ^ 16) (h4 : h.pages < 2 ^ 16) (rest : List UInt8) : headR (pageB h rest) = h := by
  unfold headR pageB
  simp only [take_be, drop_be, num_be]
  obtain ⟨a, b, c, d⟩ := h
  simp only at h1 h2 h3 h4 ⊢
  rw [Nat.mod_eq_of_lt (by rw [show (256 : Nat) ^ 8 = 2 ^ 64 from by decide]; exact h1), Nat.mod_eq_of_lt (by rw [show (256 : Nat) ^ 8 = 2 ^ 64 from by decide]; exact h2), Nat.mod_eq_of_lt (by rw [show (256 : Nat) ^ 2 = 2 ^ 16 from by decide]; exact h3), Nat.mod_eq_of_lt (by rw [show (256 : Nat) ^ 2 = 2 ^ 16 from by decide]; exact h4)]
theorem restR_pageB (h : PH) {rest : List UInt8} (hr : rest.length = 108) : restR (pageB h rest) = rest := by
  unfold restR pageB
  simp only [drop_be]
  rw [List.take_of_length_le (by omega)]
/-- A record's bytes: how many, they, noughts up to its last page's end. -/
def recB (r : List UInt8) : List UInt8 := be 2 r.length ++ (r ++ List.replicate (pagesN r.length * 108 - (2 + r.length)) 0)
theorem pagesN_room (n : Nat) : 2 + n ≤ pagesN n * 108 ∧ 1 ≤ pagesN n := by
  unfold pagesN
  omega
theorem recB_length (r : List UInt8) : (recB r).length = pagesN r.length * 108 := by
  have h := pagesN_room r.length
  simp only [recB, List.length_append, be_length, List.length_replicate]
  omega
theorem partP_next (all : List UInt8) (k : Nat) : all.take (k * 108) ++ partP all k = all.take ((k + 1) * 108) := by
  rw [partP, Nat.add_mul, Nat.one_mul, List.take_add]
theorem recB_size {r : List UInt8} (h : r.length < 2 ^ 16) : num ((recB r).take 2) = r.length := by
  rw [recB, take_be, num_be, Nat.mod_eq_of_lt (by rw [show (256 : Nat) ^ 2 = 2 ^ 16 from by decide]; exact h)]
theorem recB_bytes (r : List UInt8) : ((recB r).drop 2).take r.length = r := by
  rw [recB, drop_be, List.take_append_of_le_length (Nat.le_refl _), List.take_of_length_le (Nat.le_refl _)]
theorem recB_noughts (r : List UInt8) : anyB (((recB r).drop 2).drop r.length) = false := by
  rw [recB, drop_be, List.drop_append_of_le_length (Nat.le_refl _), List.drop_of_length_le (Nat.le_refl _), List.nil_append, anyB, List.any_eq_false]
  intro x hx
  rw [List.eq_of_mem_replicate hx]
  decide
end Go.Proofs.Ytmjdfajdompkeaa
namespace Go.Proofs.Ytmjdfajdompkeaa
open Go.RowKit Go.Rat
/-- What a disk tells of a sector. -/
def seeD (d : DS) (p : Int) : Option (List UInt8) := if readE d p = 0 then some (readB d p) else none
def pgF (V : Int → Option (List UInt8)) (lim p : Int) : Option (PH × List UInt8) :=
  if lim ≤ p then none else match V p with
    | none => none
    | some s => some (headR s, restR s)
/-- The first page's bytes and those of j more, of one record. -/
def moreF (V : Int → Option (List UInt8)) (lim p : Int) (h : PH) (r0 : List UInt8) : Nat → Option (List UInt8)
  | 0 => some r0
  | j + 1 => match moreF V lim p h r0 j, pgF V lim (p + ((j + 1 : Nat) : Int)) with
    | some all, some (g, rest) => if g.life = h.life ∧ g.number = h.number ∧ g.page = j + 1 ∧ g.pages = h.pages then some (all ++ rest) else none
    | _, _ => none
def headOk (h : PH) (r0 : List UInt8) (n fr life : Nat) : Prop := h.number = n + 1 ∧ h.page = 0 ∧ fr ≤ h.life ∧ h.life ≤ life ∧ num (r0.take 2) ≤ 4096 ∧ h.pages = pagesN (num (r0.take 2))
instance (h : PH) (r0 : List UInt8) (n fr life : Nat) : Decidable (headOk h r0 n fr life) := by unfold headOk; infer_instance
def endR (h : PH) (all : List UInt8) : Option (List UInt8 × PH) :=
  if anyB ((all.drop 2).drop (num (all.take 2))) = true then none else some ((all.drop 2).take (num (all.take 2)), h)
/-- The record that stands at p as number n + 1, of a life from fr to life. -/
def readF (V : Int → Option (List UInt8)) (lim p : Int) (n fr life : Nat) : Option (List UInt8 × PH) :=
  match pgF V lim p with
  | none => none
  | some (h, r0) => if headOk h r0 n fr life then (match moreF V lim p h r0 (h.pages - 1) with
      | none => none
      | some all => endR h all) else none
def allF (V : Int → Option (List UInt8)) (lim : Int) (life : Nat) : Nat → Int → Nat → Nat → List (List UInt8) × Int × Nat
  | 0, p, n, _ => ([], p, n)
  | f + 1, p, n, fr => match readF V lim p n fr life with
    | none => ([], p, n)
    | some (r, h) => (r :: (allF V lim life f (p + (h.pages : Int)) (n + 1) h.life).1, (allF V lim life f (p + (h.pages : Int)) (n + 1) h.life).2)
theorem pgF_len {V : Int → Option (List UInt8)} (hV : ∀ a s, V a = some s → s.length = 128) {lim p : Int} {g : PH} {r : List UInt8} (h : pgF V lim p = some (g, r)) : r.length = 108 ∧ p < lim ∧ g.life < 2 ^ 64 ∧ g.number < 2 ^ 64 ∧ g.page < 2 ^ 16 ∧ g.pages < 2 ^ 16 := by
  unfold pgF at h
  split at h
  · cases h
  · next hl =>
    split at h
    · cases h
    · next s hs =>
      have h128 := hV p s hs
      cases h
      refine ⟨?_, by omega, num_lt64 ?_, num_lt64 ?_, num_lt16 ?_, num_lt16 ?_⟩
      · simp only [restR, List.length_take, List.length_drop, h128]; omega
      all_goals simp only [List.length_take]; omega
theorem moreF_len {V : Int → Option (List UInt8)} (hV : ∀ a s, V a = some s → s.length = 128) {lim p : Int} {h : PH} {r0 : List UInt8} (h0 : r0.length = 108) : ∀ j all, moreF V lim p h r0 j = some all → all.length = (j + 1) * 108
  | 0, all, hm => by cases hm; omega
  | j + 1, all, hm => by
    rw [moreF] at hm
    split at hm
    · next a g rest h1 h2 =>
      split at hm
      · cases hm
        have e1 := moreF_len hV h0 j a h1
        have e2 := (pgF_len hV h2).1
        rw [List.length_append, e1, e2]; omega
      · cases hm
    · cases hm
theorem moreF_none {V : Int → Option (List UInt8)} {lim p : Int} {h : PH} {r0 : List UInt8} {j : Nat} (hm : moreF V lim p h r0 j = none) : ∀ k, moreF V lim p h r0 (j + k) = none
  | 0 => hm
  | k + 1 => by rw [← Nat.add_assoc, moreF, moreF_none hm k]
theorem moreF_bad {V : Int → Option (List UInt8)} {lim p : Int} {h : PH} {r0 : List UInt8} {j : Nat} (hm : moreF V lim p h r0 j = none) {m : Nat} (hj : j ≤ m) : moreF V lim p h r0 m = none := by
  have := moreF_none hm (m - j)
  rwa [show j + (m - j) = m by omega] at this
theorem moreF_take {V : Int → Option (List UInt8)} {lim p : Int} {h : PH} {r0 : List UInt8} (h0 : r0.length = 108) : ∀ j all, moreF V lim p h r0 j = some all → all.take 2 = r0.take 2
  | 0, all, hm => by cases hm; rfl
  | j + 1, all, hm => by
    rw [moreF] at hm
    split at hm
    · next a g rest h1 h2 =>
      split at hm
      · cases hm
        have e := moreF_take h0 j a h1
        have hl : 2 ≤ a.length := by
          have := congrArg List.length e
          simp only [List.length_take, h0] at this
          omega
        rw [List.take_append_of_le_length hl, e]
      · cases hm
    · cases hm
theorem readF_none1 {V : Int → Option (List UInt8)} {lim p : Int} {n fr life : Nat} (h : pgF V lim p = none) : readF V lim p n fr life = none := by rw [readF, h]
theorem readF_none2 {V : Int → Option (List UInt8)} {lim p : Int} {n fr life : Nat} {h : PH} {r0 : List UInt8} (h1 : pgF V lim p = some (h, r0)) (h2 : ¬ headOk h r0 n fr life) : readF V lim p n fr life = none := by rw [readF, h1]; exact if_neg h2
theorem readF_none3 {V : Int → Option (List UInt8)} {lim p : Int} {n fr life : Nat} {h : PH} {r0 : List UInt8} (h1 : pgF V lim p = some (h, r0)) {j : Nat} (h2 : moreF V lim p h r0 j = none) (hj : j ≤ h.pages - 1) : readF V lim p n fr life = none := by
  rw [readF, h1]
  simp only []
  split
  · rw [moreF_bad h2 hj]
  · rfl
theorem readF_some {V : Int → Option (List UInt8)} {lim p : Int} {n fr life : Nat} {h : PH} {r0 all : List UInt8} (h1 : pgF V lim p = some (h, r0)) (h2 : headOk h r0 n fr life) (h3 : moreF V lim p h r0 (h.pages - 1) = some all) : readF V lim p n fr life = endR h all := by
  rw [readF, h1]
  simp only []
  rw [if_pos h2, h3]
/-- What stands where a record was read. -/
theorem readF_of {V : Int → Option (List UInt8)} {lim p : Int} {n fr life : Nat} {r : List UInt8} {h : PH} (hr : readF V lim p n fr life = some (r, h)) :
    ∃ r0 all, pgF V lim p = some (h, r0) ∧ headOk h r0 n fr life ∧ moreF V lim p h r0 (h.pages - 1) = some all ∧ endR h all = some (r, h) := by
  unfold readF at hr
  split at hr
  · cases hr
  · next g r0 h1 =>
    split at hr
    · next h2 =>
      split at hr
      · cases hr
      · next all h3 =>
        have : g = h := by
          have hx := hr
          unfold endR at hx
          split at hx
          · cases hx
          · cases hx; rfl
        subst this
        exact ⟨r0, all, h1, h2, h3, hr⟩
    · cases hr
theorem moreF_of {V : Int → Option (List UInt8)} {lim p : Int} {h : PH} {r0 : List UInt8} : ∀ j all, moreF V lim p h r0 j = some all → ∀ k : Nat, 1 ≤ k → k ≤ j → ∃ s, p + (k : Int) < lim ∧ V (p + (k : Int)) = some s ∧ (headR s).life = h.life ∧ (headR s).number = h.number ∧ (headR s).page = k ∧ (headR s).pages = h.pages
  | 0, _, _, k, h1, h2 => by omega
  | j + 1, all, hm, k, h1, h2 => by
    rw [moreF] at hm
    split at hm
    · next a g rest hx hy =>
      split at hm
      · next hc =>
        by_cases e : k = j + 1
        · subst e
          unfold pgF at hy
          split at hy
          · cases hy
          · next hl =>
            split at hy
            · cases hy
            · next s hs =>
              cases hy
              exact ⟨s, by omega, hs, hc⟩
        · exact moreF_of j a hx k h1 (by omega)
      · cases hm
    · cases hm
theorem readF_pages {V : Int → Option (List UInt8)} {lim p : Int} {n fr life : Nat} {r : List UInt8} {h : PH} (hr : readF V lim p n fr life = some (r, h)) :
    fr ≤ h.life ∧ h.life ≤ life ∧ 1 ≤ h.pages ∧ h.pages ≤ 38 ∧ p + (h.pages : Int) ≤ lim ∧ h.number = n + 1 ∧ h.page = 0 ∧
    ∀ k : Nat, k < h.pages → ∃ s, V (p + (k : Int)) = some s ∧ (headR s).life = h.life ∧ (headR s).number = n + 1 ∧ (headR s).page = k ∧ (headR s).pages = h.pages := by
  obtain ⟨r0, all, h1, ⟨a1, a2, a3, a4, a5, a6⟩, h3, _⟩ := readF_of hr
  have hpg := (pagesN_room (num (r0.take 2))).2
  have hpm : pagesN (num (r0.take 2)) ≤ 38 := by unfold pagesN; omega
  have hm := moreF_of _ _ h3
  have h0 : p < lim ∧ ∃ s, V p = some s ∧ headR s = h := by
    unfold pgF at h1
    split at h1
    · cases h1
    · next hl =>
      split at h1
      · cases h1
      · next s hs =>
        cases h1
        exact ⟨by omega, s, hs, rfl⟩
  refine ⟨a3, a4, by omega, by omega, ?_, a1, a2, fun k hk => ?_⟩
  · by_cases e : h.pages = 1
    · omega
    · obtain ⟨s, q, _⟩ := hm (h.pages - 1) (by omega) (by omega)
      omega
  · by_cases e : k = 0
    · subst e
      obtain ⟨s, q1, q2⟩ := h0.2
      refine ⟨s, by rw [show p + ((0 : Nat) : Int) = p by omega]; exact q1, ?_⟩
      rw [q2]
      exact ⟨rfl, a1, a2, rfl⟩
    · obtain ⟨s, _, q1, q2, q3, q4⟩ := hm k (by omega) (by omega)
      exact ⟨s, q1, q2, q3.trans a1, q4⟩
theorem pgF_ext {V V' : Int → Option (List UInt8)} {lim p : Int} (h : V p = V' p) : pgF V lim p = pgF V' lim p := by rw [pgF, pgF, h]
theorem moreF_ext {V V' : Int → Option (List UInt8)} {lim p : Int} {h : PH} {r0 : List UInt8} : ∀ j, (∀ k : Nat, k ≤ j → V (p + (k : Int)) = V' (p + (k : Int))) → moreF V lim p h r0 j = moreF V' lim p h r0 j
  | 0, _ => rfl
  | j + 1, hv => by rw [moreF, moreF, moreF_ext j (fun k hk => hv k (by omega)), pgF_ext (hv (j + 1) (Nat.le_refl _))]
/-- The same pages, another life: the same record. -/
theorem readF_keep {V V' : Int → Option (List UInt8)} {lim p : Int} {n fr fr' life life' : Nat} {r : List UInt8} {h : PH} (hr : readF V lim p n fr life = some (r, h)) (hv : ∀ k : Nat, k < h.pages → V (p + (k : Int)) = V' (p + (k : Int))) (hf : fr' ≤ h.life) (hl : h.life ≤ life') :
    readF V' lim p n fr' life' = some (r, h) := by
  have hp1 := (readF_pages hr).2.2.1
  obtain ⟨r0, all, h1, ⟨a1, a2, a3, a4, a5, a6⟩, h3, h4⟩ := readF_of hr
  have e0 : V p = V' p := by
    have := hv 0 (by omega)
    rwa [show p + ((0 : Nat) : Int) = p by omega] at this
  rw [pgF_ext e0] at h1
  rw [moreF_ext (V' := V') _ (fun k hk => hv k (by omega))] at h3
  rw [readF_some h1 ⟨a1, a2, hf, hl, a5, a6⟩ h3, h4]
/-- A record's page k. -/
def recP (a n : Nat) (r : List UInt8) (k : Nat) : List UInt8 := pageB ⟨a, n, k, pagesN r.length⟩ (partP (recB r) k)
theorem recP_length (a n : Nat) (r : List UInt8) {k : Nat} (hk : k < pagesN r.length) : (recP a n r k).length = 128 :=
  pageB_length _ (partP_length (by rw [recB_length]; exact Nat.mul_le_mul_right _ hk))
theorem head_recP {a n : Nat} {r : List UInt8} {k : Nat} (ha : a < 2 ^ 64) (hn : n < 2 ^ 64) (hr : r.length ≤ 4096) (hk : k < pagesN r.length) : headR (recP a n r k) = ⟨a, n, k, pagesN r.length⟩ := by
  have : pagesN r.length ≤ 38 := by unfold pagesN; omega
  exact headR_pageB ha hn (by simp only; omega) (by simp only; omega) _
theorem pgF_rec {V : Int → Option (List UInt8)} {lim p : Int} {a n : Nat} {r : List UInt8} {k : Nat} (ha : a < 2 ^ 64) (hn : n < 2 ^ 64) (hr : r.length ≤ 4096) (hk : k < pagesN r.length) (hl : p < lim) (hV : V p = some (recP a n r k)) :
    pgF V lim p = some (⟨a, n, k, pagesN r.length⟩, partP (recB r) k) := by
  rw [pgF, if_neg (by omega), hV]
  simp only []
  rw [head_recP ha hn hr hk, recP, restR_pageB _ (partP_length (by rw [recB_length]; exact Nat.mul_le_mul_right _ hk))]
/-- A whole record is read. -/
theorem readF_whole {V : Int → Option (List UInt8)} {lim p : Int} {n fr life a : Nat} {r : List UInt8} (hr : r.length ≤ 4096) (hf : fr ≤ a) (hl : a ≤ life) (ha : a < 2 ^ 64) (hn : n + 1 < 2 ^ 64) (hp : p + (pagesN r.length : Int) ≤ lim)
    (hV : ∀ k : Nat, k < pagesN r.length → V (p + (k : Int)) = some (recP a (n + 1) r k)) : readF V lim p n fr life = some (r, ⟨a, n + 1, 0, pagesN r.length⟩) := by
  have hpg := (pagesN_room r.length).2
  have hp0 : pgF V lim p = some (⟨a, n + 1, 0, pagesN r.length⟩, partP (recB r) 0) := by
    have := hV 0 (by omega)
    rw [show p + ((0 : Nat) : Int) = p by omega] at this
    exact pgF_rec ha hn hr (by omega) (by omega) this
  have hmore : ∀ j, j < pagesN r.length → moreF V lim p ⟨a, n + 1, 0, pagesN r.length⟩ (partP (recB r) 0) j = some ((recB r).take ((j + 1) * 108)) := by
    intro j
    induction j with
    | zero => intro _; rw [moreF, partP]; simp
    | succ j ih =>
      intro hj
      rw [moreF, ih (by omega), pgF_rec ha hn hr hj (by omega) (hV (j + 1) hj)]
      simp only []
      rw [if_pos ⟨trivial, trivial, trivial, trivial⟩, partP_next]
  have h2 : (partP (recB r) 0).take 2 = (recB r).take 2 := by rw [partP, Nat.zero_mul, List.drop_zero, List.take_take]; rfl
  have h3 := recB_size (r := r) (by omega)
  have hfull : (recB r).take (pagesN r.length * 108) = recB r := List.take_of_length_le (by rw [recB_length]; exact Nat.le_refl _)
  have hm := hmore (pagesN r.length - 1) (by omega)
  rw [show pagesN r.length - 1 + 1 = pagesN r.length by omega, hfull] at hm
  rw [readF_some hp0 ⟨rfl, rfl, hf, hl, by rw [h2, h3]; exact hr, by rw [h2, h3]⟩ hm, endR, h3, recB_noughts, recB_bytes, if_neg (by decide)]
/-- Records that stand one behind the other, each with its life. -/
inductive Chn (V : Int → Option (List UInt8)) (lim : Int) : Int → Nat → Nat → List (List UInt8) → Int → Nat → Prop
  | nil {p : Int} {n fr : Nat} : Chn V lim p n fr [] p fr
  | cons {p q : Int} {n fr a z : Nat} {r : List UInt8} {rs : List (List UInt8)} (hr : r.length ≤ 4096) (hf : fr ≤ a) (ha : a < 2 ^ 64) (hp : p + (pagesN r.length : Int) ≤ lim) (hV : ∀ k : Nat, k < pagesN r.length → V (p + (k : Int)) = some (recP a (n + 1) r k))
      (h : Chn V lim (p + (pagesN r.length : Int)) (n + 1) a rs q z) : Chn V lim p n fr (r :: rs) q z
section
variable {V V' : Int → Option (List UInt8)} {lim p q : Int} {n fr z : Nat} {rs : List (List UInt8)}
theorem Chn.le (h : Chn V lim p n fr rs q z) : p + (rs.length : Int) ≤ q ∧ fr ≤ z ∧ (rs = [] ∨ q ≤ lim) := by
  induction h with
  | nil => exact ⟨by simp, Nat.le_refl _, .inl rfl⟩
  | @cons p q n fr a z r rs hr hf ha hp hV h ih =>
    have := (pagesN_room r.length).2
    have h3 : q ≤ lim := by
      rcases ih.2.2 with h1 | h1
      · subst h1
        cases h
        exact hp
      · exact h1
    exact ⟨by simp only [List.length_cons]; omega, by omega, .inr h3⟩
theorem Chn.ext (h : Chn V lim p n fr rs q z) (hv : ∀ a, p ≤ a → a < q → V a = V' a) : Chn V' lim p n fr rs q z := by
  induction h with
  | nil => exact .nil
  | @cons p q n fr a z r rs hr hf ha hp hV h ih =>
    have hle := h.le
    exact .cons hr hf ha hp (fun k hk => by rw [← hV k hk, hv _ (by omega) (by omega)]) (ih fun b hb hb2 => hv b (by omega) hb2)
theorem Chn.snoc (h : Chn V lim p n fr rs q z) {r : List UInt8} {a : Nat} (hr : r.length ≤ 4096) (hz : z ≤ a) (ha : a < 2 ^ 64) (hq : q + (pagesN r.length : Int) ≤ lim) (hV : ∀ k : Nat, k < pagesN r.length → V (q + (k : Int)) = some (recP a (n + rs.length + 1) r k)) :
    Chn V lim p n fr (rs ++ [r]) (q + (pagesN r.length : Int)) a := by
  induction h with
  | nil => exact .cons hr hz ha hq (fun k hk => by rw [hV k hk]; rfl) .nil
  | @cons p q n fr b z r' rs hr' hf' ha' hp' hV' h ih =>
    exact .cons hr' hf' ha' hp' hV' (ih hz hq fun k hk => by rw [hV k hk, List.length_cons, show n + (rs.length + 1) + 1 = n + 1 + rs.length + 1 by omega])
/-- All that stand, and nothing behind them: that is read. -/
theorem Chn.all (h : Chn V lim p n fr rs q z) {life : Nat} (hz : z ≤ life) (hn : n + rs.length + 1 < 2 ^ 64) (he : readF V lim q (n + rs.length) z life = none) : ∀ f, rs.length ≤ f → allF V lim life f p n fr = (rs, q, n + rs.length) := by
  induction h with
  | nil =>
    intro f _
    simp only [List.length_nil, Nat.add_zero] at he ⊢
    match f with
    | 0 => rfl
    | f + 1 => rw [allF, he]
  | @cons p q n fr a z r rs hr hf ha hp hV h ih =>
    intro f hfl
    simp only [List.length_cons] at hfl he hn
    match f, hfl with
    | f + 1, hfl =>
      have h1 := h.le.2.1
      rw [allF, readF_whole (life := life) hr hf (by omega) ha (by omega) hp hV]
      simp only []
      rw [ih hz (by omega) (by rw [← he]; congr 1; omega) f (by omega)]
      simp only [List.length_cons, Prod.mk.injEq, true_and]
      omega
theorem Chn.part (h : Chn V lim p n fr rs q z) (k : Nat) (hk : k ≤ rs.length) : ∃ q' z', Chn V lim p n fr (rs.take k) q' z' ∧ q' ≤ q ∧ z' ≤ z := by
  induction h generalizing k with
  | nil => exact ⟨_, _, by rw [List.take_nil]; exact .nil, Int.le_refl _, Nat.le_refl _⟩
  | @cons p q n fr a z r rs hr hf ha hp hV h ih =>
    match k with
    | 0 =>
      have := h.le
      exact ⟨p, fr, .nil, by omega, by omega⟩
    | k + 1 =>
      obtain ⟨q', z', h1, h2, h3⟩ := ih k (by simpa using hk)
      exact ⟨q', z', .cons hr hf ha hp hV h1, h2, h3⟩
end
end Go.Proofs.Ytmjdfajdompkeaa
namespace Go.Proofs.Ytmjdfajdompkeaa
open Go.RowKit Go.Rat
/-- The write of the first k of some sectors. -/
def wrK (d : DS) (p : Int) (B : Nat → List UInt8) : Nat → DS × Int
  | 0 => (d, 0)
  | k + 1 => if (wrK d p B k).2 = 0 then (writeD (wrK d p B k).1 (p + (k : Int)) (B k), writeE (wrK d p B k).1 (p + (k : Int))) else wrK d p B k
theorem wrK_stop {d : DS} {p : Int} {B : Nat → List UInt8} {k : Nat} (h : (wrK d p B k).2 ≠ 0) : ∀ n, wrK d p B (k + n) = wrK d p B k
  | 0 => rfl
  | n + 1 => by
    have ih := wrK_stop h n
    rw [← Nat.add_assoc, wrK, ih, if_neg h]
theorem wrK_end {d : DS} {p : Int} {B : Nat → List UInt8} {k m : Nat} (h : (wrK d p B k).2 ≠ 0) (hk : k ≤ m) : wrK d p B m = wrK d p B k := by
  have := wrK_stop h (m - k)
  rwa [show k + (m - k) = m by omega] at this
def wlL (p : Int) (B : Nat → List UInt8) (m : Nat) : List (Int × List UInt8) := (List.range m).map fun i => (p + ((i : Nat) : Int), B i)
theorem wlL_succ (p : Int) (B : Nat → List UInt8) (m : Nat) : wlL p B (m + 1) = wlL p B m ++ [(p + (m : Int), B m)] := by
  rw [wlL, wlL, List.range_succ, List.map_append]; rfl
theorem wlL_mem {p : Int} {B : Nat → List UInt8} {m : Nat} {x : Int × List UInt8} : x ∈ wlL p B m ↔ ∃ i : Nat, i < m ∧ x = (p + (i : Int), B i) := by
  rw [wlL, List.mem_map]
  constructor
  · rintro ⟨i, hi, rfl⟩; exact ⟨i, List.mem_range.1 hi, rfl⟩
  · rintro ⟨i, hi, rfl⟩; exact ⟨i, List.mem_range.2 hi, rfl⟩
def nowL (now : Int → Sec) (p : Int) (B : Nat → List UInt8) (m : Nat) : Int → Sec := fun a => if p ≤ a ∧ a < p + (m : Int) then ⟨B (a - p).toNat, false⟩ else now a
theorem nowL_in (now : Int → Sec) (p : Int) (B : Nat → List UInt8) {m i : Nat} (hi : i < m) : nowL now p B m (p + (i : Int)) = ⟨B i, false⟩ := by
  rw [nowL, if_pos ⟨by omega, by omega⟩, show (p + (i : Int) - p).toNat = i by omega]
theorem nowL_out (now : Int → Sec) (p : Int) (B : Nat → List UInt8) {m : Nat} {a : Int} (h : ¬ (p ≤ a ∧ a < p + (m : Int))) : nowL now p B m a = now a := if_neg h
structure WrL (d d' : DS) (p : Int) (B : Nat → List UInt8) (m : Nat) : Prop where
  sure : d'.sure = d.sure
  now : ∀ a, d'.now a = nowL d.now p B m a
  loose : d'.loose = d.loose ++ wlL p B m
theorem WrL.put {d d' : DS} {p : Int} {B : Nat → List UInt8} {m : Nat} (h : WrL d d' p B m) : WrL d (putD d' (p + (m : Int)) (B m)) p B (m + 1) := by
  refine ⟨h.sure, fun a => ?_, ?_⟩
  · show (if a = p + (m : Int) then _ else d'.now a) = _
    rw [h.now, nowL, nowL]
    by_cases e : a = p + (m : Int)
    · subst e
      rw [if_pos rfl, if_pos ⟨by omega, by omega⟩, show (p + (m : Int) - p).toNat = m by omega]
    · rw [if_neg e]
      by_cases h1 : p ≤ a ∧ a < p + (m : Int)
      · rw [if_pos h1, if_pos ⟨by omega, by omega⟩]
      · rw [if_neg h1, if_neg (by omega)]
  · show d'.loose ++ [_] = _
    rw [h.loose, wlL_succ, List.append_assoc]
theorem WrL.of {d d' d2 : DS} {p : Int} {B : Nat → List UInt8} {m : Nat} (h : WrL d d' p B m) (h1 : d2.sure = d'.sure) (h2 : d2.now = d'.now) (h3 : d2.loose = d'.loose) : WrL d d2 p B m :=
  ⟨h1.trans h.sure, fun a => by rw [h2]; exact h.now a, h3.trans h.loose⟩
theorem wrK_eff {d : DS} {p : Int} {B : Nat → List UInt8} {M : Nat} (hp : 0 ≤ p ∧ p + (M : Int) ≤ 32768) (ho : d.off = false) (hf : -1 ≤ d.fuse) : ∀ k : Nat, k ≤ M →
    ∃ m : Nat, m ≤ k ∧ WrL d (wrK d p B k).1 p B m ∧
      ((wrK d p B k).2 = 0 → m = k ∧ (wrK d p B k).1.off = false ∧ (d.fuse = -1 ∧ (wrK d p B k).1.fuse = -1 ∨ (k : Int) ≤ d.fuse ∧ (wrK d p B k).1.fuse = d.fuse - (k : Int))) ∧
      ((wrK d p B k).2 ≠ 0 → (wrK d p B k).2 = 8 ∧ (wrK d p B k).1.off = true ∧ 0 ≤ d.fuse ∧ d.fuse < (k : Int))
  | 0, _ => ⟨0, Nat.le_refl _, ⟨rfl, fun a => by rw [nowL_out _ _ _ (by omega)]; rfl, by simp [wlL, wrK]⟩, fun _ => ⟨rfl, ho, by
      by_cases h : d.fuse = -1
      · exact .inl ⟨h, h⟩
      · exact .inr ⟨by omega, by show d.fuse = d.fuse - ((0 : Nat) : Int); omega⟩⟩, fun h => absurd rfl h⟩
  | k + 1, hk => by
    obtain ⟨m, hm, hW, h1, h2⟩ := wrK_eff (B := B) hp ho hf k (by omega)
    by_cases he : (wrK d p B k).2 = 0
    · obtain ⟨rfl, ho1, hf1⟩ := h1 he
      have hst : wrK d p B (m + 1) = (writeD (wrK d p B m).1 (p + (m : Int)) (B m), writeE (wrK d p B m).1 (p + (m : Int))) := by rw [wrK, if_pos he]
      rw [hst]
      generalize (wrK d p B m).1 = d1 at *
      obtain ⟨e1, e2, e3⟩ := write_eff (B m) ho1 (a := p + (m : Int)) (by omega)
      have hWp := hW.put
      by_cases hz : d1.fuse = 0
      · obtain ⟨q1, q2⟩ := e1 hz
        refine ⟨m + 1, Nat.le_refl _, ?_, fun h => ?_, fun _ => ⟨q1, ?_, ?_⟩⟩
        · simp only [q2]; exact hWp.of rfl rfl rfl
        · simp only [q1] at h; omega
        · simp only [q2]; rfl
        · omega
      · by_cases hpos : 0 < d1.fuse
        · obtain ⟨q1, q2⟩ := e2 hpos
          refine ⟨m + 1, Nat.le_refl _, ?_, fun _ => ⟨rfl, ?_, ?_⟩, fun h => absurd q1 h⟩
          · simp only [q2]; exact hWp.of rfl rfl rfl
          · simp only [q2]; exact ho1
          · simp only [q2]; omega
        · obtain ⟨q1, q2⟩ := e3 (by omega)
          refine ⟨m + 1, Nat.le_refl _, ?_, fun _ => ⟨rfl, ?_, ?_⟩, fun h => absurd q1 h⟩
          · simp only [q2]; exact hWp
          · simp only [q2]; exact ho1
          · have hfp : (putD d1 (p + (m : Int)) (B m)).fuse = d1.fuse := rfl
            simp only [q2]
            rw [hfp]
            omega
    · have hst : wrK d p B (k + 1) = wrK d p B k := by rw [wrK, if_neg he]
      rw [hst]
      obtain ⟨q1, q2, q3⟩ := h2 he
      exact ⟨m, by omega, hW, fun h => absurd h he, fun _ => ⟨q1, q2, by omega, by omega⟩⟩
/-- The power goes and comes where sure sectors and loose writes are so. -/
theorem onL_calm {d d' : DS} (hd : Calm d) {p : Int} {B : Nat → List UInt8} {m : Nat} (hW : WrL d d' p B m) (ps : List UInt8) :
    Calm (onAll (offD d') ps) ∧ (∀ a, ¬ (p ≤ a ∧ a < p + (m : Int)) → (onAll (offD d') ps).now a = d.now a) ∧
    ∀ i : Nat, i < m → (onAll (offD d') ps).now (p + (i : Int)) = d.now (p + (i : Int)) ∨ (onAll (offD d') ps).now (p + (i : Int)) = ⟨B i, false⟩ ∨ ((onAll (offD d') ps).now (p + (i : Int))).lost = true := by
  have hl : d'.loose = wlL p B m := by rw [hW.loose, hd.loose, List.nil_append]
  have hany : ∀ a, (d'.loose.any fun x => decide (x.1 = a)) = true ↔ (p ≤ a ∧ a < p + (m : Int)) := by
    intro a
    rw [any_mem, hl]
    constructor
    · rintro ⟨x, hx, rfl⟩
      obtain ⟨i, hi, rfl⟩ := wlL_mem.1 hx
      simp only; omega
    · rintro ⟨h1, h2⟩
      exact ⟨_, wlL_mem.2 ⟨(a - p).toNat, by omega, rfl⟩, by simp only; omega⟩
  have hpk : ∀ a, ¬ (p ≤ a ∧ a < p + (m : Int)) → picksF d'.loose 0 ps d'.sure a = d.now a := by
    intro a ha
    rcases picksF_is ps a d'.loose 0 d'.sure with h | ⟨x, h1, h2, _⟩
    · rw [h, hW.sure, hd.same]
    · exact absurd ((hany a).1 ((any_mem _ _).2 ⟨x, h1, h2⟩)) ha
  obtain ⟨_, _, h3, h4, h5, _⟩ := on_now d' ps 0
  refine ⟨⟨h3, h4, h5, fun a => ?_⟩, fun a ha => ?_, fun i hi => ?_⟩
  · obtain ⟨h1, h2, _⟩ := on_now d' ps a
    rw [h1, h2]
    split
    · rfl
    · next hc =>
      rw [hany] at hc
      rw [hpk a hc, hW.now, nowL_out _ _ _ hc]
  · obtain ⟨h1, _⟩ := on_now d' ps a
    rw [h1, if_neg (by rw [hany]; exact ha), hW.now, nowL_out _ _ _ ha]
  · obtain ⟨h1, _⟩ := on_now d' ps (p + (i : Int))
    rw [h1, if_pos ((hany _).2 ⟨by omega, by omega⟩)]
    rcases picksF_is ps (p + (i : Int)) d'.loose 0 d'.sure with h | ⟨x, h1, h2, h3⟩
    · exact .inl (by rw [h, hW.sure, hd.same])
    · rw [hl] at h1
      obtain ⟨j, hj, rfl⟩ := wlL_mem.1 h1
      simp only at h2 h3
      obtain rfl : j = i := by omega
      exact .inr h3
theorem wlL_any (p : Int) (B : Nat → List UInt8) (m : Nat) (a : Int) : ((wlL p B m).any fun x => decide (x.1 = a)) = true ↔ (p ≤ a ∧ a < p + (m : Int)) := by
  rw [any_mem]
  constructor
  · rintro ⟨x, hx, rfl⟩
    obtain ⟨i, hi, rfl⟩ := wlL_mem.1 hx
    simp only; omega
  · rintro ⟨h1, h2⟩
    exact ⟨_, wlL_mem.2 ⟨(a - p).toNat, by omega, rfl⟩, by simp only; omega⟩
/-- The writes, then a Sync. -/
def apL (d : DS) (p : Int) (B : Nat → List UInt8) (m : Nat) : DS × Int := if (wrK d p B m).2 = 0 then (syncAll (wrK d p B m).1, syncE (wrK d p B m).1) else wrK d p B m
/-- Where no fuse burns. -/
theorem apL_calm {d : DS} {p : Int} {B : Nat → List UInt8} {m : Nat} (hp : 0 ≤ p ∧ p + (m : Int) ≤ 32768) (ho : d.off = false) (hf : d.fuse = -1) :
    (apL d p B m).2 = 0 ∧ (apL d p B m).1.off = false ∧ (apL d p B m).1.fuse = -1 ∧ (apL d p B m).1.loose = [] ∧ (∀ a, (apL d p B m).1.now a = nowL d.now p B m a) := by
  obtain ⟨m', hm, hW, h0, h8⟩ := wrK_eff (B := B) hp ho (by omega) m (Nat.le_refl _)
  have he : (wrK d p B m).2 = 0 := by
    by_cases he : (wrK d p B m).2 = 0
    · exact he
    · have := h8 he
      omega
  obtain ⟨rfl, h1, h2⟩ := h0 he
  obtain ⟨s1, s2⟩ := syncAll_on h1 (by omega)
  have ha : apL d p B m' = (syncD (wrK d p B m').1, 0) := by rw [apL, if_pos he, s1, s2]
  rw [ha]
  refine ⟨rfl, h1, ?_, rfl, hW.now⟩
  show (wrK d p B m').1.fuse = -1
  omega
end Go.Proofs.Ytmjdfajdompkeaa
namespace Go.Proofs.Ytmjdfajdompkeaa
open Go.RowKit Go.Rat
theorem see_on {d : DS} (ho : d.off = false) {a : Int} (ha : 0 ≤ a ∧ a < 32768) : seeD d a = if (d.now a).lost = true then none else some (d.now a).b := by
  have h := view_on (d := d) ho (p := a) (i := 0) (by omega)
  rw [viewD, show a + ((0 : Nat) : Int) = a by omega] at h
  exact h
theorem see_same {d d' : DS} (ho : d.off = false) (ho' : d'.off = false) {a : Int} (ha : 0 ≤ a ∧ a < 32768) (h : d'.now a = d.now a) : seeD d' a = seeD d a := by rw [see_on ho ha, see_on ho' ha, h]
theorem see_is {d : DS} (ho : d.off = false) {a : Int} (ha : 0 ≤ a ∧ a < 32768) {b : List UInt8} (h : d.now a = ⟨b, false⟩) : seeD d a = some b := by rw [see_on ho ha, h]; rfl
/-- A book on a disk: its life, the lives of what stands behind it are less than M, its records, where its next page is, the last record's life. -/
structure BookSt (d : DS) (p lim : Int) (life M K : Nat) (rs : List (List UInt8)) (q : Int) (z : Nat) : Prop where
  cell : ∃ which N has, CellSt d p which N has K ∧ (life = 0 ∧ has = [] ∨ has = be 8 life)
  lim_ : 0 ≤ p ∧ p + 20 < lim ∧ lim ≤ 32768
  life62 : life < 2 ^ 62
  chn : Chn (seeD d) lim (p + 20) 0 1 rs q z
  zl : z ≤ max 1 life
  old : ∀ a, q ≤ a → a < lim → ∀ s, seeD d a = some s → (headR s).life < M ∨ 2 ^ 63 ≤ (headR s).life
  ml : M ≤ life + 1
  none_ : readF (seeD d) lim q rs.length z life = none
section
variable {d d' : DS} {p lim : Int} {life M K : Nat} {rs : List (List UInt8)} {q : Int} {z : Nat}
theorem BookSt.off (h : BookSt d p lim life M K rs q z) : d.off = false := by
  obtain ⟨_, _, _, h1, _⟩ := h.cell
  exact h1.off
theorem BookSt.q_ (h : BookSt d p lim life M K rs q z) : p + 20 + (rs.length : Int) ≤ q ∧ q ≤ lim := by
  have h1 := h.chn.le
  have h2 := h.lim_
  refine ⟨h1.1, ?_⟩
  rcases h1.2.2 with h3 | h3
  · have hc := h.chn
    rw [h3] at hc
    cases hc
    omega
  · exact h3
/-- Nothing stands behind, for a greater life either. -/
theorem BookSt.none_up (h : BookSt d p lim life M K rs q z) (hv : ∀ a, q ≤ a → a < lim → seeD d' a = seeD d a) {L : Nat} (hL : L < 2 ^ 63) : readF (seeD d') lim q rs.length z L = none := by
  match hr : readF (seeD d') lim q rs.length z L with
  | none => rfl
  | some (r, g) =>
    obtain ⟨a1, a2, a3, a4, a5, _, _, a6⟩ := readF_pages hr
    obtain ⟨s, hs, hs1, _⟩ := a6 0 (by omega)
    rw [hv _ (by omega) (by omega)] at hs
    have ho := h.old _ (by omega) (by omega) s hs
    have hm := h.ml
    have hk := readF_keep (V' := seeD d) (fr' := z) (life' := life) hr (fun k hk => hv _ (by omega) (by omega)) a1 (by omega)
    rw [h.none_] at hk
    cases hk
theorem lived_of {which N K : Nat} {has : List UInt8} (hc : CellSt d p which N has K) (hh : life = 0 ∧ has = [] ∨ has = be 8 life) (hl : life < 2 ^ 62) : livedF d p = (0, life) ∧ (opF d p).1 = which := by
  obtain ⟨h1, h2⟩ := hc.open_
  rw [livedF, h1, h2]
  refine ⟨?_, rfl⟩
  rw [if_neg (by decide)]
  rcases hh with ⟨rfl, rfl⟩ | rfl
  · rfl
  · simp only [be_length]
    rw [if_neg (by decide), if_pos trivial, num_be, Nat.mod_eq_of_lt (by rw [show (256 : Nat) ^ 8 = 2 ^ 64 from by decide]; omega)]
theorem live_of {which N K : Nat} {has : List UInt8} (hc : CellSt d p which N has K) (hh : life = 0 ∧ has = [] ∨ has = be 8 life) (hl : life + 1 < 2 ^ 62) : liveF d p = ((ptF d p which (be 8 (life + 1))).1, (ptF d p which (be 8 (life + 1))).2, life + 1) := by
  obtain ⟨e1, e2⟩ := lived_of hc hh (by omega)
  have eL : lifeF d p = life + 1 := by rw [lifeF, e1]; exact Nat.mod_eq_of_lt (by simp only; omega)
  rw [liveF, e1, if_neg (fun h => h rfl), eL, e2]
/-- What a book's next life finds. -/
theorem BookSt.next (h : BookSt d p lim life M K rs q z) (hl : life + 1 < 2 ^ 62) {which N K' : Nat} (hc : CellSt d' p which N (be 8 (life + 1)) K') (hnow : ∀ a, ¬ (p ≤ a ∧ a < p + 20) → d'.now a = d.now a) :
    BookSt d' p lim (life + 1) (life + 1) K' rs q z ∧ (∀ f, rs.length ≤ f → allF (seeD d') lim (life + 1) f (p + 20) 0 1 = (rs, q, rs.length)) := by
  have hlim := h.lim_
  have hq := h.q_
  have hsee : ∀ a, p + 20 ≤ a → a < lim → seeD d' a = seeD d a := fun a h1 h2 => see_same h.off hc.off (by omega) (hnow a (by omega))
  have hnone : ∀ L, L < 2 ^ 63 → readF (seeD d') lim q rs.length z L = none := fun L hL => h.none_up (fun a h1 h2 => hsee a (by omega) h2) hL
  have hchn : Chn (seeD d') lim (p + 20) 0 1 rs q z := h.chn.ext (fun a h1 h2 => (hsee a h1 (by omega)).symm)
  have hz := h.zl
  refine ⟨⟨⟨_, _, _, hc, .inr rfl⟩, hlim, hl, hchn, by omega, fun a h1 h2 s hs => ?_, by omega, hnone _ (by omega)⟩, fun f hfl => ?_⟩
  · rw [hsee a (by omega) h2] at hs
    have := h.old a h1 h2 s hs
    have := h.ml
    omega
  · have ha := hchn.all (life := life + 1) (by omega) (by omega) (by rw [Nat.zero_add]; exact hnone _ (by omega)) f hfl
    rw [ha, Nat.zero_add]
/-- Open, where no fuse burns. -/
theorem BookSt.opens (h : BookSt d p lim life M K rs q z) (hf : d.fuse = -1) (hl : life + 1 < 2 ^ 62) (hK : K + 2 < 2 ^ 64) :
    (liveF d p).2 = (0, life + 1) ∧ BookSt (liveF d p).1 p lim (life + 1) (life + 1) (K + 1) rs q z ∧ (liveF d p).1.fuse = -1 ∧ (liveF d p).1.loose = [] ∧
    (∀ f, rs.length ≤ f → allF (seeD (liveF d p).1) lim (life + 1) f (p + 20) 0 1 = (rs, q, rs.length)) ∧ (∀ a, ¬ (p ≤ a ∧ a < p + 20) → (liveF d p).1.now a = d.now a) ∧ opE (liveF d p).1 p = 0 ∧ (opF (liveF d p).1 p).2 = be 8 (life + 1) := by
  obtain ⟨which, N, has, hc, hh⟩ := h.cell
  obtain ⟨k1, k2, k3, k4, k5, k6⟩ := put_calm hf hc hK (b := be 8 (life + 1)) (by rw [be_length]; omega)
  rw [live_of hc hh hl]
  simp only
  generalize (ptF d p which (be 8 (life + 1))).1 = d' at *
  have hwh := hc.wh
  have hnow : ∀ a, ¬ (p ≤ a ∧ a < p + 20) → d'.now a = d.now a := fun a ha => by rw [k6, nowW_out _ _ _ _ (by omega)]
  obtain ⟨hn1, hn2⟩ := h.next hl k5 hnow
  obtain ⟨o1, o2⟩ := k5.open_
  exact ⟨by rw [k1], hn1, k3, k4, hn2, hnow, o1, by rw [o2]⟩
/-- What an Append leaves. -/
theorem BookSt.grown (h : BookSt d p lim life M K rs q z) (hM : M ≤ life) (hl1 : 1 ≤ life) {r : List UInt8} (hr : r.length ≤ 4096) (hq : q + (pagesN r.length : Int) ≤ lim) (ho' : d'.off = false) (hnow' : ∀ a, d'.now a = nowL d.now q (recP life (rs.length + 1) r) (pagesN r.length) a) :
    BookSt d' p lim life life K (rs ++ [r]) (q + (pagesN r.length : Int)) life := by
  have hlim := h.lim_
  have hqq := h.q_
  have ho := h.off
  obtain ⟨which, N, has, hc, hh⟩ := h.cell
  have hnow : ∀ a, ¬ (q ≤ a ∧ a < q + (pagesN r.length : Int)) → d'.now a = d.now a := fun a ha => by rw [hnow', nowL_out _ _ _ ha]
  have hsee : ∀ a, ¬ (q ≤ a ∧ a < q + (pagesN r.length : Int)) → p ≤ a → a < lim → seeD d' a = seeD d a := fun a h0 h1 h2 => see_same ho ho' (by omega) (hnow a h0)
  have hl62 := h.life62
  have hz := h.zl
  have hchn : Chn (seeD d') lim (p + 20) 0 1 (rs ++ [r]) (q + (pagesN r.length : Int)) life := by
    refine (h.chn.ext (fun a h1 h2 => (hsee a (by omega) (by omega) (by omega)).symm)).snoc hr (by omega) (by omega) hq fun k hk => ?_
    rw [Nat.zero_add]
    exact see_is ho' (by omega) (by rw [hnow', nowL_in _ _ _ hk])
  have hold : ∀ a, q + (pagesN r.length : Int) ≤ a → a < lim → ∀ s, seeD d' a = some s → (headR s).life < life ∨ 2 ^ 63 ≤ (headR s).life := fun a h1 h2 s hs => by
    rw [hsee a (by omega) (by omega) h2] at hs
    have := h.old a (by omega) h2 s hs
    omega
  refine ⟨⟨which, N, has, hc.keep ho' (fun a h1 h2 => hnow a (by omega)), hh⟩, hlim, hl62, hchn, by omega, hold, by omega, ?_⟩
  match hr : readF (seeD d') lim (q + (pagesN r.length : Int)) (rs ++ [r]).length life life with
  | none => rfl
  | some (r2, g) =>
    obtain ⟨a1, a2, a3, a4, a5, _, _, a6⟩ := readF_pages hr
    obtain ⟨s, hs, hs1, _⟩ := a6 0 (by omega)
    have := hold _ (by omega) (by omega) s hs
    omega
/-- Append, where no fuse burns. -/
theorem BookSt.appends (h : BookSt d p lim life M K rs q z) (hM : M ≤ life) (hl1 : 1 ≤ life) (hf : d.fuse = -1) {r : List UInt8} (hr : r.length ≤ 4096) (hq : q + (pagesN r.length : Int) ≤ lim) :
    (apL d q (recP life (rs.length + 1) r) (pagesN r.length)).2 = 0 ∧ BookSt (apL d q (recP life (rs.length + 1) r) (pagesN r.length)).1 p lim life life K (rs ++ [r]) (q + (pagesN r.length : Int)) life ∧
    (apL d q (recP life (rs.length + 1) r) (pagesN r.length)).1.fuse = -1 ∧ (apL d q (recP life (rs.length + 1) r) (pagesN r.length)).1.loose = [] ∧ (∀ a, ¬ (q ≤ a ∧ a < q + (pagesN r.length : Int)) → (apL d q (recP life (rs.length + 1) r) (pagesN r.length)).1.now a = d.now a) := by
  have hlim := h.lim_
  have hqq := h.q_
  obtain ⟨k1, k2, k3, k4, k5⟩ := apL_calm (B := recP life (rs.length + 1) r) (m := pagesN r.length) (p := q) (d := d) (by omega) h.off hf
  exact ⟨k1, h.grown hM hl1 hr hq k2 k5, k3, k4, fun a ha => by rw [k5, nowL_out _ _ _ ha]⟩
theorem head_zs : (headR zs).life = 0 := by decide +kernel
/-- Format, where no fuse burns and the sectors behind the cell are noughts. -/
theorem book_format {d : DS} {p lim : Int} (hp : 0 ≤ p ∧ p + 20 < lim ∧ lim ≤ 32768) (ho : d.off = false) (hf : d.fuse = -1) (hz : ∀ a, p + 20 ≤ a → a < lim → d.now a = zsec) :
    (fmF d p).2 = 0 ∧ BookSt (fmF d p).1 p lim 0 1 2 [] (p + 20) 1 ∧ (fmF d p).1.fuse = -1 ∧ (fmF d p).1.loose = [] ∧ (∀ a, ¬ (p ≤ a ∧ a < p + 20) → (fmF d p).1.now a = d.now a) := by
  obtain ⟨h1, h2, h3, h4, h5, h6, _⟩ := format_calm (d := d) (p := p) (by omega) ho hf
  generalize fmF d p = R at *
  obtain ⟨d', E⟩ := R
  simp only at h1 h2 h3 h4 h5 h6 ⊢
  have hsee : ∀ a, p + 20 ≤ a → a < lim → seeD d' a = some zs := fun a k1 k2 => see_is h2 (by omega) (by rw [h6 a (by omega), hz a k1 k2]; rfl)
  refine ⟨h1, ⟨⟨_, _, _, h5, .inl ⟨rfl, rfl⟩⟩, hp, by omega, .nil, by omega, fun a k1 k2 s hs => ?_, by omega, ?_⟩, h3, h4, h6⟩
  · rw [hsee a k1 k2] at hs
    cases hs
    rw [head_zs]; omega
  · match hr : readF (seeD d') lim (p + 20) ([] : List (List UInt8)).length 1 0 with
    | none => rfl
    | some (r2, g) =>
      obtain ⟨a1, a2, _⟩ := readF_pages hr
      omega
end
end Go.Proofs.Ytmjdfajdompkeaa
namespace Go.Proofs.Ytmjdfajdompkeaa
open Go.RowKit Go.Rat
/-- Two rows of the call's own that are not the same block. -/
def Apart (A B : Option Addr) : Prop := ∀ g, A.map (·.block) = some g → B.map (·.block) ≠ some g
theorem Apart.symm {A B : Option Addr} (h : Apart A B) : Apart B A := fun g h1 h2 => h g h2 h1
theorem Apart.none_left (B : Option Addr) : Apart none B := fun g h => by cases h
theorem Apart.grew {w w2 : World} {A A2 B : Option Addr} (h : Apart A B) (hG : Grew w w2 A A2) (hB : ∀ g, B.map (·.block) = some g → g < w.heap.size) : Apart A2 B := by
  intro g hg hb
  rcases hG.lies with h1 | ⟨g', h1, h2, _⟩
  · exact h g (h1 ▸ hg) hb
  · rw [h1] at hg
    cases hg
    have := hB g hb
    omega
theorem Apart.ne {A B : Option Addr} (h : Apart A B) : B.map (·.block) ≠ A.map (·.block) ∨ A.map (·.block) = none := by
  by_cases hA : A.map (·.block) = none
  · exact .inr hA
  · obtain ⟨g, hg⟩ := Option.ne_none_iff_exists'.1 hA
    exact .inl fun e => h g hg (e.trans hg)
/-- A slice, and what it reads. -/
structure Pt where
  A : Option Addr
  n : Nat
  c : Nat
  xs : List UInt8
def Pt.v (p : Pt) : Value := .slice p.A p.n p.c
structure PtOk (w : World) (p : Pt) : Prop where
  r : RB w p.A p.n p.xs
  c : p.n ≤ p.c
theorem PtOk.below {w w' : World} {p : Pt} (h : PtOk w p) (hb : Below w.heap.size w w') : PtOk w' p := ⟨h.r.below hb, h.c⟩
theorem PtOk.grew {w w2 : World} {A A2 : Option Addr} {p : Pt} (h : PtOk w p) (ha : Apart A p.A) (hG : Grew w w2 A A2) : PtOk w2 p := ⟨RB.grown h.r hG.grown ha.ne, h.c⟩
theorem OB.below {w w' : World} {base n c : Nat} {e : TypeId} {A : Option Addr} {xs : List UInt8} (h : OB e w base A n c xs) (hb : Below w.heap.size w w') : OB e w' base A n c xs := OB.grown h (grownBy_of_below hb none) (.inr rfl)
theorem slinfo : (Try.prog.info? 22).map (fun i => (i.zero, i.size, i.bytes)) = some (some (.slice none 0 0), 1, 24) := by kernel_rfl
/-- A row of slices of the call's own, each to be read, none in the row's block; all beside a disk. -/
structure Row (w : World) (l : DL) (base : Nat) (A : Option Addr) (N c : Nat) (ps : List Pt) : Prop where
  own : w.ownsRow base 22 1 (.slice A N c) N (ps.map Pt.v)
  len : ps.length = N
  ok : ∀ p ∈ ps, PtOk w p
  apart : ∀ p ∈ ps, Apart A p.A
  lt : ∀ p ∈ ps, ∀ g, p.A.map (·.block) = some g → g < w.heap.size
  out : ∀ p ∈ ps, ∀ g, p.A.map (·.block) = some g → ¬ l.fp g
  outA : ∀ g, A.map (·.block) = some g → ¬ l.fp g
section
variable {w w' : World} {l l' : DL} {base N c : Nat} {A : Option Addr} {ps : List Pt}
theorem Row.nil (w : World) (l : DL) (base : Nat) : Row w l base none 0 0 [] := ⟨World.ownsRow_nil _ _ _ _, rfl, by simp, by simp, by simp, by simp, by simp⟩
theorem Row.ltA (h : Row w l base A N c ps) : ∀ g, A.map (·.block) = some g → base ≤ g ∧ g < w.heap.size := fun g hg =>
  World.ownsRow.lt h.own g (by cases A <;> simp_all [Value.ownBlock])
theorem Row.moved (h : Row w l base A N c ps) (hm : Moved w w' l l') : Row w' l' base A N c ps :=
  ⟨hm.chg.own h.own h.outA, h.len, fun p hp => ⟨hm.chg.rb (h.ok p hp).r (h.out p hp), (h.ok p hp).c⟩, h.apart, fun p hp g hg => Nat.lt_of_lt_of_le (h.lt p hp g hg) hm.chg.size,
    fun p hp g hg hf => by
      rcases hm.fp g hf with h1 | h1
      · exact h.out p hp g hg h1
      · have := h.lt p hp g hg
        omega,
    fun g hg hf => by
      rcases hm.fp g hf with h1 | h1
      · exact h.outA g hg h1
      · have := h.ltA g hg
        omega⟩
theorem Row.below (h : Row w l base A N c ps) (hb : Below w.heap.size w w') : Row w' l base A N c ps := h.moved (Moved.of_below hb)
theorem Row.mono (h : Row w l base A N c ps) {b2 : Nat} (hb : b2 ≤ base) : Row w l b2 A N c ps := by
  refine ⟨?_, h.len, h.ok, h.apart, h.lt, h.out, h.outA⟩
  obtain ⟨h1, h2⟩ := h.own
  refine ⟨h1, ?_⟩
  rcases h2 with h3 | ⟨g, cap, cur, hv, hbg, rest⟩
  · exact .inl h3
  · exact .inr ⟨g, cap, cur, hv, Nat.le_trans hb hbg, rest⟩
end
theorem app_slice {w : World} {ops : Array Oper} {rest : List Oper} {o : Oper} {a : Act} {Q : Exit → Act → World → Prop} (hgd : o.guard = none) (s x : Operand)
    (ho : o.op = .call { callee := .builtin .append, args := #[s, x], argTypes := #[68, 68] })
    (l : DL) (hlt : ∀ x, l.fp x → x < w.heap.size) (base : Nat) (A : Option Addr) (n c : Nat) (ps : List Pt) (hs : a.eval s = .slice A n c) (hR : Row w l base A n c ps)
    (p : Pt) (hp : PtOk w p) (hpn : ∀ g, p.A.map (·.block) = some g → g < w.heap.size ∧ ¬ l.fp g) (hap : Apart A p.A) (T : TypeId)
    (w0 : World) (hw : w0 = w.alloc (.cells #[p.v] T))
    (hx : a.eval x = .slice (some ⟨w.heap.size, 0, none⟩) 1 1) (hn : n < 1000000) (hbase : base ≤ w.heap.size)
    (h : ∀ A2 c2 w2, Row w2 l base A2 (n + 1) c2 (ps ++ [p]) → Below base w0 w2 → w0.grownBy w2 (A.map (·.block)) → wpList Try.prog ops Q rest (a.put o.dst (.slice A2 (n + 1) c2)) w2) :
    wpList Try.prog ops Q (o :: rest) a w0 := by
  obtain ⟨i0, hi, hz0, hz1, hz2⟩ := info_parts slinfo
  subst hw
  have hR0 := hR.below (below_alloc w (.cells #[p.v] T))
  have hread : Reads (w.alloc (.cells #[p.v] T)) (w.heap.size + 1) 1 (some ⟨w.heap.size, 0, none⟩) 1 [p.v] :=
    ⟨rfl, fun _ => ⟨_, rfl, Nat.lt_succ_self _, cell_one_new w p.v T⟩⟩
  refine wpl_append hgd s x 68 ho base 22 i0 _ 1 24 Try.underlying68 hi hz0 hz1 hz2 rfl (by omega) A n c (ps.map Pt.v) hs hR0.own _ 1 1 [p.v] hx ⟨_, hread⟩ (by intro u hu; simp at hu; subst hu; rfl) (by simp only [maxLen]; omega) (by omega) (by simp; omega) ?_
  intro A2 N2 c2 w2 _ _ hO hG
  have hN2 : N2 = n + 1 := by
    have h1 := hO.1
    rw [List.length_append, List.length_map, hR.len] at h1
    simp at h1
    omega
  subst hN2
  have hb : Below base (w.alloc (.cells #[p.v] T)) w2 := (Below.refl _ _).grown hG.grown (by simp; omega) (fun k hk => by
    have := World.ownsRow.lt hR.own k (by cases A <;> simp_all [Value.ownBlock])
    exact this.1)
  refine h A2 c2 w2 ⟨?_, by rw [List.length_append, hR.len]; rfl, ?_, ?_, ?_, ?_, ?_⟩ hb hG.grown
  · rw [List.map_append]
    exact hO
  · intro q hq
    rcases List.mem_append.1 hq with h1 | h1
    · exact PtOk.grew (hR0.ok q h1) (hR.apart q h1) hG
    · obtain rfl : q = p := by simpa using h1
      exact PtOk.grew (hp.below (below_alloc _ _)) hap hG
  · intro q hq
    rcases List.mem_append.1 hq with h1 | h1
    · exact (hR.apart q h1).grew hG (fun g hg => by have := hR.lt q h1 g hg; simp; omega)
    · obtain rfl : q = p := by simpa using h1
      exact hap.grew hG (fun g hg => by have := (hpn g hg).1; simp; omega)
  · intro q hq g hg
    have hsz := hG.grown.size
    simp at hsz
    rcases List.mem_append.1 hq with h1 | h1
    · have := hR.lt q h1 g hg
      omega
    · obtain rfl : q = p := by simpa using h1
      have := (hpn g hg).1
      omega
  · intro q hq g hg
    rcases List.mem_append.1 hq with h1 | h1
    · exact hR.out q h1 g hg
    · obtain rfl : q = p := by simpa using h1
      exact (hpn g hg).2
  · intro g hg hf
    have hl := hlt g hf
    rcases hG.lies with h1 | ⟨g', h1, h2, _⟩
    · exact hR.outA g (h1 ▸ hg) hf
    · rw [h1] at hg
      cases hg
      simp at h2
      omega
/-- A row of slices that is read. -/
structure RowR (w : World) (A : Option Addr) (N : Nat) (ps : List Pt) : Prop where
  len : ps.length = N
  cells : 0 < N → ∃ ad, A = some ad ∧ ∀ (k : Nat) (p : Pt), ps[k]? = some p → w.cell? (ad.add k) = some p.v
  ok : ∀ p ∈ ps, PtOk w p
theorem Row.reads {w : World} {l : DL} {base N c : Nat} {A : Option Addr} {ps : List Pt} (h : Row w l base A N c ps) : RowR w A N ps := by
  refine ⟨h.len, fun hN => ?_, h.ok⟩
  obtain ⟨g, cap, hv, _, _⟩ := World.ownsRow.form h.own (by omega)
  have hA : A = some ⟨g, 0, none⟩ := by injection hv
  refine ⟨⟨g, 0, none⟩, hA, fun k p hp => ?_⟩
  exact World.ownsRow.cells (g := g) h.own (by rw [hA]; rfl) k p.v (by rw [List.getElem?_map, hp]; rfl)
end Go.Proofs.Ytmjdfajdompkeaa
