/- The document's record, in plain words: it is the program's. -/
import Derived.Test.YtmjdfajdompkeaaKq13
namespace Go.Proofs.Ytmjdfajdompkeaa
open Go.RowKit Go.Rat
theorem num_inj : ∀ xs ys : List UInt8, xs.length = ys.length → num xs = num ys → xs = ys
  | [], [], _, _ => rfl
  | [], _ :: _, h, _ => by simp at h
  | _ :: _, [], h, _ => by simp at h
  | x :: xs, y :: ys, hl, h => by
    have hl' : xs.length = ys.length := by simpa using hl
    rw [num_cons, num_cons, hl'] at h
    have a := num_lt xs
    have b := num_lt ys
    rw [hl'] at a
    have hx : x.toNat = y.toNat := by
      rcases Nat.lt_trichotomy x.toNat y.toNat with c | c | c
      · have := Nat.mul_le_mul_right (256 ^ ys.length) c
        rw [Nat.succ_mul] at this
        omega
      · exact c
      · have := Nat.mul_le_mul_right (256 ^ ys.length) c
        rw [Nat.succ_mul] at this
        omega
    rw [hx] at h
    rw [UInt8.toNat_inj.1 hx, num_inj xs ys hl' (by omega)]
theorem be_take (xs : List UInt8) {k : Nat} (h : k ≤ xs.length) : be k (num (xs.take k)) = xs.take k := by
  have hl : (xs.take k).length = k := by rw [List.length_take]; omega
  refine num_inj _ _ (by rw [be_length, hl]) ?_
  have := num_lt (xs.take k)
  rw [hl] at this
  rw [num_be, Nat.mod_eq_of_lt this]
/-- A page is its head and the rest. -/
theorem page_is {s : List UInt8} (hs : s.length = 128) : pageB (headR s) (restR s) = s := by
  unfold pageB headR restR
  simp only []
  rw [be_take s (by omega), be_take (s.drop 8) (by rw [List.length_drop]; omega), be_take ((s.drop 8).drop 8) (by simp only [List.length_drop]; omega), be_take (((s.drop 8).drop 8).drop 2) (by simp only [List.length_drop]; omega), List.take_of_length_le (i := 108) (by simp only [List.length_drop]; omega)]
  simp only [List.take_append_drop]
theorem restR_drop {s : List UInt8} (hs : s.length = 128) : restR s = s.drop 20 := by
  unfold restR
  rw [List.take_of_length_le (by simp only [List.length_drop]; omega)]
  simp only [List.drop_drop]
theorem partP_left {a b : List UInt8} {k : Nat} (h : (k + 1) * 108 ≤ a.length) : partP (a ++ b) k = partP a k := by
  rw [Nat.succ_mul] at h
  rw [partP, partP, List.drop_append_of_le_length (by omega), List.take_append_of_le_length (by rw [List.length_drop]; omega)]
theorem partP_right {a b : List UInt8} {k : Nat} (h : a.length = k * 108) (hb : b.length = 108) : partP (a ++ b) k = b := by
  rw [partP, ← h, List.drop_left, List.take_of_length_le (by omega)]
/-- What is gathered of so many pages. -/
def gatF (V : Int → Option (List UInt8)) (p : Int) : Nat → Option (List UInt8)
  | 0 => some []
  | k + 1 => match gatF V p k, V (p + (k : Int)) with
    | some all, some s => some (all ++ s.drop 20)
    | _, _ => none
section
variable {V : Int → Option (List UInt8)} {lim p : Int} {n fr life : Nat}
theorem gatF_next {k : Nat} {all s : List UInt8} (h1 : gatF V p k = some all) (h2 : V (p + (k : Int)) = some s) : gatF V p (k + 1) = some (all ++ s.drop 20) := by rw [gatF, h1, h2]
theorem gatF_len (hV : ∀ a s, V a = some s → s.length = 128) : ∀ k all, gatF V p k = some all → all.length = k * 108
  | 0, all, h => by cases h; rfl
  | k + 1, all, h => by
    rw [gatF] at h
    split at h
    · next a s h1 h2 =>
      cases h
      rw [List.length_append, gatF_len hV k a h1, List.length_drop, hV _ _ h2, Nat.succ_mul]
    · cases h
theorem recP_drop (a n : Nat) (r : List UInt8) {k : Nat} (hk : k < pagesN r.length) : (recP a n r k).drop 20 = partP (recB r) k := by
  have hl : (partP (recB r) k).length = 108 := partP_length (by rw [recB_length]; exact Nat.mul_le_mul_right _ hk)
  rw [← restR_drop (recP_length a n r hk), recP, restR_pageB _ hl]
theorem gatF_recP {a m : Nat} {r : List UInt8} : ∀ k : Nat, k ≤ pagesN r.length → (∀ j : Nat, j < pagesN r.length → V (p + (j : Int)) = some (recP a m r j)) → gatF V p k = some ((recB r).take (k * 108))
  | 0, _, _ => by rw [Nat.zero_mul, List.take_zero, gatF]
  | k + 1, hk, hV => by
    rw [gatF_next (gatF_recP k (by omega) hV) (hV k (by omega)), recP_drop a m r (by omega), partP_next]
theorem moreF_part {h : PH} {r0 : List UInt8} (hV : ∀ a s, V a = some s → s.length = 128) (h0 : r0.length = 108) : ∀ j all, moreF V lim p h r0 j = some all → partP all 0 = r0 ∧ ∀ k s, 1 ≤ k → k ≤ j → V (p + ((k : Nat) : Int)) = some s → partP all k = restR s
  | 0, all, hm => by
    cases hm
    refine ⟨by rw [partP, Nat.zero_mul, List.drop_zero, List.take_of_length_le (by omega)], fun k s h1 h2 => by omega⟩
  | j + 1, all, hm => by
    have hlen := moreF_len hV h0 (j + 1) all hm
    rw [moreF] at hm
    split at hm
    · next a g rest h1 h2 =>
      split at hm
      · cases hm
        obtain ⟨i1, i2⟩ := moreF_part hV h0 j a h1
        have hla := moreF_len hV h0 j a h1
        have hrl := (pgF_len hV h2).1
        refine ⟨by rw [partP_left (by omega)]; exact i1, fun k s hk1 hk2 hs => ?_⟩
        by_cases e : k = j + 1
        · subst e
          rw [partP_right hla hrl]
          unfold pgF at h2
          split at h2
          · cases h2
          · rw [hs] at h2
            cases h2
            rfl
        · rw [partP_left (by rw [hla]; exact Nat.mul_le_mul_right _ (by omega))]
          exact i2 k s hk1 (by omega) hs
      · cases hm
    · cases hm
theorem all_recB {all : List UInt8} {m z : Nat} (hl : all.length = m * 108) (hz : num (all.take 2) = z) (hp : pagesN z = m) (ha : anyB ((all.drop 2).drop z) = false) : all = recB ((all.drop 2).take z) ∧ ((all.drop 2).take z).length = z := by
  have hr := pagesN_room z
  have hlz : ((all.drop 2).take z).length = z := by rw [List.length_take, List.length_drop, hl, ← hp]; omega
  refine ⟨?_, hlz⟩
  have h2 : be 2 z = all.take 2 := by rw [← hz]; exact be_take all (by rw [hl, ← hp]; omega)
  have h3 : List.replicate (pagesN z * 108 - (2 + z)) 0 = (all.drop 2).drop z := by
    symm
    rw [List.eq_replicate_iff]
    refine ⟨by simp only [List.length_drop, hl, ← hp]; omega, fun b hb => ?_⟩
    unfold anyB at ha
    rw [List.any_eq_false] at ha
    have := ha b hb
    simpa using this
  rw [recB, hlz, h2, h3, List.take_append_drop, List.take_append_drop]
/-- What the program reads stands there, whole. -/
theorem readF_recP (hV : ∀ a s, V a = some s → s.length = 128) {r : List UInt8} {h : PH} (hr : readF V lim p n fr life = some (r, h)) :
    h = ⟨h.life, n + 1, 0, pagesN r.length⟩ ∧ r.length ≤ 4096 ∧ fr ≤ h.life ∧ h.life ≤ life ∧ h.life < 2 ^ 64 ∧ n + 1 < 2 ^ 64 ∧ p + (pagesN r.length : Int) ≤ lim ∧ ∀ k : Nat, k < pagesN r.length → V (p + (k : Int)) = some (recP h.life (n + 1) r k) := by
  obtain ⟨q1, q2, q3, q4, q5, q6, q7, q8⟩ := readF_pages hr
  obtain ⟨r0, all, h1, ⟨a1, a2, a3, a4, a5, a6⟩, h3, h4⟩ := readF_of hr
  have hpl := pgF_len hV h1
  have hal := moreF_len hV hpl.1 _ _ h3
  have htk := moreF_take hpl.1 _ _ h3
  obtain ⟨i1, i2⟩ := moreF_part hV hpl.1 _ _ h3
  rw [show h.pages - 1 + 1 = h.pages by omega] at hal
  unfold endR at h4
  split at h4
  · cases h4
  · next hany =>
    have hany : anyB ((all.drop 2).drop (num (all.take 2))) = false := by simpa using hany
    rw [htk] at hany h4
    obtain ⟨z, hz⟩ : ∃ z, num (r0.take 2) = z := ⟨_, rfl⟩
    rw [hz] at hany h4 a5 a6
    obtain ⟨k1, k2⟩ := all_recB hal (by rw [htk]; exact hz) a6.symm hany
    simp only [Option.some.injEq, Prod.mk.injEq] at h4
    rw [h4.1] at k1 k2
    have hpg : pagesN r.length = h.pages := by rw [k2, a6]
    refine ⟨?_, by omega, a3, a4, hpl.2.2.1, by have := hpl.2.2.2.1; omega, by rw [hpg]; exact q5, fun k hk => ?_⟩
    · rw [hpg, ← a1, ← a2]
    · rw [hpg] at hk
      obtain ⟨s, hs, e1, e2, e3, e4⟩ := q8 k hk
      have hsl := hV _ _ hs
      have hpt : partP all k = restR s := by
        by_cases k0 : k = 0
        · subst k0
          rw [i1]
          unfold pgF at h1
          split at h1
          · cases h1
          · rw [show p + ((0 : Nat) : Int) = p by omega] at hs
            rw [hs] at h1
            cases h1
            rfl
        · exact i2 k s (by omega) (by omega) hs
      have hh : headR s = ⟨h.life, n + 1, k, h.pages⟩ := by
        rw [← e1, ← e2, ← e4]
        conv => rhs; rw [← e3]
      rw [hs, recP, hpg, ← k1, hpt, ← hh, page_is hsl]
theorem ref_none1 (h : lim ≤ p) : readF V lim p n fr life = none := readF_none1 (by rw [pgF, if_pos h])
theorem ref_none2 (h : V p = none) : readF V lim p n fr life = none := by
  refine readF_none1 ?_
  rw [pgF, h]
  split <;> rfl
/-- What the first page says. -/
theorem ref_first (hV : ∀ a s, V a = some s → s.length = 128) {s r : List UInt8} {h : PH} (hs : V p = some s) (hr : readF V lim p n fr life = some (r, h)) : headR s = h ∧ num ((restR s).take 2) = r.length ∧ gatF V p h.pages = some (recB r) := by
  obtain ⟨q1, q2, q3, q4, q5, q6, q7, q8⟩ := readF_recP hV hr
  have hpg := (pagesN_room r.length).2
  have h0 := q8 0 (by omega)
  rw [show p + ((0 : Nat) : Int) = p by omega, hs] at h0
  cases h0
  refine ⟨by rw [head_recP q5 q6 q2 (by omega)]; exact q1.symm, ?_, ?_⟩
  · rw [recP, restR_pageB _ (partP_length (by rw [recB_length]; omega)), partP, Nat.zero_mul, List.drop_zero, List.take_take]
    exact recB_size (by omega)
  · have hp : h.pages = pagesN r.length := by rw [q1]
    rw [hp, gatF_recP _ (Nat.le_refl _) q8, List.take_of_length_le (by rw [recB_length]; exact Nat.le_refl _)]
theorem ref_none3 (hV : ∀ a s, V a = some s → s.length = 128) (hfr : 1 ≤ fr) {s : List UInt8} (hs : V p = some s)
    (hbad : (headR s).life < 1 ∨ (headR s).life < fr ∨ life < (headR s).life ∨ 4096 < num ((restR s).take 2) ∨ pagesN (num ((restR s).take 2)) ≠ (headR s).pages ∨ lim < p + ((headR s).pages : Int)) : readF V lim p n fr life = none := by
  match hr : readF V lim p n fr life with
  | none => rfl
  | some (r, h) =>
    exfalso
    obtain ⟨q1, q2, q3, q4, q5, q6, q7, q8⟩ := readF_recP hV hr
    obtain ⟨e1, e2, e3⟩ := ref_first hV hs hr
    have hp : h.pages = pagesN r.length := by rw [q1]
    rw [e1, e2, hp] at hbad
    omega
theorem ref_none4 (hV : ∀ a s, V a = some s → s.length = 128) {s : List UInt8} (hs : V p = some s) {k : Nat} (hk : k < (headR s).pages) (hn : V (p + (k : Int)) = none) : readF V lim p n fr life = none := by
  match hr : readF V lim p n fr life with
  | none => rfl
  | some (r, h) =>
    exfalso
    obtain ⟨q1, q2, q3, q4, q5, q6, q7, q8⟩ := readF_recP hV hr
    obtain ⟨e1, e2, e3⟩ := ref_first hV hs hr
    have hp : h.pages = pagesN r.length := by rw [q1]
    rw [e1, hp] at hk
    have := q8 k hk
    rw [hn] at this
    cases this
theorem ref_none5 (hV : ∀ a s, V a = some s → s.length = 128) {s all t : List UInt8} (hs : V p = some s) {k : Nat} (hk : k < (headR s).pages) (hg : gatF V p (headR s).pages = some all) (ht : V (p + (k : Int)) = some t)
    (hne : t ≠ recP (headR s).life (n + 1) ((all.drop 2).take (num ((restR s).take 2))) k) : readF V lim p n fr life = none := by
  match hr : readF V lim p n fr life with
  | none => rfl
  | some (r, h) =>
    exfalso
    obtain ⟨q1, q2, q3, q4, q5, q6, q7, q8⟩ := readF_recP hV hr
    obtain ⟨e1, e2, e3⟩ := ref_first hV hs hr
    have hp : h.pages = pagesN r.length := by rw [q1]
    rw [e1] at hk hg hne
    rw [e3] at hg
    cases hg
    rw [e2, recB_bytes] at hne
    rw [hp] at hk
    have := q8 k hk
    rw [ht] at this
    cases this
    exact hne rfl
theorem ref_some (hV : ∀ a s, V a = some s → s.length = 128) (hn : n + 1 < 2 ^ 64) {s all : List UInt8} (hs : V p = some s)
    (hok : ¬ ((headR s).life < 1 ∨ (headR s).life < fr ∨ life < (headR s).life ∨ 4096 < num ((restR s).take 2) ∨ pagesN (num ((restR s).take 2)) ≠ (headR s).pages ∨ lim < p + ((headR s).pages : Int)))
    (hg : gatF V p (headR s).pages = some all)
    (hall : ∀ k : Nat, k < (headR s).pages → V (p + (k : Int)) = some (recP (headR s).life (n + 1) ((all.drop 2).take (num ((restR s).take 2))) k)) :
    readF V lim p n fr life = some ((all.drop 2).take (num ((restR s).take 2)), ⟨(headR s).life, n + 1, 0, (headR s).pages⟩) := by
  have hal := gatF_len hV _ _ hg
  have hsl := hV _ _ hs
  have hrm := pagesN_room (num ((restR s).take 2))
  have hlz : ((all.drop 2).take (num ((restR s).take 2))).length = num ((restR s).take 2) := by rw [List.length_take, List.length_drop, hal]; omega
  have hpg : pagesN ((all.drop 2).take (num ((restR s).take 2))).length = (headR s).pages := by rw [hlz]; omega
  have hlf : (headR s).life < 2 ^ 64 := num_lt64 (by rw [List.length_take]; omega)
  have := readF_whole (V := V) (lim := lim) (p := p) (n := n) (fr := fr) (life := life) (a := (headR s).life) (r := (all.drop 2).take (num ((restR s).take 2))) (by omega) (by omega) (by omega) hlf hn (by rw [hpg]; omega) (fun k hk => hall k (by omega))
  rw [this, hpg]
end
end Go.Proofs.Ytmjdfajdompkeaa
namespace Go.Proofs.Ytmjdfajdompkeaa
open Go.RowKit Go.Rat
/-- A cut goes on. -/
theorem cut_on {w : World} {g : Nat} {T : TypeId} {gb : Option Nat} {xs : List UInt8} {A : Option Addr} {n c : Nat} (hB : Blk w g T #[.slice A n c, .bool false]) (hR : RB w A n xs) (hnc : n ≤ c) (hcc : c ≤ 9223372036854775807) (hgb : A.map (·.block) = gb) (hne : gb ≠ some g) (k : Nat) (hk : k ≤ xs.length)
    (A2 : Option Addr) (n2 c2 : Nat) (hA : A2 = if c = k then A else A.map (·.add k)) (hn : n2 = n - k) (hc : c2 = c - k) :
    CutAt (w.setCell ⟨g, 0, none⟩ (.slice A2 n2 c2)) g T gb (xs.drop k) false ∧ w.grownBy (w.setCell ⟨g, 0, none⟩ (.slice A2 n2 c2)) (some g) := by
  have hl := hR.len
  subst hA hn hc
  have hg := grownBy_set w g 0 (.slice (if c = k then A else A.map (·.add k)) (n - k) (c - k))
  have hcut := Reads.cut (hR.grown hg (.inl (by rw [hgb]; exact hne))) (k := k) (cap := c) (by omega) hnc
  simp only [Nat.mul_one] at hcut
  refine ⟨⟨_, n - k, c - k, hB.set_ 0 _, ?_, by omega, by omega, ?_, hne⟩, hg⟩
  · simpa [RB, bvs, List.map_drop] using hcut
  · split
    · exact hgb
    · rw [← hgb]; cases A <;> simp [block_of_add]

set_option maxHeartbeats 400000 in
/-- ratchetref01: the same of the document's cut. -/
theorem rnumber_any (w : World) (g : Nat) (gb : Option Nat) (xs : List UInt8) (bad : Bool) (k : Nat) (hC : CutAt w g 177 gb xs bad) (hk8 : k ≤ 8) :
    Calls Try.prog 109 #[.pointer (some ⟨g, 0, none⟩), .int .i64 k] w fun e w' => e = .returned (.int .u64 (num (takeF xs bad k).1)) ∧
      CutAt w' g 177 gb (takeF xs bad k).2.1 (takeF xs bad k).2.2 ∧ w.grownBy w' (some g) := by
  obtain ⟨A, n, c, hB, hR, hnc, hcc, hgb, hne, h0, h1, f0, f1⟩ := hC.open_
  have hl := hR.len
  by_cases hbad : bad = true ∨ (k : Int) < 0 ∨ (xs.length : Int) < k
  · rw [takeF_bad hbad]
    have FIN : Hid (∀ v, v = Value.bool true → CutAt (w.setCell ⟨g, 1, none⟩ v) g 177 gb xs true ∧ w.grownBy (w.setCell ⟨g, 1, none⟩ v) (some g)) := by
      rintro v rfl
      exact ⟨⟨A, n, c, hB.set_ 1 _, hR.grown (grownBy_set w g 1 _) (.inl (by rw [hgb]; exact hne)), hnc, hcc, hgb, hne⟩, grownBy_set w g 1 _⟩
    clear hB hR hne hgb hC
    cases bad with
    | true =>
      go_enter Try.func109, Try.ntmps109
      go_wp2_with fail
      go_ret
      exact ⟨rfl, FIN.out _ rfl⟩
    | false =>
      have hk2 : n < k := by simp at hbad; omega
      clear hbad
      go_enter Try.func109, Try.ntmps109
      go_wp2_with fail
      go_ret
      exact ⟨rfl, FIN.out _ rfl⟩
  · obtain rfl : bad = false := by cases bad <;> simp_all
    have hk : k ≤ xs.length := by omega
    rw [takeF_ok hk]
    have hmn : ¬ n < k := by omega
    clear hbad hC
    go_enter Try.func109, Try.ntmps109
    go_wp2_with fail
    go_loop [5, 6] (fun v i => ∃ j : Nat, j ≤ k ∧ i = .int .i64 j ∧ v = .int .u64 (num (xs.take j))) (fun _ i => k - (intOf i).toNat)
    case atStart => exact ⟨0, Nat.zero_le _, rfl, rfl⟩
    case round =>
      obtain ⟨j, hj, rfl, rfl⟩ := hrel
      by_cases hlt : j < k
      · obtain ⟨ad, rfl, hb, hc⟩ := hR.at_ (k := j) (by omega)
        have HN := Lib.hid (num_next (ys := xs) (j := j) (by omega) (by omega))
        go_wp2_with fail
        exact ⟨⟨j + 1, by omega, by go_num, by rw [← HN.out]; simp [List.getD_eq_getElem?_getD]⟩, by simp [intOf]; omega⟩
      · obtain rfl : j = k := by omega
        have FIN := Lib.hid (@cut_on w g _ gb xs A n c hB hR hnc hcc hgb hne j hk)
        clear hB hR hgb hne
        go_wp2_with fail
        · go_ret
          exact ⟨rfl, FIN.out _ _ _ (by simp [*]) rfl (by omega)⟩
        · go_ret
          exact ⟨rfl, FIN.out _ _ _ (by rw [if_neg (by assumption)]) rfl rfl⟩
set_option maxHeartbeats 400000 in
theorem rcword_any (w : World) (g : Nat) (gb : Option Nat) (xs : List UInt8) (bad : Bool) (hC : CutAt w g 177 gb xs bad) :
    Calls Try.prog 107 #[.pointer (some ⟨g, 0, none⟩)] w fun e w' => e = .returned (.int .u64 (num (takeF xs bad 8).1)) ∧
      CutAt w' g 177 gb (takeF xs bad 8).2.1 (takeF xs bad 8).2.2 ∧ w.grownBy w' (some g) := by
  go_enter Try.func107, Try.ntmps107
  go_wp2_with (go_at_call 109; refine (rnumber_any w g gb xs bad 8 hC (by omega)).mono ?_; rintro e w1 ⟨rfl, hC1, hg1⟩)
  go_ret
  exact ⟨rfl, hC1, hg1⟩
set_option maxHeartbeats 400000 in
theorem rchalf_any (w : World) (g : Nat) (gb : Option Nat) (xs : List UInt8) (bad : Bool) (hC : CutAt w g 177 gb xs bad) :
    Calls Try.prog 108 #[.pointer (some ⟨g, 0, none⟩)] w fun e w' => e = .returned (.int .u16 (num (takeF xs bad 2).1)) ∧
      CutAt w' g 177 gb (takeF xs bad 2).2.1 (takeF xs bad 2).2.2 ∧ w.grownBy w' (some g) := by
  go_enter Try.func108, Try.ntmps108
  go_wp2_with (go_at_call 109; refine (rnumber_any w g gb xs bad 2 hC (by omega)).mono ?_; rintro e w1 ⟨rfl, hC1, hg1⟩)
  go_ret
  exact ⟨ret_int (IntWalk.u16_in _ (by have h := num_lt16 (takeF_len' xs bad 2); change num (takeF xs bad 2).1 < _ at h; change (0 : Int) ≤ (num (takeF xs bad 2).1 : Int) ∧ (num (takeF xs bad 2).1 : Int) ≤ _; omega)), hC1, hg1⟩
theorem rpages_any (w : World) (n : Nat) (hn : n ≤ 140737488355328) : Calls Try.prog 80 #[.int .i64 (n : Int)] w fun e w' => e = .returned (.int .i64 (pagesN n : Int)) ∧ w = w' := by
  have h : ((n : Int) + 2 + 108 - 1) / 108 = ((pagesN n : Nat) : Int) := by unfold pagesN; omega
  have H := Lib.hid h
  clear h
  go_enter Try.func80, Try.ntmps80
  go_wp2_with fail
  go_ret
  exact ⟨congrArg (fun i => Ending.returned (.int .i64 i)) (by have := H.out; omega), rfl⟩
theorem recB_pad (b : List UInt8) (j : Nat) : (be 2 b.length ++ b ++ List.replicate j 0) ++ [(0 : UInt8)] = be 2 b.length ++ b ++ List.replicate (j + 1) 0 := by
  rw [List.append_assoc, List.replicate_succ']
theorem recP_is (a n : Nat) (r : List UInt8) (k : Nat) : recP a n r k = ((be 8 a ++ be 8 n) ++ be 2 k ++ be 2 (pagesN r.length)) ++ partP (recB r) k := by
  simp only [recP, pageB, List.append_assoc]
set_option maxRecDepth 20000 in
set_option maxHeartbeats 4000000 in
theorem rpage_any (w : World) (life num k : Nat) (hlife : life < 2 ^ 64) (hnum : num < 2 ^ 64) (A : Option Addr) (n cap : Nat) (r : List UInt8) (hr : RB w A n r) (hn : n ≤ 4096) (hk : k < pagesN n) :
    Calls Try.prog 81 #[.int .u64 (life : Int), .int .u64 (num : Int), .int .i64 (k : Int), .slice A n cap] w fun e w' => e = .returned (.agg (bvs (recP life num r k)).toArray) ∧ Below w.heap.size w w' := by
  have hxl := hr.len
  have u1 : IntKind.u16.wrap (n : Int) = (n : Int) := IntWalk.u16_in _ (by omega)
  obtain ⟨m, hm⟩ : ∃ m, pagesN n = m := ⟨_, rfl⟩
  have hroom := pagesN_room n
  have hm38 : m ≤ 38 := by rw [← hm]; unfold pagesN; omega
  rw [hm] at hk hroom
  have hrp := recP_is life num r k
  have hrl := recB_length r
  rw [hxl, hm] at hrp hrl
  have hrlen := recP_length life num r (k := k) (by rw [hxl, hm]; exact hk)
  obtain ⟨RR, hRR⟩ : ∃ x, recP life num r k = x := ⟨_, rfl⟩
  rw [hRR] at hrp hrlen ⊢
  have HM := Lib.hid hm
  have HRP := Lib.hid hrp
  have hpg := fun w => rpages_any w n (by omega)
  rw [hm] at hpg
  have HPG := Lib.hid hpg
  have u2 : IntKind.u16.wrap (k : Int) = (k : Int) := IntWalk.u16_in _ (by omega)
  have u3 : IntKind.u16.wrap (m : Int) = (m : Int) := IntWalk.u16_in _ (by omega)
  have hmi : IntKind.i64.wrap ((m : Int) * 108) = ((m * 108 : Nat) : Int) := by rw [IntWalk.i64_in _ (by omega)]; omega
  clear hm hrp hpg hRR
  have hZ := Blk.new w 28 (bvs zs).toArray
  have hb1 := below_alloc w (.cells (bvs zs).toArray 28)
  obtain ⟨z, hz⟩ : ∃ z : Array Value, (bvs zs).toArray = z := ⟨_, rfl⟩
  have hzc : Try.zeroCells28 = z := by rw [← hz]; exact zc128
  have hzs : z.size = 128 := by rw [← hz]; exact zsA_size
  rw [hz] at hZ hb1
  have HZ := Lib.hid hz
  clear hz
  go_enter Try.func81, Try.ntmps81
  go_upto_region 1 with (fail)
  generalize w.alloc (.cells z 28) = w1 at *
  have hGG : w.heap.size < w1.heap.size := hZ.lt
  have hr1 := hr.below hb1
  obtain ⟨G8, hG8⟩ : ∃ x, w.heap.size = x := ⟨_, rfl⟩
  rw [hG8] at hZ hGG ⊢
  have HG8 := Lib.hid hG8
  clear hG8
  obtain ⟨Z, hZZ⟩ : ∃ Z, m * 108 = Z := ⟨_, rfl⟩
  have m0 : (m : Int) * 108 = (Z : Int) := by omega
  rw [hZZ] at hroom hrl
  go_upto_block 0 with (first
    | (go_at_call 95; refine (rhalf_any _ none 0 0 [] n (RB.nil_ _ _) (by omega) (by omega)).mono ?_; rintro e w2 ⟨A1, N1, c1, rfl, hO1, hb2⟩; have hl1 := hO1.len; simp only [List.nil_append, be_length] at hO1 hl1; subst hl1; simp only [])
    | (at_builtin; refine app_bytes rfl _ _ rfl w1.heap.size _ _ _ (be 2 n) rfl hO1 _ _ _ r rfl (hr1.below hb2) (by omega) hb2.size ?_; intro A2 N2 c2 w3 hc2 hc3 hO2 hG2))
  have hb3 : Below w1.heap.size w1 w3 := hG2.own hb2 (Nat.le_refl _) hO1
  have hO2' : OB 5 w3 w1.heap.size A2 N2 c2 (be 2 r.length ++ r ++ List.replicate 0 0) := by rw [hxl]; simpa using hO2
  clear hb2 hO1 hG2 hO2 hc2 hc3
  go_cut [9] (fun v wx => ∃ (A3 : Option Addr) (c3 : Nat), v = .slice A3 Z c3 ∧ OB 5 wx w1.heap.size A3 Z c3 (recB r) ∧ Below w1.heap.size w1 wx)
  case first =>
    go_wp2_with fail
    go_loopw [9] (fun v wr => ∃ (j : Nat) (A3 : Option Addr) (N3 c3 : Nat), j + (2 + n) ≤ Z ∧ v = .slice A3 N3 c3 ∧ OB 5 wr w1.heap.size A3 N3 c3 (be 2 r.length ++ r ++ List.replicate j 0) ∧ Below w1.heap.size w1 wr) (fun v _ => match v with | .slice _ N _ => Z - N | _ => 0)
    case atStart => exact ⟨0, A2, N2, c2, by omega, rfl, hO2', hb3⟩
    case round =>
      clear hO2' hb3
      obtain ⟨j, A3, N3, c3, hj, rfl, hO3, hb3⟩ := hrel
      have hl3 := hO3.len
      simp only [List.length_append, be_length, List.length_replicate] at hl3
      by_cases hlt : N3 < Z
      · have g1 : (N3 : Int) < (Z : Int) := by omega
        have h0 : bv (0 : UInt8) = .int .u8 0 := rfl
        go_wp2_with (first
          | (go_at_call 80; refine (HPG.out _).mono ?_; rintro e w4' ⟨rfl, rfl⟩; simp only [])
          | (at_builtin; refine app_bytes rfl _ _ rfl w1.heap.size _ _ _ (be 2 r.length ++ r ++ List.replicate j 0) rfl (hO3.alloc _) _ _ _ [0] rfl (RB.one_ _ _ rfl) (by omega) (by simp; exact Nat.le_succ_of_le hb3.size) ?_; intro A4 N4 c4 w4 hc4 hc4' hO4 hG4))
        have hl4 := hO4.len
        rw [recB_pad r j] at hO4
        simp only [List.length_append, be_length, List.length_replicate, List.length_cons, List.length_nil] at hl4
        exact ⟨⟨j + 1, A4, N4, c4, by omega, rfl, hO4, hG4.own (below_alloc2 hb3 (Nat.le_refl _) _) (Nat.le_refl _) (hO3.alloc _)⟩, by simp only []; omega⟩
      · have g1 : ¬ (N3 : Int) < (Z : Int) := by omega
        go_wp2_with (go_at_call 80; refine (HPG.out _).mono ?_; rintro e w4' ⟨rfl, rfl⟩; simp only [])
        go_meet
        obtain rfl : N3 = Z := by omega
        refine ⟨A3, c3, rfl, ?_, hb3⟩
        have hrb : recB r = be 2 r.length ++ r ++ List.replicate j 0 := by
          rw [recB, hxl, HM.out, hZZ, show N3 - (2 + n) = j by omega, List.append_assoc]
        rw [hrb]
        exact hO3
  case rest =>
    clear hO2' hb3
    obtain ⟨A3, c3, rfl, hO3, hb3⟩ := hcut
    obtain ⟨a3, ha3⟩ : ∃ a, A3 = some a := by
      obtain ⟨g3, cap3, hv, _, _⟩ := World.ownsRow.form hO3 (by omega)
      injection hv with hv
      exact ⟨_, hv⟩
    subst ha3
    have hc3 := (OB.cap hO3).1
    obtain ⟨q, hq⟩ : ∃ q, k * 108 = q := ⟨_, rfl⟩
    have m1 : (k : Int) * 108 = (q : Int) := by omega
    have m2 : ((k : Int) + 1) * 108 = (q : Int) + 108 := by omega
    have m3 : (q : Int) + 108 ≤ (c3 : Int) := by omega
    have m4 : (q : Int) ≤ (q : Int) + 108 := by omega
    have m5 : (0 : Int) ≤ (q : Int) := by omega
    have m6 : (0 : Int) ≤ (q : Int) + 108 := by omega
    have m7 : ¬ c3 = q := by omega
    have m8 : ((q : Int) + 108).toNat - q = 108 := by omega
    have v5 : IntKind.i64.wrap ((q : Int) + 108) = (q : Int) + 108 := IntWalk.i64_in _ (by omega)
    have v6 : IntKind.i64.wrap (q : Int) = (q : Int) := IntWalk.i64_in _ (by omega)
    have v7 : IntKind.i64.wrap ((k : Int) + 1) = (k : Int) + 1 := IntWalk.i64_in _ (by omega)
    have hpart : ∀ z, RB z (some a3) Z (recB r) → RB z (some (a3.add q)) 108 (partP (recB r) k) := fun z hz => by
      have h1 := Reads.cut hz (k := q) (cap := c3) (by omega) hc3
      rw [if_neg m7] at h1
      have h2 := Reads.take_ h1 (k := 108) (by omega)
      have he : bvs (partP (recB r) k) = ((bvs (recB r)).drop (q * 1)).take (108 * 1) := by
        simp only [partP, hq, bvs, List.map_take, List.map_drop, Nat.mul_one]
      unfold RB
      rw [he]
      simpa using h2
    have HPART := Lib.hid hpart
    clear hpart
    go_wp2_with fail
    refine (rword_any _ none 0 0 [] life (RB.nil_ _ _) (by omega) hlife).mono ?_
    rintro e w4 ⟨A4, N4, c4, rfl, hO4, hb4⟩
    rw [List.nil_append] at hO4
    simp only []
    have hl4 := hO4.len
    rw [be_length] at hl4
    subst hl4
    go_wp2_with fail
    refine (rword_any _ A4 8 c4 (be 8 life) num hO4.reads (by omega) hnum).mono ?_
    rintro e w5 ⟨A5, N5, c5, rfl, hO5, hb5⟩
    simp only []
    have hl5 := hO5.len
    rw [List.length_append, be_length, be_length] at hl5
    obtain rfl : N5 = 16 := by omega
    clear hl5
    go_wp2_with fail
    refine (rhalf_any _ A5 16 c5 _ k hO5.reads (by omega) (by omega)).mono ?_
    rintro e w6 ⟨A6, N6, c6, rfl, hO6, hb6⟩
    simp only []
    have hl6 := hO6.len
    rw [List.length_append, List.length_append, be_length, be_length, be_length] at hl6
    obtain rfl : N6 = 18 := by omega
    clear hl6
    go_wp2_with fail
    refine (HPG.out _).mono ?_
    rintro e w6' ⟨rfl, rfl⟩
    simp only []
    go_wp2_with fail
    refine (rhalf_any _ A6 18 c6 _ m hO6.reads (by omega) (by omega)).mono ?_
    rintro e w7 ⟨A7, N7, c7, rfl, hO7, hb7⟩
    simp only []
    have hl7 := hO7.len
    simp only [List.length_append, be_length] at hl7
    obtain rfl : N7 = 20 := by omega
    clear hl7
    have hb37 : Below wc.heap.size wc w7 := hb4.trans ((hb5.mono hb4.size).trans ((hb6.mono (Nat.le_trans hb4.size hb5.size)).trans (hb7.mono (Nat.le_trans hb4.size (Nat.le_trans hb5.size hb6.size)))))
    have hs6 : wc.heap.size ≤ w6.heap.size := Nat.le_trans hb4.size (Nat.le_trans hb5.size hb6.size)
    have hR7 := hO3.reads.below hb37
    clear hO4 hO5 hO6 hb4 hb5 hb6
    go_wp2_with (at_builtin; refine app_bytes rfl _ _ rfl w6.heap.size _ _ _ _ rfl hO7 _ _ _ (partP (recB r) k) rfl (HPART.out _ hR7) (by omega) hb7.size ?_; intro A9 N9 c9 w9 hc9 hc9' hO9 hG9; refine Hid.out ?_)
    refine Lib.hid ?_
    have hb9 : Below wc.heap.size wc w9 := hG9.own hb37 (Nat.le_refl _) (OB.mono hO7 hs6)
    rw [← HRP.out] at hO9
    have hl9 : N9 = 128 := by rw [← hO9.len, hrlen]
    subst hl9
    have hb19 : Below w1.heap.size w1 w9 := hb3.trans (hb9.mono hb3.size)
    have hZ9 := hZ.below hb19 hGG
    clear hO7 hb7 hR7 hG9 hO3 HPART hb37 hs6 hb3 hb9 m1 m2 m3 m4 m5 m6 m7 m8 v5 v6 v7
    go_upto_block 2 with (fail)
    have hst : ∀ j, j < 128 → (bvs (RR.take j ++ zs.drop j)).set j (.int .u8 ((RR.getD j 0).toNat : Int)) = bvs (RR.take (j + 1) ++ zs.drop (j + 1)) := fun j hj => by
      have hl : (bvs (RR.take j)).length = j := by rw [bvs_length, List.length_take, hrlen]; omega
      rw [bvs_append, List.set_append_right _ _ (by omega), hl, Nat.sub_self, List.drop_eq_getElem_cons (by rw [zs_length]; exact hj), List.take_add_one, List.getElem?_eq_getElem (by omega), List.getD_eq_getElem?_getD, List.getElem?_eq_getElem (by omega)]
      rw [bvs_append, bvs_append, List.append_assoc]
      rfl
    have HST := Lib.hid hst
    have hY := Blk.new w9 28 z
    have hbA := below_alloc w9 (.cells z 28)
    have hO9A := hO9.alloc (.cells z 28)
    have hz0 : Blk (w9.alloc (.cells z 28)) w9.heap.size 28 (bvs (RR.take 0 ++ zs.drop 0)).toArray := by
      have : (bvs (RR.take 0 ++ zs.drop 0)).toArray = z := HZ.out
      rw [this]; exact hY
    obtain ⟨G, hG⟩ : ∃ G, w9.heap.size = G := ⟨_, rfl⟩
    obtain ⟨wA, hwA⟩ : ∃ x, w9.alloc (.cells z 28) = x := ⟨_, rfl⟩
    rw [hwA] at hz0 hbA hO9A ⊢
    rw [hG] at hz0 ⊢
    have hgeG := OB.ge hO9
    have hZ9lt := hZ9.lt
    clear hst hwA hO9 hY
    go_cut [] (fun wx => Blk wx G 28 (bvs RR).toArray ∧ Below w9.heap.size w9 wx)
    case first =>
      go_wp2_with fail
      go_loopw [12] (fun i wz => ∃ j : Nat, j ≤ 128 ∧ i = .int .i64 (j : Int) ∧ Blk wz G 28 (bvs (RR.take j ++ zs.drop j)).toArray ∧ wA.grownBy wz (some G)) (fun i _ => 128 - (intOf i).toNat)
      case atStart => exact ⟨0, Nat.zero_le _, rfl, hz0, World.grownBy.refl _ _⟩
      case round =>
        obtain ⟨j, hj, rfl, hGj, hgj⟩ := hrel
        have hRz : RB _ A9 128 RR := hO9A.reads.grown hgj (.inl (fun e => by have := (hgeG G e).2; omega))
        by_cases hj128 : j < 128
        · have hset := hGj.set_ j (.int .u8 ((RR.getD j 0).toNat : Int))
          rw [List.setIfInBounds_toArray, HST.out j hj128] at hset
          have hcx := hGj.cell j
          obtain ⟨u, hu⟩ : ∃ u, (bvs (RR.take j ++ zs.drop j))[j]? = some u := ⟨_, List.getElem?_eq_getElem (by rw [bvs_length, List.length_append, List.length_take, List.length_drop, hrlen, zs_length]; omega)⟩
          rw [List.getElem?_toArray, hu] at hcx
          have hfz := hGj.frozen j
          obtain ⟨a9, rfl, hb9, hc9'⟩ := hRz.at_ hj128
          have g1' : (j : Int) < 128 := by omega
          have g0' : (0 : Int) ≤ (j : Int) := by omega
          have hgset := hgj.trans (grownBy_set _ G j (.int .u8 ((RR.getD j 0).toNat : Int)))
          obtain ⟨x, hx⟩ : ∃ x, RR.getD j 0 = x := ⟨_, rfl⟩
          rw [hx] at hset hc9' hgset
          have HSET := Lib.hid hset
          clear hset hu hx
          go_wp2_with fail
          exact ⟨⟨j + 1, by omega, congrArg (Value.int .i64) (by omega), HSET.out, hgset⟩, by simp only [intOf]; omega⟩
        · obtain rfl : j = 128 := by omega
          have hfull : RR.take 128 ++ zs.drop 128 = RR := by rw [List.take_of_length_le (by omega), List.drop_of_length_le (by rw [zs_length]; omega), List.append_nil]
          rw [hfull] at hGj
          have g1' : ¬ ((128 : Nat) : Int) < 128 := by decide
          go_wp2_with fail
          go_meet
          exact ⟨hGj, hbA.grown hgj hbA.size (fun p hp => by cases hp; exact Nat.le_of_eq hG)⟩
    case rest =>
      obtain ⟨hBk, hbk⟩ := hcut
      have hRs : (bvs RR).toArray.size = 128 := by rw [bvs_size, hrlen]
      have hZc := hZ9.below hbk hZ9.lt
      have hbc : Below w.heap.size w wc := hb1.trans ((hb19.trans (hbk.mono hb19.size)).mono hb1.size)
      have hG8 := HG8.out
      clear hO9A hz0 hbA
      repeat (first
        | ((with_reducible refine wpl_load G _ _ Try.underlying28 i128 hBk hRs ?_ ?_); (focus rfl); simp only [Act.put, List.setIfInBounds_toArray, List.set_cons_zero, List.set_cons_succ])
        | ((with_reducible refine wpl_store G8 _ _ (bvs RR).toArray i128 hZc hzs hRs (bvs_all _) ?_ ?_ ?_); (focus rfl); (focus rfl))
        | go_values | go_skip | go_guarded | go_step | go_upon | go_back)
      refine bodyPost_ret (results_cell_row rfl _ _ G8 _ _ (0, 0) _ rfl (hZc.setRow _) Try.underlying28 rfl (by rw [hRs]; exact i128)) rfl ?_
      exact ⟨rfl, hbc.grown (grownBy_setRow _ G8 _) hbc.size (fun q hq => by cases hq; exact Nat.le_of_eq hG8)⟩
end Go.Proofs.Ytmjdfajdompkeaa
