/- The law BookPlays: its steps, few, raw; both books side by side. -/
import Derived.Test.YtmjdfajdompkeaaKq19
namespace Go.Proofs.Ytmjdfajdompkeaa
open Go.RowKit Go.Rat
abbrev BStep := UInt8 × SB × UInt8 × Int × SB
def bstepC (x : BStep) : List Value := [.int .u8 (x.1.toNat : Int)] ++ ([x.2.1.v] ++ ([.int .u8 (x.2.2.1.toNat : Int)] ++ ([.int .i8 x.2.2.2.1] ++ [x.2.2.2.2.v])))
def bstepOk (w : World) (x : BStep) : Prop := SB.ok w x.2.1 ∧ (-128 ≤ x.2.2.2.1 ∧ x.2.2.2.1 ≤ 127) ∧ SB.ok w x.2.2.2.2
theorem bstep_at {w : World} {A : Option Addr} {n : Nat} {l : List BStep} (h : Reads w w.heap.size 5 A n (l.flatMap bstepC)) {k : Nat} (hk : k < n) :
    ∃ ad x, A = some ad ∧ x ∈ l ∧ l[k]? = some x ∧ (ad.add (k * 5)).block < w.heap.size ∧ (∀ j u, (bstepC x)[j]? = some u → w.cell? ((ad.add (k * 5)).add j) = some u) ∧ (∀ j u, 0 < j → (bstepC x)[j]? = some u → w.cell? ⟨(ad.add (k * 5)).block, (ad.add (k * 5)).off + j, none⟩ = some u) := by
  obtain ⟨ad, rfl, hb, hc⟩ := h.2 (by omega)
  have hlen := flat_len bstepC 5 (fun _ => rfl) l
  have hkl : k < l.length := by have := h.1; omega
  have hg : l[k]? = some l[k] := List.getElem?_eq_getElem hkl
  have hall : ∀ j u, (bstepC l[k])[j]? = some u → w.cell? (ad.add (k * 5 + j)) = some u := fun j u hu => by
    have hj : j < 5 := by
      have := (List.getElem?_eq_some_iff.1 hu).1
      simpa [bstepC] using this
    have F := flat_get bstepC 5 (fun _ => rfl) l k j _ hg hj
    exact hc _ _ (F.trans hu)
  refine ⟨ad, l[k], rfl, List.getElem_mem hkl, hg, by rw [block_of_add]; exact hb, fun j u hu => ?_, fun j u hj hu => ?_⟩
  · rw [show (ad.add (k * 5)).add j = ad.add (k * 5 + j) by
      by_cases h0 : j = 0
      · subst h0; simp [Addr.add]
      · rw [← add_field _ _ _ (by omega)]; unfold Addr.add; rw [if_neg h0]]
    exact hall j u hu
  · rw [add_field _ _ _ hj]
    exact hall j u hu
theorem i94 : (Try.prog.info? 94).map (·.size) = some 5 := by kernel_rfl
def StepsOk (l : List BStep) (k : Nat) : Prop := ∀ (j : Nat) (x : BStep), j < k → l[j]? = some x → x.2.2.2.2.n ≤ 200 ∧ x.2.1.n ≤ 5000
set_option maxHeartbeats 4000000 in
theorem bfew_any (w : World) (A : Option Addr) (m c : Nat) (l : List BStep) (hr : Reads w w.heap.size 5 A m (l.flatMap bstepC)) (most : Nat) (hm : most < 1000000) :
    Calls Try.prog 50 #[.slice A m c, .int .i64 (most : Int)] w fun e w' => (e = .returned (.bool false) ∨ (e = .returned (.bool true) ∧ m ≤ most ∧ StepsOk l m)) ∧ w' = w := by
  by_cases hbig : most < m
  · have hbi : (most : Int) < (m : Int) := by omega
    go_enter Try.func50, Try.ntmps50
    go_wp2_with fail
    go_ret
    exact ⟨.inl rfl, rfl⟩
  · have hbi : ¬ (most : Int) < (m : Int) := by omega
    have hml : m ≤ most := by omega
    go_enter Try.func50, Try.ntmps50
    go_wp2_with fail
    go_loopw [5] (fun i wr => ∃ k : Nat, k ≤ m ∧ i = .int .i64 (k : Int) ∧ wr = w ∧ StepsOk l k) (fun i _ => m - (intOf i).toNat)
    case atStart => exact ⟨0, Nat.zero_le _, rfl, rfl, fun j x hj => by omega⟩
    case round =>
      obtain ⟨k, hk, rfl, rfl, hall⟩ := hrel
      have HALL := Lib.hid hall
      clear hall
      by_cases hkm : k < m
      · obtain ⟨ad, ⟨x1, ⟨A2, n2, z2, bs⟩, x3, x4, ⟨A5, n5, z5, ps⟩⟩, e, hxl, hg, hadl, _, hcs⟩ := bstep_at hr hkm
        cases e
        have q4 := hcs 4 (.slice A5 n5 z5) (by omega) rfl
        have q1 := hcs 1 (.slice A2 n2 z2) (by omega) rfl
        obtain ⟨P, hP⟩ : ∃ P, ad.add (k * 5) = P := ⟨_, rfl⟩
        rw [hP] at q4 q1
        have HG := Lib.hid hg
        have g1 : (k : Int) < (m : Int) := by omega
        have g0 : (0 : Int) ≤ (k : Int) := by omega
        clear hxl hcs hadl hg
        by_cases hp2 : 200 < n5
        · have hp2' : (200 : Int) < (n5 : Int) := by omega
          go_wp2_with fail
          go_ret
          exact ⟨.inl rfl, rfl⟩
        · have hp2' : ¬ (200 : Int) < (n5 : Int) := by omega
          by_cases hp3 : 5000 < n2
          · have hp3' : (5000 : Int) < (n2 : Int) := by omega
            go_wp2_with fail
            go_ret
            exact ⟨.inl rfl, rfl⟩
          · have hp3' : ¬ (5000 : Int) < (n2 : Int) := by omega
            go_wp2_with fail
            exact ⟨⟨k + 1, by omega, by first | omega | exact congrArg (Value.int .i64) (by omega), by first | rfl | trivial, fun j x hj hx => by
              by_cases hjk : j < k
              · exact HALL.out j x hjk hx
              · obtain rfl : j = k := by omega
                rw [HG.out] at hx
                cases hx
                exact ⟨Nat.le_of_not_lt hp2, Nat.le_of_not_lt hp3⟩⟩, by simp only [intOf]; omega⟩
      · obtain rfl : k = m := by omega
        have g1 : ¬ (k : Int) < (k : Int) := by omega
        go_wp2_with fail
        go_ret
        first | exact ⟨.inr ⟨rfl, hml, HALL.out⟩, rfl⟩ | exact ⟨.inr ⟨rfl, HALL.out⟩, rfl⟩ | exact ⟨⟨hml, HALL.out⟩, rfl⟩ | exact ⟨hml, HALL.out⟩
/-- A raw sector of a step's bytes. -/
def rawF (b : List UInt8) : List UInt8 := b.take 128 ++ zs.drop b.length
theorem rawF_length (b : List UInt8) : (rawF b).length = 128 := by
  rw [rawF, List.length_append, List.length_take, List.length_drop, zs_length]
  omega
theorem rep_zero : rep 0 = zs := rfl
set_option maxRecDepth 20000 in
set_option maxHeartbeats 4000000 in
theorem rraw_any (w : World) (x1 x3 : UInt8) (x4 : Int) (A2 : Option Addr) (n2 z2 : Nat) (bs : List UInt8) (hr : RB w A2 n2 bs) (hn : n2 ≤ 5000) (A5 : Option Addr) (n5 z5 : Nat) :
    Calls Try.prog 54 #[.agg #[.int .u8 (x1.toNat : Int), .slice A2 n2 z2, .int .u8 (x3.toNat : Int), .int .i8 x4, .slice A5 n5 z5]] w fun e w' => e = .returned (.agg (bvs (rawF bs)).toArray) ∧ Below w.heap.size w w' := by
  have hbl := hr.len
  have hrl := rawF_length bs
  have hrs : (bvs (rawF bs)).toArray.size = 128 := by rw [bvs_size, hrl]
  obtain ⟨z, hz⟩ : ∃ z : Array Value, (bvs zs).toArray = z := ⟨_, rfl⟩
  have hzc : Try.zeroCells28 = z := by rw [← hz]; exact zc128
  have hzs : z.size = 128 := by rw [← hz]; exact zsA_size
  have hz1 : z.all (·.oneCell') = true := by rw [← hz]; exact bvs_all _
  have HZ := Lib.hid hz
  have hst : ∀ j, j < 128 → j < n2 → (bvs (bs.take j ++ zs.drop j)).set j (.int .u8 ((bs.getD j 0).toNat : Int)) = bvs (bs.take (j + 1) ++ zs.drop (j + 1)) := fun j hj hj2 => by
    have hl : (bvs (bs.take j)).length = j := by rw [bvs_length, List.length_take, hbl]; omega
    rw [bvs_append, List.set_append_right _ _ (by omega), hl, Nat.sub_self, List.drop_eq_getElem_cons (by rw [zs_length]; exact hj), List.take_add_one, List.getElem?_eq_getElem (by omega), List.getD_eq_getElem?_getD, List.getElem?_eq_getElem (by omega)]
    rw [bvs_append, bvs_append, List.append_assoc]
    rfl
  have HST := Lib.hid hst
  have hraw : rawF bs = bs.take 128 ++ zs.drop n2 := by rw [rawF, hbl]
  obtain ⟨RW, hRW⟩ : ∃ R, rawF bs = R := ⟨_, rfl⟩
  rw [hRW] at hrl hrs hraw ⊢
  have HRAW := Lib.hid hraw
  clear hz hst hRW hraw
  go_enter Try.func54, Try.ntmps54
  go_upto_region 1 with (fail)
  have hX := (Blk.new w 94 #[.int .u8 (x1.toNat : Int), .slice A2 n2 z2, .int .u8 (x3.toNat : Int), .int .i8 x4, .slice A5 n5 z5]).alloc (.cells z 28)
  have hY := Blk.new (w.alloc (.cells #[.int .u8 (x1.toNat : Int), .slice A2 n2 z2, .int .u8 (x3.toNat : Int), .int .i8 x4, .slice A5 n5 z5] 94)) 28 z
  have hb2 := below_next' (below_alloc w (.cells #[.int .u8 (x1.toNat : Int), .slice A2 n2 z2, .int .u8 (x3.toNat : Int), .int .i8 x4, .slice A5 n5 z5] 94)) (below_alloc _ (.cells z 28))
  have hsz : (w.alloc (.cells #[.int .u8 (x1.toNat : Int), .slice A2 n2 z2, .int .u8 (x3.toNat : Int), .int .i8 x4, .slice A5 n5 z5] 94)).heap.size = w.heap.size + 1 := by simp
  rw [hsz] at hY
  obtain ⟨w2, hw2⟩ : ∃ x, (w.alloc (.cells #[.int .u8 (x1.toNat : Int), .slice A2 n2 z2, .int .u8 (x3.toNat : Int), .int .i8 x4, .slice A5 n5 z5] 94)).alloc (.cells z 28) = x := ⟨_, rfl⟩
  rw [hw2] at hX hY hb2 ⊢
  have hs2 := hY.lt
  obtain ⟨gx, hgx⟩ : ∃ x, w.heap.size = x := ⟨_, rfl⟩
  rw [hgx] at hX hY hs2 ⊢
  have HGX := Lib.hid hgx
  obtain ⟨gy, hgy⟩ : ∃ x, gx + 1 = x := ⟨_, rfl⟩
  rw [hgy] at hY hs2 ⊢
  have HGY := Lib.hid hgy
  have hne : gx < gy := by omega
  have hr2 := hr.below hb2
  clear hw2 hsz hgx hgy
  go_wp2_with fail
  refine (bytes_any w2 0).mono ?_
  rw [rep_zero, HZ.out]
  rintro e w3 ⟨rfl, hb3⟩
  simp only []
  have hX := hX.below hb3 (by omega)
  have hY := hY.below hb3 hs2
  have hr2 := hr2.below hb3
  have hb2 := below_next' hb2 hb3
  have hs3 := hb3.size
  clear hb3
  repeat (first | ((with_reducible refine wpl_store_fresh z i128 ?_ hzs hz1 ?_ ?_ ?_); (focus exact hzs); (focus rfl); (focus rfl); intro w4 hB hl4 hb4; simp only [Act.put]; refine Hid.out ?_) | go_values | go_skip | go_guarded | go_step | go_upon | go_back)
  refine Lib.hid ?_
  have hX := hX.below hb4 hX.lt
  have hY := hY.below hb4 hY.lt
  have hr2 := hr2.below hb4
  have hb2 := below_next' hb2 hb4
  have hs4 : gy < w3.heap.size := by omega
  obtain ⟨G, hG⟩ : ∃ x, w3.heap.size = x := ⟨_, rfl⟩
  rw [hG] at hB hl4 hs4 ⊢
  have hA2 : n2 ≠ 0 → A2.map (·.block) ≠ some G := fun hn0 e => by
    obtain ⟨ad, hA, hlt, _⟩ := hr.2 (by omega)
    rw [hA] at e
    have : ad.block = G := Option.some.inj e
    have := HGX.out
    have := HGY.out
    omega
  have hgw : w.heap.size ≤ G := by have := HGX.out; have := HGY.out; omega
  clear hb4 hG
  go_wp2_with fail
  go_loopw [4] (fun i wr => ∃ k : Nat, k ≤ 128 ∧ k ≤ n2 ∧ i = .int .i64 (k : Int) ∧ Blk wr G 28 (bvs (bs.take k ++ zs.drop k)).toArray ∧ w4.grownBy wr (some G)) (fun i _ => 128 - (intOf i).toNat)
  case atStart => exact ⟨0, by omega, by omega, rfl, by
    have : (bvs (bs.take 0 ++ zs.drop 0)).toArray = z := HZ.out
    rw [this]; exact hB, World.grownBy.refl _ _⟩
  case round =>
    obtain ⟨k, hk, hkn, rfl, hGk, hgk⟩ := hrel
    have hXk := hX.grown hgk (by intro e; injection e with e; omega)
    have c1 := hXk.cell 1
    simp only [List.getElem?_toArray, List.getElem?_cons_zero, List.getElem?_cons_succ] at c1
    by_cases hk2 : k < n2 ∧ k < 128
    · obtain ⟨hk2, hk128⟩ := hk2
      have hrk : RB wr A2 n2 bs := hr2.grown hgk (.inl (hA2 (by omega)))
      have hset := hGk.set_ k (.int .u8 ((bs.getD k 0).toNat : Int))
      rw [List.setIfInBounds_toArray, HST.out k hk128 hk2] at hset
      have hcx := hGk.cell k
      obtain ⟨u, hu⟩ : ∃ u, (bvs (bs.take k ++ zs.drop k))[k]? = some u := ⟨_, List.getElem?_eq_getElem (by rw [bvs_length, List.length_append, List.length_take, List.length_drop, hbl, zs_length]; omega)⟩
      rw [List.getElem?_toArray, hu] at hcx
      have f1 := hGk.frozen k
      obtain ⟨a2, rfl, hba, hca⟩ := hrk.at_ hk2
      have hgset := hgk.trans (grownBy_set _ G k (.int .u8 ((bs.getD k 0).toNat : Int)))
      obtain ⟨x, hx⟩ : ∃ x, bs.getD k 0 = x := ⟨_, rfl⟩
      rw [hx] at hset hca hgset
      have HSET := Lib.hid hset
      have g1 : (k : Int) < 128 := by omega
      have g2 : (k : Int) < (n2 : Int) := by omega
      have g0 : (0 : Int) ≤ (k : Int) := by omega
      clear hset hu hx hXk hX hY hB
      go_wp2_with fail
      exact ⟨⟨k + 1, by omega, by omega, congrArg (Value.int .i64) (by omega), HSET.out, hgset⟩, by simp only [intOf]; omega⟩
    · have hfull : bs.take k ++ zs.drop k = RW := by
        rw [HRAW.out]
        by_cases h1 : k < n2
        · obtain rfl : k = 128 := by omega
          rw [List.drop_of_length_le (i := n2) (by rw [zs_length]; omega), List.drop_of_length_le (i := 128) (by rw [zs_length]; omega)]
        · obtain rfl : k = n2 := by omega
          rw [List.take_of_length_le (i := k) (by omega), List.take_of_length_le (i := 128) (by omega)]
      rw [hfull] at hGk
      have hYk := hY.grown hgk (by intro e; injection e with e; omega)
      have hbk := hb2.grown hgk hb2.size (fun p hp => by cases hp; exact hgw)
      have hcs : ¬ k < n2 ∨ (k < n2 ∧ ¬ k < 128) := by omega
      clear hX hY hB hb2 hk2
      rcases hcs with h1 | ⟨h1, h2⟩
      · have g1 : ¬ (k : Int) < (n2 : Int) := by omega
        clear h1
        repeat (first
          | ((with_reducible refine wpl_load G _ _ Try.underlying28 i128 hGk hrs ?_ ?_); (focus rfl); simp only [Act.put, List.setIfInBounds_toArray, List.set_cons_zero, List.set_cons_succ])
          | ((with_reducible refine wpl_store gy _ _ (bvs RW).toArray i128 hYk hzs hrs (bvs_all _) ?_ ?_ ?_); (focus rfl); (focus rfl))
          | go_values | go_skip | go_guarded | go_step | go_upon | go_back)
        refine bodyPost_ret (results_cell_row rfl _ _ gy _ _ (0, 0) _ rfl (hYk.setRow _) Try.underlying28 rfl (by rw [hrs]; exact i128)) rfl ?_
        exact ⟨rfl, hbk.grown (grownBy_setRow _ gy _) hbk.size (fun q hq => by cases hq; have := HGX.out; have := HGY.out; omega)⟩
      · have g1 : (k : Int) < (n2 : Int) := by omega
        have g2 : ¬ (k : Int) < 128 := by omega
        clear h1 h2
        repeat (first
          | ((with_reducible refine wpl_load G _ _ Try.underlying28 i128 hGk hrs ?_ ?_); (focus rfl); simp only [Act.put, List.setIfInBounds_toArray, List.set_cons_zero, List.set_cons_succ])
          | ((with_reducible refine wpl_store gy _ _ (bvs RW).toArray i128 hYk hzs hrs (bvs_all _) ?_ ?_ ?_); (focus rfl); (focus rfl))
          | go_values | go_skip | go_guarded | go_step | go_upon | go_back)
        refine bodyPost_ret (results_cell_row rfl _ _ gy _ _ (0, 0) _ rfl (hYk.setRow _) Try.underlying28 rfl (by rw [hrs]; exact i128)) rfl ?_
        exact ⟨rfl, hbk.grown (grownBy_setRow _ gy _) hbk.size (fun q hq => by cases hq; have := HGX.out; have := HGY.out; omega)⟩
end Go.Proofs.Ytmjdfajdompkeaa
namespace Go.Proofs.Ytmjdfajdompkeaa
open Go.RowKit Go.Rat
def PP (l : DL) (L : RL) (k K x : Nat) : Prop := l.fp x ∨ L.fp x ∨ x = k ∨ x = K
theorem RowN.more {w : World} {P P' : Nat → Prop} {k k' N : Nat} {A : Option Addr} {ps : List Pt} (h : RowN w P k A N ps) (hk : k' ≤ k) (hP : ∀ g, k < g → g < w.heap.size → ¬ P g → ¬ P' g) : RowN w P' k' A N ps :=
  ⟨h.r, fun g hg => by
    obtain ⟨a1, a2, a3⟩ := h.a g hg
    exact ⟨by omega, a2, hP g a1 a2 a3⟩, fun p hp g hg => by
    obtain ⟨a1, a2, a3⟩ := h.o p hp g hg
    exact ⟨by omega, a2, hP g a1 a2 a3⟩⟩
/-- Both books, beside both disks; what both have told. -/
structure BX (w : World) (base : Nat) (l : DL) (L : RL) (k K : Nat) (s t : BS) (A : Option Addr) (N : Nat) (ps : List Pt) (A' : Option Addr) (N' : Nat) (qs : List Pt) : Prop where
  b : BookAt w base l k s
  x : RBookAt w base L K t
  kL : ¬ L.fp k
  Kl : ¬ l.fp K
  kK : k ≠ K
  m : RowN w (PP l L k K) 0 A N ps
  n : RowN w (PP l L k K) 0 A' N' qs
section
variable {w w' : World} {base : Nat} {l l' : DL} {L L' : RL} {k K : Nat} {s t s' t' : BS} {A A' : Option Addr} {N N' : Nat} {ps qs : List Pt}
theorem BX.left (h : BX w base l L k K s t A N ps A' N' qs) (hm : CMoved w w' l l' k) (hB : BookAt w' base l' k s') : BX w' base l' L k K s' t A N ps A' N' qs := by
  have hF : ∀ x, (l.fp x ∨ x = k) → PP l L k K x ∨ x ≤ 0 := fun x hx => by
    rcases hx with h1 | h1
    · exact .inl (.inl h1)
    · exact .inl (.inr (.inr (.inl h1)))
  have hP : ∀ x, PP l' L k K x → PP l L k K x ∨ w.heap.size ≤ x := fun x hx => by
    rcases hx with h1 | h1 | h1
    · rcases hm.fp x h1 with h2 | h2
      · exact .inl (.inl h2)
      · exact .inr h2
    · exact .inl (.inr (.inl h1))
    · exact .inl (.inr (.inr h1))
  refine ⟨hB, h.x.kept hm.chg (fun hf => ?_) rfl (fun x hx => .inl hx), h.kL, fun hf => ?_, h.kK, h.m.kept hm.chg hF hP, h.n.kept hm.chg hF hP⟩
  · rcases hf with h1 | h1
    · exact h.Kl h1
    · exact h.kK h1.symm
  · rcases hm.fp K hf with h1 | h1
    · exact h.Kl h1
    · have := h.x.blk.lt
      omega
theorem BX.right (h : BX w base l L k K s t A N ps A' N' qs) (hm : RCMoved w w' L L' K) (hB : RBookAt w' base L' K t') : BX w' base l L' k K s t' A N ps A' N' qs := by
  have hF : ∀ x, (L.fp x ∨ x = K) → PP l L k K x ∨ x ≤ 0 := fun x hx => by
    rcases hx with h1 | h1
    · exact .inl (.inr (.inl h1))
    · exact .inl (.inr (.inr (.inr h1)))
  have hP : ∀ x, PP l L' k K x → PP l L k K x ∨ w.heap.size ≤ x := fun x hx => by
    rcases hx with h1 | h1 | h1
    · exact .inl (.inl h1)
    · rcases hm.fp x h1 with h2 | h2
      · exact .inl (.inr (.inl h2))
      · exact .inr h2
    · exact .inl (.inr (.inr h1))
  have hb : BookAt w' base l k s := ⟨hm.chg.blk h.b.blk (fun hf => by
    rcases hf with h1 | h1
    · exact h.kL h1
    · exact h.kK h1), h.b.out, h.b.bk⟩
  refine ⟨hb, hB, fun hf => ?_, h.Kl, h.kK, h.m.kept hm.chg hF hP, h.n.kept hm.chg hF hP⟩
  rcases hm.fp k hf with h1 | h1
  · exact h.kL h1
  · have := h.b.blk.lt
    omega
theorem BX.below (h : BX w base l L k K s t A N ps A' N' qs) (hb : Below w.heap.size w w') : BX w' base l L k K s t A N ps A' N' qs :=
  ⟨h.b.below hb, h.x.below hb, h.kL, h.Kl, h.kK, h.m.below hb, h.n.below hb⟩
/-- Both opened, one behind the other. -/
theorem BX.new {w0 w1 w2 : World} {d : DS} {L0 : RL} (hk : w0.heap.size ≤ k) (hB : BookAt w1 base l' k s) (hm : RowN w1 l'.fp k A N ps) (hL0 : ∀ x, L0.fp x → x < w0.heap.size) (hl : DiskAt w1 base l' d)
    (hm2 : RMoved w1 w2 L0 L') (hK : w1.heap.size ≤ K) (hX : RBookAt w2 base L' K t) (hn : RowN w2 L'.fp K A' N' qs) : BX w2 base l' L' k K s t A N ps A' N' qs := by
  have hkw := hB.blk.lt
  have hlt : ∀ x, l'.fp x → x < w1.heap.size := fun x hx => (hl.fp_lt hx).2
  have h1 : RowN w1 (fun x => l'.fp x ∨ L0.fp x ∨ x = k) 0 A N ps := hm.more (Nat.zero_le _) (fun g g1 g2 g3 hf => by
    rcases hf with h | h | h
    · exact g3 h
    · have := hL0 g h
      omega
    · omega)
  have hk2 : ¬ L0.fp k := fun hf => by have := hL0 k hf; omega
  refine ⟨⟨hm2.chg.blk hB.blk hk2, hB.out, hB.bk⟩, hX, fun hf => ?_, fun hf => by have := hlt K hf; omega, by omega, h1.kept hm2.chg (fun x hx => .inl (.inr (.inl hx))) (fun x hx => ?_), hn.more (Nat.zero_le _) (fun g g1 g2 g3 hf => ?_)⟩
  · rcases hm2.fp k hf with h | h
    · exact hk2 h
    · omega
  · rcases hx with h | h | h | h
    · exact .inl (.inl h)
    · rcases hm2.fp x h with h2 | h2
      · exact .inl (.inr (.inl h2))
      · exact .inr h2
    · exact .inl (.inr (.inr h))
    · exact .inr (by omega)
  · rcases hf with h | h | h | h
    · have := hlt g h
      omega
    · exact g3 h
    · omega
    · omega
end
theorem allF_bounds {V : Int → Option (List UInt8)} {lim : Int} {life : Nat} : ∀ (f : Nat) (p : Int) (n fr : Nat), p ≤ lim → p ≤ (allF V lim life f p n fr).2.1 ∧ (allF V lim life f p n fr).2.1 ≤ lim ∧ ((allF V lim life f p n fr).2.2 : Int) - n ≤ (allF V lim life f p n fr).2.1 - p ∧ n + (allF V lim life f p n fr).1.length = (allF V lim life f p n fr).2.2
  | 0, p, n, fr, hp => by simp [allF, hp]
  | f + 1, p, n, fr, hp => by
    match hr : readF V lim p n fr life with
    | none => rw [allF_none hr]; simp [hp]
    | some (r, h) =>
      obtain ⟨_, _, b3, b4, b5, _, _, _⟩ := readF_pages hr
      obtain ⟨i1, i2, i3, i4⟩ := allF_bounds f (p + (h.pages : Int)) (n + 1) h.life b5
      rw [allF_some hr]
      simp only [List.length_cons]
      refine ⟨by omega, i2, by omega, by omega⟩
def BOk (s : BS) : Prop := 0 ≤ s.next ∧ s.next ≤ 32768 ∧ s.lim ≤ 32768 ∧ (s.n : Int) + 20 ≤ s.next ∧ s.life < 2 ^ 64
theorem bop_ok {d : DS} {p size : Int} (h : bopE d p size = 0) : BOk (bopS d p size) ∧ (bopA d p size).1.length ≤ 32768 := by
  have hm : bmayE p size = 0 := by
    unfold bopE at h
    split at h
    · next h1 => exact absurd h h1
    · next h1 => exact Classical.not_not.1 h1
  have hpb : 21 ≤ size ∧ size ≤ 32768 ∧ 0 ≤ p ∧ p ≤ 32768 - size := by
    unfold bmayE at hm
    split at hm
    · cases hm
    · omega
  obtain ⟨i1, i2, i3, i4⟩ := allF_bounds (V := seeD (liveF d p).1) (lim := p + size) (life := (liveF d p).2.2) size.toNat (p + 20) 0 1 (by omega)
  have hl := liveF_lt d p
  unfold BOk bopS bopA
  simp only
  refine ⟨⟨by omega, by omega, by omega, by omega, hl⟩, by omega⟩
theorem bap_ok {d : DS} {s : BS} {r : List UInt8} (h : BOk s) : BOk (bapR d s r).2.1 := by
  obtain ⟨h1, h2, h3, h4, h5⟩ := h
  have hp := (pagesN_room r.length).2
  unfold bapR
  split
  · exact ⟨h1, h2, h3, h4, h5⟩
  · split
    · exact ⟨h1, h2, h3, h4, h5⟩
    · split
      · exact ⟨h1, h2, h3, h4, h5⟩
      · next hf =>
        simp only
        split
        · exact ⟨by simp only; omega, by simp only; omega, h3, by simp only; omega, h5⟩
        · exact ⟨h1, h2, h3, h4, h5⟩
theorem ptF_len (d : DS) (p : Int) (which : Nat) (b : List UInt8) : (ptF d p which b).1.loose.length ≤ d.loose.length + 10 := by
  have h := wrS_loose d (p + ((1 - which : Nat) : Int) * 10) (nextF d p) b 10
  unfold ptF
  split
  · have := syncAll_len (wrS d (p + ((1 - which : Nat) : Int) * 10) (nextF d p) b 10).1
    simp only
    omega
  · exact h
theorem bopD_len (d : DS) (p size : Int) : (bopD d p size).loose.length ≤ d.loose.length + 10 := by
  unfold bopD
  split
  · omega
  · unfold liveF
    split
    · exact Nat.le_add_right _ _
    · exact ptF_len _ _ _ _
theorem fmF_len (d : DS) (p : Int) : (fmF d p).1.loose.length ≤ d.loose.length + 20 := by
  have h1 := wrS_loose d p 2 [] 10
  have h2 := wrS_loose (wrS d p 2 [] 10).1 (p + 10) 1 [] 10
  unfold fmF
  split
  · split
    · have := syncAll_len (wrS (wrS d p 2 [] 10).1 (p + 10) 1 [] 10).1
      simp only
      omega
    · omega
  · omega
theorem bapR_len (d : DS) (s : BS) (r : List UInt8) : (bapR d s r).1.loose.length ≤ d.loose.length + 40 := by
  unfold bapR
  split
  · simp
  · next h1 =>
    split
    · simp
    · split
      · simp
      · have hp : pagesN r.length ≤ 38 := by unfold pagesN; omega
        have h := wrK_loose d s.next (recP s.life (s.n + 1) r) (pagesN r.length)
        simp only
        unfold apL
        split
        · have := syncAll_len (wrK d s.next (recP s.life (s.n + 1) r) (pagesN r.length)).1
          simp only
          omega
        · omega
/-- What the law holds of both books. -/
def BState (w : World) (base : Nat) (l : DL) (L : RL) (b mv x nv : Value) : Prop :=
  (b = .pointer none ∧ mv = .slice none 0 0 ∧ x = .pointer none ∧ nv = .slice none 0 0) ∨
  (∃ k K s A N c ps A' N' c' qs, b = .pointer (some ⟨k, 0, none⟩) ∧ mv = .slice A N c ∧ x = .pointer (some ⟨K, 0, none⟩) ∧ nv = .slice A' N' c' ∧ BX w base l L k K s s A N ps A' N' qs ∧ BOk s ∧ N ≤ 100000 ∧ ps.map (·.xs) = qs.map (·.xs))
section
variable {w w' : World} {base : Nat} {l l' : DL} {L L' : RL} {b mv x nv : Value}
theorem BState.left (h : BState w base l L b mv x nv) (hm : Moved w w' l l') : BState w' base l' L b mv x nv := by
  rcases h with h | ⟨k, K, s, A, N, c, ps, A', N', c', qs, h1, h2, h3, h4, h5, h6⟩
  · exact .inl h
  · exact .inr ⟨k, K, s, A, N, c, ps, A', N', c', qs, h1, h2, h3, h4, h5.left (CMoved.of_moved hm k) (h5.b.moved hm), h6⟩
theorem BState.right (h : BState w base l L b mv x nv) (hm : RMoved w w' L L') : BState w' base l L' b mv x nv := by
  rcases h with h | ⟨k, K, s, A, N, c, ps, A', N', c', qs, h1, h2, h3, h4, h5, h6⟩
  · exact .inl h
  · exact .inr ⟨k, K, s, A, N, c, ps, A', N', c', qs, h1, h2, h3, h4, h5.right (RCMoved.of_moved hm K) (h5.x.moved hm), h6⟩
theorem BState.below (h : BState w base l L b mv x nv) (hb : Below w.heap.size w w') : BState w' base l L b mv x nv := (h.left (Moved.of_below hb))
end
theorem blk_ne {w : World} {g g' : Nat} {T T' : TypeId} {cs cs' : Array Value} (h1 : Blk w g T cs) (h2 : Blk w g' T' cs') (hT : T ≠ T') : g ≠ g' := by
  intro e
  subst e
  have := h1.symm.trans h2
  injection this with h3
  injection h3 with _ h4
  exact hT h4
theorem Two.leftC {w w' : World} {base : Nat} {l l' : DL} {L : RL} {d d' : DS} {k : Nat} (h : Two w base l L d) (hm : CMoved w w' l l' k) (hk : ¬ L.fp k) (hD : DiskAt w' base l' d') : DiskAt w' base l' d' ∧ RDk w' base L d ∧ ∀ x, l'.fp x → ¬ L.fp x :=
  ⟨hD, h.r.kept hm.chg (fun x hx hf => by
    rcases hf with h1 | h1
    · exact h.x x h1 hx
    · exact hk (h1 ▸ hx)), fun x hx hf => by
    rcases hm.fp x hx with h1 | h1
    · exact h.x x h1 hf
    · have := (h.r.fp_lt hf).2
      omega⟩
theorem Two.rightC {w w' : World} {base : Nat} {l : DL} {L L' : RL} {d d' : DS} {k : Nat} (h : DiskAt w base l d' ∧ RDk w base L d ∧ ∀ x, l.fp x → ¬ L.fp x) (hm : RCMoved w w' L L' k) (hk : ¬ l.fp k) (hR : RDk w' base L' d') : Two w' base l L' d' :=
  ⟨h.1.kept hm.chg (fun x hx hf => by
    rcases hf with h1 | h1
    · exact h.2.2 x hx h1
    · exact hk (h1 ▸ hx)), hR, fun x hx hf => by
    rcases hm.fp x hf with h1 | h1
    · exact h.2.2 x hx h1
    · have := (h.1.fp_lt hx).2
      omega⟩
theorem base_rcmoved {w a b : World} {base : Nat} {l l' : RL} {d : DS} {k : Nat} {s : BS} (h : Below w.heap.size w a ∧ base ≤ a.heap.size) (hw : w.heap.size ≤ base) (hD : RDk a base l d) (hB : RBookAt a base l k s) (hm : RCMoved a b l l' k) : Below w.heap.size w b ∧ base ≤ b.heap.size := by
  refine ⟨h.1.trans (hm.chg.below (fun x hx => ?_) h.1.size), Nat.le_trans h.2 hm.chg.size⟩
  rcases hx with hx | hx
  · have := (hD.fp_lt hx).1
    omega
  · have := hB.bk
    omega
end Go.Proofs.Ytmjdfajdompkeaa
