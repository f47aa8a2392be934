/- OctetCuts: the walk. -/
import Derived.Test.YtohfgplaocgadaaBack
import Derived.Laws.OwnMore

namespace Go.Proofs.Ytohfgplaocgadaa
open Go.RowKit Go.Rat
abbrev Step := UInt8 × Int
def stepCells (it : Step) : List Value := [.int .u8 (it.1.toNat : Int), .int .i64 it.2]
theorem textF_length (xs : List UInt8) (bad : Bool) (most : Int) : (textF xs bad most).2.1.length ≤ xs.length := by
  have h := (takeF_length xs bad 2).2
  unfold textF
  dsimp only
  split
  · exact Nat.le_refl _
  · rw [List.length_drop]; omega
theorem steps_at {w : World} {A : Option Addr} {n : Nat} {l : List Step} (h : Reads w w.heap.size 2 A n (l.flatMap stepCells)) {k : Nat} (hk : k < n) :
    ∃ ad dd N, A = some ad ∧ l[k]? = some (dd, N) ∧ (ad.add (k * 2)).block < w.heap.size ∧ w.cell? (ad.add (k * 2)) = some (.int .u8 (dd.toNat : Int)) ∧ w.cell? ⟨(ad.add (k * 2)).block, (ad.add (k * 2)).off + 1, none⟩ = some (.int .i64 N) := by
  obtain ⟨ad, rfl, hb, hc⟩ := h.2 (by omega)
  have hlen := flat_len stepCells 2 (fun _ => rfl) l
  have hkl : k < l.length := by have := h.1; omega
  obtain ⟨dd, N, hg⟩ : ∃ dd N, l[k]? = some (dd, N) := ⟨_, _, List.getElem?_eq_getElem hkl⟩
  have F := flat_get stepCells 2 (fun _ => rfl) l k
  refine ⟨ad, dd, N, rfl, hg, by rw [block_of_add]; exact hb, ?_, ?_⟩
  · exact hc _ _ (by have := F 0 _ hg (by omega); simpa [stepCells] using this)
  · rw [add_field _ _ _ (by omega)]
    exact hc _ _ (by have := F 1 _ hg (by omega); simpa [stepCells] using this)
set_option maxRecDepth 8000 in
set_option maxHeartbeats 1000000 in
theorem octetCuts_walk (w : World) (A : Option Addr) (n c : Nat) (xs : List UInt8) (_hl : xs.length = n) (hr : RB w A n xs) (hnc : n ≤ c) (hc : c ≤ 140737488351232) (hA : ∀ ad, A = some ad → ad.block < w.heap.size)
    (L : Option Addr) (m d : Nat) (l : List Step) (hl : l.length = m) (hr2 : Reads w w.heap.size 2 L m (l.flatMap stepCells)) (hin : ∀ s ∈ l, -9223372036854775808 ≤ s.2 ∧ s.2 ≤ 9223372036854775807) :
    Calls Try.prog 7 #[.slice A n c, .slice L m d] w fun e w' => e = .returned (.bool true) ∧ Below w.heap.size w w' := by
  by_cases hbig : 4096 < n ∨ 200 < m
  · have hd2 : (decide ((4096 : Int) < (n : Int)) = true) ∨ (decide ((4096 : Int) < (n : Int)) = false ∧ decide ((200 : Int) < (m : Int)) = true) := by simp; omega
    clear hbig
    rcases hd2 with h1 | ⟨h1, h2⟩
    all_goals
      go_enter Try.func7, Try.ntmps7
      go_wp2_with (go_at_call 9; refine (works_any _).mono ?_; rintro e w9 ⟨rfl, hb9⟩)
      go_ret
      exact ⟨rfl, hb9⟩
  · have h1 : decide ((4096 : Int) < (n : Int)) = false := by simp; omega
    have h2 : decide ((200 : Int) < (m : Int)) = false := by simp; omega
    have hm : m ≤ 200 := by omega
    have hn : n ≤ 4096 := by omega
    have HN := Lib.hid hn
    have HL := Lib.hid hl
    have HC := Lib.hid hc
    have HI := Lib.hid hin
    clear hl hbig hn hc hin
    go_enter Try.func7, Try.ntmps7
    go_wp2_with (first
      | (at_builtin; refine app_bytes rfl _ _ rfl w.heap.size _ _ _ [] rfl (OB.empty _ _) _ _ _ xs rfl (hr.alloc _) (by have := HN.out; omega) (by simp) ?_; intro A1 N1 c1 w1 hc1 hc2 hO1 hg1)
      | (go_at_call 17; refine (cnew_any w1 A1 N1 c1 _ hO1.reads (by have := hO1.len; rw [List.nil_append] at this; have h3 := hr.len; have := HN.out; omega)).mono ?_; rw [List.nil_append]; rintro e w2 ⟨g, gb, rfl, hC2, hg2, hgl2, hgb2, hb2⟩))
    have b1 : Below w.heap.size w w1 := hg1.own (below_alloc w _) (Nat.le_refl _) (OB.empty w _)
    have b2 : Below w.heap.size w w2 := b1.trans (hb2.mono b1.size)
    have b3 : Below w.heap.size w (w2.alloc (.cells #[.slice A n c, .bool false] 47)) := below_alloc2 b2 (Nat.le_refl _) _
    have hgr := World.grownBy_alloc w2 (.cells #[.slice A n c, .bool false] 47) none
    have hAb : ∀ q, w.heap.size ≤ q → A.map (·.block) ≠ some q := by
      intro q hq h
      cases A with
      | none => cases h
      | some ad => have := hA ad rfl; simp at h; omega
    have hR3 : CutAt (w2.alloc (.cells #[.slice A n c, .bool false] 47)) w2.heap.size 47 (A.map (·.block)) xs false :=
      ⟨A, n, c, Blk.new _ _ _, hr.below b3, hnc, by have := HC.out; omega, rfl, hAb _ b2.size⟩
    have hC3 := hC2.grown hgr (by simp) (.inr rfl)
    have hO3 := (hO1.grown (grownBy_of_below hb2 none) (.inr rfl)).alloc (.cells #[.slice A n c, .bool false] 47)
    have hN1 : N1 ≤ 4096 := by have h0 := hO1.len; rw [List.nil_append] at h0; have h3 := hr.len; have := HN.out; omega
    have hne1 : ∀ q, A1.map (·.block) = some q → w.heap.size ≤ q ∧ q < w1.heap.size := hO1.ge
    have hs3 : (w2.alloc (.cells #[.slice A n c, .bool false] 47)).heap.size = w2.heap.size + 1 := by simp
    generalize (w2.alloc (.cells #[.slice A n c, .bool false] 47)) = w3 at *
    have hO3' : w3.ownsRow w.heap.size 5 1 (.slice A1 N1 c1) N1 (bvs ([] ++ xs)) := hO3
    have hxl := hr.len
    go_loopw [8] (fun i wr => ∃ (k : Nat) (zs : List Value), k ≤ N1 ∧ i = .int .i64 k ∧ wr.ownsRow w.heap.size 5 1 (.slice A1 N1 c1) N1 zs ∧ (∀ u ∈ zs, ∃ x : Int, u = .int .u8 x) ∧ w3.grownBy wr (A1.map (·.block))) (fun i _ => N1 - (intOf i).toNat)
    case atStart => exact ⟨0, _, by omega, rfl, hO3', by intro u hu; simp only [bvs, List.mem_map] at hu; obtain ⟨x, _, rfl⟩ := hu; exact ⟨_, rfl⟩, World.grownBy.refl _ _⟩
    case round =>
      obtain ⟨k, zs, hkn, rfl, hO, hz, hg⟩ := hrel
      by_cases hlt : k < N1
      · obtain ⟨g1, cap, hv, hge, hgl⟩ := hO.form (by omega)
        injection hv with hv1 hv2 hv3
        subst hv1
        have hzl : k < zs.length := by have := hO.1; omega
        obtain ⟨x, hx⟩ := hz _ (List.getElem_mem hzl)
        have e1 : wr.cell? ⟨g1, k, none⟩ = some (.int .u8 x) := by rw [hO.cellAt k (by omega), List.getElem?_eq_getElem hzl, hx]
        have e2 := hO.frozenAt k
        have g1' : (0 : Int) ≤ (k : Int) := by omega
        have g2' : (k : Int) < (N1 : Int) := by omega
        go_wp2_with fail
        obtain ⟨h5, h6⟩ := hO.stored k (.int .u8 (bits .xor .u8 x 1))
        exact ⟨⟨k + 1, _, by omega, by go_num, h5, fun u hu => (List.mem_or_eq_of_mem_set hu).elim (hz u) (fun h => ⟨_, h⟩), hg.trans h6⟩, by simp [intOf]; omega⟩
      · obtain rfl : k = N1 := by omega
        have b4 : Below w.heap.size w wr := b3.grown hg b3.size (fun q hq => (hne1 q hq).1)
        have hrow : ∀ o : Option Nat, (∀ q, A1.map (·.block) = some q → o ≠ some q) → o ≠ A1.map (·.block) ∨ A1.map (·.block) = none := by
          intro o ho
          rcases hq : A1.map (·.block) with _ | q
          · exact .inr hq
          · exact .inl (by rw [hq]; exact ho q hq)
        have hR4 := hR3.grown hg (by intro h; have := (hne1 _ h.symm).2; have := hb2.size; omega) (hrow _ (fun q hq => hAb q (hne1 q hq).1))
        have hC4 := hC3.grown hg (by intro h; have := (hne1 _ h.symm).2; omega) (hrow _ (fun q hq h => by have := (hne1 q hq).2; have := (hgb2 _ h).1; omega))
        have hgg : gb ≠ some w2.heap.size := fun h => by have := (hgb2 _ h).2; omega
        clear hrow
        have hgbl : ∀ q, gb = some q → q < w3.heap.size := fun q h => by have := (hgb2 _ h).2; omega
        have hs4 := b4.size
        have hs43 := hg.size
        have hs1 := b1.size
        have hs2 := hb2.size
        clear hO hz hO3 hO3' hO1 hg1 hC2 hR3 hC3 hg hgr hb2 b1 b2 hc1 hc2 hgb2 hne1 b3 hN1 hkn hlt hr
        generalize hgr : w2.heap.size = gr at *
        go_wp2_with fail
        go_loopw [9] (fun i wz => ∃ (k : Nat) (ys : List UInt8) (bad : Bool), k ≤ m ∧ i = .int .i64 k ∧ CutAt wz g 61 gb ys bad ∧ CutAt wz gr 47 (A.map (·.block)) ys bad ∧ ys.length ≤ xs.length ∧ Below w.heap.size w wz) (fun i _ => m - (intOf i).toNat)
        case atStart => exact ⟨0, xs, false, by omega, rfl, hC4, hR4, Nat.le_refl _, b4⟩
        case round =>
          obtain ⟨k, ys, bad, hkm, rfl, hC, hR, hys, hb⟩ := hrel
          by_cases hlt : k < m
          · obtain ⟨ad, dd, N, rfl, hit, hbl, hc0, hc1⟩ := steps_at hr2 hlt
            have e0 := (hb.cell hbl).trans hc0
            have e1 := (hb.cell (p := ⟨(ad.add (k * 2)).block, (ad.add (k * 2)).off + 1, none⟩) hbl).trans hc1
            have hNb := HI.out _ (List.mem_of_getElem? hit)
            clear hc0 hc1 hit
            go_wp2_with fail
            · have hzl := (takeF_length ys bad 8).2
              refine (cword_any wr g gb ys bad hC).mono ?_
              rintro e w5 ⟨rfl, hC5, hg5⟩
              have hR5 := hR.grown hg5 (by intro h; injection h with h; omega) (.inl (hAb g (by omega)))
              go_wp2_with (go_at_call 21; refine (rcword_any w5 gr _ ys bad hR5).mono ?_; rintro e w6 ⟨rfl, hR6, hg6⟩)
              have hC6 := hC5.grown hg6 (by intro h; injection h with h; omega) (.inl hgg)
              have b6 : Below w.heap.size w w6 := (hb.grown hg5 hb.size (fun q h => by cases h; omega)).grown hg6 (by have := hg5.size; have := hb.size; omega) (fun q h => by cases h; omega)
              generalize (takeF ys bad 8).2.1 = zs at *
              generalize (takeF ys bad 8).2.2 = bd at *
              clear hC5 hR5 hC hR hg5 hg6 e0 e1
              obtain ⟨A8, n8, c8, hBB, hRR, _, _, _, _, h08, h18, _, _⟩ := hR6.open_
              have hRl := hRR.len
              have hlz : (zs.length : Int) = (n8 : Int) := by omega
              have hok : ((!bd) == bd) = false := by cases bd <;> rfl
              have hgl := hBB.lt
              clear hRR hBB
              go_wp2_with fail
              refine wp_region_plan [(0, true), (1, true), (2, true), (3, true), (5, true), (6, true), (7, true), (8, true), (9, true), (4, false), (10, true), (11, true), (12, true), (13, true), (15, true), (16, true), (17, true), (18, true), (14, false), (19, true), (20, true)]
                (fun z => Below w6.heap.size w6 z) (by kernel_rfl) (by kernel_rfl) (by kernel_rfl) (by kernel_rfl) (fun _ _ d _ _ h => by cases d <;> exact h) ((Below.refl _ _).drew) ?_
              simp only [planOps, List.getElem?_toArray, List.getElem?_cons_zero, List.getElem?_cons_succ]
              have q0 : ∀ z, Below w6.heap.size w6 z → z.cell? ⟨gr, 0, none⟩ = some (.slice A8 n8 c8) := fun z hz => (hz.cell (p := ⟨gr, 0, none⟩) hgl).trans h08
              have q1 : ∀ z, Below w6.heap.size w6 z → z.cell? ⟨gr, 1, none⟩ = some (.bool bd) := fun z hz => (hz.cell (p := ⟨gr, 1, none⟩) hgl).trans h18
              repeat (first
                | (refine wpS_skip (by rfl) ?_; simp only [Act.put, List.setIfInBounds_toArray, List.set_cons_zero, List.set_cons_succ])
                | (refine wpS_q ?_ (by rfl) ?_ ?_; rotate_left; (focus (intro z hz; (try dsimp only at hz); go_simp; rfl)); simp only [Act.put, List.setIfInBounds_toArray, List.set_cons_zero, List.set_cons_succ]))
              refine wpS_l (by rfl) (fun Kq hK => ?_)
              go_wp2_with fail
              refine (cleft_any w6.drew g gb _ _ (by exact hC6)).mono ?_
              rw [hlz]
              rintro e w' ⟨rfl, rfl⟩
              refine hK _ _ (fun z => Below w6.heap.size w6 z) ((Below.refl _ _).drew) (fun _ h => h) ?_
              clear hK
              repeat (first
                | (refine wpS_skip (by rfl) ?_; simp only [Act.put, List.setIfInBounds_toArray, List.set_cons_zero, List.set_cons_succ])
                | (refine wpS_q ?_ (by rfl) ?_ ?_; rotate_left; (focus (intro z hz; (try dsimp only at hz); go_simp; rfl)); simp only [Act.put, List.setIfInBounds_toArray, List.set_cons_zero, List.set_cons_succ]))
              refine wpS_l (by rfl) (fun Kq hK => ?_)
              go_wp2_with fail
              refine (cok_any w6.drew g gb _ _ (by exact hC6)).mono ?_
              rintro e w' ⟨rfl, rfl⟩
              refine hK _ _ (fun z => Below w6.heap.size w6 z) ((Below.refl _ _).drew) (fun _ h => h) ?_
              clear hK
              repeat (first
                | (refine wpS_skip (by rfl) ?_; simp only [Act.put, List.setIfInBounds_toArray, List.set_cons_zero, List.set_cons_succ])
                | (refine wpS_q ?_ (by rfl) ?_ ?_; rotate_left; (focus (intro z hz; (try dsimp only at hz); go_simp; rfl)); simp only [Act.put, List.setIfInBounds_toArray, List.set_cons_zero, List.set_cons_succ]))
              clear q0 q1
              refine wpS_nil ?_
              go_wp2_with fail
              exact ⟨⟨k + 1, zs, bd, by omega, by go_num, by exact hC6, by exact hR6, by omega, b6.drew⟩, by simp [intOf]; omega⟩
            · have hzl := (takeF_length ys bad 2).2
              refine (chalf_any wr g gb ys bad hC).mono ?_
              rintro e w5 ⟨rfl, hC5, hg5⟩
              have hR5 := hR.grown hg5 (by intro h; injection h with h; omega) (.inl (hAb g (by omega)))
              go_wp2_with (go_at_call 23; refine (rchalf_any w5 gr _ ys bad hR5).mono ?_; rintro e w6 ⟨rfl, hR6, hg6⟩)
              have hC6 := hC5.grown hg6 (by intro h; injection h with h; omega) (.inl hgg)
              have b6 : Below w.heap.size w w6 := (hb.grown hg5 hb.size (fun q h => by cases h; omega)).grown hg6 (by have := hg5.size; have := hb.size; omega) (fun q h => by cases h; omega)
              generalize (takeF ys bad 2).2.1 = zs at *
              generalize (takeF ys bad 2).2.2 = bd at *
              clear hC5 hR5 hC hR hg5 hg6 e0 e1
              obtain ⟨A8, n8, c8, hBB, hRR, _, _, _, _, h08, h18, _, _⟩ := hR6.open_
              have hRl := hRR.len
              have hlz : (zs.length : Int) = (n8 : Int) := by omega
              have hok : ((!bd) == bd) = false := by cases bd <;> rfl
              have hgl := hBB.lt
              clear hRR hBB
              go_wp2_with fail
              refine wp_region_plan [(0, true), (1, true), (2, true), (3, true), (5, true), (6, true), (7, true), (8, true), (9, true), (4, false), (10, true), (11, true), (12, true), (13, true), (15, true), (16, true), (17, true), (18, true), (14, false), (19, true), (20, true)]
                (fun z => Below w6.heap.size w6 z) (by kernel_rfl) (by kernel_rfl) (by kernel_rfl) (by kernel_rfl) (fun _ _ d _ _ h => by cases d <;> exact h) ((Below.refl _ _).drew) ?_
              simp only [planOps, List.getElem?_toArray, List.getElem?_cons_zero, List.getElem?_cons_succ]
              have q0 : ∀ z, Below w6.heap.size w6 z → z.cell? ⟨gr, 0, none⟩ = some (.slice A8 n8 c8) := fun z hz => (hz.cell (p := ⟨gr, 0, none⟩) hgl).trans h08
              have q1 : ∀ z, Below w6.heap.size w6 z → z.cell? ⟨gr, 1, none⟩ = some (.bool bd) := fun z hz => (hz.cell (p := ⟨gr, 1, none⟩) hgl).trans h18
              repeat (first
                | (refine wpS_skip (by rfl) ?_; simp only [Act.put, List.setIfInBounds_toArray, List.set_cons_zero, List.set_cons_succ])
                | (refine wpS_q ?_ (by rfl) ?_ ?_; rotate_left; (focus (intro z hz; (try dsimp only at hz); go_simp; rfl)); simp only [Act.put, List.setIfInBounds_toArray, List.set_cons_zero, List.set_cons_succ]))
              refine wpS_l (by rfl) (fun Kq hK => ?_)
              go_wp2_with fail
              refine (cleft_any w6.drew g gb _ _ (by exact hC6)).mono ?_
              rw [hlz]
              rintro e w' ⟨rfl, rfl⟩
              refine hK _ _ (fun z => Below w6.heap.size w6 z) ((Below.refl _ _).drew) (fun _ h => h) ?_
              clear hK
              repeat (first
                | (refine wpS_skip (by rfl) ?_; simp only [Act.put, List.setIfInBounds_toArray, List.set_cons_zero, List.set_cons_succ])
                | (refine wpS_q ?_ (by rfl) ?_ ?_; rotate_left; (focus (intro z hz; (try dsimp only at hz); go_simp; rfl)); simp only [Act.put, List.setIfInBounds_toArray, List.set_cons_zero, List.set_cons_succ]))
              refine wpS_l (by rfl) (fun Kq hK => ?_)
              go_wp2_with fail
              refine (cok_any w6.drew g gb _ _ (by exact hC6)).mono ?_
              rintro e w' ⟨rfl, rfl⟩
              refine hK _ _ (fun z => Below w6.heap.size w6 z) ((Below.refl _ _).drew) (fun _ h => h) ?_
              clear hK
              repeat (first
                | (refine wpS_skip (by rfl) ?_; simp only [Act.put, List.setIfInBounds_toArray, List.set_cons_zero, List.set_cons_succ])
                | (refine wpS_q ?_ (by rfl) ?_ ?_; rotate_left; (focus (intro z hz; (try dsimp only at hz); go_simp; rfl)); simp only [Act.put, List.setIfInBounds_toArray, List.set_cons_zero, List.set_cons_succ]))
              clear q0 q1
              refine wpS_nil ?_
              go_wp2_with fail
              exact ⟨⟨k + 1, zs, bd, by omega, by go_num, by exact hC6, by exact hR6, by omega, b6.drew⟩, by simp [intOf]; omega⟩
            · have hzl := (takeF_length ys bad 1).2
              refine (cbyte_any wr g gb ys bad hC).mono ?_
              rintro e w5 ⟨rfl, hC5, hg5⟩
              have hR5 := hR.grown hg5 (by intro h; injection h with h; omega) (.inl (hAb g (by omega)))
              go_wp2_with (go_at_call 25; refine (rcbyte_any w5 gr _ ys bad hR5).mono ?_; rintro e w6 ⟨rfl, hR6, hg6⟩)
              have hC6 := hC5.grown hg6 (by intro h; injection h with h; omega) (.inl hgg)
              have b6 : Below w.heap.size w w6 := (hb.grown hg5 hb.size (fun q h => by cases h; omega)).grown hg6 (by have := hg5.size; have := hb.size; omega) (fun q h => by cases h; omega)
              generalize (takeF ys bad 1).2.1 = zs at *
              generalize (takeF ys bad 1).2.2 = bd at *
              clear hC5 hR5 hC hR hg5 hg6 e0 e1
              obtain ⟨A8, n8, c8, hBB, hRR, _, _, _, _, h08, h18, _, _⟩ := hR6.open_
              have hRl := hRR.len
              have hlz : (zs.length : Int) = (n8 : Int) := by omega
              have hok : ((!bd) == bd) = false := by cases bd <;> rfl
              have hgl := hBB.lt
              clear hRR hBB
              go_wp2_with fail
              refine wp_region_plan [(0, true), (1, true), (2, true), (3, true), (5, true), (6, true), (7, true), (8, true), (9, true), (4, false), (10, true), (11, true), (12, true), (13, true), (15, true), (16, true), (17, true), (18, true), (14, false), (19, true), (20, true)]
                (fun z => Below w6.heap.size w6 z) (by kernel_rfl) (by kernel_rfl) (by kernel_rfl) (by kernel_rfl) (fun _ _ d _ _ h => by cases d <;> exact h) ((Below.refl _ _).drew) ?_
              simp only [planOps, List.getElem?_toArray, List.getElem?_cons_zero, List.getElem?_cons_succ]
              have q0 : ∀ z, Below w6.heap.size w6 z → z.cell? ⟨gr, 0, none⟩ = some (.slice A8 n8 c8) := fun z hz => (hz.cell (p := ⟨gr, 0, none⟩) hgl).trans h08
              have q1 : ∀ z, Below w6.heap.size w6 z → z.cell? ⟨gr, 1, none⟩ = some (.bool bd) := fun z hz => (hz.cell (p := ⟨gr, 1, none⟩) hgl).trans h18
              repeat (first
                | (refine wpS_skip (by rfl) ?_; simp only [Act.put, List.setIfInBounds_toArray, List.set_cons_zero, List.set_cons_succ])
                | (refine wpS_q ?_ (by rfl) ?_ ?_; rotate_left; (focus (intro z hz; (try dsimp only at hz); go_simp; rfl)); simp only [Act.put, List.setIfInBounds_toArray, List.set_cons_zero, List.set_cons_succ]))
              refine wpS_l (by rfl) (fun Kq hK => ?_)
              go_wp2_with fail
              refine (cleft_any w6.drew g gb _ _ (by exact hC6)).mono ?_
              rw [hlz]
              rintro e w' ⟨rfl, rfl⟩
              refine hK _ _ (fun z => Below w6.heap.size w6 z) ((Below.refl _ _).drew) (fun _ h => h) ?_
              clear hK
              repeat (first
                | (refine wpS_skip (by rfl) ?_; simp only [Act.put, List.setIfInBounds_toArray, List.set_cons_zero, List.set_cons_succ])
                | (refine wpS_q ?_ (by rfl) ?_ ?_; rotate_left; (focus (intro z hz; (try dsimp only at hz); go_simp; rfl)); simp only [Act.put, List.setIfInBounds_toArray, List.set_cons_zero, List.set_cons_succ]))
              refine wpS_l (by rfl) (fun Kq hK => ?_)
              go_wp2_with fail
              refine (cok_any w6.drew g gb _ _ (by exact hC6)).mono ?_
              rintro e w' ⟨rfl, rfl⟩
              refine hK _ _ (fun z => Below w6.heap.size w6 z) ((Below.refl _ _).drew) (fun _ h => h) ?_
              clear hK
              repeat (first
                | (refine wpS_skip (by rfl) ?_; simp only [Act.put, List.setIfInBounds_toArray, List.set_cons_zero, List.set_cons_succ])
                | (refine wpS_q ?_ (by rfl) ?_ ?_; rotate_left; (focus (intro z hz; (try dsimp only at hz); go_simp; rfl)); simp only [Act.put, List.setIfInBounds_toArray, List.set_cons_zero, List.set_cons_succ]))
              clear q0 q1
              refine wpS_nil ?_
              go_wp2_with fail
              exact ⟨⟨k + 1, zs, bd, by omega, by go_num, by exact hC6, by exact hR6, by omega, b6.drew⟩, by simp [intOf]; omega⟩
            · have hzl : (textF ys bad N).2.1.length ≤ ys.length := textF_length ys bad N
              have hlt2 : (ad.add (k * 2)).block < wr.heap.size := Nat.lt_of_lt_of_le hbl hb.size
              refine wp_region_plan [(0, true), (1, true), (2, true), (3, true), (4, true), (5, true), (7, true), (8, true), (9, true), (10, true), (11, true), (12, true), (6, false), (13, false), (14, true), (15, true)]
                (fun z => z.cell? ⟨(ad.add (k * 2)).block, (ad.add (k * 2)).off + 1, none⟩ = some (.int .i64 N)) (by kernel_rfl) (by kernel_rfl) (by kernel_rfl) (by kernel_rfl) (fun _ _ d _ _ h => by cases d <;> exact h) e1 ?_
              simp only [planOps, List.getElem?_toArray, List.getElem?_cons_zero, List.getElem?_cons_succ]
              repeat (first
                | (refine wpS_skip (by rfl) ?_; simp only [Act.put, List.setIfInBounds_toArray, List.set_cons_zero, List.set_cons_succ])
                | (refine wpS_q ?_ (by rfl) ?_ ?_; rotate_left; (focus (intro z hz; (try dsimp only at hz); go_simp; rfl)); simp only [Act.put, List.setIfInBounds_toArray, List.set_cons_zero, List.set_cons_succ]))
              refine wpS_l (by rfl) (fun Kq hK => ?_)
              go_wp2_with fail
              refine (ctext_any wr.drew g gb ys bad N (by exact hC)).mono ?_
              rintro e w5 ⟨rfl, hC5, hg5⟩
              have hg5 := grown_drew hg5
              have hR5 := hR.grown hg5 (by intro h; injection h with h; omega) (.inl (hAb g (by omega)))
              have e5 := (cell_kept hg5 (p := ⟨(ad.add (k * 2)).block, (ad.add (k * 2)).off + 1, none⟩) hlt2 (fun h => absurd (Option.some.inj h : (ad.add (k * 2)).block = g) (by omega))).trans e1
              refine hK _ _ (fun z => z.cell? ⟨(ad.add (k * 2)).block, (ad.add (k * 2)).off + 1, none⟩ = some (.int .i64 N)) e5 (fun _ h => h) ?_
              clear hK
              repeat (first
                | (refine wpS_skip (by rfl) ?_; simp only [Act.put, List.setIfInBounds_toArray, List.set_cons_zero, List.set_cons_succ])
                | (refine wpS_q ?_ (by rfl) ?_ ?_; rotate_left; (focus (intro z hz; (try dsimp only at hz); go_simp; rfl)); simp only [Act.put, List.setIfInBounds_toArray, List.set_cons_zero, List.set_cons_succ]))
              refine wpS_l (by rfl) (fun Kq hK => ?_)
              go_wp2_with fail
              refine (rctext_any w5 gr _ ys bad N hR5 (by have := HN.out; omega)).mono ?_
              rintro e w6 ⟨rfl, hR6, hg6⟩
              have hC6 := hC5.grown hg6 (by intro h; injection h with h; omega) (.inl hgg)
              have b6 : Below w.heap.size w w6 := (hb.grown hg5 hb.size (fun q h => by cases h; omega)).grown hg6 (by have := hg5.size; have := hb.size; omega) (fun q h => by cases h; omega)
              have e6 := (cell_kept hg6 (p := ⟨(ad.add (k * 2)).block, (ad.add (k * 2)).off + 1, none⟩) (Nat.lt_of_lt_of_le hlt2 hg5.size) (fun h => absurd (Option.some.inj h : (ad.add (k * 2)).block = gr) (by omega))).trans e5
              refine hK _ _ (fun z => z.cell? ⟨(ad.add (k * 2)).block, (ad.add (k * 2)).off + 1, none⟩ = some (.int .i64 N)) e6 (fun _ h => h) ?_
              clear hK
              have hqq := beq_self_eq_true (bstr (textF ys bad N).1).toList
              repeat (first
                | (refine wpS_skip (by rfl) ?_; simp only [Act.put, List.setIfInBounds_toArray, List.set_cons_zero, List.set_cons_succ])
                | (refine wpS_q ?_ (by rfl) ?_ ?_; rotate_left; (focus (intro z hz; (try dsimp only at hz); go_simp; rfl)); simp only [Act.put, List.setIfInBounds_toArray, List.set_cons_zero, List.set_cons_succ]))
              refine wpS_nil ?_
              generalize (textF ys bad N).2.1 = zs at *
              generalize (textF ys bad N).2.2 = bd at *
              clear hC5 hR5 hC hR hg5 hg6 e0 e1 e5 e6 hqq
              obtain ⟨A8, n8, c8, hBB, hRR, _, _, _, _, h08, h18, _, _⟩ := hR6.open_
              have hRl := hRR.len
              have hlz : (zs.length : Int) = (n8 : Int) := by omega
              have hok : ((!bd) == bd) = false := by cases bd <;> rfl
              have hgl := hBB.lt
              clear hRR hBB
              go_wp2_with fail
              refine wp_region_plan [(0, true), (1, true), (2, true), (3, true), (5, true), (6, true), (7, true), (8, true), (9, true), (4, false), (10, true), (11, true), (12, true), (13, true), (15, true), (16, true), (17, true), (18, true), (14, false), (19, true), (20, true)]
                (fun z => Below w6.heap.size w6 z) (by kernel_rfl) (by kernel_rfl) (by kernel_rfl) (by kernel_rfl) (fun _ _ d _ _ h => by cases d <;> exact h) ((Below.refl _ _).drew) ?_
              simp only [planOps, List.getElem?_toArray, List.getElem?_cons_zero, List.getElem?_cons_succ]
              have q0 : ∀ z, Below w6.heap.size w6 z → z.cell? ⟨gr, 0, none⟩ = some (.slice A8 n8 c8) := fun z hz => (hz.cell (p := ⟨gr, 0, none⟩) hgl).trans h08
              have q1 : ∀ z, Below w6.heap.size w6 z → z.cell? ⟨gr, 1, none⟩ = some (.bool bd) := fun z hz => (hz.cell (p := ⟨gr, 1, none⟩) hgl).trans h18
              repeat (first
                | (refine wpS_skip (by rfl) ?_; simp only [Act.put, List.setIfInBounds_toArray, List.set_cons_zero, List.set_cons_succ])
                | (refine wpS_q ?_ (by rfl) ?_ ?_; rotate_left; (focus (intro z hz; (try dsimp only at hz); go_simp; rfl)); simp only [Act.put, List.setIfInBounds_toArray, List.set_cons_zero, List.set_cons_succ]))
              refine wpS_l (by rfl) (fun Kq hK => ?_)
              go_wp2_with fail
              refine (cleft_any w6.drew g gb _ _ (by exact hC6)).mono ?_
              rw [hlz]
              rintro e w' ⟨rfl, rfl⟩
              refine hK _ _ (fun z => Below w6.heap.size w6 z) ((Below.refl _ _).drew) (fun _ h => h) ?_
              clear hK
              repeat (first
                | (refine wpS_skip (by rfl) ?_; simp only [Act.put, List.setIfInBounds_toArray, List.set_cons_zero, List.set_cons_succ])
                | (refine wpS_q ?_ (by rfl) ?_ ?_; rotate_left; (focus (intro z hz; (try dsimp only at hz); go_simp; rfl)); simp only [Act.put, List.setIfInBounds_toArray, List.set_cons_zero, List.set_cons_succ]))
              refine wpS_l (by rfl) (fun Kq hK => ?_)
              go_wp2_with fail
              refine (cok_any w6.drew g gb _ _ (by exact hC6)).mono ?_
              rintro e w' ⟨rfl, rfl⟩
              refine hK _ _ (fun z => Below w6.heap.size w6 z) ((Below.refl _ _).drew) (fun _ h => h) ?_
              clear hK
              repeat (first
                | (refine wpS_skip (by rfl) ?_; simp only [Act.put, List.setIfInBounds_toArray, List.set_cons_zero, List.set_cons_succ])
                | (refine wpS_q ?_ (by rfl) ?_ ?_; rotate_left; (focus (intro z hz; (try dsimp only at hz); go_simp; rfl)); simp only [Act.put, List.setIfInBounds_toArray, List.set_cons_zero, List.set_cons_succ]))
              clear q0 q1
              refine wpS_nil ?_
              go_wp2_with fail
              exact ⟨⟨k + 1, zs, bd, by omega, by go_num, by exact hC6, by exact hR6, by omega, b6.drew⟩, by simp [intOf]; omega⟩
            · have hzl := (takeF_length ys bad N).2
              have hlt2 : (ad.add (k * 2)).block < wr.heap.size := Nat.lt_of_lt_of_le hbl hb.size
              refine (craw_any wr g gb ys bad N hC (by have := HN.out; omega)).mono ?_
              rintro e w5 ⟨X1, M1, D1, rfl, hX5, hC5, hg5⟩
              have hR5 := hR.grown hg5 (by intro h; injection h with h; omega) (.inl (hAb g (by omega)))
              have e5 := (cell_kept hg5 (p := ⟨(ad.add (k * 2)).block, (ad.add (k * 2)).off + 1, none⟩) hlt2 (fun h => absurd (Option.some.inj h : (ad.add (k * 2)).block = g) (by omega))).trans e1
              have hgl5 : gr < wr.heap.size := by obtain ⟨_, _, _, hBx, _⟩ := hR; exact hBx.lt
              have hge5 : g < wr.heap.size := by obtain ⟨_, _, _, hBx, _⟩ := hC; exact hBx.lt
              go_wp2_with fail
              refine wp_region_plan [(0, true), (1, true), (2, true), (3, true), (4, true), (5, true), (6, true), (7, true), (8, false), (9, true), (10, true), (11, true)]
                (fun z => z.cell? ⟨(ad.add (k * 2)).block, (ad.add (k * 2)).off + 1, none⟩ = some (.int .i64 N) ∧ RB z X1 M1 (takeF ys bad N).1) (by kernel_rfl) (by kernel_rfl) (by kernel_rfl) (by kernel_rfl) (fun _ _ d _ _ h => by cases d <;> exact h) ⟨e5, hX5.reads⟩ ?_
              simp only [planOps, List.getElem?_toArray, List.getElem?_cons_zero, List.getElem?_cons_succ]
              have q0 : ∀ z, RB z X1 M1 (takeF ys bad N).1 → (convert 22 9 (.slice X1 M1 D1)).run Try.prog z = .ok (.string (bstr (takeF ys bad N).1)) z := fun z hx => conv_str hx _
              repeat (first
                | (refine wpS_skip (by rfl) ?_; simp only [Act.put, List.setIfInBounds_toArray, List.set_cons_zero, List.set_cons_succ])
                | (refine wpS_q ?_ (by rfl) ?_ ?_; rotate_left; (focus (intro z hz; (try dsimp only at hz); go_simp; rfl)); simp only [Act.put, List.setIfInBounds_toArray, List.set_cons_zero, List.set_cons_succ]))
              clear q0
              refine wpS_l (by rfl) (fun Kq hK => ?_)
              go_wp2_with fail
              refine (rcraw_any w5.drew gr _ ys bad N (by exact hR5) (by have := HN.out; omega)).mono ?_
              rintro e w6 ⟨Y1, M2, D2, rfl, hY6, hR6, hg6⟩
              have hg6 := grown_drew hg6
              have hXge : ∀ q, X1.map (·.block) = some q → wr.heap.size ≤ q := fun q hq => (hX5.ge q hq).1
              have hX6 := hX5.grown hg6 (.inl (fun h => by have := hXge _ h; omega))
              have hC6 := hC5.grown hg6 (by intro h; injection h with h; omega) (.inl hgg)
              have b6 : Below w.heap.size w w6 := (hb.grown hg5 hb.size (fun q h => by cases h; omega)).grown hg6 (by have := hg5.size; have := hb.size; omega) (fun q h => by cases h; omega)
              have e6 := (cell_kept hg6 (p := ⟨(ad.add (k * 2)).block, (ad.add (k * 2)).off + 1, none⟩) (Nat.lt_of_lt_of_le hlt2 hg5.size) (fun h => absurd (Option.some.inj h : (ad.add (k * 2)).block = gr) (by omega))).trans e5
              have hlt6 : (ad.add (k * 2)).block < w6.heap.size := Nat.lt_of_lt_of_le hlt2 (Nat.le_trans hg5.size hg6.size)
              refine hK _ _ (fun z => Below w6.heap.size w6 z) (Below.refl _ _) (fun z hz => ⟨(hz.cell (p := ⟨(ad.add (k * 2)).block, (ad.add (k * 2)).off + 1, none⟩) hlt6).trans e6, hX6.reads.below hz⟩) ?_
              clear hK
              have q1 : ∀ z, Below w6.heap.size w6 z → (convert 22 9 (.slice Y1 M2 D2)).run Try.prog z = .ok (.string (bstr (takeF ys bad N).1)) z := fun z hz => conv_str (hY6.reads.below hz) _
              have hqq := beq_self_eq_true (bstr (takeF ys bad N).1).toList
              repeat (first
                | (refine wpS_skip (by rfl) ?_; simp only [Act.put, List.setIfInBounds_toArray, List.set_cons_zero, List.set_cons_succ])
                | (refine wpS_q ?_ (by rfl) ?_ ?_; rotate_left; (focus (intro z hz; (try dsimp only at hz); go_simp; rfl)); simp only [Act.put, List.setIfInBounds_toArray, List.set_cons_zero, List.set_cons_succ]))
              clear q1 hqq
              refine wpS_nil ?_
              have hX6' : w6.ownsRow wr.heap.size 5 1 (.slice X1 M1 D1) M1 (bvs (takeF ys bad N).1) := hX6
              have hM1 : M1 ≤ 4096 := by have h0 := hX5.len; have := (takeF_length ys bad N).1; have := HN.out; omega
              have hs6 : wr.heap.size ≤ w6.heap.size := Nat.le_trans hg5.size hg6.size
              have hgbk : ∀ q, gb = some q → q < wr.heap.size := by
                intro q hq
                have := hgbl q hq
                have := hb.size
                omega
              generalize (takeF ys bad N).2.1 = zs at *
              generalize (takeF ys bad N).2.2 = bd at *
              clear hC5 hR5 hC hR hg5 hg6 e0 e1 e5 e6 hX5 hX6 hY6
              go_wp2_with fail
              go_loopw [12] (fun i wq => ∃ (j : Nat) (vs : List Value), j ≤ M1 ∧ i = .int .i64 j ∧ wq.ownsRow wr.heap.size 5 1 (.slice X1 M1 D1) M1 vs ∧ (∀ u ∈ vs, ∃ x : Int, u = .int .u8 x) ∧ w6.grownBy wq (X1.map (·.block))) (fun i _ => M1 - (intOf i).toNat)
              case atStart => exact ⟨0, _, by omega, rfl, hX6', by intro u hu; simp only [bvs, List.mem_map] at hu; obtain ⟨x, _, rfl⟩ := hu; exact ⟨_, rfl⟩, World.grownBy.refl _ _⟩
              case round =>
                obtain ⟨j, vs, hjn, rfl, hO, hz, hg⟩ := hrel
                by_cases hlj : j < M1
                · obtain ⟨x1, cap, hv, hge, hxl⟩ := hO.form (by omega)
                  injection hv with hv1 hv2 hv3
                  subst hv1
                  have hzl : j < vs.length := by have := hO.1; omega
                  obtain ⟨x, hx⟩ := hz _ (List.getElem_mem hzl)
                  have e1 : wr.cell? ⟨x1, j, none⟩ = some (.int .u8 x) := by rw [hO.cellAt j (by omega), List.getElem?_eq_getElem hzl, hx]
                  have e2 := hO.frozenAt j
                  have g1' : (0 : Int) ≤ (j : Int) := by omega
                  have g2' : (j : Int) < (M1 : Int) := by omega
                  go_wp2_with fail
                  obtain ⟨h5, h6⟩ := hO.stored j (.int .u8 9)
                  exact ⟨⟨j + 1, _, by omega, by go_num, h5, fun u hu => (List.mem_or_eq_of_mem_set hu).elim (hz u) (fun h => ⟨_, h⟩), hg.trans h6⟩, by simp [intOf]; omega⟩
                · obtain rfl : j = M1 := by omega
                  generalize wr = w8 at *
                  have hrow : ∀ o : Option Nat, (∀ q, X1.map (·.block) = some q → o ≠ some q) → o ≠ X1.map (·.block) ∨ X1.map (·.block) = none := by
                    intro o ho
                    rcases hq : X1.map (·.block) with _ | q
                    · exact .inr hq
                    · exact .inl (by rw [hq]; exact ho q hq)
                  have hC8 := hC6.grown hg (by intro h; have := hXge _ h.symm; omega) (hrow _ (fun q hq h => by have := hXge q hq; have := hgbk _ h; omega))
                  have hR8 := hR6.grown hg (by intro h; have := hXge _ h.symm; omega) (hrow _ (fun q hq => hAb q (by have := hXge q hq; have := hb.size; omega)))
                  have b8 : Below w.heap.size w w8 := b6.grown hg b6.size (fun q hq => by have := hXge q hq; have := hb.size; omega)
                  clear hrow hO hz hg hC6 hR6 hX6'
                  obtain ⟨A8, n8, c8, hBB, hRR, _, _, _, _, h08, h18, _, _⟩ := hR8.open_
                  have hRl := hRR.len
                  have hlz : (zs.length : Int) = (n8 : Int) := by omega
                  have hok : ((!bd) == bd) = false := by cases bd <;> rfl
                  have hgl := hBB.lt
                  clear hRR hBB
                  go_wp2_with fail
                  refine wp_region_plan [(0, true), (1, true), (2, true), (3, true), (5, true), (6, true), (7, true), (8, true), (9, true), (4, false), (10, true), (11, true), (12, true), (13, true), (15, true), (16, true), (17, true), (18, true), (14, false), (19, true), (20, true)]
                    (fun z => Below w8.heap.size w8 z) (by kernel_rfl) (by kernel_rfl) (by kernel_rfl) (by kernel_rfl) (fun _ _ d _ _ h => by cases d <;> exact h) ((Below.refl _ _).drew) ?_
                  simp only [planOps, List.getElem?_toArray, List.getElem?_cons_zero, List.getElem?_cons_succ]
                  have q0 : ∀ z, Below w8.heap.size w8 z → z.cell? ⟨gr, 0, none⟩ = some (.slice A8 n8 c8) := fun z hz => (hz.cell (p := ⟨gr, 0, none⟩) hgl).trans h08
                  have q1 : ∀ z, Below w8.heap.size w8 z → z.cell? ⟨gr, 1, none⟩ = some (.bool bd) := fun z hz => (hz.cell (p := ⟨gr, 1, none⟩) hgl).trans h18
                  repeat (first
                    | (refine wpS_skip (by rfl) ?_; simp only [Act.put, List.setIfInBounds_toArray, List.set_cons_zero, List.set_cons_succ])
                    | (refine wpS_q ?_ (by rfl) ?_ ?_; rotate_left; (focus (intro z hz; (try dsimp only at hz); go_simp; rfl)); simp only [Act.put, List.setIfInBounds_toArray, List.set_cons_zero, List.set_cons_succ]))
                  refine wpS_l (by rfl) (fun Kq hK => ?_)
                  go_wp2_with fail
                  refine (cleft_any w8.drew g gb _ _ (by exact hC8)).mono ?_
                  rw [hlz]
                  rintro e w' ⟨rfl, rfl⟩
                  refine hK _ _ (fun z => Below w8.heap.size w8 z) ((Below.refl _ _).drew) (fun _ h => h) ?_
                  clear hK
                  repeat (first
                    | (refine wpS_skip (by rfl) ?_; simp only [Act.put, List.setIfInBounds_toArray, List.set_cons_zero, List.set_cons_succ])
                    | (refine wpS_q ?_ (by rfl) ?_ ?_; rotate_left; (focus (intro z hz; (try dsimp only at hz); go_simp; rfl)); simp only [Act.put, List.setIfInBounds_toArray, List.set_cons_zero, List.set_cons_succ]))
                  refine wpS_l (by rfl) (fun Kq hK => ?_)
                  go_wp2_with fail
                  refine (cok_any w8.drew g gb _ _ (by exact hC8)).mono ?_
                  rintro e w' ⟨rfl, rfl⟩
                  refine hK _ _ (fun z => Below w8.heap.size w8 z) ((Below.refl _ _).drew) (fun _ h => h) ?_
                  clear hK
                  repeat (first
                    | (refine wpS_skip (by rfl) ?_; simp only [Act.put, List.setIfInBounds_toArray, List.set_cons_zero, List.set_cons_succ])
                    | (refine wpS_q ?_ (by rfl) ?_ ?_; rotate_left; (focus (intro z hz; (try dsimp only at hz); go_simp; rfl)); simp only [Act.put, List.setIfInBounds_toArray, List.set_cons_zero, List.set_cons_succ]))
                  clear q0 q1
                  refine wpS_nil ?_
                  go_wp2_with fail
                  exact ⟨⟨k + 1, zs, bd, by omega, by go_num, by exact hC8, by exact hR8, by omega, b8.drew⟩, by simp [intOf]; omega⟩
          · obtain rfl : k = m := by omega
            go_wp2_with (go_at_call 9; refine (works_any _).mono ?_; rintro e w9 ⟨rfl, hb9⟩)
            go_ret
            exact ⟨rfl, hb.trans (hb9.mono hb.size)⟩
end Go.Proofs.Ytohfgplaocgadaa
