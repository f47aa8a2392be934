/- usig: of no counter; in plain words, where no power goes. -/
import Derived.Test.YtmjdfajdompkeaaDoorVd
namespace Go.Proofs.YtmjdfajdompkeaaDoor
open Go.RowKit Go.Rat
set_option maxRecDepth 20000 in
set_option maxHeartbeats 4000000 in
theorem unext_nil (w : World) (A : Option Addr) (m cap : Nat) : Calls Tryd.prog 19 #[.pointer none, .slice A m cap] w fun e w' => e = .returned (.tuple #[.int .u64 0, .agg (bvs z32).toArray, .int .i64 2]) ∧ Below w.heap.size w w' := by
  have hZ := Blk.new w 24 (bvs z32).toArray
  have hb1 := below_alloc w (.cells (bvs z32).toArray 24)
  obtain ⟨z, hz⟩ : ∃ z : Array Value, (bvs z32).toArray = z := ⟨_, rfl⟩
  have hzc := zc32
  rw [hz] at hZ hb1 hzc
  have hzs : z.size = 32 := by rw [← hz]; rfl
  have hz1l : ∀ v ∈ z.toList, v.oneCell' = true := by rw [← hz]; exact bvs_one _
  have HZ := Lib.hid hz
  clear hz
  go_enter Tryd.func19, Tryd.ntmps19
  go_upto_block 0 with (fail)
  generalize w.alloc (.cells z 24) = w1 at *
  obtain ⟨G, hG⟩ : ∃ G, w.heap.size = G := ⟨_, rfl⟩
  rw [hG] at hZ ⊢
  have HG := Lib.hid hG
  clear hG hzc
  go_wp2_with fail
  refine wp_region_plan [(0, true), (1, true), (2, false), (3, true)] (fun x => Blk x G 24 z) (by kernel_rfl) (by kernel_rfl) (by kernel_rfl) (by kernel_rfl) (fun _ _ d _ _ h => by cases d <;> exact h) hZ ?_
  simp only [planOps, List.getElem?_toArray, List.getElem?_cons_zero, List.getElem?_cons_succ]
  refine wpS_q (.agg z) (by rfl) (fun x hx => load_row_run rfl G z Tryd.underlying24 rfl i32 hx hzs rfl) ?_
  simp only [Act.put, List.setIfInBounds_toArray, List.set_cons_zero, List.set_cons_succ]
  iterate 1 (refine wpS_q ?_ (by rfl) ?_ ?_; rotate_left; (focus (intro z hz; (try dsimp only at hz); go_simp; rfl)); simp only [Act.put, List.setIfInBounds_toArray, List.set_cons_zero, List.set_cons_succ])
  refine wpS_l (by rfl) (fun K hK => ?_)
  have hZd : Blk w1.drew G 24 z := hZ
  refine wp_storeRow rfl G _ z z i32 hZd hzs hzs hz1l rfl rfl ?_
  have hgs := grownBy_setRow w1.drew G z
  have hbF : Below w.heap.size w (w1.drew.setRow G z) := (hb1.trans (drew_below.mono hb1.size)).grown hgs hb1.size (fun q hq => by cases hq; exact Nat.le_of_eq HG.out)
  have hZF := hZd.setRow z
  refine hK _ _ (fun x => Blk x G 24 z) hZF (fun _ h => h) ?_
  clear hK hgs hZd
  iterate 1 (refine wpS_q ?_ (by rfl) ?_ ?_; rotate_left; (focus (intro z hz; (try dsimp only at hz); go_simp; rfl)); simp only [Act.put, List.setIfInBounds_toArray, List.set_cons_zero, List.set_cons_succ])
  refine wpS_nil ?_
  generalize w1.drew.setRow G z = wF at *
  go_wp2_with fail
  refine bodyPost_ret (results_tmp_cell_tmp rfl _ _ G _ _ (0, 0) _ _ _ rfl rfl rfl hZF Tryd.underlying24 rfl (by rw [hzs]; exact i32)) rfl ?_
  exact ⟨by rw [HZ.out]; rfl, hbF⟩
set_option maxRecDepth 20000 in
set_option maxHeartbeats 4000000 in
theorem ulast_nil (w : World) : Calls Tryd.prog 20 #[.pointer none] w fun e w' => e = .returned (.tuple #[.int .u64 0, .slice none 0 0, .agg (bvs z32).toArray]) ∧ Below w.heap.size w w' := by
  have hZ := Blk.new w 24 (bvs z32).toArray
  have hb1 := below_alloc w (.cells (bvs z32).toArray 24)
  obtain ⟨z, hz⟩ : ∃ z : Array Value, (bvs z32).toArray = z := ⟨_, rfl⟩
  have hzc := zc32
  rw [hz] at hZ hb1 hzc
  have hzs : z.size = 32 := by rw [← hz]; rfl
  have hz1l : ∀ v ∈ z.toList, v.oneCell' = true := by rw [← hz]; exact bvs_one _
  have HZ := Lib.hid hz
  clear hz
  go_enter Tryd.func20, Tryd.ntmps20
  go_upto_region 1 with (fail)
  generalize w.alloc (.cells z 24) = w1 at *
  obtain ⟨G, hG⟩ : ∃ G, w.heap.size = G := ⟨_, rfl⟩
  rw [hG] at hZ ⊢
  have HG := Lib.hid hG
  clear hG hzc
  go_wp2_with fail
  refine wp_region_plan [(0, true), (1, true), (2, true), (3, false)] (fun x => Blk x G 24 z) (by kernel_rfl) (by kernel_rfl) (by kernel_rfl) (by kernel_rfl) (fun _ _ d _ _ h => by cases d <;> exact h) hZ ?_
  simp only [planOps, List.getElem?_toArray, List.getElem?_cons_zero, List.getElem?_cons_succ]
  refine wpS_q (.agg z) (by rfl) (fun x hx => load_row_run rfl G z Tryd.underlying24 rfl i32 hx hzs rfl) ?_
  simp only [Act.put, List.setIfInBounds_toArray, List.set_cons_zero, List.set_cons_succ]
  iterate 2 (refine wpS_q ?_ (by rfl) ?_ ?_; rotate_left; (focus (intro z hz; (try dsimp only at hz); go_simp; rfl)); simp only [Act.put, List.setIfInBounds_toArray, List.set_cons_zero, List.set_cons_succ])
  refine wpS_l (by rfl) (fun K hK => ?_)
  have hZd : Blk w1.drew G 24 z := hZ
  refine wp_storeRow rfl G _ z z i32 hZd hzs hzs hz1l rfl rfl ?_
  have hgs := grownBy_setRow w1.drew G z
  have hbF : Below w.heap.size w (w1.drew.setRow G z) := (hb1.trans (drew_below.mono hb1.size)).grown hgs hb1.size (fun q hq => by cases hq; exact Nat.le_of_eq HG.out)
  have hZF := hZd.setRow z
  refine hK _ _ (fun x => Blk x G 24 z) hZF (fun _ h => h) ?_
  clear hK hgs hZd
  refine wpS_nil ?_
  generalize w1.drew.setRow G z = wF at *
  go_wp2_with fail
  refine bodyPost_ret (results_tmp_tmp_cell rfl _ _ G _ _ (0, 0) _ _ _ rfl rfl rfl hZF Tryd.underlying24 rfl (by rw [hzs]; exact i32)) rfl ?_
  exact ⟨by rw [HZ.out]; rfl, hbF⟩
theorem ev7 : H.numF 64 H.tblL 1 1 ab ≠ H.numF 64 H.tblL 2 1 ab := by decide +kernel
/-- A counter on a disk whose power stays. -/
structure UCalm (d : DS) (p : Int) (s : US) (K : Nat) : Prop where
  cell : ∃ N, CellSt d p s.c.which N s.c.b K
  p_ : s.c.p = p
  dead : s.c.dead = false
  fuse : d.fuse = -1
  has : usigF s.c.b = some (s.n, s.b)
theorem num_be8 (n : Nat) (h : n < 2 ^ 64) : num (be 8 n) = n := by
  rw [num_be, Nat.mod_eq_of_lt (by rw [show (256 : Nat) ^ 8 = 2 ^ 64 from by decide]; exact h)]
theorem usigF_put (n : Nat) (hn : 1 ≤ n ∧ n ≤ 65536) (b : List UInt8) (hb : b.length ≤ 1024) : usigF (be 8 n ++ b) = some (n, b) := by
  have hl : (be 8 n ++ b).length = b.length + 8 := by rw [List.length_append, be_length]; omega
  have ht : (be 8 n ++ b).take 8 = be 8 n := by
    have := List.take_left (l₁ := be 8 n) (l₂ := b)
    rwa [be_length] at this
  have hd : (be 8 n ++ b).drop 8 = b := by
    have := List.drop_left (l₁ := be 8 n) (l₂ := b)
    rwa [be_length] at this
  have hN : num (be 8 n) = n := num_be8 n (by omega)
  rw [usigF, hl, ht, hd, hN, if_neg (by omega), if_neg]
  rintro (h | h | h)
  · omega
  · rw [numB, decide_eq_false_iff_not] at h
    exact h hn
  · omega
section
variable {d : DS} {p : Int} {s : US} {K : Nat}
theorem UCalm.opens (h : UCalm d p s K) : opE d p = 0 ∧ openCell d p = s.c := by
  obtain ⟨N, hc⟩ := h.cell
  obtain ⟨h1, h2⟩ := hc.open_
  refine ⟨h1, ?_⟩
  rw [openCell, h2]
  have h3 := h.p_
  have h4 := h.dead
  obtain ⟨i, n, b, q, cb, cw, cd⟩ := s
  simp only at h3 h4 ⊢
  rw [h3, h4]
theorem UCalm.new (h : UCalm d p s K) {i : Int} (hi : repB i = true) : newE i d p = 0 ∧ usigF (opF d p).2 = some (s.n, s.b) := by
  obtain ⟨h1, h2⟩ := h.opens
  have h3 : (opF d p).2 = s.c.b := by rw [← h2]; rfl
  rw [newE, hi, if_neg (by decide), h1, if_neg (by decide), h3, h.has, if_neg (by simp)]
  exact ⟨rfl, rfl⟩
theorem UCalm.next (h : UCalm d p s K) (n : Nat) (tb : List Int) {b : List UInt8} (hb : b.length ≤ 1024) (hn : s.n < 65536) (hK : K + 2 < 2 ^ 64) :
    ∃ d' c', nextU n tb d s b = (d', ⟨s.i, s.n + 1, b, c'⟩, s.n + 1, H.numF n tb s.i (s.n + 1) b, 0) ∧ UCalm d' p ⟨s.i, s.n + 1, b, c'⟩ (K + 1) ∧ d'.loose = [] ∧ (∀ a, ¬ (p ≤ a ∧ a < p + 20) → d'.now a = d.now a) ∧ c'.which = 1 - s.c.which := by
  obtain ⟨N, hc⟩ := h.cell
  have hl : (be 8 (s.n + 1) ++ b).length ≤ 1100 := by rw [List.length_append, be_length]; omega
  obtain ⟨k1, k2, k3, k4, k5, k6⟩ := put_calm (b := be 8 (s.n + 1) ++ b) h.fuse hc hK hl
  have hw := hc.wh
  refine ⟨(ptF d p s.c.which (be 8 (s.n + 1) ++ b)).1, putCell s.c (be 8 (s.n + 1) ++ b) 0, ?_, ⟨⟨_, k5⟩, h.p_, rfl, k3, usigF_put _ (by omega) b hb⟩, k4, fun a ha => by rw [k6, nowW_out _ _ _ _ (by omega)], rfl⟩
  rw [nextU, if_neg (by omega), if_neg (by omega), h.dead, if_neg (by decide), h.p_, k1, if_pos rfl]
/-- What Format leaves, where no fuse burns. -/
theorem ucalm_format {d : DS} {p : Int} (hp : 0 ≤ p ∧ p + 20 ≤ 32768) (ho : d.off = false) (hf : d.fuse = -1) (i : Int) :
    (fmF d p).2 = 0 ∧ UCalm (fmF d p).1 p ⟨i, 0, [], ⟨p, [], 0, false⟩⟩ 2 ∧ (fmF d p).1.loose = [] ∧ (∀ a, ¬ (p ≤ a ∧ a < p + 20) → (fmF d p).1.now a = d.now a) ∧ (fmF d p).1.off = false := by
  obtain ⟨h1, h2, h3, h4, h5, h6, _⟩ := format_calm hp ho hf
  exact ⟨h1, ⟨⟨_, h5⟩, rfl, rfl, h3, rfl⟩, h4, h6, h2⟩
/-- Its cell's sectors are as they were. -/
theorem UCalm.keep (h : UCalm d p s K) {d' : DS} (ho : d'.off = false) (hf : d'.fuse = -1) (hn : ∀ a, p ≤ a → a < p + 20 → d'.now a = d.now a) : UCalm d' p s K := by
  obtain ⟨N, hc⟩ := h.cell
  exact ⟨⟨N, hc.keep ho hn⟩, h.p_, h.dead, hf, h.has⟩
theorem UCalm.off (h : UCalm d p s K) : d.off = false := by
  obtain ⟨N, hc⟩ := h.cell
  exact hc.off
theorem UCalm.who (h : UCalm d p s K) (i : Int) : UCalm d p ⟨i, s.n, s.b, s.c⟩ K := ⟨h.cell, h.p_, h.dead, h.fuse, h.has⟩
end
end Go.Proofs.YtmjdfajdompkeaaDoor
