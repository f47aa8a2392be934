/- tag: digest. -/
import Derived.Test.YtohfgplaocgadaaDoorPad
namespace Go.Proofs.YtohfgplaocgadaaDoor
open Go.RowKit Go.Rat
/-- A part of what is digested: a slice, and what it reads. -/
structure Pt where
  A : Option Addr
  n : Nat
  c : Nat
  xs : List UInt8
def Pt.v (p : Pt) : Value := .slice p.A p.n p.c
structure PtOk (w : World) (p : Pt) : Prop where
  r : RB w p.A p.n p.xs
  c : p.n ≤ p.c
theorem PtOk.below {w w' : World} {p : Pt} (h : PtOk w p) (hb : Below w.heap.size w w') : PtOk w' p := ⟨h.r.below hb, h.c⟩
def catP (ps : List Pt) : List UInt8 := ps.flatMap (·.xs)
set_option maxRecDepth 8000 in
set_option maxHeartbeats 4000000 in
theorem tdigest_any (n : Nat) (hn64 : n = 64) (w : World) (g : Nat) (T : TypeId) (ps : List Pt) (N c : Nat) (hN : ps.length = N) (hP : Blk w g T (ps.map Pt.v).toArray) (hok : ∀ p ∈ ps, PtOk w p) (hlen : (catP ps).length < 288230376151711744) (hN9 : N < 1000)
    (tb : List Int) (hT : Tab w tb) :
    Calls Tryd.prog 38 #[.slice (some ⟨g, 0, none⟩) N c] w fun e w' => e = .returned (.agg (bvs (digest n tb (catP ps))).toArray) ∧ Below w.heap.size w w' := by
  have HN := Lib.hid hn64
  clear hn64
  obtain ⟨D, hD⟩ : ∃ D, digest n tb (catP ps) = D := ⟨_, rfl⟩
  have hdl := digest_length n tb (catP ps)
  rw [hD] at hdl ⊢
  have hd32 : (bvs D).toArray.size = 32 := by rw [bvs_size, hdl]
  have HD := Lib.hid hD
  clear hD
  have hw0 : 0 < w.heap.size := block_lt_of_cell (hT 0 (by omega))
  go_enter Tryd.func38, Tryd.ntmps38
  have hZ := Blk.new w 29 (bvs (List.replicate 32 0)).toArray
  have hb1 := below_alloc w (.cells (bvs (List.replicate 32 0)).toArray 29)
  obtain ⟨z32, hz32⟩ : ∃ z : Array Value, (bvs (List.replicate 32 0)).toArray = z := ⟨_, rfl⟩
  have hzs : z32.size = 32 := by rw [← hz32]; rfl
  rw [hz32] at hZ hb1
  have hzz : (#[.int .u8 0, .int .u8 0, .int .u8 0, .int .u8 0, .int .u8 0, .int .u8 0, .int .u8 0, .int .u8 0, .int .u8 0, .int .u8 0, .int .u8 0, .int .u8 0, .int .u8 0, .int .u8 0, .int .u8 0, .int .u8 0, .int .u8 0, .int .u8 0, .int .u8 0, .int .u8 0, .int .u8 0, .int .u8 0, .int .u8 0, .int .u8 0, .int .u8 0, .int .u8 0, .int .u8 0, .int .u8 0, .int .u8 0, .int .u8 0, .int .u8 0, .int .u8 0] : Array Value) = z32 := by rw [← hz32]; rfl
  clear hz32
  go_wp2_with (go_at_call 35; refine (new_any _).mono ?_; rintro e w2 ⟨ge, rfl, hge, hE, hb2⟩)
  have hlt1 : w.heap.size < ge := by have : w.heap.size < (w.alloc (.cells z32 29)).heap.size := by { simp }
                                     omega
  have hbb2 := hb1.trans (hb2.mono hb1.size)
  have hZ2 := hZ.below hb2 (by simp)
  have hT2 := Tab.below hT hbb2
  have hP2 := hP.below hbb2 hP.lt
  have hgw := hP.lt
  have hok2 : ∀ p ∈ ps, PtOk w2 p := fun p hp => (hok p hp).below hbb2
  have hbk : ∀ p ∈ ps, p.n = 0 ∨ p.A.map (·.block) ≠ some ge := fun p hp => by
    rcases Nat.eq_zero_or_pos p.n with h | h
    · exact .inl h
    · obtain ⟨ad, e, hlt, _⟩ := (hok p hp).r.2 h
      refine .inr ?_
      rw [e]
      simp
      omega
  clear hzz hZ hb2 hb1
  go_loopw [9] (fun i wr => ∃ k : Nat, k ≤ N ∧ i = .int .i64 (k : Int) ∧ Blk wr ge 65 (hashL (feed n tb h0 (catP (ps.take k))) (catP (ps.take k)).length).toArray ∧ w2.grownBy wr (some ge)) (fun i _ => N - (intOf i).toNat)
  case atStart => exact ⟨0, Nat.zero_le _, rfl, hE, World.grownBy.refl _ _⟩
  case round =>
    obtain ⟨k, hk, rfl, hEk, hgk⟩ := hrel
    by_cases hkN : k < N
    · have hPk := hP2.grown hgk (by intro e; injection e with e; omega)
      have hkl : k < ps.length := by omega
      obtain ⟨p, hp⟩ : ∃ p, ps[k] = p := ⟨_, rfl⟩
      have hmem : p ∈ ps := by rw [← hp]; exact List.getElem_mem hkl
      have c1 : wr.cell? ⟨g, k, none⟩ = some (.slice p.A p.n p.c) := by
        rw [hPk.cell k, List.getElem?_toArray, List.getElem?_map, List.getElem?_eq_getElem hkl, hp]
        rfl
      have hcat : catP (ps.take (k + 1)) = catP (ps.take k) ++ p.xs := by
        rw [List.take_add_one, List.getElem?_eq_getElem hkl, hp]
        simp [catP]
      have hle : (catP (ps.take (k + 1))).length ≤ (catP ps).length := by
        have : catP ps = catP (ps.take (k + 1)) ++ catP (ps.drop (k + 1)) := by rw [catP, catP, catP, ← List.flatMap_append, List.take_append_drop]
        rw [this, List.length_append]
        omega
      rw [hcat, List.length_append] at hle
      have hpr := (hok2 p hmem).r
      have hpl := hpr.len
      have hrk : RB wr p.A p.n p.xs := keepG hpr hgk (hbk p hmem)
      have hTk := Tab_grown hT2 hgk (by omega)
      have hfk := (feed_ok n tb (catP (ps.take k)) h0 h0_ok).1
      have g1 : (k : Int) < (N : Int) := by omega
      have g0 : (0 : Int) ≤ (k : Int) := by omega
      go_wp2_with (go_at_call 36; refine (write_any n HN.out wr ge _ hfk _ p.A p.n p.c p.xs tb hTk (by omega) hEk hrk (hok2 p hmem).c (hbk p hmem) (by omega)).mono ?_; rintro e w4 ⟨rfl, hE4, hg4⟩)
      rw [← feed_append, ← hcat, ← hpl, ← List.length_append, ← hcat] at hE4
      exact ⟨⟨k + 1, by omega, congrArg (Value.int .i64) (by omega), hE4, hgk.trans hg4⟩, by simp only [intOf]; omega⟩
    · obtain rfl : k = N := by omega
      rw [List.take_of_length_le (by omega)] at hEk
      have hDF : outB (feed n tb (feed n tb h0 (catP ps)) (padding (catP ps).length)).s = D := by rw [← HD.out, digest, feed_append]
      have HDF := Lib.hid hDF
      clear hDF
      obtain ⟨ho, hkk⟩ := feed_ok n tb (catP ps) h0 h0_ok
      have hkm : (feed n tb h0 (catP ps)).k = (catP ps).length % 64 := by rw [hkk]; simp [h0]
      have hTk := Tab_grown hT2 hgk (by omega)
      have hZk := hZ2.grown hgk (by intro e; injection e with e; omega)
      have hbb : Below w.heap.size w wr := hbb2.grown hgk hbb2.size (fun q hq => by cases hq; omega)
      have g1 : ¬ (k : Int) < (k : Int) := by omega
      repeat (first
        | (go_at_call 37; refine (hsum_any n HN.out wr ge _ ho (catP ps).length hkm tb hTk hEk (by omega)).mono ?_; rw [HDF.out]; rintro e w4 ⟨rfl, hb4⟩; simp only []; have hZ4 := hZk.below hb4 hZk.lt; have hb04 := hbb.trans (hb4.mono hbb.size))
        | ((with_reducible refine wpl_store w.heap.size _ _ (bvs D).toArray i32x8 hZ4 hzs hd32 (bvs_all _) ?_ ?_ ?_); (focus rfl); (focus rfl))
        | go_values | go_skip | go_guarded | go_step | go_upon | go_back)
      refine bodyPost_ret (results_cell_row rfl _ _ w.heap.size _ _ (0, 0) _ rfl (hZ4.setRow _) Tryd.underlying29 rfl (by rw [hd32]; exact i32x8)) rfl ?_
      exact ⟨rfl, hb04.grown (grownBy_setRow _ _ _) hb04.size (fun p hp => by cases hp; exact Nat.le_refl _)⟩
end Go.Proofs.YtohfgplaocgadaaDoor
