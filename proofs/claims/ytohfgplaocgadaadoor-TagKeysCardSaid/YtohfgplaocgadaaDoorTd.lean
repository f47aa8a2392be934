/- tag: key. -/
import Derived.Test.YtohfgplaocgadaaDoorTc
import Derived.Test.YtohfgplaocgadaaDoorOw
import Derived.Laws.IdiomStrings
namespace Go.Proofs.YtohfgplaocgadaaDoor
open Go.RowKit Go.Rat
def keyB (n : Nat) (tb : List Int) (s : ByteArray) (i : Nat) : List UInt8 := digest n tb (s.data.toList ++ be 8 i)
theorem rb_str (w : World) (e : TypeId) (s : ByteArray) (k : Nat) (fr : Nat × Nat) : RB ((w.alloc (.cells (bytesRow s k) e fr)).drew) (some ⟨w.heap.size, 0, none⟩) s.size s.data.toList := by
  have hsz : s.data.toList.length = s.size := rfl
  refine ⟨by rw [bvs_length, hsz, Nat.mul_one], fun _ => ⟨_, rfl, by show w.heap.size < (w.alloc _).heap.size; simp, fun j u hu => ?_⟩⟩
  have hadd : (⟨w.heap.size, 0, none⟩ : Addr).add j = ⟨w.heap.size, j, none⟩ := by unfold Addr.add; split <;> simp_all
  have hj : j < s.data.toList.length := by have := (List.getElem?_eq_some_iff.1 hu).1; rwa [bvs_length] at this
  have hc := cell_of_row (w.alloc (.cells (bytesRow s k) e fr)) w.heap.size j (bytesRow s k) e fr (_root_.Go.heap_alloc_new w _)
  rw [hadd]
  refine Eq.trans hc ?_
  rw [bytesRow, Array.getElem?_append_left (by simpa using hj), Array.getElem?_map]
  rw [bvs, List.getElem?_map] at hu
  rw [← Array.getElem?_toList]
  exact hu
set_option maxRecDepth 8000 in
set_option maxHeartbeats 4000000 in
theorem key_none (w : World) (s : ByteArray) (i most : Int) (hi : ¬ (1 ≤ i ∧ i ≤ most)) :
    Calls Tryd.prog 41 #[.string s, .int .i64 i, .int .i64 most] w fun e w' => e = .returned (.slice none 0 0) ∧ w = w' := by
  go_enter Tryd.func41, Tryd.ntmps41
  by_cases h1 : i < 1
  · go_wp2_with fail
    go_ret
    exact ⟨rfl, rfl⟩
  · have h2 : most < i := by omega
    go_wp2_with fail
    go_ret
    exact ⟨rfl, rfl⟩
set_option maxRecDepth 8000 in
set_option maxHeartbeats 4000000 in
theorem key_some (n : Nat) (hn64 : n = 64) (w : World) (s : ByteArray) (hs : s.size < 1000) (i : Nat) (most : Int) (hi1 : 1 ≤ i) (hi2 : (i : Int) ≤ most) (hi3 : i < 1000) (tb : List Int) (hT : Tab w tb) :
    Calls Tryd.prog 41 #[.string s, .int .i64 (i : Int), .int .i64 most] w fun e w' => ∃ A c, e = .returned (.slice A 32 c) ∧ OB 5 w' w.heap.size A 32 c (keyB n tb s i) ∧ Below w.heap.size w w' := by
  have HN := Lib.hid hn64
  clear hn64
  have hkl : (keyB n tb s i).length = 32 := digest_length _ _ _
  obtain ⟨K, hK⟩ : ∃ K, keyB n tb s i = K := ⟨_, rfl⟩
  rw [hK] at hkl ⊢
  unfold keyB at hK
  have HK := Lib.hid hK
  clear hK
  have hks : (bvs K).toArray.size = 32 := by rw [bvs_size, hkl]
  go_enter Tryd.func41, Tryd.ntmps41
  have g1 : ¬ (i : Int) < 1 := by omega
  have g2 : ¬ most < (i : Int) := by omega
  have g3 : IntKind.u64.wrap (i : Int) = (i : Int) := by simp [IntKind.wrap, IntKind.bits, IntKind.signed]; omega
  have kc := fun (w : World) => run_bytes_of_string (P := Tryd.prog) w 9 28 5 s Tryd.underlying9 Tryd.underlying28 Tryd.underlying5
  have hb0 := (below_alloc w (.cells (bytesRow s (grownCap w s.size 0 5)) 5 ((bytesRow s (grownCap w s.size 0 5)).size, (bytesRow s (grownCap w s.size 0 5)).size + 1))).drew
  have hr0 := rb_str w 5 s (grownCap w s.size 0 5) ((bytesRow s (grownCap w s.size 0 5)).size, (bytesRow s (grownCap w s.size 0 5)).size + 1)
  have hcap : s.size ≤ grownCap w s.size 0 5 := grownCap_ge _ _ _ _
  go_wp2_with fail
  clear kc
  generalize ((w.alloc (.cells (bytesRow s (grownCap w s.size 0 5)) 5 ((bytesRow s (grownCap w s.size 0 5)).size, (bytesRow s (grownCap w s.size 0 5)).size + 1))).drew) = w1 at *
  obtain ⟨cs, hcs⟩ : ∃ cs, grownCap w s.size 0 5 = cs := ⟨_, rfl⟩
  rw [hcs] at hcap ⊢
  clear hcs
  obtain ⟨sb, hsb⟩ : ∃ sb, s.data.toList = sb := ⟨_, rfl⟩
  have hsbl : sb.length = s.size := by rw [← hsb]; rfl
  rw [hsb] at hr0
  have HK2 : Hid (digest n tb (sb ++ be 8 i) = K) := by rw [← hsb]; exact HK
  refine (word_any w1 none 0 0 [] i (RB.nil_ _ _) (by omega) (by omega)).mono ?_
  rintro e w2 ⟨Aw, Nw, cw, rfl, hOw, hb2⟩
  simp only []
  rw [List.nil_append] at hOw
  have hwl := hOw.len
  rw [be_length] at hwl
  have hrw := hOw.reads
  have hr2 := hr0.below hb2
  have hbb2 := hb0.trans (hb2.mono hb0.size)
  have hcw := hOw.cap.1
  repeat (first
    | (go_at_call 38; refine (tdigest_any n HN.out _ w2.heap.size 28 [⟨some ⟨w.heap.size, 0, none⟩, s.size, cs, sb⟩, ⟨Aw, Nw, cw, be 8 i⟩] 2 2 rfl (Blk.new w2 28 #[.slice (some ⟨w.heap.size, 0, none⟩) s.size cs, .slice Aw Nw cw]) (by intro p hp; simp only [List.mem_cons, List.not_mem_nil, or_false] at hp; rcases hp with rfl | rfl; (exact ⟨hr2.alloc _, hcap⟩); (exact ⟨hrw.alloc _, hcw⟩)) (by rw [cat2, List.length_append, be_length]; simp only []; omega) (by omega) tb (Tab.below (Tab.below hT hbb2) (below_alloc _ _))).mono ?_; rw [cat2, HK2.out]; rintro e w3 ⟨rfl, hb3⟩; simp only []; have hbb3 := hbb2.trans (((below_alloc w2 (.cells #[.slice (some ⟨w.heap.size, 0, none⟩) s.size cs, .slice Aw Nw cw] 28)).trans (hb3.mono (by simp))).mono hbb2.size))
    | ((with_reducible refine wpl_store_fresh (bvs K).toArray i32x8 ?_ hks (bvs_all _) ?_ ?_ ?_); (focus kernel_rfl); (focus rfl); (focus rfl); intro w4 hK4 hl4 hb4; have hbb4 := hbb3.trans (hb4.mono hbb3.size); have hrK := rb_row hK4 32 hkl)
    | (go_at_call 47; refine (clone_any w4 _ 32 32 K hrK (by omega)).mono ?_; rintro e w5 ⟨A5, c5, rfl, hO5, hb5⟩; simp only []; have hbb5 := hbb4.trans (hb5.mono hbb4.size))
    | go_values | go_skip | go_guarded | go_step | go_upon | go_back)
  go_ret
  exact ⟨A5, c5, rfl, hO5.mono hbb4.size, hbb5⟩
end Go.Proofs.YtohfgplaocgadaaDoor
