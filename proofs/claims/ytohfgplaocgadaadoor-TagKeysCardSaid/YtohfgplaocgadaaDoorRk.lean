/- ratchetref02: the numbers of the standard. -/
import Derived.Test.YtohfgplaocgadaaDoorSc
namespace Go.Proofs.YtohfgplaocgadaaDoor
open Go.RowKit Go.Rat
def tblL : List Int := [
  0x428a2f98, 0x71374491, 0xb5c0fbcf, 0xe9b5dba5, 0x3956c25b, 0x59f111f1, 0x923f82a4, 0xab1c5ed5,
  0xd807aa98, 0x12835b01, 0x243185be, 0x550c7dc3, 0x72be5d74, 0x80deb1fe, 0x9bdc06a7, 0xc19bf174,
  0xe49b69c1, 0xefbe4786, 0x0fc19dc6, 0x240ca1cc, 0x2de92c6f, 0x4a7484aa, 0x5cb0a9dc, 0x76f988da,
  0x983e5152, 0xa831c66d, 0xb00327c8, 0xbf597fc7, 0xc6e00bf3, 0xd5a79147, 0x06ca6351, 0x14292967,
  0x27b70a85, 0x2e1b2138, 0x4d2c6dfc, 0x53380d13, 0x650a7354, 0x766a0abb, 0x81c2c92e, 0x92722c85,
  0xa2bfe8a1, 0xa81a664b, 0xc24b8b70, 0xc76c51a3, 0xd192e819, 0xd6990624, 0xf40e3585, 0x106aa070,
  0x19a4c116, 0x1e376c08, 0x2748774c, 0x34b0bcb5, 0x391c0cb3, 0x4ed8aa4a, 0x5b9cca4f, 0x682e6ff3,
  0x748f82ee, 0x78a5636f, 0x84c87814, 0x8cc70208, 0x90befffa, 0xa4506ceb, 0xbef9a3f7, 0xc67178f2]
theorem tblL_length : tblL.length = 64 := by decide +kernel
theorem wpl_build {P : Program} {w : World} {ops : Array Oper} {rest : List Oper} {a : Act} {Q : Exit → Act → World → Prop} {d : Option Tmp} {ty : TypeId} {parts : Array (Nat × Operand)} {t : TypeId} {p : String} {af : Array Edge} (cells : Array Value)
    (hb : P.built ty (parts.map fun (i, x) => (i, a.eval x)).toList = some cells) (h : wpList P ops Q rest (a.put d (.agg cells)) w) :
    wpList P ops Q ({ dst := d, op := .build ty parts, type := t, pos := p, after := af, guard := none } :: rest) a w :=
  wpList_build rfl ty parts rfl (by rw [hb]; rfl) (by rw [hb]; exact h)
theorem wpl_store_fresh {P : Program} {w : World} {ops : Array Oper} {rest : List Oper} {a : Act} {Q : Exit → Act → World → Prop} {d : Option Tmp} {ty : TypeId} {x y : Operand} {t : TypeId} {p : String} {af : Array Edge} {Z : Array Value} {T : TypeId} (cs' : Array Value) {n : Nat}
    (hi : (P.info? ty).map (·.size) = some n) (hZ : Z.size = n) (hs' : cs'.size = n) (h1 : cs'.all (·.oneCell') = true)
    (hx : a.eval x = .pointer (some ⟨w.heap.size, 0, none⟩)) (hy : a.eval y = .agg cs') (h : ∀ z, Blk z w.heap.size T cs' → w.heap.size < z.heap.size → Below w.heap.size w z → wpList P ops Q rest (a.put d undef) z) :
    wpList P ops Q ({ dst := d, op := .store ty x y, type := t, pos := p, after := af, guard := none } :: rest) a (w.alloc (.cells Z T)) :=
  wpl_store w.heap.size T Z cs' hi (Blk.new w T Z) hZ hs' h1 hx hy (h _ ((Blk.new w T Z).setRow _) (by simp) ((below_alloc _ _).grown (grownBy_setRow _ _ _) (by simp) (fun q hq => by cases hq; exact Nat.le_refl _)))
theorem adds_comm8 {s f : List Int} (hs : s.length = 8) (hf : f.length = 8) : adds s f 8 = adds f s 8 := by
  obtain ⟨s0, s1, s2, s3, s4, s5, s6, s7, rfl⟩ := list8 hs
  obtain ⟨f0, f1, f2, f3, f4, f5, f6, f7, rfl⟩ := list8 hf
  simp only [adds, List.getD_cons_zero, List.getD_cons_succ, List.set_cons_zero, List.set_cons_succ, Int.add_comm]
theorem outF_length (R : S8) : (outF R).length = 8 := rfl
set_option maxRecDepth 8000 in
set_option maxHeartbeats 1200000 in
theorem k_any (w : World) : Calls Tryd.prog 31 #[] w fun e w' => e = .returned (.agg (u32s tblL).toArray) ∧ Below w.heap.size w w' := by
  obtain ⟨t, hT⟩ : ∃ t, (u32s tblL).toArray = t := ⟨_, rfl⟩
  have hts : t.size = 64 := by rw [← hT, u32s_size, tblL_length]
  have ht1 : t.all (·.oneCell') = true := by rw [← hT]; exact u32s_one _
  rw [hT]
  have HT := Lib.hid hT
  clear hT
  go_enter Tryd.func31, Tryd.ntmps31
  repeat (first
            | ((with_reducible refine wpl_build t ?_ ?_); (focus rw [← HT.out]; kernel_rfl); simp only [Act.put, List.setIfInBounds_toArray, List.set_cons_zero, List.set_cons_succ])
            | ((with_reducible refine wpl_store w.heap.size _ _ t i64x32 (Blk.new w _ _) ?_ hts ht1 ?_ ?_ ?_); (focus kernel_rfl); (focus rfl); (focus rfl))
            | go_values | go_skip | go_guarded | go_step | go_upon | go_back | (simp only [Int.not_lt] at *; go_simp))
  refine bodyPost_ret (results_cell_row rfl _ _ w.heap.size _ _ (0, 0) _ rfl ((Blk.new w _ _).setRow _) Tryd.underlying46 rfl (by rw [hts]; exact i64x32)) rfl ?_
  exact ⟨rfl, (below_alloc _ _).grown (grownBy_setRow _ _ _) (by simp) (fun q hq => by cases hq; exact Nat.le_refl _)⟩
end Go.Proofs.YtohfgplaocgadaaDoor
