/- disk: Read; a sector of one byte. -/
import Derived.Test.YtmjdfajdompkeaaDa
import Derived.Deep.DeepCutAuto
import Derived.Deep.CutBlock
namespace Go.Proofs.Ytmjdfajdompkeaa
open Go.RowKit Go.Rat
/-- What is read. -/
def readB (d : DS) (a : Int) : List UInt8 := if readyE d.off a = 0 ∧ (d.now a).lost = false then (d.now a).b else zs
def readE (d : DS) (a : Int) : Int := if readyE d.off a = 0 then (if (d.now a).lost = true then 9 else 0) else readyE d.off a
theorem readB_length {d : DS} (h : DOk d) (a : Int) : (readB d a).length = 128 := by
  unfold readB
  split
  · exact h.now a
  · exact zs_length
/-- Two results: a block's row, and a slot. -/
theorem results_cell_tmp {P : Program} {fn : Func} {p q : Tmp} {ty : TypeId} (h : fn.results = #[.cell p ty, .tmp q]) (tmps : Array Value) (w : World) (g : Nat) (t : TypeId) (cs : Array Value) (fr : Nat × Nat) (d : TypeDesc) (v : Value)
    (hp : tmps.getD p undef = .pointer (some ⟨g, 0, none⟩)) (hq : tmps.getD q undef = v) (hg : w.heap[g]? = some (.cells cs t fr))
    (hu : P.underlying ty = some d) (hd : (match d with | .struct _ | .array _ _ => true | _ => false) = true) (hi : (P.info? ty).map (·.size) = some cs.size) :
    (results fn tmps).run P w = .ok (.tuple #[.agg cs, v]) w := by
  have hp' : tmps[p]?.getD undef = .pointer (some ⟨g, 0, none⟩) := by simpa using hp
  have hq' : tmps[q]?.getD undef = v := by simpa using hq
  simp [results, h, hp', hq', asAddr, run_loadVar_row w g t ty cs fr d hg hu hd hi]
theorem zsA_size : (bvs zs).toArray.size = 128 := by rw [bvs_size, zs_length]
theorem wf64 {a : Int} (h : 0 ≤ a ∧ a < 32768) : (Lit.int .i64 a).wf = true := by
  simp [Lit.wf, IntKind.min, IntKind.max, IntKind.signed, IntKind.bits]; omega
theorem below_next' {a b c : World} (h : Below a.heap.size a b) (k : Below b.heap.size b c) : Below a.heap.size a c := h.trans (k.mono h.size)
theorem zc128 : Try.zeroCells28 = (bvs zs).toArray := by kernel_rfl
set_option maxRecDepth 20000 in
set_option maxHeartbeats 4000000 in
theorem dread_any (w : World) (base : Nat) (l : DL) (d : DS) (h : DiskAt w base l d) (a : Int) :
    Calls Try.prog 26 #[.pointer (some ⟨l.g, 0, none⟩), .int .i64 a] w fun e w' => e = .returned (.tuple #[.agg (bvs (readB d a)).toArray, .int .i64 (readE d a)]) ∧ Below w.heap.size w w' := by
  have hZ := Blk.new w 28 (bvs zs).toArray
  have hb1 := below_alloc w (.cells (bvs zs).toArray 28)
  obtain ⟨z, hz⟩ : ∃ z : Array Value, (bvs zs).toArray = z := ⟨_, rfl⟩
  have hzc : Try.zeroCells28 = z := by rw [← hz]; exact zc128
  have hzs : z.size = 128 := by rw [← hz]; exact zsA_size
  have hz1 : z.all (·.oneCell') = true := by rw [← hz]; exact bvs_all _
  rw [hz] at hZ hb1
  have HZ := Lib.hid hz
  clear hz
  have h1 := h.below hb1
  go_enter Try.func26, Try.ntmps26
  go_upto_region 1 with (fail)
  generalize w.alloc (.cells z 28) = w1 at *
  have hzi : (Try.prog.info? 28).map (·.size) = some z.size := by rw [hzs]; exact i128
  by_cases hr : readyE d.off a = 0
  · have hoff : d.off = false ∧ 0 ≤ a ∧ a < 32768 := by
      cases ho : d.off
      · refine ⟨rfl, ?_⟩
        by_cases h : 0 ≤ a ∧ a < 32768
        · exact h
        · rw [ho, readyE_bad h] at hr
          cases hr
      · rw [ho, readyE_off] at hr
        cases hr
    have hlook : (Instr.lookup 104 (.map (some l.gn)) (.int .i64 a) false).run Try.prog w1 = .ok (.agg (secL (d.now a)).toArray) w1 :=
      h1.now.look Try.underlying3 Try.underlying104 (zerosec w1) a (wf64 hoff.2)
    have c1 := h1.blk.cell 1
    simp only [List.getElem?_toArray, List.getElem?_cons_zero, List.getElem?_cons_succ] at c1
    have hsl := h.ok.now a
    have hre : readE d a = if (d.now a).lost = true then 9 else 0 := by rw [readE, if_pos hr]
    have hrb : readB d a = if (d.now a).lost = false then (d.now a).b else zs := by
      rw [readB]
      by_cases hl : (d.now a).lost = false
      · rw [if_pos ⟨hr, hl⟩, if_pos hl]
      · rw [if_neg (fun h => hl h.2), if_neg hl]
    obtain ⟨s, hs⟩ : ∃ s, d.now a = s := ⟨_, rfl⟩
    rw [hs] at hlook hsl hre hrb
    obtain ⟨b, lost⟩ := s
    simp only at hsl
    have hL : (secL ⟨b, lost⟩).length = 129 := secL_length hsl
    have hLs : (secL ⟨b, lost⟩).toArray.size = 129 := by simpa using hL
    have hL1 : (secL ⟨b, lost⟩).toArray.all (·.oneCell') = true := by
      simp [secL, bvs, bv, Value.oneCell']
    have hLb : ((secL ⟨b, lost⟩).drop 0).take 128 = bvs b := by rw [List.drop_zero, secL, List.take_append_of_le_length (by rw [bvs_length]; simp [hsl]), List.take_of_length_le (by rw [bvs_length]; simp [hsl])]
    have hLl : (secL ⟨b, lost⟩)[128]? = some (.bool lost) := by rw [secL, List.getElem?_append_right (by rw [bvs_length]; simp [hsl]), bvs_length]; simp [hsl]
    have hbl : (bvs b).length = 128 := by rw [bvs_length]; exact hsl
    have hba : (bvs b).toArray.size = 128 := by simpa using hbl
    have HR := Lib.hid hr
    have HRE := Lib.hid hre
    have HRB := Lib.hid hrb
    clear hre hrb hs hr
    obtain ⟨L, hLL⟩ : ∃ L, secL ⟨b, lost⟩ = L := ⟨_, rfl⟩
    rw [hLL] at hlook hL hLs hL1 hLb hLl
    clear hLL
    repeat (first
      | (go_at_call 57; refine (dready_any _ base l d h1 a).mono ?_; rw [HR.out]; rintro e w2 ⟨rfl, rfl⟩; simp only [])
      | ((with_reducible refine wpl_store_fresh L.toArray i129 ?_ hLs hL1 ?_ ?_ ?_); (focus kernel_rfl); (focus rfl); (focus rfl); intro w3 hS hl3 hb3; simp only [Act.put]; refine Hid.out ?_)
      | go_values | go_skip | go_guarded | go_step | go_upon | go_back)
    refine Lib.hid ?_
    have hbb3 := below_next' hb1 hb3
    have hZ3 := hZ.below hb3 hZ.lt
    have c128 := hS.cell 128
    rw [List.getElem?_toArray, hLl] at c128
    clear hlook c1 hLl
    cases lost
    · have hfin : Ending.returned (.tuple #[.agg (bvs b).toArray, .int .i64 0]) = Ending.returned (.tuple #[.agg (bvs (readB d a)).toArray, .int .i64 (readE d a)]) := by rw [HRB.out, HRE.out]; rfl
      have HFIN := Lib.hid hfin
      clear hfin
      repeat (first
        | ((with_reducible refine wpl_load_mid w1.heap.size 0 L (bvs b) Try.underlying28 rfl i128 hS hLb hbl ?_ ?_); (focus rfl); simp only [Act.put, List.setIfInBounds_toArray, List.set_cons_zero, List.set_cons_succ])
        | ((with_reducible refine wpl_store w.heap.size _ _ (bvs b).toArray i128 hZ3 hzs hba (bvs_all _) ?_ ?_ ?_); (focus rfl); (focus rfl))
        | go_values | go_skip | go_guarded | go_step | go_upon | go_back)
      refine bodyPost_ret (results_cell_tmp rfl _ _ w.heap.size _ _ (0, 0) _ _ rfl rfl (hZ3.setRow _) Try.underlying28 rfl (by rw [hba]; exact i128)) rfl ?_
      exact ⟨HFIN.out, hbb3.grown (grownBy_setRow _ _ _) hbb3.size (fun p hp => by cases hp; exact Nat.le_refl _)⟩
    · have hfin : Ending.returned (.tuple #[.agg z, .int .i64 9]) = Ending.returned (.tuple #[.agg (bvs (readB d a)).toArray, .int .i64 (readE d a)]) := by rw [HRB.out, HRE.out, ← HZ.out]; rfl
      have HFIN := Lib.hid hfin
      clear hfin
      repeat (first
        | ((with_reducible refine wpl_load w.heap.size _ _ Try.underlying28 i128 hZ3 hzs ?_ ?_); (focus rfl); simp only [Act.put, List.setIfInBounds_toArray, List.set_cons_zero, List.set_cons_succ])
        | ((with_reducible refine wpl_store w.heap.size _ _ z i128 hZ3 hzs hzs hz1 ?_ ?_ ?_); (focus rfl); (focus rfl))
        | go_values | go_skip | go_guarded | go_step | go_upon | go_back)
      refine bodyPost_ret (results_cell_tmp rfl _ _ w.heap.size _ _ (0, 0) _ _ rfl rfl (hZ3.setRow _) Try.underlying28 rfl hzi) rfl ?_
      exact ⟨HFIN.out, hbb3.grown (grownBy_setRow _ _ _) hbb3.size (fun p hp => by cases hp; exact Nat.le_refl _)⟩
  · have hre : readE d a = readyE d.off a := by rw [readE, if_neg hr]
    have hrb : readB d a = zs := by rw [readB, if_neg (fun h => hr h.1)]
    obtain ⟨E, hE⟩ : ∃ E, readyE d.off a = E := ⟨_, rfl⟩
    rw [hE] at hr hre
    have hfin : Ending.returned (.tuple #[.agg z, .int .i64 E]) = Ending.returned (.tuple #[.agg (bvs (readB d a)).toArray, .int .i64 (readE d a)]) := by rw [hre, hrb, HZ.out]
    have HFIN := Lib.hid hfin
    clear hfin
    have hr' : (E != 0) = true := by simpa using hr
    have HE := Lib.hid hE
    clear hE hre hrb
    repeat (first
      | (go_at_call 57; refine (dready_any _ base l d h1 a).mono ?_; rw [HE.out]; rintro e w2 ⟨rfl, rfl⟩; simp only [])
      | ((with_reducible refine wpl_load w.heap.size _ _ Try.underlying28 i128 hZ hzs ?_ ?_); (focus rfl); simp only [Act.put, List.setIfInBounds_toArray, List.set_cons_zero, List.set_cons_succ])
      | ((with_reducible refine wpl_store w.heap.size _ _ z i128 hZ hzs hzs hz1 ?_ ?_ ?_); (focus rfl); (focus rfl))
      | go_values | go_skip | go_guarded | go_step | go_upon | go_back)
    refine bodyPost_ret (results_cell_tmp rfl _ _ w.heap.size _ _ (0, 0) _ _ rfl rfl (hZ.setRow _) Try.underlying28 rfl hzi) rfl ?_
    exact ⟨HFIN.out, hb1.grown (grownBy_setRow _ _ _) hb1.size (fun p hp => by cases hp; exact Nat.le_refl _)⟩
end Go.Proofs.Ytmjdfajdompkeaa
