/- The law DiskPlays: its steps, and Few. -/
import Derived.Test.YtmjdfajdompkeaaRgj
import Derived.Test.YtmjdfajdompkeaaRde
import Derived.Test.YtmjdfajdompkeaaFlat
namespace Go.Proofs.Ytmjdfajdompkeaa
open Go.RowKit Go.Rat
abbrev DStep := UInt8 × Int × UInt8 × Int × SB
def dstepC (x : DStep) : List Value := [.int .u8 (x.1.toNat : Int)] ++ ([.int .i64 x.2.1] ++ ([.int .u8 (x.2.2.1.toNat : Int)] ++ ([.int .i8 x.2.2.2.1] ++ [x.2.2.2.2.v])))
def dstepOk (w : World) (x : DStep) : Prop := (-9223372036854775808 ≤ x.2.1 ∧ x.2.1 ≤ 9223372036854775807) ∧ (-128 ≤ x.2.2.2.1 ∧ x.2.2.2.1 ≤ 127) ∧ SB.ok w x.2.2.2.2
theorem dstep_at {w : World} {A : Option Addr} {n : Nat} {l : List DStep} (h : Reads w w.heap.size 5 A n (l.flatMap dstepC)) {k : Nat} (hk : k < n) :
    ∃ ad x, A = some ad ∧ x ∈ l ∧ l[k]? = some x ∧ (ad.add (k * 5)).block < w.heap.size ∧ (∀ j u, (dstepC x)[j]? = some u → w.cell? ((ad.add (k * 5)).add j) = some u) ∧ (∀ j u, 0 < j → (dstepC x)[j]? = some u → w.cell? ⟨(ad.add (k * 5)).block, (ad.add (k * 5)).off + j, none⟩ = some u) := by
  obtain ⟨ad, rfl, hb, hc⟩ := h.2 (by omega)
  have hlen := flat_len dstepC 5 (fun _ => rfl) l
  have hkl : k < l.length := by have := h.1; omega
  have hg : l[k]? = some l[k] := List.getElem?_eq_getElem hkl
  have hall : ∀ j u, (dstepC l[k])[j]? = some u → w.cell? (ad.add (k * 5 + j)) = some u := fun j u hu => by
    have hj : j < 5 := by
      have := (List.getElem?_eq_some_iff.1 hu).1
      simpa [dstepC] using this
    have F := flat_get dstepC 5 (fun _ => rfl) l k j _ hg hj
    exact hc _ _ (F.trans hu)
  refine ⟨ad, l[k], rfl, List.getElem_mem hkl, hg, by rw [block_of_add]; exact hb, fun j u hu => ?_, fun j u hj hu => ?_⟩
  · rw [show (ad.add (k * 5)).add j = ad.add (k * 5 + j) by
      by_cases h0 : j = 0
      · subst h0; simp [Addr.add]
      · rw [← add_field _ _ _ (by omega)]; unfold Addr.add; rw [if_neg h0]]
    exact hall j u hu
  · rw [add_field _ _ _ hj]
    exact hall j u hu
/-- A struct that stands anywhere. -/
theorem wpl_load_any {P : Program} {w : World} {ops : Array Oper} {rest : List Oper} {a : Act} {Q : Exit → Act → World → Prop} {d : Option Tmp} {ty : TypeId} {x : Operand} {t : TypeId} {p : String} {af : Array Edge} (ad : Addr) (cs : List Value) {D : TypeDesc}
    (hu : P.underlying ty = some D) (hd : D.isRow = true) {n : Nat} (hi : (P.info? ty).map (·.size) = some n) (hl : cs.length = n) (hc : ∀ j u, cs[j]? = some u → w.cell? (ad.add j) = some u)
    (hx : a.eval x = .pointer (some ad)) (h : wpList P ops Q rest (a.put d (.agg cs.toArray)) w) :
    wpList P ops Q ({ dst := d, op := .load ty x, type := t, pos := p, after := af, guard := none } :: rest) a w := by
  subst hl
  have hrun : (loadVar ty ad).run P w = .ok (.agg cs.toArray) w := by
    have hl : (loadCells ad cs.length).run P w = .ok cs.toArray w := run_loadCells_list (P := P) w ad cs hc
    cases hq : P.info? ty with
    | none => simp [hq] at hi
    | some i =>
      have hs : i.size = cs.length := by simpa [hq] using hi
      have hagg : (isAgg ty).run P w = .ok true w := by
        unfold isAgg
        rw [Sem.run_bind, run_underlying hu w]
        cases D <;> simp_all
      simp [loadVar, Sem.run_bind, hagg, sizeOf, typeInfo, hq, hs, hl]
  refine wpList_plain rfl fun _ hK => ?_
  unfold Oper.wp execOp
  simp only [hx, Instr.loadAt, Instr.sureAddr, Sem.run_bind, Sem.run_pure, Result.andThen_ok, hrun]
  exact hK _ _ h
theorem i47 : (Try.prog.info? 47).map (·.size) = some 5 := by kernel_rfl
theorem RWs.mono {w : World} {base b2 c : Nat} {A : Option Addr} {l : List RW} (h : RWs w base A c l) (hb : b2 ≤ base) : RWs w b2 A c l := by
  obtain ⟨h1, h2⟩ := h
  refine ⟨h1, ?_⟩
  rcases h2 with h3 | ⟨g, cap, cur, hv, hbg, rest⟩
  · exact .inl h3
  · exact .inr ⟨g, cap, cur, hv, Nat.le_trans hb hbg, rest⟩
theorem RDk.mono {w : World} {base b2 : Nat} {l : RL} {d : DS} (h : RDk w base l d) (hb : b2 ≤ base) : RDk w b2 l d := by
  obtain ⟨r, h1, h2⟩ := h
  exact ⟨r, ⟨h1.blk, h1.row1.mono hb, h1.row2.mono hb, h1.n1, h1.n2, h1.n12, Nat.le_trans hb h1.bg, h1.ok⟩, h2⟩
def PicksOk (l : List DStep) (k : Nat) : Prop := ∀ (j : Nat) (x : DStep), j < k → l[j]? = some x → x.2.2.2.2.n ≤ 200
set_option maxHeartbeats 4000000 in
theorem dfew_any (w : World) (A : Option Addr) (m c : Nat) (l : List DStep) (hr : Reads w w.heap.size 5 A m (l.flatMap dstepC)) (most : Nat) (hm : most < 1000000) :
    Calls Try.prog 28 #[.slice A m c, .int .i64 (most : Int)] w fun e w' => (e = .returned (.bool false) ∨ (e = .returned (.bool true) ∧ m ≤ most ∧ PicksOk l m)) ∧ w' = w := by
  by_cases hbig : most < m
  · have hbi : (most : Int) < (m : Int) := by omega
    go_enter Try.func28, Try.ntmps28
    go_wp2_with fail
    go_ret
    exact ⟨.inl rfl, rfl⟩
  · have hbi : ¬ (most : Int) < (m : Int) := by omega
    have hml : m ≤ most := by omega
    go_enter Try.func28, Try.ntmps28
    go_wp2_with fail
    go_loopw [5] (fun i wr => ∃ k : Nat, k ≤ m ∧ i = .int .i64 (k : Int) ∧ wr = w ∧ PicksOk l k) (fun i _ => m - (intOf i).toNat)
    case atStart => exact ⟨0, Nat.zero_le _, rfl, rfl, fun j x hj => by omega⟩
    case round =>
      obtain ⟨k, hk, rfl, rfl, hall⟩ := hrel
      have HALL := Lib.hid hall
      clear hall
      by_cases hkm : k < m
      · obtain ⟨ad, ⟨x1, x2, x3, x4, ⟨A2, n2, z2, ps⟩⟩, e, hxl, hg, hadl, _, hcs⟩ := dstep_at hr hkm
        cases e
        have q4 := hcs 4 (.slice A2 n2 z2) (by omega) rfl
        obtain ⟨P, hP⟩ : ∃ P, ad.add (k * 5) = P := ⟨_, rfl⟩
        rw [hP] at q4
        have HG := Lib.hid hg
        have g1 : (k : Int) < (m : Int) := by omega
        have g0 : (0 : Int) ≤ (k : Int) := by omega
        clear hxl hcs hadl hg
        by_cases hp2 : 200 < n2
        · have hp2' : (200 : Int) < (n2 : Int) := by omega
          go_wp2_with fail
          go_ret
          exact ⟨.inl rfl, rfl⟩
        · have hp2' : ¬ (200 : Int) < (n2 : Int) := by omega
          go_wp2_with fail
          exact ⟨⟨k + 1, by omega, by first | omega | exact congrArg (Value.int .i64) (by omega), by first | rfl | trivial, fun j x hj hx => by
            by_cases hjk : j < k
            · exact HALL.out j x hjk hx
            · obtain rfl : j = k := by omega
              rw [HG.out] at hx
              cases hx
              exact Nat.le_of_not_lt hp2⟩, by simp only [intOf]; omega⟩
      · obtain rfl : k = m := by omega
        have g1 : ¬ (k : Int) < (k : Int) := by omega
        go_wp2_with fail
        go_ret
        first | exact ⟨.inr ⟨rfl, hml, HALL.out⟩, rfl⟩ | exact ⟨.inr ⟨rfl, HALL.out⟩, rfl⟩ | exact ⟨⟨hml, HALL.out⟩, rfl⟩ | exact ⟨hml, HALL.out⟩
end Go.Proofs.Ytmjdfajdompkeaa
