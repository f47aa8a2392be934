/- The law DiskNil, walked. -/
import Derived.Test.YtekpohchikbnnaaDi
namespace Go.Proofs.Ytekpohchikbnnaa
open Go.RowKit Go.Rat
set_option maxRecDepth 20000 in
set_option maxHeartbeats 4000000 in
theorem diskNil_any (w : World) (a : Int) (n : Int) (hn : -128 ≤ n ∧ n ≤ 127) :
    Calls Try.prog 6 #[.int .i64 a, .int .i8 n] w fun e w' => e = .returned (.bool true) ∧ Below w.heap.size w w' := by
  have h0 := Below.refl w.heap.size w
  have hzs : (bvs zs).toArray.size = 128 := zsA_size
  go_enter Try.func6, Try.ntmps6
  repeat (first
    | (go_at_call 33; refine (nfuse_any _ n).mono ?_; rintro e wn ⟨rfl, rfl⟩; simp only [])
    | (go_at_call 24; refine (noff_any _).mono ?_; rintro e wn ⟨rfl, rfl⟩; simp only [])
    | (go_at_call 26; refine (nread_any _ a).mono ?_; rintro e w1 ⟨rfl, hb⟩; simp only []; have hb1 := below_next' (a := w) (by assumption) hb)
    | ((with_reducible refine wpl_store_fresh (bvs zs).toArray i128 ?_ hzs (bvs_all _) ?_ ?_ ?_); (focus kernel_rfl); (focus rfl); (focus rfl); intro w3 hS hl3 hb; simp only [Act.put]; have hbb := below_next' (a := w) (by assumption) hb)
    | (go_at_call 22; refine (bytes_lit _ 1 1 rfl).mono ?_; rintro e wn ⟨rfl, hb⟩; simp only []; have hbb := below_next' (a := w) (by assumption) hb)
    | (go_at_call 21; refine (nwrite_any _ a (rep 1)).mono ?_; rintro e wn ⟨rfl, hb⟩; simp only []; have hbb := below_next' (a := w) (by assumption) hb)
    | (go_at_call 23; refine (nsync_any _).mono ?_; rintro e wn ⟨rfl, rfl⟩; simp only [])
    | (go_at_call 25; refine (non_any _ none 0 0).mono ?_; rintro e wn ⟨rfl, rfl⟩; simp only [])
    | (go_at_call 36; refine (npower_any _).mono ?_; rintro e wn ⟨rfl, rfl⟩; simp only [])
    | (go_at_call 27; refine (nloose_any _).mono ?_; rintro e wn ⟨rfl, rfl⟩; simp only [])
    | (go_at_call 19; refine (works4_any _).mono ?_; rintro e wn ⟨rfl, hb⟩; simp only []; have hbb := below_next' (a := w) (by assumption) hb)
    | go_values | go_skip | go_guarded | go_step | go_upon | go_back)
  go_ret
  exact ⟨rfl, by assumption⟩
theorem diskNil_walk (w : World) (a : Int) (_ : -9223372036854775808 ≤ a ∧ a ≤ 9223372036854775807) (n : Int) (hn : -128 ≤ n ∧ n ≤ 127) :
    Calls Try.prog 6 #[.int .i64 a, .int .i8 n] w fun e w' => e = .returned (.bool true) ∧ Below w.heap.size w w' := diskNil_any w a n hn
end Go.Proofs.Ytekpohchikbnnaa
