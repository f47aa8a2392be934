/- The arrays of this seat, compared. -/
import Derived.Test.YtohfgplaocgadaaDoorEq
import Derived.Test.YtohfgplaocgadaaDoorSb
namespace Go.Proofs.YtohfgplaocgadaaDoor
open Go.RowKit Go.Rat
theorem eql8 (A B : List Int) (hA : A.length = 8) (hB : B.length = 8) (w : World) : (Op.equalIn 10000 23 (.agg (u32s A).toArray) (.agg (u32s B).toArray)).run Tryd.prog w = .ok (decide (A = B)) w := by
  obtain ⟨i, hi⟩ := Option.isSome_iff_exists.1 (show (Tryd.prog.info? 22).isSome = true by kernel_rfl)
  exact run_eql_ints Tryd.underlying23 hi Tryd.underlying22 (by kernel_rfl) A B hA hB w
theorem eql32 (xs ys : List UInt8) (hA : xs.length = 32) (hB : ys.length = 32) (w : World) : (Op.equalIn 10000 29 (.agg (bvs xs).toArray) (.agg (bvs ys).toArray)).run Tryd.prog w = .ok (decide (xs = ys)) w := by
  obtain ⟨i, hi⟩ := Option.isSome_iff_exists.1 (show (Tryd.prog.info? 5).isSome = true by kernel_rfl)
  exact run_eql_bytes Tryd.underlying29 hi Tryd.underlying5 (by kernel_rfl) xs ys hA hB w
end Go.Proofs.YtohfgplaocgadaaDoor
