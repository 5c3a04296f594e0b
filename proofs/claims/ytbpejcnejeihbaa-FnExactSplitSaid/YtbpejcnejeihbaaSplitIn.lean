/- Part of a proof: see the last text of this folder. -/
import Derived.Test.YtbpejcnejeihbaaSplitCl
set_option linter.unusedSimpArgs false
set_option linter.unusedVariables false
set_option maxRecDepth 20000
set_option maxHeartbeats 4000000
namespace Go.AmC
open Go Go.AM
open Go.Proofs.Try (prog)

theorem in_impl (n a b : Int) : Says prog 49 [.int .i64 n, .int .i64 a, .int .i64 b] (.bool (decide (a ≤ n) && decide (n ≤ b))) [] := by
  refine Fn_G Go.Proofs.Try.func49 ok49 ?_
  by_cases h : a ≤ n <;> simp [v49, r49, h]
theorem in_spec (n a b : Int) : Says prog 58 [.int .i64 n, .int .i64 a, .int .i64 b] (.bool (decide (a ≤ n) && decide (n ≤ b))) [] := by
  refine Fn_G Go.Proofs.Try.func58 ok58 ?_
  by_cases h : a ≤ n <;> simp [v58, r58, h]

end Go.AmC
