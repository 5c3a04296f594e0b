/- Part of a proof: see the last text of this folder. -/
import Derived.Test.YtodlnccdpbpokaaDoorAffTextCl
set_option linter.unusedSimpArgs false
set_option linter.unusedVariables false
set_option maxRecDepth 20000
set_option maxHeartbeats 4000000
namespace Go.AmC
open Go Go.AM
open Go.Proofs.Tryd (prog)

theorem in_impl (n a b : Int) : Says prog 42 [.int .i64 n, .int .i64 a, .int .i64 b] (.bool (decide (a ≤ n) && decide (n ≤ b))) [] := by
  refine Fn_G Go.Proofs.Tryd.func42 ok42 ?_
  by_cases h : a ≤ n <;> simp [v42, r42, h]
theorem in_spec (n a b : Int) : Says prog 39 [.int .i64 n, .int .i64 a, .int .i64 b] (.bool (decide (a ≤ n) && decide (n ≤ b))) [] := by
  refine Fn_G Go.Proofs.Tryd.func39 ok39 ?_
  by_cases h : a ≤ n <;> simp [v39, r39, h]

end Go.AmC
