/- Part of a proof: see the last text of this folder. -/
import Derived.Test.YtodlnccdpbpokaaDoorPlanTextSz
import Derived.Test.YtodlnccdpbpokaaDoorPlanTextTo
import Derived.Test.YtodlnccdpbpokaaDoorPlanTextEq
import Derived.Test.YtodlnccdpbpokaaDoorPlanTextDat
set_option linter.unusedSimpArgs false
set_option linter.unusedVariables false
set_option maxRecDepth 20000
set_option maxHeartbeats 4000000
namespace Go.AmC
open Go Go.AM
open Go.Proofs.Tryd (prog)
theorem sz_IntS (xs : List Int) (h : List.length xs ≤ maxLen ∧ ∀ y ∈ xs, i64R y) : ∀ l : Int, 0 ≤ l → l ≤ 1048576 → Says prog 15 [.rsl (List.length xs) (Cs ((List.flatMap dInt xs))), .int .i64 l] (.int .i64 (szR (List.length xs) l)) [] := szIntS _ h.1
theorem sz_Plan (x : Plan) (h : (Plan.lg x)) : ∀ l : Int, 0 ≤ l → l ≤ 1048576 → Says prog 5 [.agg (Cs (Plan.d x)), .int .i64 l] (.int .i64 (szR (Plan.tot x) l)) [] := by
  rw [Plan.lg_eq] at h
  have hDists := h
  exact szPlan x (sz_IntS _ hDists)
theorem to_IntS (xs : List Int) (h : (List.length xs) ≤ 1048576) : Says prog 17 [.rsl (List.length xs) (Cs ((List.flatMap dInt xs)))] (.osl 0 3 (List.length xs) (Ows ((List.flatMap dInt xs)))) [] := toIntS _ (h)
theorem to_Plan (x : Plan) (h : (Plan.tot x) ≤ 1048576) : Says prog 7 [.agg (Cs (Plan.d x))] (.agg (Ows (Plan.d x))) [] := by
  rw [Plan.tot_eq] at h
  exact toPlan x (to_IntS _ (by omega))
theorem eq_IntS (xs : List Int) (h : List.length xs ≤ maxLen ∧ ∀ y ∈ xs, i64R y) : Says prog 19 [.rsl (List.length xs) (Cs ((List.flatMap dInt xs))), .rsl (List.length xs) (Cs ((List.flatMap dInt xs)))] (.bool true) [] := eqIntS _ h.1
theorem eq_Plan (x : Plan) (h : (Plan.lg x)) : Says prog 9 [.agg (Cs (Plan.d x)), .agg (Cs (Plan.d x))] (.bool true) [] := by
  rw [Plan.lg_eq] at h
  have hDists := h
  exact eqPlan x (eq_IntS _ hDists)
end Go.AmC
