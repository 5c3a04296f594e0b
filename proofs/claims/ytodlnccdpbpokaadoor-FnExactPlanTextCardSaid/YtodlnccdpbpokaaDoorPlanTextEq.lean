/- Part of a proof: see the last text of this folder. -/
import Derived.Test.YtodlnccdpbpokaaDoorPlanTextC0
import Derived.Test.YtodlnccdpbpokaaDoorPlanTextDat
set_option linter.unusedSimpArgs false
set_option linter.unusedVariables false
set_option maxRecDepth 20000
set_option maxHeartbeats 4000000
namespace Go.AmC
open Go Go.AM
open Go.Proofs.Tryd (prog)
theorem eqIntS (xs : List Int) (hm : xs.length ≤ maxLen) : Says prog 19 [.rsl (List.length xs) (Cs ((List.flatMap dInt xs))), .rsl (List.length xs) (Cs ((List.flatMap dInt xs)))] (.bool true) [] := by
  refine Fn_G Go.Proofs.Tryd.func19 ok19 ?_
  simp [v19, r19]
  refine G_loop (l := l19_0) (b := b19_0) rfl [] (fun i => [.rsl (List.length xs) (Cs ((List.flatMap dInt xs))), .rsl (List.length xs) (Cs ((List.flatMap dInt xs))), .bool false, .dead, .int .i64 (i : Int), .dead, .dead]) (fun _ => True) xs.length
    (fun ex en => ex = .exit 0 ∧ en = [.rsl (List.length xs) (Cs ((List.flatMap dInt xs))), .rsl (List.length xs) (Cs ((List.flatMap dInt xs))), .bool false, .dead, .int .i64 xs.length, .dead, .dead]) ?_ ?_ trivial (by simp) ?_
  · intro i hi _ q hn hx hr
    obtain ⟨x, hx0⟩ : ∃ x, xs[i]? = some x := ⟨_, List.getElem?_eq_getElem hi⟩
    have hrow := row_drop dInt 1 (fun _ => by simp) hx0
    rw [Nat.mul_one] at hrow
    have hw : IntKind.i64.wrap ((i : Int) + 1) = ((i + 1 : Nat) : Int) := by unfold maxLen at hm; rw [wrap_small] <;> omega
    simp [hi, Cs_drop, hrow, hw]
    refine hn _ ?_ trivial
    simp
  · intro _ q hx hr
    simp
    exact hx _ _ ⟨rfl, rfl⟩
  · rintro ex en ⟨rfl, rfl⟩
    simp
theorem eqPlan (x : Plan) (hDists : Says prog 19 [.rsl (List.length x.Dists) (Cs ((List.flatMap dInt x.Dists))), .rsl (List.length x.Dists) (Cs ((List.flatMap dInt x.Dists)))] (.bool true) []) : Says prog 9 [.agg (Cs (Plan.d x)), .agg (Cs (Plan.d x))] (.bool true) [] := by
  refine Fn_G Go.Proofs.Tryd.func9 ok9 ?_
  try simp at hDists
  simp [v9, r9]
  refine callG hDists ?_
  simp
end Go.AmC
