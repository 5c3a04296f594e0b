/- Part of a proof: see the last text of this folder. -/
import Derived.Test.YtodlnccdpbpokaaDoorAmBase
set_option linter.unusedSimpArgs false
set_option linter.unusedVariables false
namespace Go.AmC
open Go Go.AM
structure Plan where
  Kind : Int
  Dists : List Int
def Plan.d : Plan → List D
  | ⟨aKind, aDists⟩ => [.I .i64 aKind, .L 3 (List.length aDists) (List.flatMap dInt aDists)]
@[simp] theorem Plan.d_eq (x : Plan) : Plan.d x = [.I .i64 x.Kind, .L 3 (List.length x.Dists) (List.flatMap dInt x.Dists)] := by cases x; rw [Plan.d]
theorem Plan.d_len (x : Plan) : (Plan.d x).length = 2 := by simp
def Plan.tot : Plan → Nat
  | ⟨aKind, aDists⟩ => (List.length aDists)
theorem Plan.tot_eq (x : Plan) : Plan.tot x = (List.length x.Dists) := by cases x; rw [Plan.tot]
def Plan.lg : Plan → Prop
  | ⟨aKind, aDists⟩ => (List.length aDists ≤ maxLen ∧ ∀ y ∈ aDists, i64R y)
theorem Plan.lg_eq (x : Plan) : Plan.lg x = ((List.length x.Dists ≤ maxLen ∧ ∀ y ∈ x.Dists, i64R y)) := by cases x; rw [Plan.lg]
end Go.AmC
