/- Part of a proof: see the last text of this folder. -/
import Derived.Test.YtodlnccdpbpokaaDoorPlanTextC0
import Derived.Test.YtodlnccdpbpokaaDoorPlanTextDat
set_option linter.unusedSimpArgs false
set_option linter.unusedVariables false
set_option maxRecDepth 20000
set_option maxHeartbeats 4000000
namespace Go.AmC
open Go Go.AM
open Go.Proofs.Tryd (prog)
theorem szIntS (xs : List Int) (hm : xs.length ≤ maxLen) : ∀ l : Int, 0 ≤ l → l ≤ 1048576 → Says prog 15 [.rsl (List.length xs) (Cs ((List.flatMap dInt xs))), .int .i64 l] (.int .i64 (szR (List.length xs) l)) [] := by
  intro l l0 lb
  have hw : IntKind.i64.wrap (l - xs.length) = l - xs.length := by unfold maxLen at hm; rw [wrap_small] <;> omega
  refine Fn_G Go.Proofs.Tryd.func15 ok15 ?_
  by_cases c : l < xs.length
  · have hr : szR xs.length l = -1 := by unfold szR; rw [if_neg]; omega
    have c' : ¬ ((xs.length : Int) ≤ l) := by omega
    have d : l - (xs.length : Int) < 0 := by omega
    rw [hr]; simp [v15, r15, hw, c, c', d]
  · have hr : szR xs.length l = l - xs.length := by unfold szR; rw [if_pos]; omega
    have c' : (xs.length : Int) ≤ l := by omega
    have d : ¬ (l - (xs.length : Int) < 0) := by omega
    rw [hr]; simp [v15, r15, hw, c, c', d]
theorem szPlan (x : Plan) (hDists : ∀ l : Int, 0 ≤ l → l ≤ 1048576 → Says prog 15 [.rsl (List.length x.Dists) (Cs ((List.flatMap dInt x.Dists))), .int .i64 l] (.int .i64 (szR (List.length x.Dists) l)) []) : ∀ l : Int, 0 ≤ l → l ≤ 1048576 → Says prog 5 [.agg (Cs (Plan.d x)), .int .i64 l] (.int .i64 (szR (Plan.tot x) l)) [] := by
  intro l l0 lb
  refine Fn_G Go.Proofs.Tryd.func5 ok5 ?_
  have ht := Plan.tot_eq x
  have kDists := hDists (l) (by omega) (by omega)
  try simp at kDists
  by_cases cDists : (l) < ((List.length x.Dists) : Nat)
  · have eDists : ¬ ((((List.length x.Dists) : Nat) : Int) ≤ l) := by omega
    have fDists : l - (((List.length x.Dists) : Nat) : Int) < 0 := by omega
    have hr : szR (Plan.tot x) l = -1 := by unfold szR; rw [if_neg]; omega
    rw [hr]
    have hz : szR (List.length x.Dists) (l) = -1 := by unfold szR; rw [if_neg]; omega
    rw [hz] at kDists
    simp [v5, r5]
    refine callG kDists ?_
    simp
  · have hz : szR (List.length x.Dists) (l) = l - ((List.length x.Dists) : Int) := by unfold szR; rw [if_pos]; omega
    have hr : szR (Plan.tot x) l = l - ((List.length x.Dists) : Int) := by unfold szR; rw [if_pos] <;> omega
    rw [hr]
    rw [hz] at kDists
    have dDists : ¬ ((l - ((List.length x.Dists) : Int)) < 0) := by omega
    have eDists : ((((List.length x.Dists) : Nat) : Int) ≤ l) := by omega
    simp [v5, r5]
    refine callG kDists ?_
    simp [cDists, dDists, eDists]
end Go.AmC
