/- Part of a proof: see the last text of this folder. -/
import Derived.Test.YtbpejcnejeihbaaCanSplitBoxO
import Derived.Test.YtbpejcnejeihbaaCanSplitCl
set_option linter.unusedSimpArgs false
set_option linter.unusedVariables false
set_option maxRecDepth 20000
set_option maxHeartbeats 4000000
namespace Go.AmC
open Go Go.AM
open Go.Proofs.Try (prog)

theorem law_CanSplit (s : Stmt) (a : Int) (h1 : Stmt.lg s) : Says prog 5 [.agg (Cs (Stmt.d s)), .int .i64 a] (.bool true) [] := by
  refine Fn_G Go.Proofs.Try.func5 ok5 ?_
  have z1 := sz_Stmt s h1 ((1048576 : Int)) (by omega) (by omega)
  by_cases c1 : ((Stmt.tot s : Nat) : Int) ≤ (1048576 : Int)
  · have e1 : szR (Stmt.tot s) ((1048576 : Int)) = (1048576 : Int) - (Stmt.tot s : Nat) := by unfold szR; rw [if_pos c1]
    have d1 : ¬ ((1048576 : Int) - (Stmt.tot s : Nat) < 0) := by omega
    rw [e1] at z1
    have b1 : Stmt.tot s ≤ 1048576 := by omega
    have t1 := to_Stmt s b1
    have q1 := eq_Stmt s h1
    have f1 := split_spec s a (by omega)
    have f2 := split_impl s a (by omega)
    try simp at z1
    try simp at t1
    try simp at q1
    try simp at f1
    try simp at f2
    simp [v5, r5]
    repeat' (first | refine callG (by assumption) ?_ | refine callD (by assumption) ?_ | (simp [d1]; done) | simp [d1])
  · have e1 : szR (Stmt.tot s) ((1048576 : Int)) = -1 := by unfold szR; rw [if_neg c1]
    rw [e1] at z1
    try simp at z1
    simp [v5, r5]
    repeat' (first | refine callG (by assumption) ?_ | (simp []; done) | simp [])

end Go.AmC
