/- Part of a proof: see the last text of this folder. -/
import Derived.Test.YtbpejcnejeihbaaFoldStmtFoldS
import Derived.Test.YtbpejcnejeihbaaFoldStmtMk
set_option linter.unusedSimpArgs false
set_option linter.unusedVariables false
set_option maxRecDepth 20000
set_option maxHeartbeats 4000000
namespace Go.AmC
open Go Go.AM
open Go.Proofs.Try (prog)
theorem law_FoldStmt (x : Stmt) (h1 : Stmt.lg x) : Says prog 3 [.agg (Cs (Stmt.d x))] (.bool true) [] := by
  refine Fn_G Go.Proofs.Try.func3 ok3 ?_
  have z1 := sz_Stmt x h1 (1048576 : Int) (by omega) (by omega)
  by_cases c1 : ((Stmt.tot x : Nat) : Int) ≤ (1048576 : Int)
  · have e1 : szR (Stmt.tot x) (1048576 : Int) = (1048576 : Int) - (Stmt.tot x : Nat) := by unfold szR; rw [if_pos c1]
    have d1 : ¬ ((1048576 : Int) - (Stmt.tot x : Nat) < 0) := by omega
    rw [e1] at z1
    have b1 : Stmt.tot x ≤ 1048576 := by omega
    have t1 := to_Stmt x b1
    have q1 := eq_Stmt x h1
    have b2 : Stmt.tot (foldS x) ≤ 1048576 := (by have := foldS_tot x; omega)
    have f1 := foldS_spec x b1
    have f2 := foldS_impl x b1
    generalize foldS x = g at *
    have q2 := eq_Stmt g (tot_lgS g (by unfold maxLen; omega))
    have m1 := mark_Stmt x b1 1 (by omega) (by omega)
    have m2 := mark_Stmt g b2 1 (by omega) (by omega)
    have m3 := held_Stmt g b2 1 (by omega) (by omega)
    have u1 : ¬ ((mkStmtT x 1).2 < 0) := by have := mkStmtT_bound x 1; omega
    have u2 : ¬ ((mkStmtT g 1).2 < 0) := by have := mkStmtT_bound g 1; omega
    try simp at z1
    try simp at t1
    try simp at q1
    try simp at q2
    try simp at f1
    try simp at f2
    simp [mkStmtT, mkExpT] at m1
    simp [mkStmtT, mkExpT] at m2
    simp [mkStmtT, mkExpT] at m3
    simp only [mkStmtT, mkExpT] at u1 u2
    simp [v3, r3]
    repeat' (first | refine callG (by assumption) ?_ | refine callD (by assumption) ?_ | refine callM [_, _, _, _, _] pl13 m1 ?_ | refine callM [_, _, _, _, _] pl13 m2 ?_ | (simp [d1, u1, u2]; done) | simp [d1, u1, u2])
  · have e1 : szR (Stmt.tot x) (1048576 : Int) = -1 := by unfold szR; rw [if_neg c1]
    rw [e1] at z1
    try simp at z1
    simp [v3, r3]
    repeat' (first | refine callG (by assumption) ?_ | (simp; done) | simp)

end Go.AmC
