/- Part of a proof: see the last text of this folder. -/
import Derived.Test.YtapdppkplhgnjaaFoldExpFold
import Derived.Test.YtapdppkplhgnjaaFoldExpMk
set_option linter.unusedSimpArgs false
set_option linter.unusedVariables false
set_option maxRecDepth 20000
set_option maxHeartbeats 4000000
namespace Go.AmC
open Go Go.AM
open Go.Proofs.Try (prog)

theorem law_FoldExp (x : Exp) (h1 : Exp.lg x) : Says prog 6 [.agg (Cs (Exp.d x))] (.bool true) [] := by
  refine Fn_G Go.Proofs.Try.func6 ok6 ?_
  have z1 := sz_Exp x h1 (1048576 : Int) (by omega) (by omega)
  by_cases c1 : ((Exp.tot x : Nat) : Int) ≤ (1048576 : Int)
  · have e1 : szR (Exp.tot x) (1048576 : Int) = (1048576 : Int) - (Exp.tot x : Nat) := by unfold szR; rw [if_pos c1]
    have d1 : ¬ ((1048576 : Int) - (Exp.tot x : Nat) < 0) := by omega
    rw [e1] at z1
    have b1 : Exp.tot x ≤ 1048576 := by omega
    have t1 := to_Exp x b1
    have q1 := eq_Exp x h1
    have b2 : Exp.tot (foldE x) ≤ 1048576 := (by have := foldE_tot x; omega)
    have f1 := fold_spec x b1
    have f2 := fold_impl x b1
    generalize foldE x = g at *
    have q2 := eq_Exp g (tot_lg g (by unfold maxLen; omega))
    have m1 := mark_Exp x b1 1 (by omega) (by omega)
    have m2 := mark_Exp g b2 1 (by omega) (by omega)
    have m3 := held_Exp g b2 1 (by omega) (by omega)
    have u1 : ¬ ((mkExpT x 1).2 < 0) := by have := mkExpT_bound x 1; omega
    have u2 : ¬ ((mkExpT g 1).2 < 0) := by have := mkExpT_bound g 1; omega
    try simp at z1
    try simp at t1
    try simp at q1
    try simp at q2
    try simp at f1
    try simp at f2
    simp [mkExpT, mkExpT] at m1
    simp [mkExpT, mkExpT] at m2
    simp [mkExpT, mkExpT] at m3
    simp only [mkExpT, mkExpT] at u1 u2
    simp [v6, r6]
    repeat' (first | refine callG (by assumption) ?_ | refine callD (by assumption) ?_ | refine callM [_] pl25 m1 ?_ | refine callM [_] pl25 m2 ?_ | (simp [d1, u1, u2]; done) | simp [d1, u1, u2])
  · have e1 : szR (Exp.tot x) (1048576 : Int) = -1 := by unfold szR; rw [if_neg c1]
    rw [e1] at z1
    try simp at z1
    simp [v6, r6]
    repeat' (first | refine callG (by assumption) ?_ | (simp; done) | simp)

end Go.AmC
