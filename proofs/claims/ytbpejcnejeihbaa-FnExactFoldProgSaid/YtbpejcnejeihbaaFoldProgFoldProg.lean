/- Part of a proof: see the last text of this folder. -/
import Derived.Test.YtbpejcnejeihbaaFoldProgFoldP
import Derived.Test.YtbpejcnejeihbaaFoldProgMk
set_option linter.unusedSimpArgs false
set_option linter.unusedVariables false
set_option maxRecDepth 20000
set_option maxHeartbeats 4000000
namespace Go.AmC
open Go Go.AM
open Go.Proofs.Try (prog)
theorem law_FoldProg (x : Prog) (h1 : Prog.lg x) : Says prog 4 [.agg (Cs (Prog.d x))] (.bool true) [] := by
  refine Fn_G Go.Proofs.Try.func4 ok4 ?_
  have z1 := sz_Prog x h1 (1048576 : Int) (by omega) (by omega)
  by_cases c1 : ((Prog.tot x : Nat) : Int) ≤ (1048576 : Int)
  · have e1 : szR (Prog.tot x) (1048576 : Int) = (1048576 : Int) - (Prog.tot x : Nat) := by unfold szR; rw [if_pos c1]
    have d1 : ¬ ((1048576 : Int) - (Prog.tot x : Nat) < 0) := by omega
    rw [e1] at z1
    have b1 : Prog.tot x ≤ 1048576 := by omega
    have t1 := to_Prog x b1
    have q1 := eq_Prog x h1
    have b2 : Prog.tot (foldP x) ≤ 1048576 := (by have := foldP_tot x; omega)
    have f1 := foldP_spec x b1
    have f2 := foldP_impl x b1
    generalize foldP x = g at *
    have q2 := eq_Prog g (tot_lgP g (by unfold maxLen; omega))
    have m1 := mark_Prog x b1 1 (by omega) (by omega)
    have m2 := mark_Prog g b2 1 (by omega) (by omega)
    have m3 := held_Prog g b2 1 (by omega) (by omega)
    have u1 : ¬ ((mkProgT x 1).2 < 0) := by have := mkProgT_bound x 1; omega
    have u2 : ¬ ((mkProgT g 1).2 < 0) := by have := mkProgT_bound g 1; omega
    try simp at z1
    try simp at t1
    try simp at q1
    try simp at q2
    try simp at f1
    try simp at f2
    simp [mkProgT] at m1
    simp [mkProgT] at m2
    simp [mkProgT] at m3
    simp only [mkProgT] at u1 u2
    simp [v4, r4]
    repeat' (first | refine callG (by assumption) ?_ | refine callD (by assumption) ?_ | refine callM [_, _] pl20 m1 ?_ | refine callM [_, _] pl20 m2 ?_ | (simp [d1, u1, u2]; done) | simp [d1, u1, u2])
  · have e1 : szR (Prog.tot x) (1048576 : Int) = -1 := by unfold szR; rw [if_neg c1]
    rw [e1] at z1
    try simp at z1
    simp [v4, r4]
    repeat' (first | refine callG (by assumption) ?_ | (simp; done) | simp)

end Go.AmC
