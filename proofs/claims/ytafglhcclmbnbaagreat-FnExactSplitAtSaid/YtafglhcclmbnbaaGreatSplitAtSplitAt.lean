/- Part of a proof: see the last text of this folder. -/
import Derived.Test.YtafglhcclmbnbaaGreatSplitAtSplitAtR
import Derived.Test.YtafglhcclmbnbaaGreatSplitAtMk
set_option linter.unusedSimpArgs false
set_option linter.unusedVariables false
set_option maxRecDepth 20000
set_option maxHeartbeats 4000000
namespace Go.AmC
open Go Go.AM
open Go.Proofs.Tryz (prog)
theorem tot_lgA (x : Arr) (h : x.tot ≤ maxLen) : x.lg := by
  rw [Arr.tot_eq] at h; rw [Arr.lg_eq]; omega
theorem tot_lgP (x : Prog) (h : x.tot ≤ maxLen) : x.lg := by
  rw [Prog.tot_eq] at h
  rw [Prog.lg_eq]
  refine ⟨⟨by omega, fun y hy => tot_lgA y ?_⟩, by omega, fun y hy => tot_lgS y ?_⟩
  · have := mem_sum Arr.tot hy; omega
  · have := mem_sum Stmt.tot hy; omega
theorem splitAtP_tot (p : Prog) (i n : Int) (h : p.tot ≤ 1048576) : (splitAtP p i n).1.tot ≤ 4194304 := by
  unfold splitAtP
  split
  · split
    · rename_i x hx
      split
      · have := splitAt_tot p i.toNat x n hx h; simp only; omega
      · simp only; omega
    · simp only; omega
  · simp only; omega
theorem law_SplitAt (p : Prog) (i a : Int) (h1 : Prog.lg p) : Says prog 3 [.agg (Cs (Prog.d p)), .int .i64 i, .int .i64 a] (.bool true) [] := by
  refine Fn_G Go.Proofs.Tryz.func3 ok3 ?_
  have z1 := sz_Prog p h1 (1048576 : Int) (by omega) (by omega)
  by_cases c1 : ((Prog.tot p : Nat) : Int) ≤ (1048576 : Int)
  · have e1 : szR (Prog.tot p) (1048576 : Int) = (1048576 : Int) - (Prog.tot p : Nat) := by unfold szR; rw [if_pos c1]
    have d1 : ¬ ((1048576 : Int) - (Prog.tot p : Nat) < 0) := by omega
    rw [e1] at z1
    have b1 : Prog.tot p ≤ 1048576 := by omega
    have t1 := to_Prog p b1
    have q1 := eq_Prog p h1
    have b2 := splitAtP_tot p i a b1
    have f1 := splitAt_spec p i a b1
    have f2 := splitAt_impl p i a b1
    generalize splitAtP p i a = gg at *
    obtain ⟨g, fl⟩ := gg
    simp only at b2
    have q2 := eq_Prog g (tot_lgP g (by unfold maxLen; omega))
    have m1 := mark_Prog p (by omega) 1 (by omega) (by omega)
    have m2 := mark_Prog g (by omega) 1 (by omega) (by omega)
    have m3 := held_Prog g (by omega) 1 (by omega) (by omega)
    have u1 : ¬ ((mkProgT p 1).2 < 0) := by have := mkProgT_bound p 1; omega
    have u2 : ¬ ((mkProgT g 1).2 < 0) := by have := mkProgT_bound g 1; omega
    simp at z1 t1 q1 q2 f1 f2
    simp [mkProgT] at m1
    simp [mkProgT] at m2
    simp [mkProgT] at m3
    simp only [mkProgT] at u1 u2
    simp [v3, r3]
    repeat' (first | refine callG (by assumption) ?_ | refine callGF (by assumption) ?_ | refine callD (by assumption) ?_ | refine callM [_, _] pl15 m1 ?_ | refine callM [_, _] pl15 m2 ?_ | (simp [d1, u1, u2]; done) | simp [d1, u1, u2])
  · have e1 : szR (Prog.tot p) (1048576 : Int) = -1 := by unfold szR; rw [if_neg c1]
    rw [e1] at z1
    try simp at z1
    simp [v3, r3]
    repeat' (first | refine callG (by assumption) ?_ | (simp; done) | simp)
end Go.AmC
