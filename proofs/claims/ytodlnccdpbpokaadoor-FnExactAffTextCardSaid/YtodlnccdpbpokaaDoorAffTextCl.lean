/- Part of a proof: see the last text of this folder. -/
import Derived.Test.YtodlnccdpbpokaaDoorAffTextSz
import Derived.Test.YtodlnccdpbpokaaDoorAffTextTo
import Derived.Test.YtodlnccdpbpokaaDoorAffTextEq
import Derived.Test.YtodlnccdpbpokaaDoorAffTextDat
set_option linter.unusedSimpArgs false
set_option linter.unusedVariables false
set_option maxRecDepth 20000
set_option maxHeartbeats 4000000
namespace Go.AmC
open Go Go.AM
open Go.Proofs.Tryd (prog)
theorem sz_Term (x : Term) (h : (Term.lg x)) : ∀ l : Int, 0 ≤ l → l ≤ 1048576 → Says prog 27 [.agg (Cs (Term.d x)), .int .i64 l] (.int .i64 (szR (Term.tot x) l)) [] := by
  rw [Term.lg_eq] at h
  have hName := h
  exact szTerm x hName
theorem sz_TermS (xs : List Term) (h : List.length xs ≤ maxLen ∧ ∀ y ∈ xs, (Term.lg y)) : ∀ l : Int, 0 ≤ l → l ≤ 1048576 → Says prog 20 [.rsl (List.length xs) (Cs ((List.flatMap Term.d xs))), .int .i64 l] (.int .i64 (szR (List.length xs + (List.map Term.tot xs).sum) l)) [] := szTermS _ h.1 (fun y hy => sz_Term y (h.2 y hy))
theorem sz_Aff (x : Aff) (h : (Aff.lg x)) : ∀ l : Int, 0 ≤ l → l ≤ 1048576 → Says prog 10 [.agg (Cs (Aff.d x)), .int .i64 l] (.int .i64 (szR (Aff.tot x) l)) [] := by
  rw [Aff.lg_eq] at h
  have hT := h
  exact szAff x (sz_TermS _ hT)
theorem to_Term (x : Term) (h : (Term.tot x) ≤ 1048576) : Says prog 30 [.agg (Cs (Term.d x))] (.agg (Ows (Term.d x))) [] := by
  rw [Term.tot_eq] at h
  exact toTerm x
theorem to_TermS (xs : List Term) (h : (List.length xs + (List.map Term.tot xs).sum) ≤ 1048576) : Says prog 22 [.rsl (List.length xs) (Cs ((List.flatMap Term.d xs)))] (.osl 0 49 (List.length xs) (Ows ((List.flatMap Term.d xs)))) [] := toTermS _ (by omega) (fun y hy => to_Term y (by have := mem_sum Term.tot hy; omega))
theorem to_Aff (x : Aff) (h : (Aff.tot x) ≤ 1048576) : Says prog 12 [.agg (Cs (Aff.d x))] (.agg (Ows (Aff.d x))) [] := by
  rw [Aff.tot_eq] at h
  exact toAff x (to_TermS _ (by omega))
theorem eq_Term (x : Term) (h : (Term.lg x)) : Says prog 36 [.agg (Cs (Term.d x)), .agg (Cs (Term.d x))] (.bool true) [] := by
  rw [Term.lg_eq] at h
  have hName := h
  exact eqTerm x
theorem eq_TermS (xs : List Term) (h : List.length xs ≤ maxLen ∧ ∀ y ∈ xs, (Term.lg y)) : Says prog 25 [.rsl (List.length xs) (Cs ((List.flatMap Term.d xs))), .rsl (List.length xs) (Cs ((List.flatMap Term.d xs)))] (.bool true) [] := eqTermS _ h.1 (fun y hy => eq_Term y (h.2 y hy))
theorem eq_Aff (x : Aff) (h : (Aff.lg x)) : Says prog 14 [.agg (Cs (Aff.d x)), .agg (Cs (Aff.d x))] (.bool true) [] := by
  rw [Aff.lg_eq] at h
  have hT := h
  exact eqAff x (eq_TermS _ hT)
end Go.AmC
