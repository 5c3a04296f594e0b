/- Part of a proof: see the last text of this folder. -/
import Derived.Test.YtapdppkplhgnjaaFoldExpSz
import Derived.Test.YtapdppkplhgnjaaFoldExpTo
import Derived.Test.YtapdppkplhgnjaaFoldExpEq
import Derived.Test.YtapdppkplhgnjaaFoldExpDat
set_option linter.unusedSimpArgs false
set_option linter.unusedVariables false
set_option maxRecDepth 20000
set_option maxHeartbeats 4000000
namespace Go.AmC
open Go Go.AM
open Go.Proofs.Try (prog)
theorem sz_Exp : ∀ x : Exp, (Exp.lg x) → ∀ l : Int, 0 ≤ l → l ≤ 1048576 → Says prog 20 [.agg (Cs (Exp.d x)), .int .i64 l] (.int .i64 (szR (Exp.tot x) l)) [] := Exp.ind fun x ih h => by
  rw [Exp.lg_eq] at h
  obtain ⟨hS, hL⟩ := h
  exact szExp x hS (szExpS _ hL.1 (fun y hy => ih y hy (hL.2 y hy)))
theorem sz_ExpS (xs : List Exp) (h : List.length xs ≤ maxLen ∧ ∀ y ∈ xs, (Exp.lg y)) : ∀ l : Int, 0 ≤ l → l ≤ 1048576 → Says prog 46 [.rsl (List.length xs) (Cs ((List.flatMap Exp.d xs))), .int .i64 l] (.int .i64 (szR (List.length xs + (List.map Exp.tot xs).sum) l)) [] := szExpS _ h.1 (fun y hy => sz_Exp y (h.2 y hy))
theorem to_Exp : ∀ x : Exp, (Exp.tot x) ≤ 1048576 → Says prog 22 [.agg (Cs (Exp.d x))] (.agg (Ows (Exp.d x))) [] := Exp.ind fun x ih h => by
  rw [Exp.tot_eq] at h
  exact toExp x (toExpS _ (by omega) (fun y hy => ih y hy (by have := mem_sum Exp.tot hy; omega)))
theorem to_ExpS (xs : List Exp) (h : (List.length xs + (List.map Exp.tot xs).sum) ≤ 1048576) : Says prog 49 [.rsl (List.length xs) (Cs ((List.flatMap Exp.d xs)))] (.osl 0 34 (List.length xs) (Ows ((List.flatMap Exp.d xs)))) [] := toExpS _ (by omega) (fun y hy => to_Exp y (by have := mem_sum Exp.tot hy; omega))
theorem eq_Exp : ∀ x : Exp, (Exp.lg x) → Says prog 24 [.agg (Cs (Exp.d x)), .agg (Cs (Exp.d x))] (.bool true) [] := Exp.ind fun x ih h => by
  rw [Exp.lg_eq] at h
  obtain ⟨hS, hL⟩ := h
  exact eqExp x (eqExpS _ hL.1 (fun y hy => ih y hy (hL.2 y hy)))
theorem eq_ExpS (xs : List Exp) (h : List.length xs ≤ maxLen ∧ ∀ y ∈ xs, (Exp.lg y)) : Says prog 52 [.rsl (List.length xs) (Cs ((List.flatMap Exp.d xs))), .rsl (List.length xs) (Cs ((List.flatMap Exp.d xs)))] (.bool true) [] := eqExpS _ h.1 (fun y hy => eq_Exp y (h.2 y hy))
end Go.AmC
