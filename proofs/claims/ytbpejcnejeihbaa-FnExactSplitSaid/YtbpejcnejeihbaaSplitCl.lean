/- Part of a proof: see the last text of this folder. -/
import Derived.Test.YtbpejcnejeihbaaSplitSz
import Derived.Test.YtbpejcnejeihbaaSplitTo
import Derived.Test.YtbpejcnejeihbaaSplitEq
import Derived.Test.YtbpejcnejeihbaaSplitDat
set_option linter.unusedSimpArgs false
set_option linter.unusedVariables false
set_option maxRecDepth 20000
set_option maxHeartbeats 4000000
namespace Go.AmC
open Go Go.AM
open Go.Proofs.Try (prog)
theorem sz_Exp : ∀ x : Exp, (Exp.lg x) → ∀ l : Int, 0 ≤ l → l ≤ 1048576 → Says prog 31 [.agg (Cs (Exp.d x)), .int .i64 l] (.int .i64 (szR (Exp.tot x) l)) [] := Exp.ind fun x ih h => by
  rw [Exp.lg_eq] at h
  obtain ⟨hS, hL⟩ := h
  exact szExp x hS (szExpS _ hL.1 (fun y hy => ih y hy (hL.2 y hy)))
theorem sz_ExpS (xs : List Exp) (h : List.length xs ≤ maxLen ∧ ∀ y ∈ xs, (Exp.lg y)) : ∀ l : Int, 0 ≤ l → l ≤ 1048576 → Says prog 57 [.rsl (List.length xs) (Cs ((List.flatMap Exp.d xs))), .int .i64 l] (.int .i64 (szR (List.length xs + (List.map Exp.tot xs).sum) l)) [] := szExpS _ h.1 (fun y hy => sz_Exp y (h.2 y hy))
theorem sz_Stmt : ∀ x : Stmt, (Stmt.lg x) → ∀ l : Int, 0 ≤ l → l ≤ 1048576 → Says prog 8 [.agg (Cs (Stmt.d x)), .int .i64 l] (.int .i64 (szR (Stmt.tot x) l)) [] := Stmt.ind fun x ih h => by
  rw [Stmt.lg_eq] at h
  obtain ⟨hS, hAt, hE, hLo, hHi, hBody⟩ := h
  exact szStmt x hS (sz_Exp _ hAt) (sz_Exp _ hE) (sz_Exp _ hLo) (sz_Exp _ hHi) (szStmtS _ hBody.1 (fun y hy => ih y hy (hBody.2 y hy)))
theorem sz_StmtS (xs : List Stmt) (h : List.length xs ≤ maxLen ∧ ∀ y ∈ xs, (Stmt.lg y)) : ∀ l : Int, 0 ≤ l → l ≤ 1048576 → Says prog 32 [.rsl (List.length xs) (Cs ((List.flatMap Stmt.d xs))), .int .i64 l] (.int .i64 (szR (List.length xs + (List.map Stmt.tot xs).sum) l)) [] := szStmtS _ h.1 (fun y hy => sz_Stmt y (h.2 y hy))
theorem to_Exp : ∀ x : Exp, (Exp.tot x) ≤ 1048576 → Says prog 34 [.agg (Cs (Exp.d x))] (.agg (Ows (Exp.d x))) [] := Exp.ind fun x ih h => by
  rw [Exp.tot_eq] at h
  exact toExp x (toExpS _ (by omega) (fun y hy => ih y hy (by have := mem_sum Exp.tot hy; omega)))
theorem to_ExpS (xs : List Exp) (h : (List.length xs + (List.map Exp.tot xs).sum) ≤ 1048576) : Says prog 61 [.rsl (List.length xs) (Cs ((List.flatMap Exp.d xs)))] (.osl 0 31 (List.length xs) (Ows ((List.flatMap Exp.d xs)))) [] := toExpS _ (by omega) (fun y hy => to_Exp y (by have := mem_sum Exp.tot hy; omega))
theorem to_Stmt : ∀ x : Stmt, (Stmt.tot x) ≤ 1048576 → Says prog 10 [.agg (Cs (Stmt.d x))] (.agg (Ows (Stmt.d x))) [] := Stmt.ind fun x ih h => by
  rw [Stmt.tot_eq] at h
  exact toStmt x (to_Exp _ (by omega)) (to_Exp _ (by omega)) (to_Exp _ (by omega)) (to_Exp _ (by omega)) (toStmtS _ (by omega) (fun y hy => ih y hy (by have := mem_sum Stmt.tot hy; omega)))
theorem to_StmtS (xs : List Stmt) (h : (List.length xs + (List.map Stmt.tot xs).sum) ≤ 1048576) : Says prog 35 [.rsl (List.length xs) (Cs ((List.flatMap Stmt.d xs)))] (.osl 0 34 (List.length xs) (Ows ((List.flatMap Stmt.d xs)))) [] := toStmtS _ (by omega) (fun y hy => to_Stmt y (by have := mem_sum Stmt.tot hy; omega))
theorem eq_Exp : ∀ x : Exp, (Exp.lg x) → Says prog 38 [.agg (Cs (Exp.d x)), .agg (Cs (Exp.d x))] (.bool true) [] := Exp.ind fun x ih h => by
  rw [Exp.lg_eq] at h
  obtain ⟨hS, hL⟩ := h
  exact eqExp x (eqExpS _ hL.1 (fun y hy => ih y hy (hL.2 y hy)))
theorem eq_ExpS (xs : List Exp) (h : List.length xs ≤ maxLen ∧ ∀ y ∈ xs, (Exp.lg y)) : Says prog 64 [.rsl (List.length xs) (Cs ((List.flatMap Exp.d xs))), .rsl (List.length xs) (Cs ((List.flatMap Exp.d xs)))] (.bool true) [] := eqExpS _ h.1 (fun y hy => eq_Exp y (h.2 y hy))
theorem eq_Stmt : ∀ x : Stmt, (Stmt.lg x) → Says prog 12 [.agg (Cs (Stmt.d x)), .agg (Cs (Stmt.d x))] (.bool true) [] := Stmt.ind fun x ih h => by
  rw [Stmt.lg_eq] at h
  obtain ⟨hS, hAt, hE, hLo, hHi, hBody⟩ := h
  exact eqStmt x (eq_Exp _ hAt) (eq_Exp _ hE) (eq_Exp _ hLo) (eq_Exp _ hHi) (eqStmtS _ hBody.1 (fun y hy => ih y hy (hBody.2 y hy)))
theorem eq_StmtS (xs : List Stmt) (h : List.length xs ≤ maxLen ∧ ∀ y ∈ xs, (Stmt.lg y)) : Says prog 28 [.rsl (List.length xs) (Cs ((List.flatMap Stmt.d xs))), .rsl (List.length xs) (Cs ((List.flatMap Stmt.d xs)))] (.bool true) [] := eqStmtS _ h.1 (fun y hy => eq_Stmt y (h.2 y hy))
end Go.AmC
