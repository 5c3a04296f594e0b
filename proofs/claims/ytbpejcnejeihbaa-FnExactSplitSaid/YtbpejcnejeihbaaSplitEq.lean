/- Part of a proof: see the last text of this folder. -/
import Derived.Test.YtbpejcnejeihbaaSplitC1
import Derived.Test.YtbpejcnejeihbaaSplitDat
set_option linter.unusedSimpArgs false
set_option linter.unusedVariables false
set_option maxRecDepth 20000
set_option maxHeartbeats 4000000
namespace Go.AmC
open Go Go.AM
open Go.Proofs.Try (prog)
theorem eqExpS (xs : List Exp) (hm : xs.length ≤ maxLen) (h : ∀ x ∈ xs, Says prog 38 [.agg (Cs (Exp.d x)), .agg (Cs (Exp.d x))] (.bool true) []) : Says prog 64 [.rsl (List.length xs) (Cs ((List.flatMap Exp.d xs))), .rsl (List.length xs) (Cs ((List.flatMap Exp.d xs)))] (.bool true) [] := by
  refine Fn_G Go.Proofs.Try.func64 ok64 ?_
  simp [v64, r64]
  refine G_loop (l := l64_0) (b := b64_0) rfl [] (fun i => [.rsl (List.length xs) (Cs ((List.flatMap Exp.d xs))), .rsl (List.length xs) (Cs ((List.flatMap Exp.d xs))), .bool false, .dead, .int .i64 (i : Int), .dead, .dead]) (fun _ => True) xs.length
    (fun ex en => ex = .exit 0 ∧ en = [.rsl (List.length xs) (Cs ((List.flatMap Exp.d xs))), .rsl (List.length xs) (Cs ((List.flatMap Exp.d xs))), .bool false, .dead, .int .i64 xs.length, .dead, .dead]) ?_ ?_ trivial (by simp) ?_
  · intro i hi _ q hn hx hr
    obtain ⟨x, hx0⟩ : ∃ x, xs[i]? = some x := ⟨_, List.getElem?_eq_getElem hi⟩
    have hrow := row_drop Exp.d 4 Exp.d_len hx0
    have hw : IntKind.i64.wrap ((i : Int) + 1) = ((i + 1 : Nat) : Int) := by unfold maxLen at hm; rw [wrap_small] <;> omega
    have hf := h x (List.mem_of_getElem? hx0)
    try simp at hf
    simp [hi, Cs_drop, hrow, hw]
    refine callD hf ?_
    simp [hw]
    refine hn _ ?_ trivial
    simp
  · intro _ q hx hr
    simp
    exact hx _ _ ⟨rfl, rfl⟩
  · rintro ex en ⟨rfl, rfl⟩
    simp
theorem eqExp (x : Exp) (hL : Says prog 64 [.rsl (List.length x.L) (Cs ((List.flatMap Exp.d x.L))), .rsl (List.length x.L) (Cs ((List.flatMap Exp.d x.L)))] (.bool true) []) : Says prog 38 [.agg (Cs (Exp.d x)), .agg (Cs (Exp.d x))] (.bool true) [] := by
  refine Fn_G Go.Proofs.Try.func38 ok38 ?_
  try simp at hL
  simp [v38, r38]
  refine callG hL ?_
  simp
theorem eqStmtS (xs : List Stmt) (hm : xs.length ≤ maxLen) (h : ∀ x ∈ xs, Says prog 12 [.agg (Cs (Stmt.d x)), .agg (Cs (Stmt.d x))] (.bool true) []) : Says prog 28 [.rsl (List.length xs) (Cs ((List.flatMap Stmt.d xs))), .rsl (List.length xs) (Cs ((List.flatMap Stmt.d xs)))] (.bool true) [] := by
  refine Fn_G Go.Proofs.Try.func28 ok28 ?_
  simp [v28, r28]
  refine G_loop (l := l28_0) (b := b28_0) rfl [] (fun i => [.rsl (List.length xs) (Cs ((List.flatMap Stmt.d xs))), .rsl (List.length xs) (Cs ((List.flatMap Stmt.d xs))), .bool false, .dead, .int .i64 (i : Int), .dead, .dead]) (fun _ => True) xs.length
    (fun ex en => ex = .exit 0 ∧ en = [.rsl (List.length xs) (Cs ((List.flatMap Stmt.d xs))), .rsl (List.length xs) (Cs ((List.flatMap Stmt.d xs))), .bool false, .dead, .int .i64 xs.length, .dead, .dead]) ?_ ?_ trivial (by simp) ?_
  · intro i hi _ q hn hx hr
    obtain ⟨x, hx0⟩ : ∃ x, xs[i]? = some x := ⟨_, List.getElem?_eq_getElem hi⟩
    have hrow := row_drop Stmt.d 19 Stmt.d_len hx0
    have hw : IntKind.i64.wrap ((i : Int) + 1) = ((i + 1 : Nat) : Int) := by unfold maxLen at hm; rw [wrap_small] <;> omega
    have hf := h x (List.mem_of_getElem? hx0)
    try simp at hf
    simp [hi, Cs_drop, hrow, hw]
    refine callD hf ?_
    simp [hw]
    refine hn _ ?_ trivial
    simp
  · intro _ q hx hr
    simp
    exact hx _ _ ⟨rfl, rfl⟩
  · rintro ex en ⟨rfl, rfl⟩
    simp
theorem eqStmt (x : Stmt) (hAt : Says prog 38 [.agg (Cs (Exp.d x.At)), .agg (Cs (Exp.d x.At))] (.bool true) []) (hE : Says prog 38 [.agg (Cs (Exp.d x.E)), .agg (Cs (Exp.d x.E))] (.bool true) []) (hLo : Says prog 38 [.agg (Cs (Exp.d x.Lo)), .agg (Cs (Exp.d x.Lo))] (.bool true) []) (hHi : Says prog 38 [.agg (Cs (Exp.d x.Hi)), .agg (Cs (Exp.d x.Hi))] (.bool true) []) (hBody : Says prog 28 [.rsl (List.length x.Body) (Cs ((List.flatMap Stmt.d x.Body))), .rsl (List.length x.Body) (Cs ((List.flatMap Stmt.d x.Body)))] (.bool true) []) : Says prog 12 [.agg (Cs (Stmt.d x)), .agg (Cs (Stmt.d x))] (.bool true) [] := by
  refine Fn_G Go.Proofs.Try.func12 ok12 ?_
  try simp at hAt
  try simp at hE
  try simp at hLo
  try simp at hHi
  try simp at hBody
  simp [v12, r12]
  refine callG hAt ?_
  simp
  refine callG hE ?_
  simp
  refine callG hLo ?_
  simp
  refine callG hHi ?_
  simp
  refine callG hBody ?_
  simp
end Go.AmC
