/- Part of a proof: see the last text of this folder. -/
import Derived.Test.YtapdppkplhgnjaaAgreeC0
import Derived.Test.YtapdppkplhgnjaaAgreeDat
set_option linter.unusedSimpArgs false
set_option linter.unusedVariables false
set_option maxRecDepth 20000
set_option maxHeartbeats 4000000
namespace Go.AmC
open Go Go.AM
open Go.Proofs.Try (prog)
theorem eqExpS (xs : List Exp) (hm : xs.length ≤ maxLen) (h : ∀ x ∈ xs, Says prog 24 [.agg (Cs (Exp.d x)), .agg (Cs (Exp.d x))] (.bool true) []) : Says prog 52 [.rsl (List.length xs) (Cs ((List.flatMap Exp.d xs))), .rsl (List.length xs) (Cs ((List.flatMap Exp.d xs)))] (.bool true) [] := by
  refine Fn_G Go.Proofs.Try.func52 ok52 ?_
  simp [v52, r52]
  refine G_loop (l := l52_0) (b := b52_0) rfl [] (fun i => [.rsl (List.length xs) (Cs ((List.flatMap Exp.d xs))), .rsl (List.length xs) (Cs ((List.flatMap Exp.d xs))), .bool false, .dead, .int .i64 (i : Int), .dead, .dead]) (fun _ => True) xs.length
    (fun ex en => ex = .exit 0 ∧ en = [.rsl (List.length xs) (Cs ((List.flatMap Exp.d xs))), .rsl (List.length xs) (Cs ((List.flatMap Exp.d xs))), .bool false, .dead, .int .i64 xs.length, .dead, .dead]) ?_ ?_ trivial (by simp) ?_
  · intro i hi _ q hn hx hr
    obtain ⟨x, hx0⟩ : ∃ x, xs[i]? = some x := ⟨_, List.getElem?_eq_getElem hi⟩
    have hrow := row_drop Exp.d 4 Exp.d_len hx0
    have hw : IntKind.i64.wrap ((i : Int) + 1) = ((i + 1 : Nat) : Int) := by unfold maxLen at hm; rw [wrap_small] <;> omega
    have hf := h x (List.mem_of_getElem? hx0)
    try simp at hf
    simp [hi, Cs_drop, hrow, hw]
    refine callD hf ?_
    simp [hw]
    refine hn _ ?_ trivial
    simp
  · intro _ q hx hr
    simp
    exact hx _ _ ⟨rfl, rfl⟩
  · rintro ex en ⟨rfl, rfl⟩
    simp
theorem eqExp (x : Exp) (hL : Says prog 52 [.rsl (List.length x.L) (Cs ((List.flatMap Exp.d x.L))), .rsl (List.length x.L) (Cs ((List.flatMap Exp.d x.L)))] (.bool true) []) : Says prog 24 [.agg (Cs (Exp.d x)), .agg (Cs (Exp.d x))] (.bool true) [] := by
  refine Fn_G Go.Proofs.Try.func24 ok24 ?_
  try simp at hL
  simp [v24, r24]
  refine callG hL ?_
  simp
theorem eqStmtS (xs : List Stmt) (hm : xs.length ≤ maxLen) (h : ∀ x ∈ xs, Says prog 14 [.agg (Cs (Stmt.d x)), .agg (Cs (Stmt.d x))] (.bool true) []) : Says prog 39 [.rsl (List.length xs) (Cs ((List.flatMap Stmt.d xs))), .rsl (List.length xs) (Cs ((List.flatMap Stmt.d xs)))] (.bool true) [] := by
  refine Fn_G Go.Proofs.Try.func39 ok39 ?_
  simp [v39, r39]
  refine G_loop (l := l39_0) (b := b39_0) rfl [] (fun i => [.rsl (List.length xs) (Cs ((List.flatMap Stmt.d xs))), .rsl (List.length xs) (Cs ((List.flatMap Stmt.d xs))), .bool false, .dead, .int .i64 (i : Int), .dead, .dead]) (fun _ => True) xs.length
    (fun ex en => ex = .exit 0 ∧ en = [.rsl (List.length xs) (Cs ((List.flatMap Stmt.d xs))), .rsl (List.length xs) (Cs ((List.flatMap Stmt.d xs))), .bool false, .dead, .int .i64 xs.length, .dead, .dead]) ?_ ?_ trivial (by simp) ?_
  · intro i hi _ q hn hx hr
    obtain ⟨x, hx0⟩ : ∃ x, xs[i]? = some x := ⟨_, List.getElem?_eq_getElem hi⟩
    have hrow := row_drop Stmt.d 19 Stmt.d_len hx0
    have hw : IntKind.i64.wrap ((i : Int) + 1) = ((i + 1 : Nat) : Int) := by unfold maxLen at hm; rw [wrap_small] <;> omega
    have hf := h x (List.mem_of_getElem? hx0)
    try simp at hf
    simp [hi, Cs_drop, hrow, hw]
    refine callD hf ?_
    simp [hw]
    refine hn _ ?_ trivial
    simp
  · intro _ q hx hr
    simp
    exact hx _ _ ⟨rfl, rfl⟩
  · rintro ex en ⟨rfl, rfl⟩
    simp
theorem eqStmt (x : Stmt) (hAt : Says prog 24 [.agg (Cs (Exp.d x.At)), .agg (Cs (Exp.d x.At))] (.bool true) []) (hE : Says prog 24 [.agg (Cs (Exp.d x.E)), .agg (Cs (Exp.d x.E))] (.bool true) []) (hLo : Says prog 24 [.agg (Cs (Exp.d x.Lo)), .agg (Cs (Exp.d x.Lo))] (.bool true) []) (hHi : Says prog 24 [.agg (Cs (Exp.d x.Hi)), .agg (Cs (Exp.d x.Hi))] (.bool true) []) (hBody : Says prog 39 [.rsl (List.length x.Body) (Cs ((List.flatMap Stmt.d x.Body))), .rsl (List.length x.Body) (Cs ((List.flatMap Stmt.d x.Body)))] (.bool true) []) : Says prog 14 [.agg (Cs (Stmt.d x)), .agg (Cs (Stmt.d x))] (.bool true) [] := by
  refine Fn_G Go.Proofs.Try.func14 ok14 ?_
  try simp at hAt
  try simp at hE
  try simp at hLo
  try simp at hHi
  try simp at hBody
  simp [v14, r14]
  refine callG hAt ?_
  simp
  refine callG hE ?_
  simp
  refine callG hLo ?_
  simp
  refine callG hHi ?_
  simp
  refine callG hBody ?_
  simp
theorem eqArr (x : Arr) : Says prog 78 [.agg (Cs (Arr.d x)), .agg (Cs (Arr.d x))] (.bool true) [] := by
  refine Fn_G Go.Proofs.Try.func78 ok78 ?_
  simp [v78, r78]
theorem eqArrS (xs : List Arr) (hm : xs.length ≤ maxLen) (h : ∀ x ∈ xs, Says prog 78 [.agg (Cs (Arr.d x)), .agg (Cs (Arr.d x))] (.bool true) []) : Says prog 63 [.rsl (List.length xs) (Cs ((List.flatMap Arr.d xs))), .rsl (List.length xs) (Cs ((List.flatMap Arr.d xs)))] (.bool true) [] := by
  refine Fn_G Go.Proofs.Try.func63 ok63 ?_
  simp [v63, r63]
  refine G_loop (l := l63_0) (b := b63_0) rfl [] (fun i => [.rsl (List.length xs) (Cs ((List.flatMap Arr.d xs))), .rsl (List.length xs) (Cs ((List.flatMap Arr.d xs))), .bool false, .dead, .int .i64 (i : Int), .dead, .dead]) (fun _ => True) xs.length
    (fun ex en => ex = .exit 0 ∧ en = [.rsl (List.length xs) (Cs ((List.flatMap Arr.d xs))), .rsl (List.length xs) (Cs ((List.flatMap Arr.d xs))), .bool false, .dead, .int .i64 xs.length, .dead, .dead]) ?_ ?_ trivial (by simp) ?_
  · intro i hi _ q hn hx hr
    obtain ⟨x, hx0⟩ : ∃ x, xs[i]? = some x := ⟨_, List.getElem?_eq_getElem hi⟩
    have hrow := row_drop Arr.d 2 Arr.d_len hx0
    have hw : IntKind.i64.wrap ((i : Int) + 1) = ((i + 1 : Nat) : Int) := by unfold maxLen at hm; rw [wrap_small] <;> omega
    have hf := h x (List.mem_of_getElem? hx0)
    try simp at hf
    simp [hi, Cs_drop, hrow, hw]
    refine callD hf ?_
    simp [hw]
    refine hn _ ?_ trivial
    simp
  · intro _ q hx hr
    simp
    exact hx _ _ ⟨rfl, rfl⟩
  · rintro ex en ⟨rfl, rfl⟩
    simp
theorem eqProg (x : Prog) (hArrs : Says prog 63 [.rsl (List.length x.Arrs) (Cs ((List.flatMap Arr.d x.Arrs))), .rsl (List.length x.Arrs) (Cs ((List.flatMap Arr.d x.Arrs)))] (.bool true) []) (hBody : Says prog 39 [.rsl (List.length x.Body) (Cs ((List.flatMap Stmt.d x.Body))), .rsl (List.length x.Body) (Cs ((List.flatMap Stmt.d x.Body)))] (.bool true) []) : Says prog 33 [.agg (Cs (Prog.d x)), .agg (Cs (Prog.d x))] (.bool true) [] := by
  refine Fn_G Go.Proofs.Try.func33 ok33 ?_
  try simp at hArrs
  try simp at hBody
  simp [v33, r33]
  refine callG hArrs ?_
  simp
  refine callG hBody ?_
  simp
theorem eqIntS (xs : List Int) (hm : xs.length ≤ maxLen) : Says prog 44 [.rsl (List.length xs) (Cs ((List.flatMap dInt xs))), .rsl (List.length xs) (Cs ((List.flatMap dInt xs)))] (.bool true) [] := by
  refine Fn_G Go.Proofs.Try.func44 ok44 ?_
  simp [v44, r44]
  refine G_loop (l := l44_0) (b := b44_0) rfl [] (fun i => [.rsl (List.length xs) (Cs ((List.flatMap dInt xs))), .rsl (List.length xs) (Cs ((List.flatMap dInt xs))), .bool false, .dead, .int .i64 (i : Int), .dead, .dead]) (fun _ => True) xs.length
    (fun ex en => ex = .exit 0 ∧ en = [.rsl (List.length xs) (Cs ((List.flatMap dInt xs))), .rsl (List.length xs) (Cs ((List.flatMap dInt xs))), .bool false, .dead, .int .i64 xs.length, .dead, .dead]) ?_ ?_ trivial (by simp) ?_
  · intro i hi _ q hn hx hr
    obtain ⟨x, hx0⟩ : ∃ x, xs[i]? = some x := ⟨_, List.getElem?_eq_getElem hi⟩
    have hrow := row_drop dInt 1 (fun _ => by simp) hx0
    rw [Nat.mul_one] at hrow
    have hw : IntKind.i64.wrap ((i : Int) + 1) = ((i + 1 : Nat) : Int) := by unfold maxLen at hm; rw [wrap_small] <;> omega
    simp [hi, Cs_drop, hrow, hw]
    refine hn _ ?_ trivial
    simp
  · intro _ q hx hr
    simp
    exact hx _ _ ⟨rfl, rfl⟩
  · rintro ex en ⟨rfl, rfl⟩
    simp
theorem eqIntSS (xs : List (List Int)) (hm : xs.length ≤ maxLen) (h : ∀ x ∈ xs, Says prog 44 [.rsl (List.length x) (Cs ((List.flatMap dInt x))), .rsl (List.length x) (Cs ((List.flatMap dInt x)))] (.bool true) []) : Says prog 64 [.rsl (List.length xs) (Cs ((List.flatMap dIntS xs))), .rsl (List.length xs) (Cs ((List.flatMap dIntS xs)))] (.bool true) [] := by
  refine Fn_G Go.Proofs.Try.func64 ok64 ?_
  simp [v64, r64]
  refine G_loop (l := l64_0) (b := b64_0) rfl [] (fun i => [.rsl (List.length xs) (Cs ((List.flatMap dIntS xs))), .rsl (List.length xs) (Cs ((List.flatMap dIntS xs))), .bool false, .dead, .int .i64 (i : Int), .dead, .dead]) (fun _ => True) xs.length
    (fun ex en => ex = .exit 0 ∧ en = [.rsl (List.length xs) (Cs ((List.flatMap dIntS xs))), .rsl (List.length xs) (Cs ((List.flatMap dIntS xs))), .bool false, .dead, .int .i64 xs.length, .dead, .dead]) ?_ ?_ trivial (by simp) ?_
  · intro i hi _ q hn hx hr
    obtain ⟨x, hx0⟩ : ∃ x, xs[i]? = some x := ⟨_, List.getElem?_eq_getElem hi⟩
    have hrow := row_drop dIntS 1 (fun _ => by simp) hx0
    rw [Nat.mul_one] at hrow
    have hw : IntKind.i64.wrap ((i : Int) + 1) = ((i + 1 : Nat) : Int) := by unfold maxLen at hm; rw [wrap_small] <;> omega
    have hf := h x (List.mem_of_getElem? hx0)
    try simp at hf
    simp [hi, Cs_drop, hrow, hw]
    refine callD hf ?_
    simp [hw]
    refine hn _ ?_ trivial
    simp
  · intro _ q hx hr
    simp
    exact hx _ _ ⟨rfl, rfl⟩
  · rintro ex en ⟨rfl, rfl⟩
    simp
theorem eqSto (x : Sto) (hA : Says prog 64 [.rsl (List.length x.A) (Cs ((List.flatMap dIntS x.A))), .rsl (List.length x.A) (Cs ((List.flatMap dIntS x.A)))] (.bool true) []) (hV : Says prog 44 [.rsl (List.length x.V) (Cs ((List.flatMap dInt x.V))), .rsl (List.length x.V) (Cs ((List.flatMap dInt x.V)))] (.bool true) []) (hOut : Says prog 44 [.rsl (List.length x.Out) (Cs ((List.flatMap dInt x.Out))), .rsl (List.length x.Out) (Cs ((List.flatMap dInt x.Out)))] (.bool true) []) : Says prog 34 [.agg (Cs (Sto.d x)), .agg (Cs (Sto.d x))] (.bool true) [] := by
  refine Fn_G Go.Proofs.Try.func34 ok34 ?_
  try simp at hA
  try simp at hV
  try simp at hOut
  simp [v34, r34]
  refine callG hA ?_
  simp
  refine callG hV ?_
  simp
  refine callG hOut ?_
  simp
end Go.AmC
