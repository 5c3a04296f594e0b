/- Part of a proof: see the last text of this folder. -/
import Derived.Test.YtapdppkplhgnjaaFoldExpC0
import Derived.Test.YtapdppkplhgnjaaFoldExpDat
set_option linter.unusedSimpArgs false
set_option linter.unusedVariables false
set_option maxRecDepth 20000
set_option maxHeartbeats 4000000
namespace Go.AmC
open Go Go.AM
open Go.Proofs.Try (prog)
theorem eqExpS (xs : List Exp) (hm : xs.length ≤ maxLen) (h : ∀ x ∈ xs, Says prog 24 [.agg (Cs (Exp.d x)), .agg (Cs (Exp.d x))] (.bool true) []) : Says prog 52 [.rsl (List.length xs) (Cs ((List.flatMap Exp.d xs))), .rsl (List.length xs) (Cs ((List.flatMap Exp.d xs)))] (.bool true) [] := by
  refine Fn_G Go.Proofs.Try.func52 ok52 ?_
  simp [v52, r52]
  refine G_loop (l := l52_0) (b := b52_0) rfl [] (fun i => [.rsl (List.length xs) (Cs ((List.flatMap Exp.d xs))), .rsl (List.length xs) (Cs ((List.flatMap Exp.d xs))), .bool false, .dead, .int .i64 (i : Int), .dead, .dead]) (fun _ => True) xs.length
    (fun ex en => ex = .exit 0 ∧ en = [.rsl (List.length xs) (Cs ((List.flatMap Exp.d xs))), .rsl (List.length xs) (Cs ((List.flatMap Exp.d xs))), .bool false, .dead, .int .i64 xs.length, .dead, .dead]) ?_ ?_ trivial (by simp) ?_
  · intro i hi _ q hn hx hr
    obtain ⟨x, hx0⟩ : ∃ x, xs[i]? = some x := ⟨_, List.getElem?_eq_getElem hi⟩
    have hrow := row_drop Exp.d 4 Exp.d_len hx0
    have hw : IntKind.i64.wrap ((i : Int) + 1) = ((i + 1 : Nat) : Int) := by unfold maxLen at hm; rw [wrap_small] <;> omega
    have hf := h x (List.mem_of_getElem? hx0)
    try simp at hf
    simp [hi, Cs_drop, hrow, hw]
    refine callD hf ?_
    simp [hw]
    refine hn _ ?_ trivial
    simp
  · intro _ q hx hr
    simp
    exact hx _ _ ⟨rfl, rfl⟩
  · rintro ex en ⟨rfl, rfl⟩
    simp
theorem eqExp (x : Exp) (hL : Says prog 52 [.rsl (List.length x.L) (Cs ((List.flatMap Exp.d x.L))), .rsl (List.length x.L) (Cs ((List.flatMap Exp.d x.L)))] (.bool true) []) : Says prog 24 [.agg (Cs (Exp.d x)), .agg (Cs (Exp.d x))] (.bool true) [] := by
  refine Fn_G Go.Proofs.Try.func24 ok24 ?_
  try simp at hL
  simp [v24, r24]
  refine callG hL ?_
  simp
end Go.AmC
