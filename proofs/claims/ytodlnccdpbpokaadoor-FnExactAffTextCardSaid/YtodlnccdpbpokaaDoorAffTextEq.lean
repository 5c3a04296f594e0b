/- Part of a proof: see the last text of this folder. -/
import Derived.Test.YtodlnccdpbpokaaDoorAffTextC0
import Derived.Test.YtodlnccdpbpokaaDoorAffTextDat
set_option linter.unusedSimpArgs false
set_option linter.unusedVariables false
set_option maxRecDepth 20000
set_option maxHeartbeats 4000000
namespace Go.AmC
open Go Go.AM
open Go.Proofs.Tryd (prog)
theorem eqTerm (x : Term) : Says prog 36 [.agg (Cs (Term.d x)), .agg (Cs (Term.d x))] (.bool true) [] := by
  refine Fn_G Go.Proofs.Tryd.func36 ok36 ?_
  simp [v36, r36]
theorem eqTermS (xs : List Term) (hm : xs.length ≤ maxLen) (h : ∀ x ∈ xs, Says prog 36 [.agg (Cs (Term.d x)), .agg (Cs (Term.d x))] (.bool true) []) : Says prog 25 [.rsl (List.length xs) (Cs ((List.flatMap Term.d xs))), .rsl (List.length xs) (Cs ((List.flatMap Term.d xs)))] (.bool true) [] := by
  refine Fn_G Go.Proofs.Tryd.func25 ok25 ?_
  simp [v25, r25]
  refine G_loop (l := l25_0) (b := b25_0) rfl [] (fun i => [.rsl (List.length xs) (Cs ((List.flatMap Term.d xs))), .rsl (List.length xs) (Cs ((List.flatMap Term.d xs))), .bool false, .dead, .int .i64 (i : Int), .dead, .dead]) (fun _ => True) xs.length
    (fun ex en => ex = .exit 0 ∧ en = [.rsl (List.length xs) (Cs ((List.flatMap Term.d xs))), .rsl (List.length xs) (Cs ((List.flatMap Term.d xs))), .bool false, .dead, .int .i64 xs.length, .dead, .dead]) ?_ ?_ trivial (by simp) ?_
  · intro i hi _ q hn hx hr
    obtain ⟨x, hx0⟩ : ∃ x, xs[i]? = some x := ⟨_, List.getElem?_eq_getElem hi⟩
    have hrow := row_drop Term.d 2 Term.d_len hx0
    have hw : IntKind.i64.wrap ((i : Int) + 1) = ((i + 1 : Nat) : Int) := by unfold maxLen at hm; rw [wrap_small] <;> omega
    have hf := h x (List.mem_of_getElem? hx0)
    try simp at hf
    simp [hi, Cs_drop, hrow, hw]
    refine callD hf ?_
    simp [hw]
    refine hn _ ?_ trivial
    simp
  · intro _ q hx hr
    simp
    exact hx _ _ ⟨rfl, rfl⟩
  · rintro ex en ⟨rfl, rfl⟩
    simp
theorem eqAff (x : Aff) (hT : Says prog 25 [.rsl (List.length x.T) (Cs ((List.flatMap Term.d x.T))), .rsl (List.length x.T) (Cs ((List.flatMap Term.d x.T)))] (.bool true) []) : Says prog 14 [.agg (Cs (Aff.d x)), .agg (Cs (Aff.d x))] (.bool true) [] := by
  refine Fn_G Go.Proofs.Tryd.func14 ok14 ?_
  try simp at hT
  simp [v14, r14]
  refine callG hT ?_
  simp
end Go.AmC
