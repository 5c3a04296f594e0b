/- Part of a proof: see the last text of this folder. -/
import Derived.Test.YtapdppkplhgnjaaKindTextIn
set_option linter.unusedSimpArgs false
set_option linter.unusedVariables false
set_option maxRecDepth 20000
set_option maxHeartbeats 4000000
namespace Go.AmC
open Go Go.AM
open Go.Proofs.Try (prog)

def kindT (k : Int) : List UInt8 := if 0 ≤ k ∧ k ≤ 6 then [[110, 111, 110, 101], [97, 115, 107, 101, 100], [115, 117, 109], [109, 105, 110], [109, 97, 120], [111, 119, 110], [116, 105, 101, 100]].getD k.toNat [] else []

theorem kind_impl (k : Int) : Says prog 9 [.int .i64 k] (.str (kindT k)) [] := by
  refine Fn_G Go.Proofs.Try.func9 ok9 ?_
  simp [v9, r9]
  refine callG (in_impl k 0 6) ?_
  by_cases h : 0 ≤ k ∧ k ≤ 6
  · obtain ⟨n, rfl⟩ := Int.eq_ofNat_of_zero_le h.1
    have h2 : n ≤ 6 := by omega
    have : n = 0 ∨ n = 1 ∨ n = 2 ∨ n = 3 ∨ n = 4 ∨ n = 5 ∨ n = 6 := by omega
    rcases this with rfl | rfl | rfl | rfl | rfl | rfl | rfl <;> simp [kindT, splice]
  · have h3 : (decide (0 ≤ k) && decide (k ≤ 6)) = false := by simp; omega
    have h4 : kindT k = [] := by unfold kindT; rw [if_neg h]
    rw [h3, h4]
    simp
theorem kind_spec (k : Int) : Says prog 8 [.int .i64 k] (.str (kindT k)) [] := by
  refine Fn_G Go.Proofs.Try.func8 ok8 ?_
  simp [v8, r8, splice]
  refine callG (in_spec k 0 6) ?_
  by_cases h : 0 ≤ k ∧ k ≤ 6
  · obtain ⟨n, rfl⟩ := Int.eq_ofNat_of_zero_le h.1
    have h2 : n ≤ 6 := by omega
    have : n = 0 ∨ n = 1 ∨ n = 2 ∨ n = 3 ∨ n = 4 ∨ n = 5 ∨ n = 6 := by omega
    rcases this with rfl | rfl | rfl | rfl | rfl | rfl | rfl <;> simp [kindT, splice]
  · have h3 : (decide (0 ≤ k) && decide (k ≤ 6)) = false := by simp; omega
    have h4 : kindT k = [] := by unfold kindT; rw [if_neg h]
    rw [h3, h4]
    simp
theorem law_KindText (k : Int) : Says prog 3 [.int .i64 k] (.bool true) [] := by
  refine Fn_G Go.Proofs.Try.func3 ok3 ?_
  simp [v3, r3]
  refine callG (kind_spec k) ?_
  simp
  refine callG (kind_impl k) ?_
  simp

end Go.AmC
