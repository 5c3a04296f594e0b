/- Part of a proof: see the last text of this folder. -/
import Derived.Test.YtapdppkplhgnjaaAllDoneC0
import Derived.Test.YtapdppkplhgnjaaAllDoneDat
set_option linter.unusedSimpArgs false
set_option linter.unusedVariables false
set_option maxRecDepth 20000
set_option maxHeartbeats 4000000
namespace Go.AmC
open Go Go.AM
open Go.Proofs.Try (prog)
theorem eqPut (x : Put) : Says prog 85 [.agg (Cs (Put.d x)), .agg (Cs (Put.d x))] (.bool true) [] := by
  refine Fn_G Go.Proofs.Try.func85 ok85 ?_
  simp [v85, r85]
theorem eqIntS (xs : List Int) (hm : xs.length ≤ maxLen) : Says prog 44 [.rsl (List.length xs) (Cs ((List.flatMap dInt xs))), .rsl (List.length xs) (Cs ((List.flatMap dInt xs)))] (.bool true) [] := by
  refine Fn_G Go.Proofs.Try.func44 ok44 ?_
  simp [v44, r44]
  refine G_loop (l := l44_0) (b := b44_0) rfl [] (fun i => [.rsl (List.length xs) (Cs ((List.flatMap dInt xs))), .rsl (List.length xs) (Cs ((List.flatMap dInt xs))), .bool false, .dead, .int .i64 (i : Int), .dead, .dead]) (fun _ => True) xs.length
    (fun ex en => ex = .exit 0 ∧ en = [.rsl (List.length xs) (Cs ((List.flatMap dInt xs))), .rsl (List.length xs) (Cs ((List.flatMap dInt xs))), .bool false, .dead, .int .i64 xs.length, .dead, .dead]) ?_ ?_ trivial (by simp) ?_
  · intro i hi _ q hn hx hr
    obtain ⟨x, hx0⟩ : ∃ x, xs[i]? = some x := ⟨_, List.getElem?_eq_getElem hi⟩
    have hrow := row_drop dInt 1 (fun _ => by simp) hx0
    rw [Nat.mul_one] at hrow
    have hw : IntKind.i64.wrap ((i : Int) + 1) = ((i + 1 : Nat) : Int) := by unfold maxLen at hm; rw [wrap_small] <;> omega
    simp [hi, Cs_drop, hrow, hw]
    refine hn _ ?_ trivial
    simp
  · intro _ q hx hr
    simp
    exact hx _ _ ⟨rfl, rfl⟩
  · rintro ex en ⟨rfl, rfl⟩
    simp
theorem eqPutS (xs : List Put) (hm : xs.length ≤ maxLen) (h : ∀ x ∈ xs, Says prog 85 [.agg (Cs (Put.d x)), .agg (Cs (Put.d x))] (.bool true) []) : Says prog 81 [.rsl (List.length xs) (Cs ((List.flatMap Put.d xs))), .rsl (List.length xs) (Cs ((List.flatMap Put.d xs)))] (.bool true) [] := by
  refine Fn_G Go.Proofs.Try.func81 ok81 ?_
  simp [v81, r81]
  refine G_loop (l := l81_0) (b := b81_0) rfl [] (fun i => [.rsl (List.length xs) (Cs ((List.flatMap Put.d xs))), .rsl (List.length xs) (Cs ((List.flatMap Put.d xs))), .bool false, .dead, .int .i64 (i : Int), .dead, .dead]) (fun _ => True) xs.length
    (fun ex en => ex = .exit 0 ∧ en = [.rsl (List.length xs) (Cs ((List.flatMap Put.d xs))), .rsl (List.length xs) (Cs ((List.flatMap Put.d xs))), .bool false, .dead, .int .i64 xs.length, .dead, .dead]) ?_ ?_ trivial (by simp) ?_
  · intro i hi _ q hn hx hr
    obtain ⟨x, hx0⟩ : ∃ x, xs[i]? = some x := ⟨_, List.getElem?_eq_getElem hi⟩
    have hrow := row_drop Put.d 2 Put.d_len hx0
    have hw : IntKind.i64.wrap ((i : Int) + 1) = ((i + 1 : Nat) : Int) := by unfold maxLen at hm; rw [wrap_small] <;> omega
    have hf := h x (List.mem_of_getElem? hx0)
    try simp at hf
    simp [hi, Cs_drop, hrow, hw]
    refine callD hf ?_
    simp [hw]
    refine hn _ ?_ trivial
    simp
  · intro _ q hx hr
    simp
    exact hx _ _ ⟨rfl, rfl⟩
  · rintro ex en ⟨rfl, rfl⟩
    simp
theorem eqHand (x : Hand) (hStack : Says prog 44 [.rsl (List.length x.Stack) (Cs ((List.flatMap dInt x.Stack))), .rsl (List.length x.Stack) (Cs ((List.flatMap dInt x.Stack)))] (.bool true) []) (hRegs : Says prog 44 [.rsl (List.length x.Regs) (Cs ((List.flatMap dInt x.Regs))), .rsl (List.length x.Regs) (Cs ((List.flatMap dInt x.Regs)))] (.bool true) []) (hShelf : Says prog 81 [.rsl (List.length x.Shelf) (Cs ((List.flatMap Put.d x.Shelf))), .rsl (List.length x.Shelf) (Cs ((List.flatMap Put.d x.Shelf)))] (.bool true) []) : Says prog 67 [.agg (Cs (Hand.d x)), .agg (Cs (Hand.d x))] (.bool true) [] := by
  refine Fn_G Go.Proofs.Try.func67 ok67 ?_
  try simp at hStack
  try simp at hRegs
  try simp at hShelf
  simp [v67, r67]
  refine callG hStack ?_
  simp
  refine callG hRegs ?_
  simp
  refine callG hShelf ?_
  simp
theorem eqHandS (xs : List Hand) (hm : xs.length ≤ maxLen) (h : ∀ x ∈ xs, Says prog 67 [.agg (Cs (Hand.d x)), .agg (Cs (Hand.d x))] (.bool true) []) : Says prog 45 [.rsl (List.length xs) (Cs ((List.flatMap Hand.d xs))), .rsl (List.length xs) (Cs ((List.flatMap Hand.d xs)))] (.bool true) [] := by
  refine Fn_G Go.Proofs.Try.func45 ok45 ?_
  simp [v45, r45]
  refine G_loop (l := l45_0) (b := b45_0) rfl [] (fun i => [.rsl (List.length xs) (Cs ((List.flatMap Hand.d xs))), .rsl (List.length xs) (Cs ((List.flatMap Hand.d xs))), .bool false, .dead, .int .i64 (i : Int), .dead, .dead]) (fun _ => True) xs.length
    (fun ex en => ex = .exit 0 ∧ en = [.rsl (List.length xs) (Cs ((List.flatMap Hand.d xs))), .rsl (List.length xs) (Cs ((List.flatMap Hand.d xs))), .bool false, .dead, .int .i64 xs.length, .dead, .dead]) ?_ ?_ trivial (by simp) ?_
  · intro i hi _ q hn hx hr
    obtain ⟨x, hx0⟩ : ∃ x, xs[i]? = some x := ⟨_, List.getElem?_eq_getElem hi⟩
    have hrow := row_drop Hand.d 6 Hand.d_len hx0
    have hw : IntKind.i64.wrap ((i : Int) + 1) = ((i + 1 : Nat) : Int) := by unfold maxLen at hm; rw [wrap_small] <;> omega
    have hf := h x (List.mem_of_getElem? hx0)
    try simp at hf
    simp [hi, Cs_drop, hrow, hw]
    refine callD hf ?_
    simp [hw]
    refine hn _ ?_ trivial
    simp
  · intro _ q hx hr
    simp
    exact hx _ _ ⟨rfl, rfl⟩
  · rintro ex en ⟨rfl, rfl⟩
    simp
theorem eqMach (x : Mach) (hMem : Says prog 44 [.rsl (List.length x.Mem) (Cs ((List.flatMap dInt x.Mem))), .rsl (List.length x.Mem) (Cs ((List.flatMap dInt x.Mem)))] (.bool true) []) (hHands : Says prog 45 [.rsl (List.length x.Hands) (Cs ((List.flatMap Hand.d x.Hands))), .rsl (List.length x.Hands) (Cs ((List.flatMap Hand.d x.Hands)))] (.bool true) []) (hOut : Says prog 44 [.rsl (List.length x.Out) (Cs ((List.flatMap dInt x.Out))), .rsl (List.length x.Out) (Cs ((List.flatMap dInt x.Out)))] (.bool true) []) : Says prog 19 [.agg (Cs (Mach.d x)), .agg (Cs (Mach.d x))] (.bool true) [] := by
  refine Fn_G Go.Proofs.Try.func19 ok19 ?_
  try simp at hMem
  try simp at hHands
  try simp at hOut
  simp [v19, r19]
  refine callG hMem ?_
  simp
  refine callG hHands ?_
  simp
  refine callG hOut ?_
  simp
end Go.AmC
