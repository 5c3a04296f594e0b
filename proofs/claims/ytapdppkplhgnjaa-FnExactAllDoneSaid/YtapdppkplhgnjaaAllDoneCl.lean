/- Part of a proof: see the last text of this folder. -/
import Derived.Test.YtapdppkplhgnjaaAllDoneSz
import Derived.Test.YtapdppkplhgnjaaAllDoneTo
import Derived.Test.YtapdppkplhgnjaaAllDoneEq
import Derived.Test.YtapdppkplhgnjaaAllDoneDat
set_option linter.unusedSimpArgs false
set_option linter.unusedVariables false
set_option maxRecDepth 20000
set_option maxHeartbeats 4000000
namespace Go.AmC
open Go Go.AM
open Go.Proofs.Try (prog)
theorem sz_IntS (xs : List Int) (h : List.length xs ≤ maxLen) : ∀ l : Int, 0 ≤ l → l ≤ 1048576 → Says prog 40 [.rsl (List.length xs) (Cs ((List.flatMap dInt xs))), .int .i64 l] (.int .i64 (szR (List.length xs) l)) [] := szIntS _ h
theorem sz_PutS (xs : List Put) (h : List.length xs ≤ maxLen) : ∀ l : Int, 0 ≤ l → l ≤ 1048576 → Says prog 79 [.rsl (List.length xs) (Cs ((List.flatMap Put.d xs))), .int .i64 l] (.int .i64 (szR (List.length xs) l)) [] := szPutS _ h
theorem sz_Hand (x : Hand) (h : (Hand.lg x)) : ∀ l : Int, 0 ≤ l → l ≤ 1048576 → Says prog 65 [.agg (Cs (Hand.d x)), .int .i64 l] (.int .i64 (szR (Hand.tot x) l)) [] := by
  rw [Hand.lg_eq] at h
  obtain ⟨hStack, hRegs, hShelf⟩ := h
  exact szHand x (sz_IntS _ hStack) (sz_IntS _ hRegs) (sz_PutS _ hShelf)
theorem sz_HandS (xs : List Hand) (h : List.length xs ≤ maxLen ∧ ∀ y ∈ xs, (Hand.lg y)) : ∀ l : Int, 0 ≤ l → l ≤ 1048576 → Says prog 41 [.rsl (List.length xs) (Cs ((List.flatMap Hand.d xs))), .int .i64 l] (.int .i64 (szR (List.length xs + (List.map Hand.tot xs).sum) l)) [] := szHandS _ h.1 (fun y hy => sz_Hand y (h.2 y hy))
theorem sz_Mach (x : Mach) (h : (Mach.lg x)) : ∀ l : Int, 0 ≤ l → l ≤ 1048576 → Says prog 15 [.agg (Cs (Mach.d x)), .int .i64 l] (.int .i64 (szR (Mach.tot x) l)) [] := by
  rw [Mach.lg_eq] at h
  obtain ⟨hMem, hHands, hOut⟩ := h
  exact szMach x (sz_IntS _ hMem) (sz_HandS _ hHands) (sz_IntS _ hOut)
theorem to_Put (x : Put) : Says prog 84 [.agg (Cs (Put.d x))] (.agg (Ows (Put.d x))) [] := by
  exact toPut x
theorem to_IntS (xs : List Int) (h : (List.length xs) ≤ 1048576) : Says prog 42 [.rsl (List.length xs) (Cs ((List.flatMap dInt xs)))] (.osl 0 3 (List.length xs) (Ows ((List.flatMap dInt xs)))) [] := toIntS _ (h)
theorem to_PutS (xs : List Put) (h : (List.length xs) ≤ 1048576) : Says prog 80 [.rsl (List.length xs) (Cs ((List.flatMap Put.d xs)))] (.osl 0 124 (List.length xs) (Ows ((List.flatMap Put.d xs)))) [] := toPutS _ (h) (fun y hy => to_Put y)
theorem to_Hand (x : Hand) (h : (Hand.tot x) ≤ 1048576) : Says prog 66 [.agg (Cs (Hand.d x))] (.agg (Ows (Hand.d x))) [] := by
  rw [Hand.tot_eq] at h
  exact toHand x (to_IntS _ (by omega)) (to_IntS _ (by omega)) (to_PutS _ (by omega))
theorem to_HandS (xs : List Hand) (h : (List.length xs + (List.map Hand.tot xs).sum) ≤ 1048576) : Says prog 43 [.rsl (List.length xs) (Cs ((List.flatMap Hand.d xs)))] (.osl 0 87 (List.length xs) (Ows ((List.flatMap Hand.d xs)))) [] := toHandS _ (by omega) (fun y hy => to_Hand y (by have := mem_sum Hand.tot hy; omega))
theorem to_Mach (x : Mach) (h : (Mach.tot x) ≤ 1048576) : Says prog 17 [.agg (Cs (Mach.d x))] (.agg (Ows (Mach.d x))) [] := by
  rw [Mach.tot_eq] at h
  exact toMach x (to_IntS _ (by omega)) (to_HandS _ (by omega)) (to_IntS _ (by omega))
theorem eq_Put (x : Put) : Says prog 85 [.agg (Cs (Put.d x)), .agg (Cs (Put.d x))] (.bool true) [] := by
  exact eqPut x
theorem eq_IntS (xs : List Int) (h : List.length xs ≤ maxLen) : Says prog 44 [.rsl (List.length xs) (Cs ((List.flatMap dInt xs))), .rsl (List.length xs) (Cs ((List.flatMap dInt xs)))] (.bool true) [] := eqIntS _ h
theorem eq_PutS (xs : List Put) (h : List.length xs ≤ maxLen) : Says prog 81 [.rsl (List.length xs) (Cs ((List.flatMap Put.d xs))), .rsl (List.length xs) (Cs ((List.flatMap Put.d xs)))] (.bool true) [] := eqPutS _ h (fun y hy => eq_Put y)
theorem eq_Hand (x : Hand) (h : (Hand.lg x)) : Says prog 67 [.agg (Cs (Hand.d x)), .agg (Cs (Hand.d x))] (.bool true) [] := by
  rw [Hand.lg_eq] at h
  obtain ⟨hStack, hRegs, hShelf⟩ := h
  exact eqHand x (eq_IntS _ hStack) (eq_IntS _ hRegs) (eq_PutS _ hShelf)
theorem eq_HandS (xs : List Hand) (h : List.length xs ≤ maxLen ∧ ∀ y ∈ xs, (Hand.lg y)) : Says prog 45 [.rsl (List.length xs) (Cs ((List.flatMap Hand.d xs))), .rsl (List.length xs) (Cs ((List.flatMap Hand.d xs)))] (.bool true) [] := eqHandS _ h.1 (fun y hy => eq_Hand y (h.2 y hy))
theorem eq_Mach (x : Mach) (h : (Mach.lg x)) : Says prog 19 [.agg (Cs (Mach.d x)), .agg (Cs (Mach.d x))] (.bool true) [] := by
  rw [Mach.lg_eq] at h
  obtain ⟨hMem, hHands, hOut⟩ := h
  exact eqMach x (eq_IntS _ hMem) (eq_HandS _ hHands) (eq_IntS _ hOut)
end Go.AmC
