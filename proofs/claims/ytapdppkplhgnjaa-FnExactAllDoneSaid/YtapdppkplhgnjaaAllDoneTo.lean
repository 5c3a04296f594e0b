/- Part of a proof: see the last text of this folder. -/
import Derived.Test.YtapdppkplhgnjaaAllDoneC0
import Derived.Test.YtapdppkplhgnjaaAllDoneDat
set_option linter.unusedSimpArgs false
set_option linter.unusedVariables false
set_option maxRecDepth 20000
set_option maxHeartbeats 4000000
namespace Go.AmC
open Go Go.AM
open Go.Proofs.Try (prog)
theorem toPut (x : Put) : Says prog 84 [.agg (Cs (Put.d x))] (.agg (Ows (Put.d x))) [] := by
  refine Fn_G Go.Proofs.Try.func84 ok84 ?_
  simp [v84, r84, splice]
theorem toIntS (xs : List Int) (hm : xs.length ≤ 1048576) : Says prog 42 [.rsl (List.length xs) (Cs ((List.flatMap dInt xs)))] (.osl 0 3 (List.length xs) (Ows ((List.flatMap dInt xs)))) [] := by
  refine Fn_G Go.Proofs.Try.func42 ok42 ?_
  have hs' : (xs.length : Int) ≤ (bnd : Nat) := by unfold bnd; omega
  simp [v42, r42, hm, hs']
  refine G_loop (l := l42_0) (b := b42_0) rfl [] (fun i => [.rsl (List.length xs) (Cs ((List.flatMap dInt xs))), .osl 0 3 0 [], .osl 0 3 xs.length (Ows ((xs.take i).flatMap dInt) ++ (List.replicate (xs.length - i) [.int .i64 0]).flatten), .int .i64 (i : Int), .dead]) (fun _ => True) xs.length
    (fun ex en => ex = .exit 0 ∧ en = [.rsl (List.length xs) (Cs ((List.flatMap dInt xs))), .osl 0 3 0 [], .osl 0 3 (List.length xs) (Ows ((List.flatMap dInt xs))), .int .i64 xs.length, .dead]) ?_ ?_ trivial (by simp) ?_
  · intro i hi _ q hn hx hr
    obtain ⟨x, hx0⟩ : ∃ x, xs[i]? = some x := ⟨_, List.getElem?_eq_getElem hi⟩
    have hrow := row_drop dInt 1 (fun _ => by simp) hx0
    rw [Nat.mul_one] at hrow
    have hw : IntKind.i64.wrap ((i : Int) + 1) = ((i + 1 : Nat) : Int) := by rw [wrap_small] <;> omega
    have hlen : ((xs.take i).flatMap dInt).length = i * 1 := by rw [len_flat _ 1 (fun _ => by simp)]; simp; omega
    rw [flat_take dInt hx0] at hn
    obtain ⟨k, hk⟩ : ∃ k, xs.length - i = k + 1 := ⟨xs.length - i - 1, by omega⟩
    rw [show xs.length - (i + 1) = k by omega] at hn
    rw [hk]
    have hsp := @splice_mid (Ows ((xs.take i).flatMap dInt)) [.int .i64 0] (List.replicate k [.int .i64 0]).flatten (Ows (dInt x)) (i * 1) (by simpa using hlen) (by simp)
    generalize (xs.take i).flatMap dInt = A at hsp hlen hn ⊢
    try simp at hsp
    simp [hi, Cs_drop, hrow, List.replicate_succ, hsp, hw, hlen]
    refine hn _ ?_ trivial
    simp
  · intro _ q hx hr
    simp
    exact hx _ _ ⟨rfl, by simp⟩
  · rintro ex en ⟨rfl, rfl⟩
    simp
theorem toPutS (xs : List Put) (hm : xs.length ≤ 1048576) (h : ∀ x ∈ xs, Says prog 84 [.agg (Cs (Put.d x))] (.agg (Ows (Put.d x))) []) : Says prog 80 [.rsl (List.length xs) (Cs ((List.flatMap Put.d xs)))] (.osl 0 124 (List.length xs) (Ows ((List.flatMap Put.d xs)))) [] := by
  refine Fn_G Go.Proofs.Try.func80 ok80 ?_
  have hs' : (xs.length : Int) ≤ (bnd : Nat) := by unfold bnd; omega
  simp [v80, r80, hm, hs']
  refine G_loop (l := l80_0) (b := b80_0) rfl [] (fun i => [.rsl (List.length xs) (Cs ((List.flatMap Put.d xs))), .osl 0 124 0 [], .osl 0 124 xs.length (Ows ((xs.take i).flatMap Put.d) ++ (List.replicate (xs.length - i) [.int .i64 0, .int .i64 0]).flatten), .int .i64 (i : Int), .dead]) (fun _ => True) xs.length
    (fun ex en => ex = .exit 0 ∧ en = [.rsl (List.length xs) (Cs ((List.flatMap Put.d xs))), .osl 0 124 0 [], .osl 0 124 (List.length xs) (Ows ((List.flatMap Put.d xs))), .int .i64 xs.length, .dead]) ?_ ?_ trivial (by simp) ?_
  · intro i hi _ q hn hx hr
    obtain ⟨x, hx0⟩ : ∃ x, xs[i]? = some x := ⟨_, List.getElem?_eq_getElem hi⟩
    have hrow := row_drop Put.d 2 Put.d_len hx0
    have hw : IntKind.i64.wrap ((i : Int) + 1) = ((i + 1 : Nat) : Int) := by rw [wrap_small] <;> omega
    have hlen : ((xs.take i).flatMap Put.d).length = i * 2 := by rw [len_flat _ 2 Put.d_len]; simp; omega
    rw [flat_take Put.d hx0] at hn
    obtain ⟨k, hk⟩ : ∃ k, xs.length - i = k + 1 := ⟨xs.length - i - 1, by omega⟩
    rw [show xs.length - (i + 1) = k by omega] at hn
    rw [hk]
    have hsp := @splice_mid (Ows ((xs.take i).flatMap Put.d)) [.int .i64 0, .int .i64 0] (List.replicate k [.int .i64 0, .int .i64 0]).flatten (Ows (Put.d x)) (i * 2) (by simpa using hlen) (by simp)
    generalize (xs.take i).flatMap Put.d = A at hsp hlen hn ⊢
    have hf := h x (List.mem_of_getElem? hx0)
    try simp at hf
    try simp at hsp
    simp [hi, Cs_drop, hrow, List.replicate_succ]
    refine callG hf ?_
    simp [hi, hsp, hw, hlen]
    refine hn _ ?_ trivial
    simp
  · intro _ q hx hr
    simp
    exact hx _ _ ⟨rfl, by simp⟩
  · rintro ex en ⟨rfl, rfl⟩
    simp
theorem toHand (x : Hand) (hStack : Says prog 42 [.rsl (List.length x.Stack) (Cs ((List.flatMap dInt x.Stack)))] (.osl 0 3 (List.length x.Stack) (Ows ((List.flatMap dInt x.Stack)))) []) (hRegs : Says prog 42 [.rsl (List.length x.Regs) (Cs ((List.flatMap dInt x.Regs)))] (.osl 0 3 (List.length x.Regs) (Ows ((List.flatMap dInt x.Regs)))) []) (hShelf : Says prog 80 [.rsl (List.length x.Shelf) (Cs ((List.flatMap Put.d x.Shelf)))] (.osl 0 124 (List.length x.Shelf) (Ows ((List.flatMap Put.d x.Shelf)))) []) : Says prog 66 [.agg (Cs (Hand.d x))] (.agg (Ows (Hand.d x))) [] := by
  refine Fn_G Go.Proofs.Try.func66 ok66 ?_
  try simp at hStack
  try simp at hRegs
  try simp at hShelf
  simp [v66, r66, splice]
  refine callG hStack ?_
  simp [splice]
  refine callG hRegs ?_
  simp [splice]
  refine callG hShelf ?_
  simp [splice]
theorem toHandS (xs : List Hand) (hm : xs.length ≤ 1048576) (h : ∀ x ∈ xs, Says prog 66 [.agg (Cs (Hand.d x))] (.agg (Ows (Hand.d x))) []) : Says prog 43 [.rsl (List.length xs) (Cs ((List.flatMap Hand.d xs)))] (.osl 0 87 (List.length xs) (Ows ((List.flatMap Hand.d xs)))) [] := by
  refine Fn_G Go.Proofs.Try.func43 ok43 ?_
  have hs' : (xs.length : Int) ≤ (bnd : Nat) := by unfold bnd; omega
  simp [v43, r43, hm, hs']
  refine G_loop (l := l43_0) (b := b43_0) rfl [] (fun i => [.rsl (List.length xs) (Cs ((List.flatMap Hand.d xs))), .osl 0 87 0 [], .osl 0 87 xs.length (Ows ((xs.take i).flatMap Hand.d) ++ (List.replicate (xs.length - i) [.int .i64 0, .osl 0 3 0 [], .osl 0 3 0 [], .osl 0 124 0 [], .bool false, .bool false]).flatten), .int .i64 (i : Int), .dead]) (fun _ => True) xs.length
    (fun ex en => ex = .exit 0 ∧ en = [.rsl (List.length xs) (Cs ((List.flatMap Hand.d xs))), .osl 0 87 0 [], .osl 0 87 (List.length xs) (Ows ((List.flatMap Hand.d xs))), .int .i64 xs.length, .dead]) ?_ ?_ trivial (by simp) ?_
  · intro i hi _ q hn hx hr
    obtain ⟨x, hx0⟩ : ∃ x, xs[i]? = some x := ⟨_, List.getElem?_eq_getElem hi⟩
    have hrow := row_drop Hand.d 6 Hand.d_len hx0
    have hw : IntKind.i64.wrap ((i : Int) + 1) = ((i + 1 : Nat) : Int) := by rw [wrap_small] <;> omega
    have hlen : ((xs.take i).flatMap Hand.d).length = i * 6 := by rw [len_flat _ 6 Hand.d_len]; simp; omega
    rw [flat_take Hand.d hx0] at hn
    obtain ⟨k, hk⟩ : ∃ k, xs.length - i = k + 1 := ⟨xs.length - i - 1, by omega⟩
    rw [show xs.length - (i + 1) = k by omega] at hn
    rw [hk]
    have hsp := @splice_mid (Ows ((xs.take i).flatMap Hand.d)) [.int .i64 0, .osl 0 3 0 [], .osl 0 3 0 [], .osl 0 124 0 [], .bool false, .bool false] (List.replicate k [.int .i64 0, .osl 0 3 0 [], .osl 0 3 0 [], .osl 0 124 0 [], .bool false, .bool false]).flatten (Ows (Hand.d x)) (i * 6) (by simpa using hlen) (by simp)
    generalize (xs.take i).flatMap Hand.d = A at hsp hlen hn ⊢
    have hf := h x (List.mem_of_getElem? hx0)
    try simp at hf
    try simp at hsp
    simp [hi, Cs_drop, hrow, List.replicate_succ]
    refine callG hf ?_
    simp [hi, hsp, hw, hlen]
    refine hn _ ?_ trivial
    simp
  · intro _ q hx hr
    simp
    exact hx _ _ ⟨rfl, by simp⟩
  · rintro ex en ⟨rfl, rfl⟩
    simp
theorem toMach (x : Mach) (hMem : Says prog 42 [.rsl (List.length x.Mem) (Cs ((List.flatMap dInt x.Mem)))] (.osl 0 3 (List.length x.Mem) (Ows ((List.flatMap dInt x.Mem)))) []) (hHands : Says prog 43 [.rsl (List.length x.Hands) (Cs ((List.flatMap Hand.d x.Hands)))] (.osl 0 87 (List.length x.Hands) (Ows ((List.flatMap Hand.d x.Hands)))) []) (hOut : Says prog 42 [.rsl (List.length x.Out) (Cs ((List.flatMap dInt x.Out)))] (.osl 0 3 (List.length x.Out) (Ows ((List.flatMap dInt x.Out)))) []) : Says prog 17 [.agg (Cs (Mach.d x))] (.agg (Ows (Mach.d x))) [] := by
  refine Fn_G Go.Proofs.Try.func17 ok17 ?_
  try simp at hMem
  try simp at hHands
  try simp at hOut
  simp [v17, r17, splice]
  refine callG hMem ?_
  simp [splice]
  refine callG hHands ?_
  simp [splice]
  refine callG hOut ?_
  simp [splice]
end Go.AmC
