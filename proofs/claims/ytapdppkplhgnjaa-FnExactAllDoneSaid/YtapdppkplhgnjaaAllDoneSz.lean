/- Part of a proof: see the last text of this folder. -/
import Derived.Test.YtapdppkplhgnjaaAllDoneC0
import Derived.Test.YtapdppkplhgnjaaAllDoneDat
set_option linter.unusedSimpArgs false
set_option linter.unusedVariables false
set_option maxRecDepth 20000
set_option maxHeartbeats 4000000
namespace Go.AmC
open Go Go.AM
open Go.Proofs.Try (prog)
theorem szIntS (xs : List Int) (hm : xs.length ≤ maxLen) : ∀ l : Int, 0 ≤ l → l ≤ 1048576 → Says prog 40 [.rsl (List.length xs) (Cs ((List.flatMap dInt xs))), .int .i64 l] (.int .i64 (szR (List.length xs) l)) [] := by
  intro l l0 lb
  have hw : IntKind.i64.wrap (l - xs.length) = l - xs.length := by unfold maxLen at hm; rw [wrap_small] <;> omega
  refine Fn_G Go.Proofs.Try.func40 ok40 ?_
  by_cases c : l < xs.length
  · have hr : szR xs.length l = -1 := by unfold szR; rw [if_neg]; omega
    have c' : ¬ ((xs.length : Int) ≤ l) := by omega
    have d : l - (xs.length : Int) < 0 := by omega
    rw [hr]; simp [v40, r40, hw, c, c', d]
  · have hr : szR xs.length l = l - xs.length := by unfold szR; rw [if_pos]; omega
    have c' : (xs.length : Int) ≤ l := by omega
    have d : ¬ (l - (xs.length : Int) < 0) := by omega
    rw [hr]; simp [v40, r40, hw, c, c', d]
theorem szPutS (xs : List Put) (hm : xs.length ≤ maxLen) : ∀ l : Int, 0 ≤ l → l ≤ 1048576 → Says prog 79 [.rsl (List.length xs) (Cs ((List.flatMap Put.d xs))), .int .i64 l] (.int .i64 (szR (List.length xs) l)) [] := by
  intro l l0 lb
  have hw : IntKind.i64.wrap (l - xs.length) = l - xs.length := by unfold maxLen at hm; rw [wrap_small] <;> omega
  refine Fn_G Go.Proofs.Try.func79 ok79 ?_
  by_cases c : l < xs.length
  · have hr : szR xs.length l = -1 := by unfold szR; rw [if_neg]; omega
    have c' : ¬ ((xs.length : Int) ≤ l) := by omega
    have d : l - (xs.length : Int) < 0 := by omega
    rw [hr]; simp [v79, r79, hw, c, c', d]
  · have hr : szR xs.length l = l - xs.length := by unfold szR; rw [if_pos]; omega
    have c' : (xs.length : Int) ≤ l := by omega
    have d : ¬ (l - (xs.length : Int) < 0) := by omega
    rw [hr]; simp [v79, r79, hw, c, c', d]
theorem szHand (x : Hand) (hStack : ∀ l : Int, 0 ≤ l → l ≤ 1048576 → Says prog 40 [.rsl (List.length x.Stack) (Cs ((List.flatMap dInt x.Stack))), .int .i64 l] (.int .i64 (szR (List.length x.Stack) l)) []) (hRegs : ∀ l : Int, 0 ≤ l → l ≤ 1048576 → Says prog 40 [.rsl (List.length x.Regs) (Cs ((List.flatMap dInt x.Regs))), .int .i64 l] (.int .i64 (szR (List.length x.Regs) l)) []) (hShelf : ∀ l : Int, 0 ≤ l → l ≤ 1048576 → Says prog 79 [.rsl (List.length x.Shelf) (Cs ((List.flatMap Put.d x.Shelf))), .int .i64 l] (.int .i64 (szR (List.length x.Shelf) l)) []) : ∀ l : Int, 0 ≤ l → l ≤ 1048576 → Says prog 65 [.agg (Cs (Hand.d x)), .int .i64 l] (.int .i64 (szR (Hand.tot x) l)) [] := by
  intro l l0 lb
  refine Fn_G Go.Proofs.Try.func65 ok65 ?_
  have ht := Hand.tot_eq x
  have kStack := hStack (l) (by omega) (by omega)
  try simp at kStack
  by_cases cStack : (l) < ((List.length x.Stack) : Nat)
  · have eStack : ¬ ((((List.length x.Stack) : Nat) : Int) ≤ l) := by omega
    have fStack : l - (((List.length x.Stack) : Nat) : Int) < 0 := by omega
    have hr : szR (Hand.tot x) l = -1 := by unfold szR; rw [if_neg]; omega
    rw [hr]
    have hz : szR (List.length x.Stack) (l) = -1 := by unfold szR; rw [if_neg]; omega
    rw [hz] at kStack
    simp [v65, r65]
    refine callG kStack ?_
    simp
  · have hz : szR (List.length x.Stack) (l) = l - ((List.length x.Stack) : Int) := by unfold szR; rw [if_pos]; omega
    rw [hz] at kStack
    have dStack : ¬ ((l - ((List.length x.Stack) : Int)) < 0) := by omega
    have eStack : ((((List.length x.Stack) : Nat) : Int) ≤ l) := by omega
    simp [v65, r65]
    refine callG kStack ?_
    simp [cStack, dStack, eStack]
    have kRegs := hRegs (l - ((List.length x.Stack) : Int)) (by omega) (by omega)
    try simp at kRegs
    by_cases cRegs : (l - ((List.length x.Stack) : Int)) < ((List.length x.Regs) : Nat)
    · have eRegs : ¬ ((((List.length x.Regs) : Nat) : Int) ≤ l - ((List.length x.Stack) : Int)) := by omega
      have fRegs : l - ((List.length x.Stack) : Int) - (((List.length x.Regs) : Nat) : Int) < 0 := by omega
      have hr : szR (Hand.tot x) l = -1 := by unfold szR; rw [if_neg]; omega
      rw [hr]
      have hz : szR (List.length x.Regs) (l - ((List.length x.Stack) : Int)) = -1 := by unfold szR; rw [if_neg]; omega
      rw [hz] at kRegs
      refine callG kRegs ?_
      simp
    · have hz : szR (List.length x.Regs) (l - ((List.length x.Stack) : Int)) = l - ((List.length x.Stack) : Int) - ((List.length x.Regs) : Int) := by unfold szR; rw [if_pos]; omega
      rw [hz] at kRegs
      have dRegs : ¬ ((l - ((List.length x.Stack) : Int) - ((List.length x.Regs) : Int)) < 0) := by omega
      have eRegs : ((((List.length x.Regs) : Nat) : Int) ≤ l - ((List.length x.Stack) : Int)) := by omega
      refine callG kRegs ?_
      simp [cRegs, dRegs, eRegs]
      have kShelf := hShelf (l - ((List.length x.Stack) : Int) - ((List.length x.Regs) : Int)) (by omega) (by omega)
      try simp at kShelf
      by_cases cShelf : (l - ((List.length x.Stack) : Int) - ((List.length x.Regs) : Int)) < ((List.length x.Shelf) : Nat)
      · have eShelf : ¬ ((((List.length x.Shelf) : Nat) : Int) ≤ l - ((List.length x.Stack) : Int) - ((List.length x.Regs) : Int)) := by omega
        have fShelf : l - ((List.length x.Stack) : Int) - ((List.length x.Regs) : Int) - (((List.length x.Shelf) : Nat) : Int) < 0 := by omega
        have hr : szR (Hand.tot x) l = -1 := by unfold szR; rw [if_neg]; omega
        rw [hr]
        have hz : szR (List.length x.Shelf) (l - ((List.length x.Stack) : Int) - ((List.length x.Regs) : Int)) = -1 := by unfold szR; rw [if_neg]; omega
        rw [hz] at kShelf
        refine callG kShelf ?_
        simp
      · have hz : szR (List.length x.Shelf) (l - ((List.length x.Stack) : Int) - ((List.length x.Regs) : Int)) = l - ((List.length x.Stack) : Int) - ((List.length x.Regs) : Int) - ((List.length x.Shelf) : Int) := by unfold szR; rw [if_pos]; omega
        have hr : szR (Hand.tot x) l = l - ((List.length x.Stack) : Int) - ((List.length x.Regs) : Int) - ((List.length x.Shelf) : Int) := by unfold szR; rw [if_pos] <;> omega
        rw [hr]
        rw [hz] at kShelf
        have dShelf : ¬ ((l - ((List.length x.Stack) : Int) - ((List.length x.Regs) : Int) - ((List.length x.Shelf) : Int)) < 0) := by omega
        have eShelf : ((((List.length x.Shelf) : Nat) : Int) ≤ l - ((List.length x.Stack) : Int) - ((List.length x.Regs) : Int)) := by omega
        refine callG kShelf ?_
        simp [cShelf, dShelf, eShelf]
theorem szHandS (xs : List Hand) (hm : xs.length ≤ maxLen) (h : ∀ x ∈ xs, ∀ l : Int, 0 ≤ l → l ≤ 1048576 → Says prog 65 [.agg (Cs (Hand.d x)), .int .i64 l] (.int .i64 (szR (Hand.tot x) l)) []) : ∀ l : Int, 0 ≤ l → l ≤ 1048576 → Says prog 41 [.rsl (List.length xs) (Cs ((List.flatMap Hand.d xs))), .int .i64 l] (.int .i64 (szR (List.length xs + (List.map Hand.tot xs).sum) l)) [] := by
  intro l l0 lb
  have hw : IntKind.i64.wrap (l - xs.length) = l - xs.length := by unfold maxLen at hm; rw [wrap_small] <;> omega
  refine Fn_G Go.Proofs.Try.func41 ok41 ?_
  by_cases c : l < xs.length
  · have hr : szR (List.length xs + (List.map Hand.tot xs).sum) l = -1 := by unfold szR; rw [if_neg]; omega
    have c' : ¬ ((xs.length : Int) ≤ l) := by omega
    have d : l - (xs.length : Int) < 0 := by omega
    rw [hr]; simp [v41, r41, hw, c, c', d]
  · have c' : (xs.length : Int) ≤ l := by omega
    have d : ¬ (l - (xs.length : Int) < 0) := by omega
    generalize hR : szR (List.length xs + (List.map Hand.tot xs).sum) l = R0
    simp [v41, r41, hw, c, c', d]
    obtain ⟨L, hL⟩ : ∃ L, l - (xs.length : Int) = L := ⟨_, rfl⟩
    rw [hL]
    refine G_loop (l := l41_0) (b := b41_0) rfl [] (fun i => [.rsl (List.length xs) (Cs ((List.flatMap Hand.d xs))), .int .i64 (L - ((((xs.take i).map Hand.tot).sum : Nat) : Int)), .int .i64 0, .dead, .int .i64 (i : Int), .dead, .dead]) (fun i => ((((xs.take i).map Hand.tot).sum : Nat) : Int) ≤ L) xs.length
      (fun ex e => ((((xs.map Hand.tot).sum : Nat) : Int) ≤ L ∧ ex = .exit 0 ∧ e = [.rsl (List.length xs) (Cs ((List.flatMap Hand.d xs))), .int .i64 (L - ((xs.map Hand.tot).sum : Nat)), .int .i64 0, .dead, .int .i64 xs.length, .dead, .dead]) ∨ (¬ (((xs.map Hand.tot).sum : Nat) : Int) ≤ L ∧ ex = .ret ∧ ∃ a b, e = [.rsl (List.length xs) (Cs ((List.flatMap Hand.d xs))), a, .int .i64 (-1), .dead, b, .dead, .dead])) ?_ ?_ (by simp; omega) (by simp) ?_
    · intro i hi hI q hn hx hr
      obtain ⟨x, hx0⟩ : ∃ x, xs[i]? = some x := ⟨_, List.getElem?_eq_getElem hi⟩
      have hs := sum_take Hand.tot hx0
      have hle := sum_take_le Hand.tot xs (i + 1)
      rw [hs] at hle hn
      generalize ((xs.take i).map Hand.tot).sum = S at hle hI hn ⊢
      generalize hT : (xs.map Hand.tot).sum = T at hle hx hr
      have hf := h x (List.mem_of_getElem? hx0) (L - (S : Int)) (by omega) (by omega)
      have hrow := row_drop Hand.d 6 Hand.d_len hx0
      have hw : IntKind.i64.wrap ((i : Int) + 1) = ((i + 1 : Nat) : Int) := by unfold maxLen at hm; rw [wrap_small] <;> omega
      by_cases c : ((Hand.tot x : Nat) : Int) ≤ L - (S : Int)
      · have hz : szR (Hand.tot x) (L - (S : Int)) = L - ((S + Hand.tot x : Nat) : Int) := by unfold szR; rw [if_pos c]; omega
        have c2 : ¬ (L - ((S + Hand.tot x : Nat) : Int) < 0) := by omega
        have c3 : ((S + Hand.tot x : Nat) : Int) ≤ L := by omega
        rw [hz] at hf
        generalize ((S + Hand.tot x : Nat) : Int) = U at hf c2 c3 hn
        simp [hi, Cs_drop, hrow]
        try simp at hf
        refine callG hf ?_
        simp [c2, c3, hw]
        all_goals first | (intros; omega) | (refine hn _ ?_ c3; simp; done) | (refine ⟨fun h => by omega, hn _ ?_ c3⟩; simp; done) | (refine ⟨fun h => by omega, fun _ => hn _ ?_ c3⟩; simp; done)
      · have hz : szR (Hand.tot x) (L - (S : Int)) = -1 := by unfold szR; rw [if_neg c]
        rw [hz] at hf
        simp [hi, Cs_drop, hrow]
        try simp at hf
        refine callG hf ?_
        simp
        exact hr _ (.inr ⟨by omega, rfl, _, _, rfl⟩)
    · intro hI q hx hr
      rw [sum_full] at hI ⊢
      simp
      exact hx _ _ (.inl ⟨hI, rfl, rfl⟩)
    · rintro ex e (⟨h1, rfl, rfl⟩ | ⟨h1, rfl, a, b, rfl⟩)
      · have hr : szR (List.length xs + (List.map Hand.tot xs).sum) l = L - ((xs.map Hand.tot).sum : Nat) := by unfold szR; rw [if_pos] <;> omega
        rw [← hR, hr]; simp
      · have hr : szR (List.length xs + (List.map Hand.tot xs).sum) l = -1 := by unfold szR; rw [if_neg]; omega
        rw [← hR, hr]; simp
theorem szMach (x : Mach) (hMem : ∀ l : Int, 0 ≤ l → l ≤ 1048576 → Says prog 40 [.rsl (List.length x.Mem) (Cs ((List.flatMap dInt x.Mem))), .int .i64 l] (.int .i64 (szR (List.length x.Mem) l)) []) (hHands : ∀ l : Int, 0 ≤ l → l ≤ 1048576 → Says prog 41 [.rsl (List.length x.Hands) (Cs ((List.flatMap Hand.d x.Hands))), .int .i64 l] (.int .i64 (szR (List.length x.Hands + (List.map Hand.tot x.Hands).sum) l)) []) (hOut : ∀ l : Int, 0 ≤ l → l ≤ 1048576 → Says prog 40 [.rsl (List.length x.Out) (Cs ((List.flatMap dInt x.Out))), .int .i64 l] (.int .i64 (szR (List.length x.Out) l)) []) : ∀ l : Int, 0 ≤ l → l ≤ 1048576 → Says prog 15 [.agg (Cs (Mach.d x)), .int .i64 l] (.int .i64 (szR (Mach.tot x) l)) [] := by
  intro l l0 lb
  refine Fn_G Go.Proofs.Try.func15 ok15 ?_
  have ht := Mach.tot_eq x
  generalize (List.length x.Hands + (List.map Hand.tot x.Hands).sum) = THands at hHands ht
  have kMem := hMem (l) (by omega) (by omega)
  try simp at kMem
  by_cases cMem : (l) < ((List.length x.Mem) : Nat)
  · have eMem : ¬ ((((List.length x.Mem) : Nat) : Int) ≤ l) := by omega
    have fMem : l - (((List.length x.Mem) : Nat) : Int) < 0 := by omega
    have hr : szR (Mach.tot x) l = -1 := by unfold szR; rw [if_neg]; omega
    rw [hr]
    have hz : szR (List.length x.Mem) (l) = -1 := by unfold szR; rw [if_neg]; omega
    rw [hz] at kMem
    simp [v15, r15]
    refine callG kMem ?_
    simp
  · have hz : szR (List.length x.Mem) (l) = l - ((List.length x.Mem) : Int) := by unfold szR; rw [if_pos]; omega
    rw [hz] at kMem
    have dMem : ¬ ((l - ((List.length x.Mem) : Int)) < 0) := by omega
    have eMem : ((((List.length x.Mem) : Nat) : Int) ≤ l) := by omega
    simp [v15, r15]
    refine callG kMem ?_
    simp [cMem, dMem, eMem]
    have kHands := hHands (l - ((List.length x.Mem) : Int)) (by omega) (by omega)
    try simp at kHands
    by_cases cHands : (l - ((List.length x.Mem) : Int)) < (THands : Nat)
    · have eHands : ¬ (((THands : Nat) : Int) ≤ l - ((List.length x.Mem) : Int)) := by omega
      have fHands : l - ((List.length x.Mem) : Int) - ((THands : Nat) : Int) < 0 := by omega
      have hr : szR (Mach.tot x) l = -1 := by unfold szR; rw [if_neg]; omega
      rw [hr]
      have hz : szR THands (l - ((List.length x.Mem) : Int)) = -1 := by unfold szR; rw [if_neg]; omega
      rw [hz] at kHands
      refine callG kHands ?_
      simp
    · have hz : szR THands (l - ((List.length x.Mem) : Int)) = l - ((List.length x.Mem) : Int) - (THands : Int) := by unfold szR; rw [if_pos]; omega
      rw [hz] at kHands
      have dHands : ¬ ((l - ((List.length x.Mem) : Int) - (THands : Int)) < 0) := by omega
      have eHands : (((THands : Nat) : Int) ≤ l - ((List.length x.Mem) : Int)) := by omega
      refine callG kHands ?_
      simp [cHands, dHands, eHands]
      have kOut := hOut (l - ((List.length x.Mem) : Int) - (THands : Int)) (by omega) (by omega)
      try simp at kOut
      by_cases cOut : (l - ((List.length x.Mem) : Int) - (THands : Int)) < ((List.length x.Out) : Nat)
      · have eOut : ¬ ((((List.length x.Out) : Nat) : Int) ≤ l - ((List.length x.Mem) : Int) - (THands : Int)) := by omega
        have fOut : l - ((List.length x.Mem) : Int) - (THands : Int) - (((List.length x.Out) : Nat) : Int) < 0 := by omega
        have hr : szR (Mach.tot x) l = -1 := by unfold szR; rw [if_neg]; omega
        rw [hr]
        have hz : szR (List.length x.Out) (l - ((List.length x.Mem) : Int) - (THands : Int)) = -1 := by unfold szR; rw [if_neg]; omega
        rw [hz] at kOut
        refine callG kOut ?_
        simp
      · have hz : szR (List.length x.Out) (l - ((List.length x.Mem) : Int) - (THands : Int)) = l - ((List.length x.Mem) : Int) - (THands : Int) - ((List.length x.Out) : Int) := by unfold szR; rw [if_pos]; omega
        have hr : szR (Mach.tot x) l = l - ((List.length x.Mem) : Int) - (THands : Int) - ((List.length x.Out) : Int) := by unfold szR; rw [if_pos] <;> omega
        rw [hr]
        rw [hz] at kOut
        have dOut : ¬ ((l - ((List.length x.Mem) : Int) - (THands : Int) - ((List.length x.Out) : Int)) < 0) := by omega
        have eOut : ((((List.length x.Out) : Nat) : Int) ≤ l - ((List.length x.Mem) : Int) - (THands : Int)) := by omega
        refine callG kOut ?_
        simp [cOut, dOut, eOut]
end Go.AmC
