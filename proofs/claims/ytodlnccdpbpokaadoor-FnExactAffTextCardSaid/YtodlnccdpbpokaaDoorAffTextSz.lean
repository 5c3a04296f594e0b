/- Part of a proof: see the last text of this folder. -/
import Derived.Test.YtodlnccdpbpokaaDoorAffTextC0
import Derived.Test.YtodlnccdpbpokaaDoorAffTextDat
set_option linter.unusedSimpArgs false
set_option linter.unusedVariables false
set_option maxRecDepth 20000
set_option maxHeartbeats 4000000
namespace Go.AmC
open Go Go.AM
open Go.Proofs.Tryd (prog)
theorem szTerm (x : Term) (hName : x.Name.length ≤ maxLen) : ∀ l : Int, 0 ≤ l → l ≤ 1048576 → Says prog 27 [.agg (Cs (Term.d x)), .int .i64 l] (.int .i64 (szR (Term.tot x) l)) [] := by
  intro l l0 lb
  refine Fn_G Go.Proofs.Tryd.func27 ok27 ?_
  have ht := Term.tot_eq x
  have wName : IntKind.i64.wrap (l - (List.length x.Name : Int)) = l - (List.length x.Name : Int) := by unfold maxLen at hName; rw [wrap_small] <;> omega
  by_cases cName : (l) < ((List.length x.Name) : Nat)
  · have eName : ¬ ((((List.length x.Name) : Nat) : Int) ≤ l) := by omega
    have fName : l - (((List.length x.Name) : Nat) : Int) < 0 := by omega
    have hr : szR (Term.tot x) l = -1 := by unfold szR; rw [if_neg]; omega
    rw [hr]
    simp [v27, r27, wName, cName, eName, fName]
  · have hr : szR (Term.tot x) l = l - (List.length x.Name : Int) := by unfold szR; rw [if_pos] <;> omega
    rw [hr]
    have eName : ((((List.length x.Name) : Nat) : Int) ≤ l) := by omega
    have fName : ¬ (l - (((List.length x.Name) : Nat) : Int) < 0) := by omega
    simp [v27, r27, wName, cName, eName, fName]
theorem szTermS (xs : List Term) (hm : xs.length ≤ maxLen) (h : ∀ x ∈ xs, ∀ l : Int, 0 ≤ l → l ≤ 1048576 → Says prog 27 [.agg (Cs (Term.d x)), .int .i64 l] (.int .i64 (szR (Term.tot x) l)) []) : ∀ l : Int, 0 ≤ l → l ≤ 1048576 → Says prog 20 [.rsl (List.length xs) (Cs ((List.flatMap Term.d xs))), .int .i64 l] (.int .i64 (szR (List.length xs + (List.map Term.tot xs).sum) l)) [] := by
  intro l l0 lb
  have hw : IntKind.i64.wrap (l - xs.length) = l - xs.length := by unfold maxLen at hm; rw [wrap_small] <;> omega
  refine Fn_G Go.Proofs.Tryd.func20 ok20 ?_
  by_cases c : l < xs.length
  · have hr : szR (List.length xs + (List.map Term.tot xs).sum) l = -1 := by unfold szR; rw [if_neg]; omega
    have c' : ¬ ((xs.length : Int) ≤ l) := by omega
    have d : l - (xs.length : Int) < 0 := by omega
    rw [hr]; simp [v20, r20, hw, c, c', d]
  · have c' : (xs.length : Int) ≤ l := by omega
    have d : ¬ (l - (xs.length : Int) < 0) := by omega
    generalize hR : szR (List.length xs + (List.map Term.tot xs).sum) l = R0
    simp [v20, r20, hw, c, c', d]
    obtain ⟨L, hL⟩ : ∃ L, l - (xs.length : Int) = L := ⟨_, rfl⟩
    rw [hL]
    refine G_loop (l := l20_0) (b := b20_0) rfl [] (fun i => [.rsl (List.length xs) (Cs ((List.flatMap Term.d xs))), .int .i64 (L - ((((xs.take i).map Term.tot).sum : Nat) : Int)), .int .i64 0, .dead, .int .i64 (i : Int), .dead, .dead]) (fun i => ((((xs.take i).map Term.tot).sum : Nat) : Int) ≤ L) xs.length
      (fun ex e => ((((xs.map Term.tot).sum : Nat) : Int) ≤ L ∧ ex = .exit 0 ∧ e = [.rsl (List.length xs) (Cs ((List.flatMap Term.d xs))), .int .i64 (L - ((xs.map Term.tot).sum : Nat)), .int .i64 0, .dead, .int .i64 xs.length, .dead, .dead]) ∨ (¬ (((xs.map Term.tot).sum : Nat) : Int) ≤ L ∧ ex = .ret ∧ ∃ a b, e = [.rsl (List.length xs) (Cs ((List.flatMap Term.d xs))), a, .int .i64 (-1), .dead, b, .dead, .dead])) ?_ ?_ (by simp; omega) (by simp) ?_
    · intro i hi hI q hn hx hr
      obtain ⟨x, hx0⟩ : ∃ x, xs[i]? = some x := ⟨_, List.getElem?_eq_getElem hi⟩
      have hs := sum_take Term.tot hx0
      have hle := sum_take_le Term.tot xs (i + 1)
      rw [hs] at hle hn
      generalize ((xs.take i).map Term.tot).sum = S at hle hI hn ⊢
      generalize hT : (xs.map Term.tot).sum = T at hle hx hr
      have hf := h x (List.mem_of_getElem? hx0) (L - (S : Int)) (by omega) (by omega)
      have hrow := row_drop Term.d 2 Term.d_len hx0
      have hw : IntKind.i64.wrap ((i : Int) + 1) = ((i + 1 : Nat) : Int) := by unfold maxLen at hm; rw [wrap_small] <;> omega
      by_cases c : ((Term.tot x : Nat) : Int) ≤ L - (S : Int)
      · have hz : szR (Term.tot x) (L - (S : Int)) = L - ((S + Term.tot x : Nat) : Int) := by unfold szR; rw [if_pos c]; omega
        have c2 : ¬ (L - ((S + Term.tot x : Nat) : Int) < 0) := by omega
        have c3 : ((S + Term.tot x : Nat) : Int) ≤ L := by omega
        rw [hz] at hf
        generalize ((S + Term.tot x : Nat) : Int) = U at hf c2 c3 hn
        simp [hi, Cs_drop, hrow]
        try simp at hf
        refine callG hf ?_
        simp [c2, c3, hw]
        all_goals first | (intros; omega) | (refine hn _ ?_ c3; simp; done) | (refine ⟨fun h => by omega, hn _ ?_ c3⟩; simp; done) | (refine ⟨fun h => by omega, fun _ => hn _ ?_ c3⟩; simp; done)
      · have hz : szR (Term.tot x) (L - (S : Int)) = -1 := by unfold szR; rw [if_neg c]
        rw [hz] at hf
        simp [hi, Cs_drop, hrow]
        try simp at hf
        refine callG hf ?_
        simp
        exact hr _ (.inr ⟨by omega, rfl, _, _, rfl⟩)
    · intro hI q hx hr
      rw [sum_full] at hI ⊢
      simp
      exact hx _ _ (.inl ⟨hI, rfl, rfl⟩)
    · rintro ex e (⟨h1, rfl, rfl⟩ | ⟨h1, rfl, a, b, rfl⟩)
      · have hr : szR (List.length xs + (List.map Term.tot xs).sum) l = L - ((xs.map Term.tot).sum : Nat) := by unfold szR; rw [if_pos] <;> omega
        rw [← hR, hr]; simp
      · have hr : szR (List.length xs + (List.map Term.tot xs).sum) l = -1 := by unfold szR; rw [if_neg]; omega
        rw [← hR, hr]; simp
theorem szAff (x : Aff) (hT : ∀ l : Int, 0 ≤ l → l ≤ 1048576 → Says prog 20 [.rsl (List.length x.T) (Cs ((List.flatMap Term.d x.T))), .int .i64 l] (.int .i64 (szR (List.length x.T + (List.map Term.tot x.T).sum) l)) []) : ∀ l : Int, 0 ≤ l → l ≤ 1048576 → Says prog 10 [.agg (Cs (Aff.d x)), .int .i64 l] (.int .i64 (szR (Aff.tot x) l)) [] := by
  intro l l0 lb
  refine Fn_G Go.Proofs.Tryd.func10 ok10 ?_
  have ht := Aff.tot_eq x
  generalize (List.length x.T + (List.map Term.tot x.T).sum) = TT at hT ht
  have kT := hT (l) (by omega) (by omega)
  try simp at kT
  by_cases cT : (l) < (TT : Nat)
  · have eT : ¬ (((TT : Nat) : Int) ≤ l) := by omega
    have fT : l - ((TT : Nat) : Int) < 0 := by omega
    have hr : szR (Aff.tot x) l = -1 := by unfold szR; rw [if_neg]; omega
    rw [hr]
    have hz : szR TT (l) = -1 := by unfold szR; rw [if_neg]; omega
    rw [hz] at kT
    simp [v10, r10]
    refine callG kT ?_
    simp
  · have hz : szR TT (l) = l - (TT : Int) := by unfold szR; rw [if_pos]; omega
    have hr : szR (Aff.tot x) l = l - (TT : Int) := by unfold szR; rw [if_pos] <;> omega
    rw [hr]
    rw [hz] at kT
    have dT : ¬ ((l - (TT : Int)) < 0) := by omega
    have eT : (((TT : Nat) : Int) ≤ l) := by omega
    simp [v10, r10]
    refine callG kT ?_
    simp [cT, dT, eT]
end Go.AmC
