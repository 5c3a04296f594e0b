/- Part of a proof: see the last text of this folder. -/
import Derived.Test.YtapdppkplhgnjaaFoldExpC0
import Derived.Test.YtapdppkplhgnjaaFoldExpDat
set_option linter.unusedSimpArgs false
set_option linter.unusedVariables false
set_option maxRecDepth 20000
set_option maxHeartbeats 4000000
namespace Go.AmC
open Go Go.AM
open Go.Proofs.Try (prog)
theorem szExpS (xs : List Exp) (hm : xs.length ≤ maxLen) (h : ∀ x ∈ xs, ∀ l : Int, 0 ≤ l → l ≤ 1048576 → Says prog 20 [.agg (Cs (Exp.d x)), .int .i64 l] (.int .i64 (szR (Exp.tot x) l)) []) : ∀ l : Int, 0 ≤ l → l ≤ 1048576 → Says prog 46 [.rsl (List.length xs) (Cs ((List.flatMap Exp.d xs))), .int .i64 l] (.int .i64 (szR (List.length xs + (List.map Exp.tot xs).sum) l)) [] := by
  intro l l0 lb
  have hw : IntKind.i64.wrap (l - xs.length) = l - xs.length := by unfold maxLen at hm; rw [wrap_small] <;> omega
  refine Fn_G Go.Proofs.Try.func46 ok46 ?_
  by_cases c : l < xs.length
  · have hr : szR (List.length xs + (List.map Exp.tot xs).sum) l = -1 := by unfold szR; rw [if_neg]; omega
    have c' : ¬ ((xs.length : Int) ≤ l) := by omega
    have d : l - (xs.length : Int) < 0 := by omega
    rw [hr]; simp [v46, r46, hw, c, c', d]
  · have c' : (xs.length : Int) ≤ l := by omega
    have d : ¬ (l - (xs.length : Int) < 0) := by omega
    generalize hR : szR (List.length xs + (List.map Exp.tot xs).sum) l = R0
    simp [v46, r46, hw, c, c', d]
    obtain ⟨L, hL⟩ : ∃ L, l - (xs.length : Int) = L := ⟨_, rfl⟩
    rw [hL]
    refine G_loop (l := l46_0) (b := b46_0) rfl [] (fun i => [.rsl (List.length xs) (Cs ((List.flatMap Exp.d xs))), .int .i64 (L - ((((xs.take i).map Exp.tot).sum : Nat) : Int)), .int .i64 0, .dead, .int .i64 (i : Int), .dead, .dead]) (fun i => ((((xs.take i).map Exp.tot).sum : Nat) : Int) ≤ L) xs.length
      (fun ex e => ((((xs.map Exp.tot).sum : Nat) : Int) ≤ L ∧ ex = .exit 0 ∧ e = [.rsl (List.length xs) (Cs ((List.flatMap Exp.d xs))), .int .i64 (L - ((xs.map Exp.tot).sum : Nat)), .int .i64 0, .dead, .int .i64 xs.length, .dead, .dead]) ∨ (¬ (((xs.map Exp.tot).sum : Nat) : Int) ≤ L ∧ ex = .ret ∧ ∃ a b, e = [.rsl (List.length xs) (Cs ((List.flatMap Exp.d xs))), a, .int .i64 (-1), .dead, b, .dead, .dead])) ?_ ?_ (by simp; omega) (by simp) ?_
    · intro i hi hI q hn hx hr
      obtain ⟨x, hx0⟩ : ∃ x, xs[i]? = some x := ⟨_, List.getElem?_eq_getElem hi⟩
      have hs := sum_take Exp.tot hx0
      have hle := sum_take_le Exp.tot xs (i + 1)
      rw [hs] at hle hn
      generalize ((xs.take i).map Exp.tot).sum = S at hle hI hn ⊢
      generalize hT : (xs.map Exp.tot).sum = T at hle hx hr
      have hf := h x (List.mem_of_getElem? hx0) (L - (S : Int)) (by omega) (by omega)
      have hrow := row_drop Exp.d 4 Exp.d_len hx0
      have hw : IntKind.i64.wrap ((i : Int) + 1) = ((i + 1 : Nat) : Int) := by unfold maxLen at hm; rw [wrap_small] <;> omega
      by_cases c : ((Exp.tot x : Nat) : Int) ≤ L - (S : Int)
      · have hz : szR (Exp.tot x) (L - (S : Int)) = L - ((S + Exp.tot x : Nat) : Int) := by unfold szR; rw [if_pos c]; omega
        have c2 : ¬ (L - ((S + Exp.tot x : Nat) : Int) < 0) := by omega
        have c3 : ((S + Exp.tot x : Nat) : Int) ≤ L := by omega
        rw [hz] at hf
        generalize ((S + Exp.tot x : Nat) : Int) = U at hf c2 c3 hn
        simp [hi, Cs_drop, hrow]
        try simp at hf
        refine callG hf ?_
        simp [c2, c3, hw]
        all_goals first | (intros; omega) | (refine hn _ ?_ c3; simp; done) | (refine ⟨fun h => by omega, hn _ ?_ c3⟩; simp; done) | (refine ⟨fun h => by omega, fun _ => hn _ ?_ c3⟩; simp; done)
      · have hz : szR (Exp.tot x) (L - (S : Int)) = -1 := by unfold szR; rw [if_neg c]
        rw [hz] at hf
        simp [hi, Cs_drop, hrow]
        try simp at hf
        refine callG hf ?_
        simp
        exact hr _ (.inr ⟨by omega, rfl, _, _, rfl⟩)
    · intro hI q hx hr
      rw [sum_full] at hI ⊢
      simp
      exact hx _ _ (.inl ⟨hI, rfl, rfl⟩)
    · rintro ex e (⟨h1, rfl, rfl⟩ | ⟨h1, rfl, a, b, rfl⟩)
      · have hr : szR (List.length xs + (List.map Exp.tot xs).sum) l = L - ((xs.map Exp.tot).sum : Nat) := by unfold szR; rw [if_pos] <;> omega
        rw [← hR, hr]; simp
      · have hr : szR (List.length xs + (List.map Exp.tot xs).sum) l = -1 := by unfold szR; rw [if_neg]; omega
        rw [← hR, hr]; simp
theorem szExp (x : Exp) (hS : x.S.length ≤ maxLen) (hL : ∀ l : Int, 0 ≤ l → l ≤ 1048576 → Says prog 46 [.rsl (List.length x.L) (Cs ((List.flatMap Exp.d x.L))), .int .i64 l] (.int .i64 (szR (List.length x.L + (List.map Exp.tot x.L).sum) l)) []) : ∀ l : Int, 0 ≤ l → l ≤ 1048576 → Says prog 20 [.agg (Cs (Exp.d x)), .int .i64 l] (.int .i64 (szR (Exp.tot x) l)) [] := by
  intro l l0 lb
  refine Fn_G Go.Proofs.Try.func20 ok20 ?_
  have ht := Exp.tot_eq x
  generalize (List.length x.L + (List.map Exp.tot x.L).sum) = TL at hL ht
  have wS : IntKind.i64.wrap (l - (List.length x.S : Int)) = l - (List.length x.S : Int) := by unfold maxLen at hS; rw [wrap_small] <;> omega
  by_cases cS : (l) < ((List.length x.S) : Nat)
  · have eS : ¬ ((((List.length x.S) : Nat) : Int) ≤ l) := by omega
    have fS : l - (((List.length x.S) : Nat) : Int) < 0 := by omega
    have hr : szR (Exp.tot x) l = -1 := by unfold szR; rw [if_neg]; omega
    rw [hr]
    simp [v20, r20, wS, cS, eS, fS]
  · have eS : ((((List.length x.S) : Nat) : Int) ≤ l) := by omega
    have fS : ¬ (l - (((List.length x.S) : Nat) : Int) < 0) := by omega
    simp [v20, r20, wS, cS, eS, fS]
    have kL := hL (l - (List.length x.S : Int)) (by omega) (by omega)
    try simp at kL
    by_cases cL : (l - (List.length x.S : Int)) < (TL : Nat)
    · have eL : ¬ (((TL : Nat) : Int) ≤ l - (List.length x.S : Int)) := by omega
      have fL : l - (List.length x.S : Int) - ((TL : Nat) : Int) < 0 := by omega
      have hr : szR (Exp.tot x) l = -1 := by unfold szR; rw [if_neg]; omega
      rw [hr]
      have hz : szR TL (l - (List.length x.S : Int)) = -1 := by unfold szR; rw [if_neg]; omega
      rw [hz] at kL
      refine callG kL ?_
      simp
    · have hz : szR TL (l - (List.length x.S : Int)) = l - (List.length x.S : Int) - (TL : Int) := by unfold szR; rw [if_pos]; omega
      have hr : szR (Exp.tot x) l = l - (List.length x.S : Int) - (TL : Int) := by unfold szR; rw [if_pos] <;> omega
      rw [hr]
      rw [hz] at kL
      have dL : ¬ ((l - (List.length x.S : Int) - (TL : Int)) < 0) := by omega
      have eL : (((TL : Nat) : Int) ≤ l - (List.length x.S : Int)) := by omega
      refine callG kL ?_
      simp [cL, dL, eL]
end Go.AmC
