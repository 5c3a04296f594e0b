/- Part of a proof: see the last text of this folder. -/
import Derived.Test.YtodlnccdpbpokaaDoorAffTextC0
import Derived.Test.YtodlnccdpbpokaaDoorAffTextDat
set_option linter.unusedSimpArgs false
set_option linter.unusedVariables false
set_option maxRecDepth 20000
set_option maxHeartbeats 4000000
namespace Go.AmC
open Go Go.AM
open Go.Proofs.Tryd (prog)
theorem toTerm (x : Term) : Says prog 30 [.agg (Cs (Term.d x))] (.agg (Ows (Term.d x))) [] := by
  refine Fn_G Go.Proofs.Tryd.func30 ok30 ?_
  simp [v30, r30, splice]
theorem toTermS (xs : List Term) (hm : xs.length ≤ 1048576) (h : ∀ x ∈ xs, Says prog 30 [.agg (Cs (Term.d x))] (.agg (Ows (Term.d x))) []) : Says prog 22 [.rsl (List.length xs) (Cs ((List.flatMap Term.d xs)))] (.osl 0 49 (List.length xs) (Ows ((List.flatMap Term.d xs)))) [] := by
  refine Fn_G Go.Proofs.Tryd.func22 ok22 ?_
  have hs' : (xs.length : Int) ≤ (bnd : Nat) := by unfold bnd; omega
  simp [v22, r22, hm, hs']
  refine G_loop (l := l22_0) (b := b22_0) rfl [] (fun i => [.rsl (List.length xs) (Cs ((List.flatMap Term.d xs))), .osl 0 49 0 [], .osl 0 49 xs.length (Ows ((xs.take i).flatMap Term.d) ++ (List.replicate (xs.length - i) [.str [], .int .i64 0]).flatten), .int .i64 (i : Int), .dead]) (fun _ => True) xs.length
    (fun ex en => ex = .exit 0 ∧ en = [.rsl (List.length xs) (Cs ((List.flatMap Term.d xs))), .osl 0 49 0 [], .osl 0 49 (List.length xs) (Ows ((List.flatMap Term.d xs))), .int .i64 xs.length, .dead]) ?_ ?_ trivial (by simp) ?_
  · intro i hi _ q hn hx hr
    obtain ⟨x, hx0⟩ : ∃ x, xs[i]? = some x := ⟨_, List.getElem?_eq_getElem hi⟩
    have hrow := row_drop Term.d 2 Term.d_len hx0
    have hw : IntKind.i64.wrap ((i : Int) + 1) = ((i + 1 : Nat) : Int) := by rw [wrap_small] <;> omega
    have hlen : ((xs.take i).flatMap Term.d).length = i * 2 := by rw [len_flat _ 2 Term.d_len]; simp; omega
    rw [flat_take Term.d hx0] at hn
    obtain ⟨k, hk⟩ : ∃ k, xs.length - i = k + 1 := ⟨xs.length - i - 1, by omega⟩
    rw [show xs.length - (i + 1) = k by omega] at hn
    rw [hk]
    have hsp := @splice_mid (Ows ((xs.take i).flatMap Term.d)) [.str [], .int .i64 0] (List.replicate k [.str [], .int .i64 0]).flatten (Ows (Term.d x)) (i * 2) (by simpa using hlen) (by simp)
    generalize (xs.take i).flatMap Term.d = A at hsp hlen hn ⊢
    have hf := h x (List.mem_of_getElem? hx0)
    try simp at hf
    try simp at hsp
    simp [hi, Cs_drop, hrow, List.replicate_succ]
    refine callG hf ?_
    simp [hi, hsp, hw, hlen]
    refine hn _ ?_ trivial
    simp
  · intro _ q hx hr
    simp
    exact hx _ _ ⟨rfl, by simp⟩
  · rintro ex en ⟨rfl, rfl⟩
    simp
theorem toAff (x : Aff) (hT : Says prog 22 [.rsl (List.length x.T) (Cs ((List.flatMap Term.d x.T)))] (.osl 0 49 (List.length x.T) (Ows ((List.flatMap Term.d x.T)))) []) : Says prog 12 [.agg (Cs (Aff.d x))] (.agg (Ows (Aff.d x))) [] := by
  refine Fn_G Go.Proofs.Tryd.func12 ok12 ?_
  try simp at hT
  simp [v12, r12, splice]
  refine callG hT ?_
  simp [splice]
end Go.AmC
