/- Part of a proof: see the last text of this folder. -/
import Derived.Test.YtapdppkplhgnjaaFoldExpC0
import Derived.Test.YtapdppkplhgnjaaFoldExpDat
set_option linter.unusedSimpArgs false
set_option linter.unusedVariables false
set_option maxRecDepth 20000
set_option maxHeartbeats 4000000
namespace Go.AmC
open Go Go.AM
open Go.Proofs.Try (prog)
theorem toExpS (xs : List Exp) (hm : xs.length ≤ 1048576) (h : ∀ x ∈ xs, Says prog 22 [.agg (Cs (Exp.d x))] (.agg (Ows (Exp.d x))) []) : Says prog 49 [.rsl (List.length xs) (Cs ((List.flatMap Exp.d xs)))] (.osl 0 34 (List.length xs) (Ows ((List.flatMap Exp.d xs)))) [] := by
  refine Fn_G Go.Proofs.Try.func49 ok49 ?_
  have hs' : (xs.length : Int) ≤ (bnd : Nat) := by unfold bnd; omega
  simp [v49, r49, hm, hs']
  refine G_loop (l := l49_0) (b := b49_0) rfl [] (fun i => [.rsl (List.length xs) (Cs ((List.flatMap Exp.d xs))), .osl 0 34 0 [], .osl 0 34 xs.length (Ows ((xs.take i).flatMap Exp.d) ++ (List.replicate (xs.length - i) [.int .i64 0, .int .i64 0, .str [], .osl 0 34 0 []]).flatten), .int .i64 (i : Int), .dead]) (fun _ => True) xs.length
    (fun ex en => ex = .exit 0 ∧ en = [.rsl (List.length xs) (Cs ((List.flatMap Exp.d xs))), .osl 0 34 0 [], .osl 0 34 (List.length xs) (Ows ((List.flatMap Exp.d xs))), .int .i64 xs.length, .dead]) ?_ ?_ trivial (by simp) ?_
  · intro i hi _ q hn hx hr
    obtain ⟨x, hx0⟩ : ∃ x, xs[i]? = some x := ⟨_, List.getElem?_eq_getElem hi⟩
    have hrow := row_drop Exp.d 4 Exp.d_len hx0
    have hw : IntKind.i64.wrap ((i : Int) + 1) = ((i + 1 : Nat) : Int) := by rw [wrap_small] <;> omega
    have hlen : ((xs.take i).flatMap Exp.d).length = i * 4 := by rw [len_flat _ 4 Exp.d_len]; simp; omega
    rw [flat_take Exp.d hx0] at hn
    obtain ⟨k, hk⟩ : ∃ k, xs.length - i = k + 1 := ⟨xs.length - i - 1, by omega⟩
    rw [show xs.length - (i + 1) = k by omega] at hn
    rw [hk]
    have hsp := @splice_mid (Ows ((xs.take i).flatMap Exp.d)) [.int .i64 0, .int .i64 0, .str [], .osl 0 34 0 []] (List.replicate k [.int .i64 0, .int .i64 0, .str [], .osl 0 34 0 []]).flatten (Ows (Exp.d x)) (i * 4) (by simpa using hlen) (by simp)
    generalize (xs.take i).flatMap Exp.d = A at hsp hlen hn ⊢
    have hf := h x (List.mem_of_getElem? hx0)
    try simp at hf
    try simp at hsp
    simp [hi, Cs_drop, hrow, List.replicate_succ]
    refine callG hf ?_
    simp [hi, hsp, hw, hlen]
    refine hn _ ?_ trivial
    simp
  · intro _ q hx hr
    simp
    exact hx _ _ ⟨rfl, by simp⟩
  · rintro ex en ⟨rfl, rfl⟩
    simp
theorem toExp (x : Exp) (hL : Says prog 49 [.rsl (List.length x.L) (Cs ((List.flatMap Exp.d x.L)))] (.osl 0 34 (List.length x.L) (Ows ((List.flatMap Exp.d x.L)))) []) : Says prog 22 [.agg (Cs (Exp.d x))] (.agg (Ows (Exp.d x))) [] := by
  refine Fn_G Go.Proofs.Try.func22 ok22 ?_
  try simp at hL
  simp [v22, r22, splice]
  refine callG hL ?_
  simp [splice]
end Go.AmC
