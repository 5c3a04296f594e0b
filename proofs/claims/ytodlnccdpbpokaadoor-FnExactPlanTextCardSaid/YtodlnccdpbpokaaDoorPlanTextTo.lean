/- Part of a proof: see the last text of this folder. -/
import Derived.Test.YtodlnccdpbpokaaDoorPlanTextC0
import Derived.Test.YtodlnccdpbpokaaDoorPlanTextDat
set_option linter.unusedSimpArgs false
set_option linter.unusedVariables false
set_option maxRecDepth 20000
set_option maxHeartbeats 4000000
namespace Go.AmC
open Go Go.AM
open Go.Proofs.Tryd (prog)
theorem toIntS (xs : List Int) (hm : xs.length ≤ 1048576) : Says prog 17 [.rsl (List.length xs) (Cs ((List.flatMap dInt xs)))] (.osl 0 3 (List.length xs) (Ows ((List.flatMap dInt xs)))) [] := by
  refine Fn_G Go.Proofs.Tryd.func17 ok17 ?_
  have hs' : (xs.length : Int) ≤ (bnd : Nat) := by unfold bnd; omega
  simp [v17, r17, hm, hs']
  refine G_loop (l := l17_0) (b := b17_0) rfl [] (fun i => [.rsl (List.length xs) (Cs ((List.flatMap dInt xs))), .osl 0 3 0 [], .osl 0 3 xs.length (Ows ((xs.take i).flatMap dInt) ++ (List.replicate (xs.length - i) [.int .i64 0]).flatten), .int .i64 (i : Int), .dead]) (fun _ => True) xs.length
    (fun ex en => ex = .exit 0 ∧ en = [.rsl (List.length xs) (Cs ((List.flatMap dInt xs))), .osl 0 3 0 [], .osl 0 3 (List.length xs) (Ows ((List.flatMap dInt xs))), .int .i64 xs.length, .dead]) ?_ ?_ trivial (by simp) ?_
  · intro i hi _ q hn hx hr
    obtain ⟨x, hx0⟩ : ∃ x, xs[i]? = some x := ⟨_, List.getElem?_eq_getElem hi⟩
    have hrow := row_drop dInt 1 (fun _ => by simp) hx0
    rw [Nat.mul_one] at hrow
    have hw : IntKind.i64.wrap ((i : Int) + 1) = ((i + 1 : Nat) : Int) := by rw [wrap_small] <;> omega
    have hlen : ((xs.take i).flatMap dInt).length = i * 1 := by rw [len_flat _ 1 (fun _ => by simp)]; simp; omega
    rw [flat_take dInt hx0] at hn
    obtain ⟨k, hk⟩ : ∃ k, xs.length - i = k + 1 := ⟨xs.length - i - 1, by omega⟩
    rw [show xs.length - (i + 1) = k by omega] at hn
    rw [hk]
    have hsp := @splice_mid (Ows ((xs.take i).flatMap dInt)) [.int .i64 0] (List.replicate k [.int .i64 0]).flatten (Ows (dInt x)) (i * 1) (by simpa using hlen) (by simp)
    generalize (xs.take i).flatMap dInt = A at hsp hlen hn ⊢
    try simp at hsp
    simp [hi, Cs_drop, hrow, List.replicate_succ, hsp, hw, hlen]
    refine hn _ ?_ trivial
    simp
  · intro _ q hx hr
    simp
    exact hx _ _ ⟨rfl, by simp⟩
  · rintro ex en ⟨rfl, rfl⟩
    simp
theorem toPlan (x : Plan) (hDists : Says prog 17 [.rsl (List.length x.Dists) (Cs ((List.flatMap dInt x.Dists)))] (.osl 0 3 (List.length x.Dists) (Ows ((List.flatMap dInt x.Dists)))) []) : Says prog 7 [.agg (Cs (Plan.d x))] (.agg (Ows (Plan.d x))) [] := by
  refine Fn_G Go.Proofs.Tryd.func7 ok7 ?_
  try simp at hDists
  simp [v7, r7, splice]
  refine callG hDists ?_
  simp [splice]
end Go.AmC
