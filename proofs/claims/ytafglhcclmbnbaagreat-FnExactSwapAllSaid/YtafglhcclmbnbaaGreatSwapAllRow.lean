/- FnExactSwapAll (the Said form) of the seat: for every input the law returns true and leaves its arguments as they were. No condition. -/
import Derived.Test.YtafglhcclmbnbaaGreatRows
import Derived.Test.YtafglhcclmbnbaaGreatSwapAllSwapAll
import Derived.JoinedOf
import Derived.WalkKit
namespace Go.Proofs.YtafglhcclmbnbaaGreat.fnExactSwapAll
open Go.ChangeShapes Go.WideShapes Go.ChangeAt Go.RowKit
open Go.AM (E5 EW yx aga)
set_option linter.unusedVariables false
set_option linter.unusedSimpArgs false
theorem own : ownKnob Tryz.prog.godebug = none := by kernel_rfl
set_option maxRecDepth 100000 in
theorem lifted (os : Os) (started : os.Started) (H : Type) (enc : TypeId × Value → H) :
    ReturnsInHanded {} Tryz.checked os 9 .any (Rows.fnExactSwapAllSpec.pre6 enc Tryz.prog Tryz.f9 Rows.fnExactSwapAllRow.domain false) (Rows.fnExactSwapAllSpec.post enc Tryz.prog Tryz.f9 false true false false) := by
  refine returnsInHanded_of_change (C := Tryz.checked) (s := Rows.fnExactSwapAllSpec) own started (by kernel_rfl) Tryz.func9
    (ChangeSpec.witness6 (enc := enc) (C := Tryz.checked) (s := Rows.fnExactSwapAllSpec) false ⟨#[], #[.agg #[.slice none 0 0, .slice none 0 0]], []⟩ 8 (by kernel_rfl) (by kernel_rfl) (by kernel_rfl) (by kernel_rfl)) ?_
  intro W base args ds gs before hval hW _ _
  have hW' := hW
  obtain ⟨p, q, hA0, hV, rfl, hfz, hnd⟩ := hW
  have hA : DataW.TrodAll enc Tryz.prog W 0 (fun _ => true) true Tryz.f9.params.toList args.toList ds p := hA0
  rw [Tryz.params9] at hA
  obtain ⟨v0, vs0, d0, ds0, p0, q0, e0, rfl, rfl, ⟨n0, h0⟩, r0⟩ := trodAll_cons hA
  obtain ⟨en, rfl, rfl⟩ := trodAll_nil r0
  have hargs : args.toList = [v0] := by rw [e0, en]
  obtain rfl : args = #[v0] := by apply Array.ext'; simpa using hargs
  obtain ⟨x0, hx0, hr0⟩ := AmC.read_Prog _ _ _ h0
  exact yx (tb := 4) (avs := [.agg (Go.AM.Cs (AmC.Prog.d x0))]) (by kernel_rfl) (by kernel_rfl) (by kernel_rfl) (by rw [Tryz.params9]; intro t ht; simp at ht; subst ht; exact of_decide_eq_true (by kernel_rfl)) rfl (by kernel_rfl) Tryz.underlying4 hW' rfl (Go.AM.tabs_none (by kernel_rfl))
    (show Go.AM.CR Tryz.prog W (fun b => b < W.heap.size) (fun _ => undef) [] [.agg (Go.AM.Cs (AmC.Prog.d x0))] [v0] (fun _ => 0) from by simpa using Go.AM.CR_cons (EW hr0 (by simp [AmC.Prog.d_len]) (fun b h => h)) (Go.AM.CR_nil)) (by simp [Go.AM.hrs, Go.AM.hr, aga]) (AmC.law_SwapAll x0 hx0)
set_option maxHeartbeats 40000000 in
theorem closed : joinedFacts Tryz.pinned.checked.prog 9 Tryz.f9 Rows.fnExactSwapAllSpec Rows.fnExactSwapAllRow = true := by
  unfold joinedFacts
  simp only [Bool.and_eq_true]
  repeat' apply And.intro
  all_goals (as_aux_lemma => kernel_rfl)
set_option maxHeartbeats 40000000 in
theorem over : Rows.fnExactSwapAllRow.holds Tryz.pinned (OpenSpec.ofChange Rows.fnExactSwapAllSpec) :=
  OpenClaim.holds_of_wide 9 Tryz.f9 rfl rfl rfl rfl rfl rfl rfl ⟨rfl, rfl, rfl, rfl, rfl⟩ rfl rfl rfl rfl rfl (by as_aux_lemma => kernel_rfl) Tryz.func9 closed
    (of_decide_eq_true (by as_aux_lemma => kernel_rfl)) (by unfold Func.isWrapper; first | (rw [if_pos (by decide +kernel)]; kernel_rfl) | (rw [if_neg (by decide +kernel)]; exact ⟨rfl, rfl⟩))
    (fun os started H enc _ => lifted os started H enc)
end Go.Proofs.YtafglhcclmbnbaaGreat.fnExactSwapAll
namespace Go.Proofs.YtafglhcclmbnbaaGreat
theorem fnExactSwapAllProved : Rows.FnExactSwapAllSaid := fnExactSwapAll.over
#print axioms fnExactSwapAllProved
end Go.Proofs.YtafglhcclmbnbaaGreat
