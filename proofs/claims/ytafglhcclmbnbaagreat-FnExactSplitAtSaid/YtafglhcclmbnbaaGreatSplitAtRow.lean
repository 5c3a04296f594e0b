/- FnExactSplitAt (the Said form) of the seat: for every input the law returns true and leaves its arguments as they were. No condition. -/
import Derived.Test.YtafglhcclmbnbaaGreatRows
import Derived.Test.YtafglhcclmbnbaaGreatSplitAtSplitAt
import Derived.JoinedOf
import Derived.WalkKit
namespace Go.Proofs.YtafglhcclmbnbaaGreat.fnExactSplitAt
open Go.ChangeShapes Go.WideShapes Go.ChangeAt Go.RowKit
open Go.AM (Rd_length agg_of_rd law_of_says hr_Cs)
set_option linter.unusedVariables false
set_option linter.unusedSimpArgs false
theorem own : ownKnob Tryz.prog.godebug = none := by kernel_rfl
set_option maxRecDepth 100000 in
theorem lifted (os : Os) (started : os.Started) (H : Type) (enc : TypeId × Value → H) :
    ReturnsInHanded {} Tryz.checked os 3 .any (Rows.fnExactSplitAtSpec.pre6 enc Tryz.prog Tryz.f3 Rows.fnExactSplitAtRow.domain false) (Rows.fnExactSplitAtSpec.post enc Tryz.prog Tryz.f3 false true false false) := by
  refine returnsInHanded_of_change (C := Tryz.checked) (s := Rows.fnExactSplitAtSpec) own started (by kernel_rfl) Tryz.func3
    (ChangeSpec.witness6 (enc := enc) (C := Tryz.checked) (s := Rows.fnExactSplitAtSpec) false ⟨#[], #[.agg #[.slice none 0 0, .slice none 0 0], .int .i64 0, .int .i64 0], []⟩ 8 (by kernel_rfl) (by kernel_rfl) (by kernel_rfl) (by kernel_rfl)) ?_
  intro W base args ds gs before hval hW _ _
  have hW' := hW
  obtain ⟨p, q, hA0, hV, rfl, hfz, hnd⟩ := hW
  have hA : DataW.TrodAll enc Tryz.prog W 0 (fun _ => true) true Tryz.f3.params.toList args.toList ds p := hA0
  rw [Tryz.params3] at hA
  obtain ⟨v0, vs0, d0, ds0, p0, q0, e0, rfl, rfl, ⟨n0, h0⟩, r0⟩ := trodAll_cons hA
  obtain ⟨v1, vs1, d1, ds1, p1, q1, e1, rfl, rfl, ⟨n1, h1⟩, r1⟩ := trodAll_cons r0
  obtain ⟨v2, vs2, d2, ds2, p2, q2, e2, rfl, rfl, ⟨n2, h2⟩, r2⟩ := trodAll_cons r1
  obtain ⟨en, rfl, rfl⟩ := trodAll_nil r2
  have hargs : args.toList = [v0, v1, v2] := by rw [e0, e1, e2, en]
  obtain rfl : args = #[v0, v1, v2] := by apply Array.ext'; simpa using hargs
  obtain ⟨x0, hx0, hr0⟩ := AmC.read_Prog _ _ _ h0
  obtain ⟨x1, rfl⟩ := okWide_int Tryz.underlying3 (hval 1 3 v1 (by rw [Tryz.params3]; rfl) rfl)
  obtain ⟨x2, rfl⟩ := okWide_int Tryz.underlying3 (hval 2 3 v2 (by rw [Tryz.params3]; rfl) rfl)
  exact law_of_says (tb := 4) (avs := [.agg (Go.AM.Cs (AmC.Prog.d x0)), .int .i64 x1, .int .i64 x2]) (by kernel_rfl) (by kernel_rfl) (by kernel_rfl) (by rw [Tryz.params3]; intro t ht; simp at ht; rcases ht with h | h <;> (subst h; exact of_decide_eq_true (by kernel_rfl))) rfl (by kernel_rfl) Tryz.underlying4 hW' rfl (Go.AM.tabs_none (by kernel_rfl))
    (show Go.AM.CR Tryz.prog W (fun b => b < W.heap.size) (fun _ => undef) [] [.agg (Go.AM.Cs (AmC.Prog.d x0)), .int .i64 x1, .int .i64 x2] [v0, Value.int .i64 x1, Value.int .i64 x2] (fun _ => 0) from by simpa using Go.AM.CR_cons (agg_of_rd hr0 (by simp [AmC.Prog.d_len]) (fun b h => h)) (Go.AM.CR_cons (show Go.AM.VR Tryz.prog W (fun b => b < W.heap.size) (fun _ => undef) [] (.int .i64 x1) (Value.int .i64 x1) (fun _ => 0) from by simp [Go.AM.VR]) (Go.AM.CR_cons (show Go.AM.VR Tryz.prog W (fun b => b < W.heap.size) (fun _ => undef) [] (.int .i64 x2) (Value.int .i64 x2) (fun _ => 0) from by simp [Go.AM.VR]) (Go.AM.CR_nil)))) (by simp [Go.AM.hrs, Go.AM.hr, hr_Cs]) (AmC.law_SplitAt x0 x1 x2 hx0)
set_option maxHeartbeats 40000000 in
theorem closed : joinedFacts Tryz.pinned.checked.prog 3 Tryz.f3 Rows.fnExactSplitAtSpec Rows.fnExactSplitAtRow = true := by
  unfold joinedFacts
  simp only [Bool.and_eq_true]
  repeat' apply And.intro
  all_goals (as_aux_lemma => kernel_rfl)
set_option maxHeartbeats 40000000 in
theorem over : Rows.fnExactSplitAtRow.holds Tryz.pinned (OpenSpec.ofChange Rows.fnExactSplitAtSpec) :=
  OpenClaim.holds_of_wide 3 Tryz.f3 rfl rfl rfl rfl rfl rfl rfl ⟨rfl, rfl, rfl, rfl, rfl⟩ rfl rfl rfl rfl rfl (by as_aux_lemma => kernel_rfl) Tryz.func3 closed
    (of_decide_eq_true (by as_aux_lemma => kernel_rfl)) (by unfold Func.isWrapper; first | (rw [if_pos (by decide +kernel)]; kernel_rfl) | (rw [if_neg (by decide +kernel)]; exact ⟨rfl, rfl⟩))
    (fun os started H enc _ => lifted os started H enc)
end Go.Proofs.YtafglhcclmbnbaaGreat.fnExactSplitAt
namespace Go.Proofs.YtafglhcclmbnbaaGreat
theorem fnExactSplitAtProved : Rows.FnExactSplitAtSaid := fnExactSplitAt.over
#print axioms fnExactSplitAtProved
end Go.Proofs.YtafglhcclmbnbaaGreat
