/- FnExactFoldProg (the Said form) of the seat: for every input the law returns true and leaves its arguments as they were. No condition. -/
import Derived.Test.YtbpejcnejeihbaaRows
import Derived.Test.YtbpejcnejeihbaaFoldProgFoldProg
import Derived.Test.YtbpejcnejeihbaaFoldProgRd
import Derived.Test.YtbpejcnejeihbaaAmBridge
import Derived.JoinedOf
import Derived.WalkKit
namespace Go.Proofs.Ytbpejcnejeihbaa.fnExactFoldProg
open Go.ChangeShapes Go.WideShapes Go.ChangeAt Go.RowKit
open Go.AM (Rd_length agg_of_rd law_of_says hr_Cs)
set_option linter.unusedVariables false
set_option linter.unusedSimpArgs false

theorem own : ownKnob Try.prog.godebug = none := by kernel_rfl

set_option maxRecDepth 100000 in
theorem lifted (os : Os) (started : os.Started) (H : Type) (enc : TypeId × Value → H) :
    ReturnsInHanded {} Try.checked os 4 .any (Rows.fnExactFoldProgSpec.pre6 enc Try.prog Try.f4 Rows.fnExactFoldProgRow.domain false) (Rows.fnExactFoldProgSpec.post enc Try.prog Try.f4 false true false false) := by
  refine returnsInHanded_of_change (C := Try.checked) (s := Rows.fnExactFoldProgSpec) own started (by kernel_rfl) Try.func4
    (ChangeSpec.witness6 (enc := enc) (C := Try.checked) (s := Rows.fnExactFoldProgSpec) false ⟨#[], #[.agg #[.slice none 0 0, .slice none 0 0]], []⟩ 8 (by kernel_rfl) (by kernel_rfl) (by kernel_rfl) (by kernel_rfl)) ?_
  intro W base args ds gs before hval hW _ _
  have hW' := hW
  obtain ⟨p, q, hA0, hV, rfl, hfz, hnd⟩ := hW
  have hA : DataW.TrodAll enc Try.prog W 0 (fun _ => true) true Try.f4.params.toList args.toList ds p := hA0
  rw [Try.params4] at hA
  obtain ⟨v0, vs0, d0, ds0, p0, q0, e0, rfl, rfl, ⟨n0, h0⟩, r0⟩ := trodAll_cons hA
  obtain ⟨en, rfl, rfl⟩ := trodAll_nil r0
  have hargs : args.toList = [v0] := by rw [e0, en]
  obtain rfl : args = #[v0] := by apply Array.ext'; simpa using hargs
  obtain ⟨x0, hx0, hr0⟩ := AmC.read_Prog _ _ _ h0
  exact law_of_says (tb := 4) (avs := [.agg (Go.AM.Cs (AmC.Prog.d x0))]) (by kernel_rfl) (by kernel_rfl) (by kernel_rfl) (by rw [Try.params4]; intro t ht; simp at ht; subst ht; exact of_decide_eq_true (by kernel_rfl)) rfl (by kernel_rfl) Try.underlying4 hW' rfl
    (show Go.AM.CR Try.prog W (fun b => b < W.heap.size) (fun _ => undef) [] [.agg (Go.AM.Cs (AmC.Prog.d x0))] [v0] (fun _ => 0) from by simpa using Go.AM.CR_cons (agg_of_rd hr0 (by simp [AmC.Prog.d_len]) (fun b h => h)) (Go.AM.CR_nil)) (by simp [Go.AM.hrs, Go.AM.hr, hr_Cs]) (AmC.law_FoldProg x0 hx0)

theorem over : Rows.fnExactFoldProgRow.holds Try.pinned (OpenSpec.ofChange Rows.fnExactFoldProgSpec) :=
  OpenClaim.holds_of_wide 4 Try.f4 rfl rfl rfl rfl rfl rfl rfl ⟨rfl, rfl, rfl, rfl, rfl⟩ rfl rfl rfl rfl rfl (by kernel_rfl) Try.func4 (by kernel_rfl)
    (of_decide_eq_true (by kernel_rfl)) (by unfold Func.isWrapper; first | (rw [if_pos (by decide +kernel)]; kernel_rfl) | (rw [if_neg (by decide +kernel)]; exact ⟨rfl, rfl⟩))
    (fun os started H enc _ => lifted os started H enc)

end Go.Proofs.Ytbpejcnejeihbaa.fnExactFoldProg
namespace Go.Proofs.Ytbpejcnejeihbaa
theorem fnExactFoldProgProved : Rows.FnExactFoldProgSaid := fnExactFoldProg.over
#print axioms fnExactFoldProgProved
end Go.Proofs.Ytbpejcnejeihbaa
