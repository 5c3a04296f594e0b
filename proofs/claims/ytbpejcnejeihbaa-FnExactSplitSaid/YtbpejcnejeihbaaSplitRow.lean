/- FnExactSplit (the Said form) of the seat: for every input the law returns true and leaves its arguments as they were. No condition. -/
import Derived.Test.YtbpejcnejeihbaaRows
import Derived.Test.YtbpejcnejeihbaaSplitSplit
import Derived.Test.YtbpejcnejeihbaaSplitRd
import Derived.Test.YtbpejcnejeihbaaAmBridge
import Derived.JoinedOf
import Derived.WalkKit
namespace Go.Proofs.Ytbpejcnejeihbaa.fnExactSplit
open Go.ChangeShapes Go.WideShapes Go.ChangeAt Go.RowKit
open Go.AM (Rd_length agg_of_rd law_of_says hr_Cs)
set_option linter.unusedVariables false
set_option linter.unusedSimpArgs false

theorem own : ownKnob Try.prog.godebug = none := by kernel_rfl

set_option maxRecDepth 100000 in
theorem lifted (os : Os) (started : os.Started) (H : Type) (enc : TypeId × Value → H) :
    ReturnsInHanded {} Try.checked os 7 .any (Rows.fnExactSplitSpec.pre6 enc Try.prog Try.f7 Rows.fnExactSplitRow.domain false) (Rows.fnExactSplitSpec.post enc Try.prog Try.f7 false true false false) := by
  refine returnsInHanded_of_change (C := Try.checked) (s := Rows.fnExactSplitSpec) own started (by kernel_rfl) Try.func7
    (ChangeSpec.witness6 (enc := enc) (C := Try.checked) (s := Rows.fnExactSplitSpec) false ⟨#[], #[.agg #[.int .i64 0, .string ⟨#[]⟩, .int .i64 0, .int .i64 0, .string ⟨#[]⟩, .slice none 0 0, .int .i64 0, .int .i64 0, .string ⟨#[]⟩, .slice none 0 0, .int .i64 0, .int .i64 0, .string ⟨#[]⟩, .slice none 0 0, .int .i64 0, .int .i64 0, .string ⟨#[]⟩, .slice none 0 0, .slice none 0 0], .int .i64 0], []⟩ 8 (by kernel_rfl) (by kernel_rfl) (by kernel_rfl) (by kernel_rfl)) ?_
  intro W base args ds gs before hval hW _ _
  have hW' := hW
  obtain ⟨p, q, hA0, hV, rfl, hfz, hnd⟩ := hW
  have hA : DataW.TrodAll enc Try.prog W 0 (fun _ => true) true Try.f7.params.toList args.toList ds p := hA0
  rw [Try.params7] at hA
  obtain ⟨v0, vs0, d0, ds0, p0, q0, e0, rfl, rfl, ⟨n0, h0⟩, r0⟩ := trodAll_cons hA
  obtain ⟨v1, vs1, d1, ds1, p1, q1, e1, rfl, rfl, ⟨n1, h1⟩, r1⟩ := trodAll_cons r0
  obtain ⟨en, rfl, rfl⟩ := trodAll_nil r1
  have hargs : args.toList = [v0, v1] := by rw [e0, e1, en]
  obtain rfl : args = #[v0, v1] := by apply Array.ext'; simpa using hargs
  obtain ⟨x0, hx0, hr0⟩ := AmC.read_Stmt _ _ _ h0
  obtain ⟨x1, rfl⟩ := okWide_int Try.underlying3 (hval 1 3 v1 (by rw [Try.params7]; rfl) rfl)
  exact law_of_says (tb := 4) (avs := [.agg (Go.AM.Cs (AmC.Stmt.d x0)), .int .i64 x1]) (by kernel_rfl) (by kernel_rfl) (by kernel_rfl) (by rw [Try.params7]; intro t ht; simp at ht; rcases ht with h | h <;> (subst h; exact of_decide_eq_true (by kernel_rfl))) rfl (by kernel_rfl) Try.underlying4 hW' rfl
    (show Go.AM.CR Try.prog W (fun b => b < W.heap.size) (fun _ => undef) [] [.agg (Go.AM.Cs (AmC.Stmt.d x0)), .int .i64 x1] [v0, Value.int .i64 x1] (fun _ => 0) from by simpa using Go.AM.CR_cons (agg_of_rd hr0 (by simp [AmC.Stmt.d_len]) (fun b h => h)) (Go.AM.CR_cons (by simp [Go.AM.VR]) (Go.AM.CR_nil))) (by simp [Go.AM.hrs, Go.AM.hr, hr_Cs]) (AmC.law_Split x0 x1 hx0)

theorem over : Rows.fnExactSplitRow.holds Try.pinned (OpenSpec.ofChange Rows.fnExactSplitSpec) :=
  OpenClaim.holds_of_wide 7 Try.f7 rfl rfl rfl rfl rfl rfl rfl ⟨rfl, rfl, rfl, rfl, rfl⟩ rfl rfl rfl rfl rfl (by kernel_rfl) Try.func7 (by kernel_rfl)
    (of_decide_eq_true (by kernel_rfl)) (by unfold Func.isWrapper; first | (rw [if_pos (by decide +kernel)]; kernel_rfl) | (rw [if_neg (by decide +kernel)]; exact ⟨rfl, rfl⟩))
    (fun os started H enc _ => lifted os started H enc)

end Go.Proofs.Ytbpejcnejeihbaa.fnExactSplit
namespace Go.Proofs.Ytbpejcnejeihbaa
theorem fnExactSplitProved : Rows.FnExactSplitSaid := fnExactSplit.over
#print axioms fnExactSplitProved
end Go.Proofs.Ytbpejcnejeihbaa
