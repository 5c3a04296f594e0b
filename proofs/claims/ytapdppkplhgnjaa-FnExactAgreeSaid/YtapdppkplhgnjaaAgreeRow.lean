/- FnExactAgree (the Said form) of the seat: for every input the law returns true and leaves its arguments as they were. No condition. -/
import Derived.Test.YtapdppkplhgnjaaRows
import Derived.Test.YtapdppkplhgnjaaAgreeAgree
import Derived.Test.YtapdppkplhgnjaaAgreeRd
import Derived.Test.YtapdppkplhgnjaaAmBridge
import Derived.JoinedOf
import Derived.WalkKit
namespace Go.Proofs.Ytapdppkplhgnjaa.fnExactAgree
open Go.ChangeShapes Go.WideShapes Go.ChangeAt Go.RowKit
open Go.AM (Rd_length agg_of_rd law_of_says hr_Cs)
set_option linter.unusedVariables false
set_option linter.unusedSimpArgs false

theorem own : ownKnob Try.prog.godebug = none := by kernel_rfl

set_option maxRecDepth 100000 in
theorem lifted (os : Os) (started : os.Started) (H : Type) (enc : TypeId × Value → H) :
    ReturnsInHanded {} Try.checked os 7 .any (Rows.fnExactAgreeSpec.pre6 enc Try.prog Try.f7 Rows.fnExactAgreeRow.domain false) (Rows.fnExactAgreeSpec.post enc Try.prog Try.f7 false true false false) := by
  refine returnsInHanded_of_change (C := Try.checked) (s := Rows.fnExactAgreeSpec) own started (by kernel_rfl) Try.func7
    (ChangeSpec.witness6 (enc := enc) (C := Try.checked) (s := Rows.fnExactAgreeSpec) false ⟨#[], #[.agg #[.slice none 0 0, .slice none 0 0], .agg #[.slice none 0 0, .slice none 0 0, .slice none 0 0, .int .i64 0], .agg #[.slice none 0 0, .slice none 0 0, .slice none 0 0, .int .i64 0]], []⟩ 8 (by kernel_rfl) (by kernel_rfl) (by kernel_rfl) (by kernel_rfl)) ?_
  intro W base args ds gs before hval hW _ _
  have hW' := hW
  obtain ⟨p, q, hA0, hV, rfl, hfz, hnd⟩ := hW
  have hA : DataW.TrodAll enc Try.prog W 0 (fun _ => true) true Try.f7.params.toList args.toList ds p := hA0
  rw [Try.params7] at hA
  obtain ⟨v0, vs0, d0, ds0, p0, q0, e0, rfl, rfl, ⟨n0, h0⟩, r0⟩ := trodAll_cons hA
  obtain ⟨v1, vs1, d1, ds1, p1, q1, e1, rfl, rfl, ⟨n1, h1⟩, r1⟩ := trodAll_cons r0
  obtain ⟨v2, vs2, d2, ds2, p2, q2, e2, rfl, rfl, ⟨n2, h2⟩, r2⟩ := trodAll_cons r1
  obtain ⟨en, rfl, rfl⟩ := trodAll_nil r2
  have hargs : args.toList = [v0, v1, v2] := by rw [e0, e1, e2, en]
  obtain rfl : args = #[v0, v1, v2] := by apply Array.ext'; simpa using hargs
  obtain ⟨x0, hx0, hr0⟩ := AmC.read_Prog _ _ _ h0
  obtain ⟨x1, hx1, hr1⟩ := AmC.read_Sto _ _ _ h1
  obtain ⟨x2, hx2, hr2⟩ := AmC.read_Sto _ _ _ h2
  exact law_of_says (tb := 4) (avs := [.agg (Go.AM.Cs (AmC.Prog.d x0)), .agg (Go.AM.Cs (AmC.Sto.d x1)), .agg (Go.AM.Cs (AmC.Sto.d x2))]) (by kernel_rfl) (by kernel_rfl) (by kernel_rfl) (by rw [Try.params7]; intro t ht; simp at ht; rcases ht with h | h <;> (subst h; exact of_decide_eq_true (by kernel_rfl))) rfl (by kernel_rfl) Try.underlying4 hW' rfl
    (show Go.AM.CR Try.prog W (fun b => b < W.heap.size) (fun _ => undef) [] [.agg (Go.AM.Cs (AmC.Prog.d x0)), .agg (Go.AM.Cs (AmC.Sto.d x1)), .agg (Go.AM.Cs (AmC.Sto.d x2))] [v0, v1, v2] (fun _ => 0) from by simpa using Go.AM.CR_cons (agg_of_rd hr0 (by simp [AmC.Prog.d_len]) (fun b h => h)) (Go.AM.CR_cons (agg_of_rd hr1 (by simp [AmC.Sto.d_len]) (fun b h => h)) (Go.AM.CR_cons (agg_of_rd hr2 (by simp [AmC.Sto.d_len]) (fun b h => h)) (Go.AM.CR_nil)))) (by simp [Go.AM.hrs, Go.AM.hr, hr_Cs]) (AmC.law_Agree x0 x1 x2 hx0 hx1 hx2)

theorem over : Rows.fnExactAgreeRow.holds Try.pinned (OpenSpec.ofChange Rows.fnExactAgreeSpec) :=
  OpenClaim.holds_of_wide 7 Try.f7 rfl rfl rfl rfl rfl rfl rfl ⟨rfl, rfl, rfl, rfl, rfl⟩ rfl rfl rfl rfl rfl (by kernel_rfl) Try.func7 (by kernel_rfl)
    (of_decide_eq_true (by kernel_rfl)) (by unfold Func.isWrapper; first | (rw [if_pos (by decide +kernel)]; kernel_rfl) | (rw [if_neg (by decide +kernel)]; exact ⟨rfl, rfl⟩))
    (fun os started H enc _ => lifted os started H enc)

end Go.Proofs.Ytapdppkplhgnjaa.fnExactAgree
namespace Go.Proofs.Ytapdppkplhgnjaa
theorem fnExactAgreeProved : Rows.FnExactAgreeSaid := fnExactAgree.over
#print axioms fnExactAgreeProved
end Go.Proofs.Ytapdppkplhgnjaa
