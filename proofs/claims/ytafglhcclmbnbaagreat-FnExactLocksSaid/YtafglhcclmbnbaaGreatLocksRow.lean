/- FnExactLocks (the Said form) of the seat: for every input the law returns true and leaves its arguments as they were. No condition. -/
import Derived.Test.YtafglhcclmbnbaaGreatRows
import Derived.Test.YtafglhcclmbnbaaGreatLocksLocksR
import Derived.JoinedOf
import Derived.WalkKit
namespace Go.Proofs.YtafglhcclmbnbaaGreat.fnExactLocks
open Go.ChangeShapes Go.WideShapes Go.ChangeAt Go.RowKit
open Go.AM (DL xK yg acl)
set_option linter.unusedVariables false
set_option linter.unusedSimpArgs false
theorem own : ownKnob Tryz.prog.godebug = none := by kernel_rfl
set_option maxRecDepth 100000 in
theorem lifted (os : Os) (started : os.Started) (H : Type) (enc : TypeId × Value → H) :
    ReturnsInHanded {} Tryz.checked os 4 .any (Rows.fnExactLocksSpec.pre6 enc Tryz.prog Tryz.f4 Rows.fnExactLocksRow.domain false) (Rows.fnExactLocksSpec.post enc Tryz.prog Tryz.f4 false true false false) := by
  refine returnsInHanded_of_change (C := Tryz.checked) (s := Rows.fnExactLocksSpec) own started (by kernel_rfl) Tryz.func4
    (ChangeSpec.witness6 (enc := enc) (C := Tryz.checked) (s := Rows.fnExactLocksSpec) false ⟨#[], #[.agg #[.slice none 0 0, .slice none 0 0], .slice none 0 0, .agg #[.slice none 0 0, .slice none 0 0, .slice none 0 0, .bool false]], []⟩ 8 (by kernel_rfl) (by kernel_rfl) (by kernel_rfl) (by kernel_rfl)) ?_
  intro W base args ds gs before hval hW _ _
  have hW' := hW
  obtain ⟨p, q, hA0, hV, rfl, hfz, hnd⟩ := hW
  have hA : DataW.TrodAll enc Tryz.prog W 0 (fun _ => true) true Tryz.f4.params.toList args.toList ds p := hA0
  rw [Tryz.params4] at hA
  obtain ⟨v0, vs0, d0, ds0, p0, q0, e0, rfl, rfl, ⟨n0, h0⟩, r0⟩ := trodAll_cons hA
  obtain ⟨v1, vs1, d1, ds1, p1, q1, e1, rfl, rfl, ⟨n1, h1⟩, r1⟩ := trodAll_cons r0
  obtain ⟨v2, vs2, d2, ds2, p2, q2, e2, rfl, rfl, ⟨n2, h2⟩, r2⟩ := trodAll_cons r1
  obtain ⟨en, rfl, rfl⟩ := trodAll_nil r2
  have hargs : args.toList = [v0, v1, v2] := by rw [e0, e1, e2, en]
  obtain rfl : args = #[v0, v1, v2] := by apply Array.ext'; simpa using hargs
  obtain ⟨x0, hx0, hr0⟩ := AmC.read_Prog _ _ _ h0
  obtain ⟨a1, len1, cap1, rfl⟩ := okWide_slice Tryz.underlying37 (hval 1 37 v1 (by rw [Tryz.params4]; rfl) rfl)
  obtain ⟨x1, hx1, hr1⟩ := AmC.read_Codes _ _ _ h1
  obtain ⟨x2, hx2, hr2⟩ := AmC.read_Mach _ _ _ h2
  exact yg (tb := 4) (avs := [.agg (Go.AM.Cs (AmC.Prog.d x0)), .rsl x1.length (Go.AM.Cs (x1.flatMap AmC.dCode)), .agg (Go.AM.Cs (AmC.Mach.d x2))]) (by kernel_rfl) (by kernel_rfl) (by kernel_rfl) (by rw [Tryz.params4]; intro t ht; simp at ht; rcases ht with h | h | h <;> (subst h; exact of_decide_eq_true (by kernel_rfl))) rfl (by kernel_rfl) Tryz.underlying4 hW' rfl (Go.AM.tabs_none (by kernel_rfl))
    (show Go.AM.CR Tryz.prog W (fun b => b < W.heap.size) (fun _ => undef) [] [.agg (Go.AM.Cs (AmC.Prog.d x0)), .rsl x1.length (Go.AM.Cs (x1.flatMap AmC.dCode)), .agg (Go.AM.Cs (AmC.Mach.d x2))] [v0, Value.slice a1 len1 cap1, v2] (fun _ => 0) from by simpa using Go.AM.CR_cons (xK hr0 (by simp [AmC.Prog.d_len]) (fun b h => h)) (Go.AM.CR_cons (AmC.rsl_of_rd hr1 (fun b h => h)) (Go.AM.CR_cons (xK hr2 (by simp [AmC.Mach.d_len]) (fun b h => h)) (Go.AM.CR_nil)))) (by simp [Go.AM.hrs, Go.AM.hr, acl]) (AmC.law_Locks x0 x1 x2 hx0 hx1 hx2)
set_option maxHeartbeats 40000000 in
theorem closed : joinedFacts Tryz.pinned.checked.prog 4 Tryz.f4 Rows.fnExactLocksSpec Rows.fnExactLocksRow = true := by
  unfold joinedFacts
  simp only [Bool.and_eq_true]
  repeat' apply And.intro
  all_goals (as_aux_lemma => kernel_rfl)
set_option maxHeartbeats 40000000 in
theorem over : Rows.fnExactLocksRow.holds Tryz.pinned (OpenSpec.ofChange Rows.fnExactLocksSpec) :=
  OpenClaim.holds_of_wide 4 Tryz.f4 rfl rfl rfl rfl rfl rfl rfl ⟨rfl, rfl, rfl, rfl, rfl⟩ rfl rfl rfl rfl rfl (by as_aux_lemma => kernel_rfl) Tryz.func4 closed
    (of_decide_eq_true (by as_aux_lemma => kernel_rfl)) (by unfold Func.isWrapper; first | (rw [if_pos (by decide +kernel)]; kernel_rfl) | (rw [if_neg (by decide +kernel)]; exact ⟨rfl, rfl⟩))
    (fun os started H enc _ => lifted os started H enc)
end Go.Proofs.YtafglhcclmbnbaaGreat.fnExactLocks
namespace Go.Proofs.YtafglhcclmbnbaaGreat
theorem fnExactLocksProved : Rows.FnExactLocksSaid := fnExactLocks.over
#print axioms fnExactLocksProved
end Go.Proofs.YtafglhcclmbnbaaGreat
