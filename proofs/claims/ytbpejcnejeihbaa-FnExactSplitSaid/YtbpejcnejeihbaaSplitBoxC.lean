/- Part of a proof: see the last text of this folder. -/
import Derived.Test.YtbpejcnejeihbaaSplitBoxO
set_option linter.unusedSimpArgs false
set_option linter.unusedVariables false
set_option maxRecDepth 20000
set_option maxHeartbeats 4000000
namespace Go.AmC
open Go Go.AM
open Go.Proofs.Try (prog)

/-! ### CanSplit -/
def canSplit (x : Stmt) (at' : Int) : Bool := match boxOf x with
  | some (r :: _) => decide (r.Lo ≤ at') && decide (at' < r.Hi)
  | _ => false
theorem fullB_b {r : Rng} {l : List Rng} (h : fullB (r :: l) = true) : (-10000 ≤ r.Lo ∧ r.Lo ≤ 10000) ∧ (-10000 ≤ r.Hi ∧ r.Hi ≤ 10000) ∧ r.Lo ≤ r.Hi := by
  unfold fullB boxOk at h
  simp only [okB, List.all_cons, Bool.and_eq_true, decide_eq_true_eq, inB] at h
  obtain ⟨⟨h1, _⟩, ⟨⟨⟨⟨⟨h2, h3⟩, h4⟩, h5⟩, _⟩, _⟩⟩ := h
  exact ⟨⟨h3.1, h3.2⟩, ⟨h4.1, h4.2⟩, h1⟩
theorem split_impl (x : Stmt) (at' : Int) (hx : x.tot ≤ 5000000) : Says prog 23 [.agg (Cs x.d), .int .i64 at'] (.bool (canSplit x at')) [] := by
  have f := boxOf_impl x hx
  refine Fn_G Go.Proofs.Try.func23 ok23 ?_
  unfold canSplit
  cases hb : boxOf x with
  | none =>
    rw [hb] at f
    simp [resO, resL] at f
    simp [v23, r23]
    refine callG f ?_
    simp
  | some l =>
    obtain ⟨h1, h2, h3⟩ := boxOf_len hb
    match l, h1 with
    | r :: l, _ =>
    obtain ⟨b1, b2, b3⟩ := fullB_b h3
    have hw : IntKind.i64.wrap (r.Hi - 1) = r.Hi - 1 := wrap64 (by omega) (by omega)
    have fI := in_impl at' r.Lo (r.Hi - 1)
    rw [hb] at f
    simp [resO, resL] at f
    simp [v23, r23]
    refine callG f ?_
    simp [hw]
    refine callD fI ?_
    have e : (at' ≤ r.Hi - 1) ↔ at' < r.Hi := by omega
    simp [e]
theorem split_spec (x : Stmt) (at' : Int) (hx : x.tot ≤ 5000000) : Says prog 22 [.agg (Cs x.d), .int .i64 at'] (.bool (canSplit x at')) [] := by
  have f := boxOf_spec x hx
  refine Fn_G Go.Proofs.Try.func22 ok22 ?_
  unfold canSplit
  cases hb : boxOf x with
  | none =>
    rw [hb] at f
    simp [resO, resL] at f
    simp [v22, r22]
    refine callG f ?_
    simp
  | some l =>
    obtain ⟨h1, h2, h3⟩ := boxOf_len hb
    match l, h1 with
    | r :: l, _ =>
    rw [hb] at f
    simp [resO, resL] at f
    simp [v22, r22]
    refine callG f ?_
    by_cases c1 : r.Lo ≤ at' <;> simp [c1]
end Go.AmC
