/- Part of a proof: see the last text of this folder. -/
import Derived.Test.YtbpejcnejeihbaaSplitBoxS
set_option linter.unusedSimpArgs false
set_option linter.unusedVariables false
set_option maxRecDepth 20000
set_option maxHeartbeats 4000000
namespace Go.AmC
open Go Go.AM
open Go.Proofs.Try (prog)

def boxOf (x : Stmt) : Option (List Rng) := if x.K = 3 ∧ (rawS x).2 = true ∧ fullB (rawS x).1 = true then some (rawS x).1 else none
theorem raw_name : ∀ x : Stmt, ∀ r ∈ (rawS x).1, r.Name.length ≤ x.tot := Stmt.ind fun x ih r hr => by
  rw [rawS_eq] at hr
  rw [x.tot_eq]
  split at hr
  · rcases List.mem_cons.1 hr with rfl | hr
    · simp only; omega
    · simp only [rawL, List.mem_flatMap, List.mem_map] at hr
      obtain ⟨_, ⟨y, hy, rfl⟩, hr⟩ := hr
      have h1 := ih y hy r hr
      have h2 := mem_sum Stmt.tot hy
      omega
  · simp at hr
theorem boxOf_len {x : Stmt} {l : List Rng} (h : boxOf x = some l) : 1 ≤ l.length ∧ l.length ≤ 8 ∧ fullB l = true := by
  unfold boxOf at h
  split at h
  · rename_i hc; obtain ⟨h1, h2, h3⟩ := hc
    cases h
    refine ⟨?_, ?_, h3⟩
    · rw [rawS_eq, if_pos h1]; simp
    · unfold fullB boxOk at h3
      simp only [Bool.and_eq_true, decide_eq_true_eq] at h3
      exact h3.2.2
  · cases h
def resO (o : Option (List Rng)) : AV := resL (o.getD [], o.isSome)
theorem boxOf_impl (x : Stmt) (hx : x.tot ≤ 5000000) : Says prog 48 [.agg (Cs x.d)] (resO (boxOf x)) [] := by
  have h1 : (rawL [x]) = rawS x := by simp [rawL]
  have f := rngs_impl [x] (by simp) (by simp; omega) (fun y hy => by simp at hy; subst hy; exact rngs_body y (by omega))
  rw [h1] at f
  have hll := rawS_len x
  have fF := full_impl (rawS x).1 (by omega) (fun r hr => by have := raw_name x r hr; omega)
  refine Fn_G Go.Proofs.Try.func48 ok48 ?_
  by_cases c : x.K = 3
  · have e : boxOf x = if (rawS x).2 = true ∧ fullB (rawS x).1 = true then some (rawS x).1 else none := by unfold boxOf; simp [c]
    rw [e]
    generalize rawS x = r at f fF ⊢
    obtain ⟨r1, r2⟩ := r
    simp [resL, c] at f
    simp at fF
    simp only
    have hsc := rng_sc r1
    cases r2
    · simp [v48, r48, c, splice]
      refine callG f ?_
      simp [resO, resL]
    · simp [v48, r48, c, splice]
      refine callG f ?_
      simp
      refine callG fF ?_
      cases hz : fullB r1
      · simp [resO, resL]
      · simp [resO, resL]
  · have e : boxOf x = none := by unfold boxOf; simp [c]
    rw [e]
    simp [v48, r48, c, resO, resL]
theorem boxOf_spec (x : Stmt) (hx : x.tot ≤ 5000000) : Says prog 47 [.agg (Cs x.d)] (resO (boxOf x)) [] := by
  have f := box_spec x (by omega) [] (by simp; omega)
  obtain ⟨k1, k2⟩ := boxS_raw x []
  have hll := rawS_len x
  have fF := full_spec (rawS x).1 (by omega) (fun r hr => by have := raw_name x r hr; omega)
  have e : boxOf x = if (decide (x.K = 3) && (rawS x).2) = true ∧ fullB (rawS x).1 = true then some (rawS x).1 else none := by unfold boxOf; simp [and_assoc]
  rw [e]
  simp only at k1 k2
  refine Fn_G Go.Proofs.Try.func47 ok47 ?_
  generalize (decide (x.K = 3) && (rawS x).2) = b at k1 k2 ⊢
  generalize boxS [] x = r at f k1 k2
  obtain ⟨r1, r2⟩ := r
  simp only at k1 k2
  subst k1
  cases r2
  · simp [resB] at f
    simp [v47, r47, splice]
    refine callG f ?_
    simp [resO, resL]
  · obtain rfl := k2 rfl
    simp only [List.nil_append] at f
    generalize (rawS x).1 = r1 at f fF ⊢
    simp [resB] at f
    try simp at fF
    simp [v47, r47, splice]
    refine callG f ?_
    simp
    refine callG fF ?_
    cases hz : fullB r1
    · simp [resO, resL]
    · simp [resO, resL]

end Go.AmC
