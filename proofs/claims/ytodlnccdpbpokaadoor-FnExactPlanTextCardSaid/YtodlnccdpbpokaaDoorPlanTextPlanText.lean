/- Part of a proof: see the last text of this folder. -/
import Derived.Test.YtodlnccdpbpokaaDoorPlanTextNum
import Derived.Test.YtodlnccdpbpokaaDoorPlanTextNmB
set_option linter.unusedSimpArgs false
set_option linter.unusedVariables false
set_option maxRecDepth 20000
set_option maxHeartbeats 4000000
namespace Go.AmC
open Go Go.AM
open Go.Proofs.Tryd (prog)

def distS (l : List Int) : List UInt8 := l.flatMap fun d => 32 :: numS d
theorem distS_len : ∀ {l : List Int}, (∀ d ∈ l, i64R d) → (distS l).length ≤ 21 * l.length
  | [], _ => by simp [distS]
  | d :: l, h => by
    have h1 := numS_len (h d (by simp))
    have h2 := distS_len (l := l) fun x hx => h x (by simp [hx])
    unfold distS at h2 ⊢
    simp only [List.flatMap_cons, List.length_append, List.length_cons]
    omega
def planT (x : Plan) : List UInt8 := if x.Kind = 0 then [111, 110, 101] else if x.Kind = 1 then [97, 108, 108] else if x.Kind = 2 then [108, 105, 110, 101] ++ distS x.Dists else []
theorem plan_spec (x : Plan) (hl : x.Dists.length ≤ 1048576) (h6 : ∀ d ∈ x.Dists, i64R d) : Says prog 6 [.agg (Cs x.d)] (.str (planT x)) [] := by
  refine Fn_G Go.Proofs.Tryd.func6 ok6 ?_
  have hlen := distS_len h6
  unfold planT
  by_cases c0 : x.Kind = 0
  · simp [v6, r6, c0]
  by_cases c1 : x.Kind = 1
  · simp [v6, r6, c1]
  by_cases c2 : x.Kind = 2
  · simp [v6, r6, c2]
    refine G_for (l := l6_0) (b := b6_0) rfl [] (fun i => [(7, .str ([108, 105, 110, 101] ++ distS (x.Dists.take i))), (8, .int .i64 i)]) (fun i => True) x.Dists.length trivial (by simp [distS]) ?_ ?_
    · intro i hi _ q hn hx hr
      obtain ⟨y, hy0⟩ := get_some hi
      have hrow := row_drop dInt 1 (fun _ => by simp) hy0
      rw [Nat.mul_one] at hrow
      have hw := wrap_succ (i := i) (by omega)
      have f := num_spec y (h6 y (List.mem_of_getElem? hy0))
      have hy := numS_len (h6 y (List.mem_of_getElem? hy0))
      have ht : distS (x.Dists.take (i + 1)) = distS (x.Dists.take i) ++ 32 :: numS y := by
        unfold distS; rw [List.take_add_one, hy0]; simp
      have hA : (distS (x.Dists.take i)).length ≤ 21 * i := by
        have := distS_len (l := x.Dists.take i) fun d hd => h6 d (List.mem_of_mem_take hd)
        simp at this; omega
      rw [ht] at hn
      generalize distS (x.Dists.take i) = A at hn hA ⊢
      have b1 : 4 + A.length + 1 ≤ bnd := by unfold bnd; omega
      have b2 : A.length + 1 + 1 + 1 + 1 + 1 ≤ bnd := by unfold bnd; omega
      have b3 : A.length + 1 + 1 + 1 + 1 + 1 + (numS y).length ≤ bnd := by unfold bnd; omega
      simp [hi, Cs_drop, hrow, b1, b2]
      refine callG f ?_
      simp [hw, b1, b2, b3]
      exact hn _ (by simp) trivial
    · intro _ q hx hr
      simp
      refine hx _ _ ?_
      simp
  · simp [v6, r6, c0, c1, c2]
theorem plan_impl (x : Plan) (hl : x.Dists.length ≤ 1048576) (h6 : ∀ d ∈ x.Dists, i64R d) : Says prog 8 [.agg (Cs x.d)] (.str (planT x)) [] := by
  refine Fn_G Go.Proofs.Tryd.func8 ok8 ?_
  have hlen := distS_len h6
  unfold planT
  by_cases c0 : x.Kind = 0
  · simp [v8, r8, c0]
  by_cases c1 : x.Kind = 1
  · simp [v8, r8, c1]
  by_cases c2 : x.Kind = 2
  · simp [v8, r8, c2]
    refine G_for (l := l8_0) (b := b8_0) rfl [12] (fun i => [(7, .str ([108, 105, 110, 101] ++ distS (x.Dists.take i))), (10, .int .i64 i)]) (fun i => True) x.Dists.length trivial (by simp [distS]) ?_ ?_
    · intro i hi _ q hn hx hr
      obtain ⟨y, hy0⟩ := get_some hi
      have hrow := row_drop dInt 1 (fun _ => by simp) hy0
      rw [Nat.mul_one] at hrow
      have hw := wrap_succ (i := i) (by omega)
      have f := num_impl y (h6 y (List.mem_of_getElem? hy0))
      have hy := numS_len (h6 y (List.mem_of_getElem? hy0))
      have ht : distS (x.Dists.take (i + 1)) = distS (x.Dists.take i) ++ 32 :: numS y := by
        unfold distS; rw [List.take_add_one, hy0]; simp
      have hA : (distS (x.Dists.take i)).length ≤ 21 * i := by
        have := distS_len (l := x.Dists.take i) fun d hd => h6 d (List.mem_of_mem_take hd)
        simp at this; omega
      rw [ht] at hn
      generalize distS (x.Dists.take i) = A at hn hA ⊢
      have b1 : 1 + (numS y).length ≤ bnd := by unfold bnd; omega
      have b3 : A.length + 1 + 1 + 1 + 1 + ((numS y).length + 1) ≤ bnd := by unfold bnd; omega
      simp [hi, Cs_drop, hrow]
      refine callG f ?_
      simp [hw, b1, b3]
      exact hn _ (by simp) trivial
    · intro _ q hx hr
      simp
      refine hx _ _ ?_
      simp
  · simp [v8, r8, c0, c1, c2]
theorem law_PlanText (l : Plan) (h1 : Plan.lg l) : Says prog 3 [.agg (Cs (Plan.d l))] (.bool true) [] := by
  refine Fn_G Go.Proofs.Tryd.func3 ok3 ?_
  have z1 := sz_Plan l h1 ((1048576 : Int)) (by omega) (by omega)
  by_cases c1 : ((Plan.tot l : Nat) : Int) ≤ (1048576 : Int)
  · have e1 : szR (Plan.tot l) ((1048576 : Int)) = (1048576 : Int) - (Plan.tot l : Nat) := by unfold szR; rw [if_pos c1]
    have d1 : ¬ ((1048576 : Int) - (Plan.tot l : Nat) < 0) := by omega
    rw [e1] at z1
    have b1 : Plan.tot l ≤ 1048576 := by omega
    have t1 := to_Plan l b1
    have q1 := eq_Plan l h1
    have f1 := plan_spec l (by have := l.tot_eq; omega) (by rw [Plan.lg_eq] at h1; exact h1.2)
    have f2 := plan_impl l (by have := l.tot_eq; omega) (by rw [Plan.lg_eq] at h1; exact h1.2)
    try simp at z1
    try simp at t1
    try simp at q1
    try simp at f1
    try simp at f2
    simp [v3, r3]
    repeat' (first | refine callG (by assumption) ?_ | refine callD (by assumption) ?_ | (simp [d1]; done) | simp [d1])
  · have e1 : szR (Plan.tot l) ((1048576 : Int)) = -1 := by unfold szR; rw [if_neg c1]
    rw [e1] at z1
    try simp at z1
    simp [v3, r3]
    repeat' (first | refine callG (by assumption) ?_ | (simp []; done) | simp [])

end Go.AmC
