/- Part of a proof: see the last text of this folder. -/
import Derived.Test.YtbpejcnejeihbaaAlikeBoxO
import Derived.Test.YtbpejcnejeihbaaAlikeCl
set_option linter.unusedSimpArgs false
set_option linter.unusedVariables false
set_option maxRecDepth 20000
set_option maxHeartbeats 4000000
namespace Go.AmC
open Go Go.AM
open Go.Proofs.Try (prog)

def alike (s t : Stmt) : Bool := match boxOf s, boxOf t with
  | some (a :: _), some (b :: _) => a.Name == b.Name && (a.Lo == b.Lo && a.Hi == b.Hi)
  | _, _ => false
theorem alike_impl (s t : Stmt) (hs : s.tot ≤ 5000000) (ht : t.tot ≤ 5000000) : Says prog 25 [.agg (Cs s.d), .agg (Cs t.d)] (.bool (alike s t)) [] := by
  have f := boxOf_impl s hs
  have g := boxOf_impl t ht
  refine Fn_G Go.Proofs.Try.func25 ok25 ?_
  unfold alike
  cases hb : boxOf s with
  | none =>
    rw [hb] at f
    simp [resO, resL] at f
    cases hc : boxOf t with
    | none =>
      rw [hc] at g
      simp [resO, resL] at g
      simp [v25, r25]
      refine callG f ?_
      simp
      refine callG g ?_
      simp
    | some m =>
      rw [hc] at g
      simp [resO, resL] at g
      simp [v25, r25]
      refine callG f ?_
      simp
      refine callG g ?_
      simp
  | some l =>
    obtain ⟨h1, h2, h3⟩ := boxOf_len hb
    match l, h1 with
    | a :: l, _ =>
    rw [hb] at f
    simp [resO, resL] at f
    cases hc : boxOf t with
    | none =>
      rw [hc] at g
      simp [resO, resL] at g
      simp [v25, r25]
      refine callG f ?_
      simp
      refine callG g ?_
      simp
    | some m =>
      obtain ⟨k1, k2, k3⟩ := boxOf_len hc
      match m, k1 with
      | b :: m, _ =>
      rw [hc] at g
      simp [resO, resL] at g
      simp [v25, r25]
      refine callG f ?_
      simp
      refine callG g ?_
      simp [eqC]
theorem alike_spec (s t : Stmt) (hs : s.tot ≤ 5000000) (ht : t.tot ≤ 5000000) : Says prog 24 [.agg (Cs s.d), .agg (Cs t.d)] (.bool (alike s t)) [] := by
  have f := boxOf_spec s hs
  have g := boxOf_spec t ht
  refine Fn_G Go.Proofs.Try.func24 ok24 ?_
  unfold alike
  cases hb : boxOf s with
  | none =>
    rw [hb] at f
    simp [resO, resL] at f
    cases hc : boxOf t with
    | none =>
      rw [hc] at g
      simp [resO, resL] at g
      simp [v24, r24]
      refine callG f ?_
      simp
      refine callG g ?_
      simp
    | some m =>
      rw [hc] at g
      simp [resO, resL] at g
      simp [v24, r24]
      refine callG f ?_
      simp
      refine callG g ?_
      simp
  | some l =>
    obtain ⟨h1, h2, h3⟩ := boxOf_len hb
    match l, h1 with
    | a :: l, _ =>
    rw [hb] at f
    simp [resO, resL] at f
    cases hc : boxOf t with
    | none =>
      rw [hc] at g
      simp [resO, resL] at g
      simp [v24, r24]
      refine callG f ?_
      simp
      refine callG g ?_
      simp
    | some m =>
      obtain ⟨k1, k2, k3⟩ := boxOf_len hc
      match m, k1 with
      | b :: m, _ =>
      rw [hc] at g
      simp [resO, resL] at g
      simp [v24, r24]
      refine callG f ?_
      simp
      refine callG g ?_
      simp [eqC]
theorem law_Alike (s : Stmt) (t : Stmt) (h1 : Stmt.lg s) (h2 : Stmt.lg t) : Says prog 6 [.agg (Cs (Stmt.d s)), .agg (Cs (Stmt.d t))] (.bool true) [] := by
  refine Fn_G Go.Proofs.Try.func6 ok6 ?_
  have z1 := sz_Stmt s h1 ((1048576 : Int)) (by omega) (by omega)
  by_cases c1 : ((Stmt.tot s : Nat) : Int) ≤ (1048576 : Int)
  · have e1 : szR (Stmt.tot s) ((1048576 : Int)) = (1048576 : Int) - (Stmt.tot s : Nat) := by unfold szR; rw [if_pos c1]
    have d1 : ¬ ((1048576 : Int) - (Stmt.tot s : Nat) < 0) := by omega
    rw [e1] at z1
    have z2 := sz_Stmt t h2 ((1048576 : Int) - (Stmt.tot s : Nat)) (by omega) (by omega)
    by_cases c2 : ((Stmt.tot t : Nat) : Int) ≤ (1048576 : Int) - (Stmt.tot s : Nat)
    · have e2 : szR (Stmt.tot t) ((1048576 : Int) - (Stmt.tot s : Nat)) = (1048576 : Int) - (Stmt.tot s : Nat) - (Stmt.tot t : Nat) := by unfold szR; rw [if_pos c2]
      have d2 : ¬ ((1048576 : Int) - (Stmt.tot s : Nat) - (Stmt.tot t : Nat) < 0) := by omega
      rw [e2] at z2
      have b1 : Stmt.tot s ≤ 1048576 := by omega
      have t1 := to_Stmt s b1
      have q1 := eq_Stmt s h1
      have b2 : Stmt.tot t ≤ 1048576 := by omega
      have t2 := to_Stmt t b2
      have q2 := eq_Stmt t h2
      have f1 := alike_spec s t (by omega) (by omega)
      have f2 := alike_impl s t (by omega) (by omega)
      try simp at z1
      try simp at z2
      try simp at t1
      try simp at q1
      try simp at t2
      try simp at q2
      try simp at f1
      try simp at f2
      simp [v6, r6]
      repeat' (first | refine callG (by assumption) ?_ | refine callD (by assumption) ?_ | (simp [d1, d2]; done) | simp [d1, d2])
    · have e2 : szR (Stmt.tot t) ((1048576 : Int) - (Stmt.tot s : Nat)) = -1 := by unfold szR; rw [if_neg c2]
      rw [e2] at z2
      try simp at z1
      try simp at z2
      simp [v6, r6]
      repeat' (first | refine callG (by assumption) ?_ | (simp [d1]; done) | simp [d1])
  · have e1 : szR (Stmt.tot s) ((1048576 : Int)) = -1 := by unfold szR; rw [if_neg c1]
    rw [e1] at z1
    try simp at z1
    simp [v6, r6]
    repeat' (first | refine callG (by assumption) ?_ | (simp []; done) | simp [])

end Go.AmC
