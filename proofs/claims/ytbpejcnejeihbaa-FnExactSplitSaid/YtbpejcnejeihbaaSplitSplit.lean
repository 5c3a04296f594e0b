/- Part of a proof: see the last text of this folder. -/
import Derived.Test.YtbpejcnejeihbaaSplitCopy
import Derived.Test.YtbpejcnejeihbaaSplitBoxC
import Derived.Test.YtbpejcnejeihbaaSplitCl
import Derived.Test.YtbpejcnejeihbaaSplitMk
set_option linter.unusedSimpArgs false
set_option linter.unusedVariables false
set_option maxRecDepth 20000
set_option maxHeartbeats 4000000
namespace Go.AmC
open Go Go.AM
open Go.Proofs.Try (prog)

def numE (n : Int) : Exp := if n < 0 then ⟨5, 0, [], [⟨1, 0, [], []⟩, ⟨1, -n, [], []⟩]⟩ else ⟨1, n, [], []⟩
theorem numE_tot (n : Int) : (numE n).tot ≤ 2 := by
  unfold numE
  split <;> simp [Exp.tot_eq]
theorem num_impl (n : Int) (h1 : -1000000 ≤ n) (h2 : n ≤ 1000000) : Says prog 53 [.int .i64 n] (.agg (Ows (numE n).d)) [] := by
  have hw : IntKind.i64.wrap (-n) = -n := wrap64 (by omega) (by omega)
  refine Fn_G Go.Proofs.Try.func53 ok53 ?_
  unfold numE
  by_cases c : n < 0
  · simp [v53, r53, c, splice, hw]
  · simp [v53, r53, c, splice]
theorem one_spec (n : Int) : Says prog 60 [.int .i64 n] (.agg [.int .i64 1, .int .i64 n, .str [], .osl 0 31 0 []]) [] := by
  refine Fn_G Go.Proofs.Try.func60 ok60 ?_
  simp [v60, r60, splice]
theorem two_spec (k a b : Int) : Says prog 75 [.int .i64 k, .agg [.int .i64 1, .int .i64 a, .str [], .rsl 0 []], .agg [.int .i64 1, .int .i64 b, .str [], .rsl 0 []]]
    (.agg [.int .i64 k, .int .i64 0, .str [], .osl 0 31 2 [.int .i64 1, .int .i64 a, .str [], .rsl 0 [], .int .i64 1, .int .i64 b, .str [], .rsl 0 []]]) [] := by
  refine Fn_G Go.Proofs.Try.func75 ok75 ?_
  simp [v75, r75, splice]
/-- A number as an expression; of its parts' parts only the length is told. -/
def WN (n : Int) : List AV := if n < 0 then [.int .i64 5, .int .i64 0, .str [], .osl 0 31 2 [.int .i64 1, .int .i64 0, .str [], .rsl 0 [], .int .i64 1, .int .i64 (-n), .str [], .rsl 0 []]] else [.int .i64 1, .int .i64 n, .str [], .osl 0 31 0 []]
theorem num_spec (n : Int) (h1 : -1000000 ≤ n) (h2 : n ≤ 1000000) : Says prog 51 [.int .i64 n] (.agg (WN n)) [] := by
  have hw : IntKind.i64.wrap (-n) = -n := wrap64 (by omega) (by omega)
  have f0 := one_spec 0
  have f1 := one_spec (-n)
  have f2 := one_spec n
  have g := two_spec 5 0 (-n)
  refine Fn_G Go.Proofs.Try.func51 ok51 ?_
  unfold WN
  by_cases c : n < 0
  · simp [v51, r51, c, splice]
    refine callG f0 ?_
    simp [hw]
    refine callG f1 ?_
    simp
    refine callG g ?_
    simp
  · simp [v51, r51, c, splice]
    refine callG f2 ?_
    simp

def splitL (x : Stmt) (n : Int) : List Stmt × Bool :=
  if canSplit x n then ([{x with Hi := numE n}, {x with Lo := numE (n + 1)}], true) else ([x], false)
def resP (p : List Stmt × Bool) : AV := .tup [none, none] [.osl 0 34 p.1.length (Ows (p.1.flatMap Stmt.d)), .bool p.2]
theorem canSplit_b {x : Stmt} {n : Int} (h : canSplit x n = true) : -10000 ≤ n ∧ n ≤ 10000 := by
  unfold canSplit at h
  cases hb : boxOf x with
  | none => rw [hb] at h; cases h
  | some l =>
    obtain ⟨h1, h2, h3⟩ := boxOf_len hb
    match l, h1 with
    | r :: l, _ =>
    obtain ⟨b1, b2, b3⟩ := fullB_b h3
    rw [hb] at h
    simp only [Bool.and_eq_true, decide_eq_true_eq] at h
    omega
theorem cut_impl (x : Stmt) (n : Int) (hx : x.tot ≤ 5000000) : Says prog 27 [.agg (Cs x.d), .int .i64 n] (resP (splitL x n)) [] := by
  have f1 := copyS_impl x hx
  have f2 := split_impl x n hx
  simp at f1 f2
  refine Fn_G Go.Proofs.Try.func27 ok27 ?_
  unfold splitL
  by_cases c : canSplit x n = true
  · obtain ⟨b1, b2⟩ := canSplit_b c
    have hw : IntKind.i64.wrap (n + 1) = n + 1 := wrap64 (by omega) (by omega)
    have f3 := num_impl n (by omega) (by omega)
    have f4 := num_impl (n + 1) (by omega) (by omega)
    rw [c] at f2 ⊢
    generalize numE n = z1 at f3 ⊢
    generalize numE (n + 1) = z2 at f4 ⊢
    simp at f3 f4
    simp [v27, r27, splice]
    refine callG f1 ?_
    simp [splice]
    refine callG f2 ?_
    simp [splice]
    refine callG f1 ?_
    simp [splice]
    refine callG f3 ?_
    simp [splice, hw]
    refine callG f4 ?_
    simp [splice, resP]
  · rw [Bool.not_eq_true] at c
    rw [c] at f2 ⊢
    simp [v27, r27, splice]
    refine callG f1 ?_
    simp [splice]
    refine callG f2 ?_
    simp [splice, resP]
theorem cut_spec (x : Stmt) (n : Int) (hx : x.tot ≤ 5000000) : ∃ W : List AV, Says prog 26 [.agg (Cs x.d), .int .i64 n] (.tup [none, none] [.osl 0 34 (splitL x n).1.length W, .bool (splitL x n).2]) [] ∧ frzs W = some (Cs ((splitL x n).1.flatMap Stmt.d)) ∧ noFrzs W = true := by
  have f1 := copyL_spec [x, x] (by simp) (fun y hy => by
    simp at hy; subst hy
    exact ⟨hx, copyS_spec y hx⟩)
  have f2 := split_spec x n hx
  simp at f1 f2
  unfold splitL
  by_cases c : canSplit x n = true
  · obtain ⟨b1, b2⟩ := canSplit_b c
    have hw : IntKind.i64.wrap (n + 1) = n + 1 := wrap64 (by omega) (by omega)
    have f3 := num_spec n (by omega) (by omega)
    have f4 := num_spec (n + 1) (by omega) (by omega)
    rw [c] at f2 ⊢
    refine ⟨[.int .i64 x.K, .str x.S] ++ Ows x.At.d ++ Ows x.E.d ++ Ows x.Lo.d ++ WN n ++ [.osl 0 34 x.Body.length (Ows (x.Body.flatMap Stmt.d))] ++ ([.int .i64 x.K, .str x.S] ++ Ows x.At.d ++ Ows x.E.d ++ WN (n + 1) ++ Ows x.Hi.d ++ [.osl 0 34 x.Body.length (Ows (x.Body.flatMap Stmt.d))]), ?_, ?_, ?_⟩
    · refine Fn_G Go.Proofs.Try.func26 ok26 ?_
      by_cases c1 : n < 0 <;> by_cases c2 : n + 1 < 0 <;> simp [WN, c1, c2] at f3 f4 ⊢
      all_goals
        simp [v26, r26, splice]
        refine callG f1 ?_
        simp [splice]
        refine callG f2 ?_
        simp [splice]
        refine callG f3 ?_
        simp [splice, hw]
        refine callG f4 ?_
        simp [splice]
    · by_cases c1 : n < 0 <;> by_cases c2 : n + 1 < 0 <;> simp [WN, numE, c1, c2]
    · by_cases c1 : n < 0 <;> by_cases c2 : n + 1 < 0 <;> simp [WN, c1, c2]
  · rw [Bool.not_eq_true] at c
    rw [c] at f2 ⊢
    refine ⟨Ows x.d, ?_, by simp, by simp⟩
    refine Fn_G Go.Proofs.Try.func26 ok26 ?_
    simp [v26, r26, splice]
    refine callG f1 ?_
    simp [splice]
    refine callG f2 ?_
    simp [splice, cutX]

/-! ### The law -/
theorem tot_lg : ∀ e : Exp, e.tot ≤ maxLen → e.lg := Exp.ind fun e ih h => by
  rw [Exp.tot_eq] at h
  rw [Exp.lg_eq]
  refine ⟨by omega, by omega, fun y hy => ih y hy ?_⟩
  have := mem_sum Exp.tot hy
  omega
theorem tot_lgS : ∀ x : Stmt, x.tot ≤ maxLen → x.lg := Stmt.ind fun x ih h => by
  rw [Stmt.tot_eq] at h
  rw [Stmt.lg_eq]
  refine ⟨by omega, tot_lg _ (by omega), tot_lg _ (by omega), tot_lg _ (by omega), tot_lg _ (by omega), by omega, fun y hy => ih y hy ?_⟩
  have := mem_sum Stmt.tot hy
  omega
theorem splitL_b (s : Stmt) (n : Int) : (splitL s n).1.length ≤ 2 ∧ ((splitL s n).1.map Stmt.tot).sum ≤ 2 * s.tot + 4 := by
  have h1 := s.tot_eq
  have h2 := numE_tot n
  have h3 := numE_tot (n + 1)
  unfold splitL
  split
  · refine ⟨by simp, ?_⟩
    simp only [List.map_cons, List.map_nil, List.sum_cons, List.sum_nil, Stmt.tot_eq]
    omega
  · refine ⟨by simp, ?_⟩
    simp only [List.map_cons, List.map_nil, List.sum_cons, List.sum_nil]
    omega
theorem law_Split (s : Stmt) (a : Int) (h1 : Stmt.lg s) : Says prog 7 [.agg (Cs (Stmt.d s)), .int .i64 a] (.bool true) [] := by
  refine Fn_G Go.Proofs.Try.func7 ok7 ?_
  have z1 := sz_Stmt s h1 (1048576 : Int) (by omega) (by omega)
  by_cases c1 : ((Stmt.tot s : Nat) : Int) ≤ (1048576 : Int)
  · have e1 : szR (Stmt.tot s) (1048576 : Int) = (1048576 : Int) - (Stmt.tot s : Nat) := by unfold szR; rw [if_pos c1]
    have d1 : ¬ ((1048576 : Int) - (Stmt.tot s : Nat) < 0) := by omega
    rw [e1] at z1
    have b1 : Stmt.tot s ≤ 1048576 := by omega
    have t1 := to_Stmt s b1
    have q1 := eq_Stmt s h1
    obtain ⟨W, f1, w1, w2⟩ := cut_spec s a (by omega)
    have f2 := cut_impl s a (by omega)
    obtain ⟨b2, b3⟩ := splitL_b s a
    generalize splitL s a = g at *
    obtain ⟨l, fl⟩ := g
    simp only at b2 b3
    have q2 := eqStmtS l (by unfold maxLen; omega) (fun y hy => eq_Stmt y (tot_lgS y (by have := mem_sum Stmt.tot hy; unfold maxLen; omega)))
    have m1 := mark_Stmt s (by omega) 1 (by omega) (by omega)
    have m2 := mark_StmtS l (by omega) 1 (by omega) (by omega)
    have m3 := held_StmtS l (by omega) 1 (by omega) (by omega)
    have u1 : ¬ ((mkStmtT s 1).2 < 0) := by have := mkStmtT_bound s 1; omega
    have u2 : ¬ ((mkFold mkStmt l 1).2 < 0) := by have := mkFold_bound mkStmt Stmt.tot (xs := l) (k := 1) (fun x hx k => by have b := mkStmt_bound x k; omega); omega
    have hml := mkFold_length mkStmt l 1
    generalize mkFold mkStmt l 1 = M at m2 m3 u2 hml
    obtain ⟨M1, M2⟩ := M
    try simp at f1
    try simp at w1
    simp [resP] at f2
    try simp at z1
    try simp at t1
    try simp at q1
    try simp at q2
    simp [mkStmtT, mkExpT] at m1
    simp at m2
    simp at m3
    simp only [mkStmtT, mkExpT] at u1
    simp only at u2 hml
    simp [v7, r7, w1, w2]
    repeat' (first | refine callG (by assumption) ?_ | refine callD (by assumption) ?_ | refine callM [_, _, _, _, _] pl13 m1 ?_ | refine callM [_] pl29 m2 ?_ | (simp [d1, u1, u2, w1, w2]; done) | simp [d1, u1, u2, w1, w2])
  · have e1 : szR (Stmt.tot s) (1048576 : Int) = -1 := by unfold szR; rw [if_neg c1]
    rw [e1] at z1
    try simp at z1
    simp [v7, r7]
    repeat' (first | refine callG (by assumption) ?_ | (simp; done) | simp)
end Go.AmC
