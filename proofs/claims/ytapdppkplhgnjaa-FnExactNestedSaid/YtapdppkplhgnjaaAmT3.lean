/- Part of a proof: see the last text of this folder. -/
import Derived.Test.YtapdppkplhgnjaaAmT2
set_option linter.unusedSimpArgs false
set_option linter.unusedVariables false
set_option maxRecDepth 20000
set_option maxHeartbeats 8000000
namespace Go.AmC
open Go Go.AM
open Go.Proofs.Try (prog)

mutual
theorem stmt_sz : ∀ (x : Stmt), x.lg → ∀ l, 0 ≤ l → l ≤ 1048576 → ∃ r, Says prog 10 [.agg (Cs x.d), .int .i64 l] (.int .i64 r) [] ∧ (0 ≤ r → r ≤ l ∧ x.sm)
  | .mk k s a e lo hi body, h, l, h0, hm => by
    simp only [Stmt.lg] at h
    obtain ⟨h7, h1, h2, h3, h4, h5, h6⟩ := h
    obtain ⟨v, ⟨r, rfl, hr⟩, h⟩ := fn10 k s a e lo hi body h7 (exp_sz a h1) (exp_sz e h2) (exp_sz lo h3) (exp_sz hi h4) (fn37 body h5 (stmts_sz body h6)) l h0 hm
    exact ⟨r, h, hr⟩
theorem stmts_sz : ∀ (xs : List Stmt), lgStmts xs → ∀ x ∈ xs, ∀ l, 0 ≤ l → l ≤ 1048576 → ∃ r, Says prog 10 [.agg (Cs x.d), .int .i64 l] (.int .i64 r) [] ∧ (0 ≤ r → r ≤ l ∧ x.sm)
  | [], _, x, hx => by simp at hx
  | y :: ys, h, x, hx => by
    simp only [lgStmts] at h
    rcases List.mem_cons.1 hx with h1 | h1
    · rw [h1]; exact stmt_sz y h.1
    · exact stmts_sz ys h.2 x h1
end
mutual
theorem stmt_to : ∀ (x : Stmt), x.sm → Says prog 12 [.agg (Cs x.d)] (.agg (Ows x.d)) []
  | .mk k s a e lo hi body, h => by
    simp only [Stmt.sm] at h
    obtain ⟨_, h1, h2, h3, h4, h5, h6⟩ := h
    exact fn12 k s a e lo hi body (exp_to a h1) (exp_to e h2) (exp_to lo h3) (exp_to hi h4) (fn38 body h5 (stmts_to body h6))
theorem stmts_to : ∀ (xs : List Stmt), smStmts xs → ∀ x ∈ xs, Says prog 12 [.agg (Cs x.d)] (.agg (Ows x.d)) []
  | [], _, x, hx => by simp at hx
  | y :: ys, h, x, hx => by
    simp only [smStmts] at h
    rcases List.mem_cons.1 hx with h1 | h1
    · rw [h1]; exact stmt_to y h.1
    · exact stmts_to ys h.2 x h1
end
mutual
theorem stmt_eq : ∀ (x : Stmt), x.lg → Says prog 14 [.agg (Cs x.d), .agg (Cs x.d)] (.bool true) []
  | .mk k s a e lo hi body, h => by
    simp only [Stmt.lg] at h
    obtain ⟨_, h1, h2, h3, h4, h5, h6⟩ := h
    exact fn14 k s a e lo hi body (exp_eq a h1) (exp_eq e h2) (exp_eq lo h3) (exp_eq hi h4) (fn39 body h5 (stmts_eq body h6))
theorem stmts_eq : ∀ (xs : List Stmt), lgStmts xs → ∀ x ∈ xs, Says prog 14 [.agg (Cs x.d), .agg (Cs x.d)] (.bool true) []
  | [], _, x, hx => by simp at hx
  | y :: ys, h, x, hx => by
    simp only [lgStmts] at h
    rcases List.mem_cons.1 hx with h1 | h1
    · rw [h1]; exact stmt_eq y h.1
    · exact stmts_eq ys h.2 x h1
end

def Stmt.k : Stmt → Int
  | .mk k _ _ _ _ _ _ => k
def nested : Stmt → Bool
  | .mk k _ _ _ _ _ [b] => k == 3 && b.k == 3
  | _ => false
theorem nested_no {k : Int} {s : List UInt8} {a e lo hi : Exp} {body : List Stmt} (hk : k ≠ 3) : nested (.mk k s a e lo hi body) = false := by
  match body with
  | [] => rfl
  | [b] => simp [nested, hk]
  | b1 :: b2 :: bs => rfl
theorem fn11 (x : Stmt) : Says prog 11 [.agg (Cs x.d)] (.bool (nested x)) [] := by
  obtain ⟨k, s, a, e, lo, hi, body⟩ := x
  refine Fn_of_wp Go.Proofs.Try.func11 ok11 ?_
  cases a; cases e; cases lo; cases hi
  by_cases hk : k = 3
  · subst hk
    match body with
    | [] => simp [s11, v11, r11, Stmt.d, Exp.d, nested]
    | [b] =>
      obtain ⟨k', s', a', e', lo', hi', body'⟩ := b
      by_cases hk' : k' = 3 <;> simp [s11, v11, r11, Stmt.d, dStmts, Exp.d, nested, Stmt.k, hk']
    | b1 :: b2 :: bs =>
      have : ((bs.length : Int) + 1 + 1 = 1) = False := by simp; omega
      simp [s11, v11, r11, Stmt.d, Exp.d, nested, this]
  · simp [s11, v11, r11, Stmt.d, Exp.d, nested_no hk, hk]
theorem fn13 (x : Stmt) : Says prog 13 [.agg (Cs x.d)] (.bool (nested x)) [] := by
  obtain ⟨k, s, a, e, lo, hi, body⟩ := x
  refine Fn_of_wp Go.Proofs.Try.func13 ok13 ?_
  cases a; cases e; cases lo; cases hi
  by_cases hk : k = 3
  · subst hk
    match body with
    | [] => simp [s13, v13, r13, Stmt.d, Exp.d, nested]
    | [b] =>
      obtain ⟨k', s', a', e', lo', hi', body'⟩ := b
      by_cases hk' : k' = 3 <;> simp [s13, v13, r13, Stmt.d, dStmts, Exp.d, nested, Stmt.k, hk']
    | b1 :: b2 :: bs =>
      have : ((bs.length : Int) + 1 + 1 = 1) = False := by simp; omega
      simp [s13, v13, r13, Stmt.d, Exp.d, nested, this]
  · simp [s13, v13, r13, Stmt.d, Exp.d, nested_no hk, hk]

theorem fn4 (x : Stmt) (hx : x.lg) : Says prog 4 [.agg (Cs x.d)] (.bool true) [] := by
  obtain ⟨r, hr, hsm⟩ := stmt_sz x hx 1048576 (by omega) (by omega)
  have heq := stmt_eq x hx
  have h1 := fn11 x
  have h2 := fn13 x
  refine Fn_of_wp Go.Proofs.Try.func4 ok4 ?_
  simp [s4, v4, r4, Stmt.d_len, Stmt.takeC]
  refine ⟨_, hr, ?_⟩
  simp [Stmt.d_len, Stmt.takeC]
  intro c
  have hto := stmt_to x (hsm (by omega)).2
  refine ⟨_, hto, ?_⟩
  simp [Stmt.d_len, Stmt.takeC]
  refine ⟨_, h1, ?_⟩
  simp [Stmt.d_len, Stmt.takeC]
  refine ⟨_, hto, ?_⟩
  simp [Stmt.d_len, Stmt.takeC, Stmt.takeO]
  refine ⟨_, h2, ?_⟩
  simp [Stmt.d_len, Stmt.takeC, Stmt.takeO]
  refine ⟨_, hto, ?_⟩
  simp [Stmt.d_len, Stmt.takeC, Stmt.takeO]
  refine ⟨_, heq, ?_⟩
  simp [Stmt.d_len, Stmt.takeC, Stmt.takeO]
end Go.AmC
