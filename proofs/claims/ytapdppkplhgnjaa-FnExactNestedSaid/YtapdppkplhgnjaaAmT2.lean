/- Part of a proof: see the last text of this folder. -/
import Derived.Test.YtapdppkplhgnjaaAmT1
set_option linter.unusedSimpArgs false
set_option linter.unusedVariables false
set_option maxRecDepth 20000
set_option maxHeartbeats 8000000
namespace Go.AmC
open Go Go.AM
open Go.Proofs.Try (prog)

theorem fn20 (k v : Int) (n : List UInt8) (kids : List Exp) (hn : n.length ≤ maxLen) (h : ∀ l, 0 ≤ l → l ≤ 1048576 → ∃ r, Says prog 46 [.rsl kids.length (Cs (dExps kids)), .int .i64 l] (.int .i64 r) [] ∧ (0 ≤ r → r ≤ l ∧ kids.length ≤ 1048576 ∧ ∀ x ∈ kids, x.sm))
    (l : Int) (h0 : 0 ≤ l) (hm : l ≤ 1048576) : ∃ r, Says prog 20 [.agg (Cs (Exp.mk k v n kids).d), .int .i64 l] (.int .i64 r) [] ∧ (0 ≤ r → r ≤ l ∧ (Exp.mk k v n kids).sm) := by
  have hw : (IntKind.i64).wrap (l - n.length) = l - n.length := by unfold maxLen at hn; rw [wrap_small] <;> omega
  by_cases c : l - (n.length : Int) < 0
  · refine ⟨-1, Fn_of_wp Go.Proofs.Try.func20 ok20 ?_, fun h => by omega⟩
    simp [s20, v20, r20, Exp.d, hw, c]
  · obtain ⟨r, hr, hr2⟩ := h (l - n.length) (by omega) (by omega)
    refine ⟨if r < 0 then -1 else r, Fn_of_wp Go.Proofs.Try.func20 ok20 ?_, fun hp => ?_⟩
    · simp [s20, v20, r20, Exp.d, hw, c]
      refine ⟨_, hr, ?_⟩
      by_cases c2 : r < 0 <;> simp [c2]
    · by_cases c2 : r < 0
      · simp [c2] at hp
      · simp only [c2, if_false] at hp ⊢
        obtain ⟨a1, a2, a3⟩ := hr2 (by omega)
        exact ⟨by omega, by simp only [Exp.sm]; exact ⟨by omega, a2, smExps_of a3⟩⟩

theorem fn22 (k v : Int) (n : List UInt8) (kids : List Exp) (h : Says prog 49 [.rsl kids.length (Cs (dExps kids))] (.osl 0 34 kids.length (Ows (dExps kids))) []) :
    Says prog 22 [.agg (Cs (Exp.mk k v n kids).d)] (.agg (Ows (Exp.mk k v n kids).d)) [] := by
  refine Fn_of_wp Go.Proofs.Try.func22 ok22 ?_
  simp [s22, v22, r22, Exp.d, splice]
  refine ⟨_, h, ?_⟩
  simp [splice]

theorem fn24 (k v : Int) (n : List UInt8) (kids : List Exp) (h : Says prog 52 [.rsl kids.length (Cs (dExps kids)), .rsl kids.length (Cs (dExps kids))] (.bool true) []) :
    Says prog 24 [.agg (Cs (Exp.mk k v n kids).d), .agg (Cs (Exp.mk k v n kids).d)] (.bool true) [] := by
  refine Fn_of_wp Go.Proofs.Try.func24 ok24 ?_
  simp [s24, v24, r24, Exp.d]
  refine ⟨_, h, ?_⟩
  simp

theorem smExps_mem : ∀ {xs : List Exp}, smExps xs → ∀ x ∈ xs, x.sm
  | [], _, x, h => by simp at h
  | y :: ys, h, x, hx => by
    simp only [smExps] at h
    rcases List.mem_cons.1 hx with rfl | hx
    · exact h.1
    · exact smExps_mem h.2 x hx

mutual
theorem exp_sz : ∀ (x : Exp), x.lg → ∀ l, 0 ≤ l → l ≤ 1048576 → ∃ r, Says prog 20 [.agg (Cs x.d), .int .i64 l] (.int .i64 r) [] ∧ (0 ≤ r → r ≤ l ∧ x.sm)
  | .mk k v n kids, h => by
    simp only [Exp.lg] at h
    exact fn20 k v n kids h.1 (fn46 kids h.2.1 (exps_sz kids h.2.2))
theorem exps_sz : ∀ (xs : List Exp), lgExps xs → ∀ x ∈ xs, ∀ l, 0 ≤ l → l ≤ 1048576 → ∃ r, Says prog 20 [.agg (Cs x.d), .int .i64 l] (.int .i64 r) [] ∧ (0 ≤ r → r ≤ l ∧ x.sm)
  | [], _, x, hx => by simp at hx
  | y :: ys, h, x, hx => by
    simp only [lgExps] at h
    rcases List.mem_cons.1 hx with h1 | h1
    · rw [h1]; exact exp_sz y h.1
    · exact exps_sz ys h.2 x h1
end
mutual
theorem exp_to : ∀ (x : Exp), x.sm → Says prog 22 [.agg (Cs x.d)] (.agg (Ows x.d)) []
  | .mk k v n kids, h => by
    simp only [Exp.sm] at h
    exact fn22 k v n kids (fn49 kids h.2.1 (exps_to kids h.2.2))
theorem exps_to : ∀ (xs : List Exp), smExps xs → ∀ x ∈ xs, Says prog 22 [.agg (Cs x.d)] (.agg (Ows x.d)) []
  | [], _, x, hx => by simp at hx
  | y :: ys, h, x, hx => by
    simp only [smExps] at h
    rcases List.mem_cons.1 hx with h1 | h1
    · rw [h1]; exact exp_to y h.1
    · exact exps_to ys h.2 x h1
end
mutual
theorem exp_eq : ∀ (x : Exp), x.lg → Says prog 24 [.agg (Cs x.d), .agg (Cs x.d)] (.bool true) []
  | .mk k v n kids, h => by
    simp only [Exp.lg] at h
    exact fn24 k v n kids (fn52 kids h.2.1 (exps_eq kids h.2.2))
theorem exps_eq : ∀ (xs : List Exp), lgExps xs → ∀ x ∈ xs, Says prog 24 [.agg (Cs x.d), .agg (Cs x.d)] (.bool true) []
  | [], _, x, hx => by simp at hx
  | y :: ys, h, x, hx => by
    simp only [lgExps] at h
    rcases List.mem_cons.1 hx with h1 | h1
    · rw [h1]; exact exp_eq y h.1
    · exact exps_eq ys h.2 x h1
end

/-- A call that measures: it goes on, or ends with -1. -/
def Sz (g : Nat) (args : Int → List AV) (ok : Prop) : Prop := ∀ l, 0 ≤ l → l ≤ 1048576 → ∃ r, Says prog g (args l) (.int .i64 r) [] ∧ (0 ≤ r → r ≤ l ∧ ok)

theorem fn10 (k : Int) (s : List UInt8) (a e lo hi : Exp) (body : List Stmt) (hn : s.length ≤ maxLen) (ha : Sz 20 (fun l => [.agg (Cs a.d), .int .i64 l]) a.sm) (he : Sz 20 (fun l => [.agg (Cs e.d), .int .i64 l]) e.sm)
  (hlo : Sz 20 (fun l => [.agg (Cs lo.d), .int .i64 l]) lo.sm) (hhi : Sz 20 (fun l => [.agg (Cs hi.d), .int .i64 l]) hi.sm) (hb : Sz 37 (fun l => [.rsl body.length (Cs (dStmts body)), .int .i64 l]) (body.length ≤ 1048576 ∧ ∀ x ∈ body, x.sm))
  (l : Int) (h0 : 0 ≤ l) (hm : l ≤ 1048576) : ∃ v, (∃ r, v = .int .i64 r ∧ (0 ≤ r → r ≤ l ∧ (Stmt.mk k s a e lo hi body).sm)) ∧ Says prog 10 [.agg (Cs (Stmt.mk k s a e lo hi body).d), .int .i64 l] v [] := by
  have hw : (IntKind.i64).wrap (l - s.length) = l - s.length := by unfold maxLen at hn; rw [wrap_small] <;> omega
  have hsm : (Stmt.mk k s a e lo hi body).sm = (s.length ≤ 1048576 ∧ a.sm ∧ e.sm ∧ lo.sm ∧ hi.sm ∧ body.length ≤ 1048576 ∧ smStmts body) := by simp only [Stmt.sm]
  rw [hsm]
  refine Fn_ex Go.Proofs.Try.func10 ok10 ?_
  cases a; cases e; cases lo; cases hi
  by_cases c : l - (s.length : Int) < 0
  · simp [s10, v10, r10, Stmt.d, Exp.d, hw, c]
  · simp [s10, v10, r10, Stmt.d, Exp.d, hw, c]
    obtain ⟨r1, p1, q1⟩ := ha (l - s.length) (by omega) (by omega)
    simp only [Exp.d] at p1; simp at p1
    refine ⟨_, p1, ?_⟩
    simp
    intro c1
    have q1 := q1 (by omega)
    obtain ⟨r2, p2, q2⟩ := he (r1) (by omega) (by omega)
    simp only [Exp.d] at p2; simp at p2
    refine ⟨_, p2, ?_⟩
    simp
    intro c2
    have q2 := q2 (by omega)
    obtain ⟨r3, p3, q3⟩ := hlo (r2) (by omega) (by omega)
    simp only [Exp.d] at p3; simp at p3
    refine ⟨_, p3, ?_⟩
    simp
    intro c3
    have q3 := q3 (by omega)
    obtain ⟨r4, p4, q4⟩ := hhi (r3) (by omega) (by omega)
    simp only [Exp.d] at p4; simp at p4
    refine ⟨_, p4, ?_⟩
    simp
    intro c4
    have q4 := q4 (by omega)
    obtain ⟨r5, p5, q5⟩ := hb (r4) (by omega) (by omega)
    skip
    refine ⟨_, p5, ?_⟩
    simp
    intro h5
    have q5 := q5 h5
    exact ⟨by omega, by omega, q1.2, q2.2, q3.2, q4.2, q5.2.1, smStmts_of q5.2.2⟩

theorem fn12 (k : Int) (s : List UInt8) (a e lo hi : Exp) (body : List Stmt) (ha : Says prog 22 [.agg (Cs a.d)] (.agg (Ows a.d)) [])
  (he : Says prog 22 [.agg (Cs e.d)] (.agg (Ows e.d)) []) (hlo : Says prog 22 [.agg (Cs lo.d)] (.agg (Ows lo.d)) []) (hhi : Says prog 22 [.agg (Cs hi.d)] (.agg (Ows hi.d)) [])
  (hb : Says prog 38 [.rsl body.length (Cs (dStmts body))] (.osl 0 37 body.length (Ows (dStmts body))) []) :
  Says prog 12 [.agg (Cs (Stmt.mk k s a e lo hi body).d)] (.agg (Ows (Stmt.mk k s a e lo hi body).d)) [] := by
  refine Fn_of_wp Go.Proofs.Try.func12 ok12 ?_
  cases a; cases e; cases lo; cases hi
  simp only [Exp.d] at *
  simp at ha he hlo hhi
  simp [s12, v12, r12, Stmt.d, Exp.d, splice]
  refine ⟨_, ha, ?_⟩
  simp [splice]
  refine ⟨_, he, ?_⟩
  simp [splice]
  refine ⟨_, hlo, ?_⟩
  simp [splice]
  refine ⟨_, hhi, ?_⟩
  simp [splice]
  refine ⟨_, hb, ?_⟩
  simp [splice]

theorem fn14 (k : Int) (s : List UInt8) (a e lo hi : Exp) (body : List Stmt) (ha : Says prog 24 [.agg (Cs a.d), .agg (Cs a.d)] (.bool true) [])
  (he : Says prog 24 [.agg (Cs e.d), .agg (Cs e.d)] (.bool true) []) (hlo : Says prog 24 [.agg (Cs lo.d), .agg (Cs lo.d)] (.bool true) []) (hhi : Says prog 24 [.agg (Cs hi.d), .agg (Cs hi.d)] (.bool true) [])
  (hb : Says prog 39 [.rsl body.length (Cs (dStmts body)), .rsl body.length (Cs (dStmts body))] (.bool true) []) :
  Says prog 14 [.agg (Cs (Stmt.mk k s a e lo hi body).d), .agg (Cs (Stmt.mk k s a e lo hi body).d)] (.bool true) [] := by
  refine Fn_of_wp Go.Proofs.Try.func14 ok14 ?_
  cases a; cases e; cases lo; cases hi
  simp only [Exp.d] at *
  simp at ha he hlo hhi
  simp [s14, v14, r14, Stmt.d, Exp.d]
  refine ⟨_, ha, ?_⟩
  simp
  refine ⟨_, he, ?_⟩
  simp
  refine ⟨_, hlo, ?_⟩
  simp
  refine ⟨_, hhi, ?_⟩
  simp
  refine ⟨_, hb, ?_⟩
  simp
end Go.AmC
