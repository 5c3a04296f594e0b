/- Part of a proof: see the last text of this folder. -/
import Derived.Test.YtbpejcnejeihbaaSplitAffF
set_option linter.unusedSimpArgs false
set_option linter.unusedVariables false
set_option maxRecDepth 20000
set_option maxHeartbeats 4000000
namespace Go.AmC
open Go Go.AM
open Go.Proofs.Try (prog)

theorem isTwo_impl (k : Int) : Says prog 62 [.int .i64 k] (.bool (decide (4 ≤ k) && decide (k ≤ 8))) [] := by
  have f := in_impl k 4 8
  refine Fn_G Go.Proofs.Try.func62 ok62 ?_
  simp [v62, r62]
  refine callG f ?_
  simp
theorem two_impl (K : Int) (x y : Aff) (hx : AOk x) (hy : AOk y) (hl : x.T.length + y.T.length ≤ 100000000) : Says prog 104 [.int .i64 K, .agg (Cs x.d), .agg (Cs y.d)] (resA (two K x y)) [] := by
  refine Fn_G Go.Proofs.Try.func104 ok104 ?_
  have nl : ∀ z : Aff, z.T = [] ↔ (z.T.length : Int) = 0 := fun z => by rw [← List.length_eq_zero_iff]; omega
  by_cases c4 : K = 4
  · have f := mix_impl x y 1 hx hy (by omega) hl
    have e : two K x y = okA (mixA x y 1) := by unfold two; rw [if_pos c4]
    rw [e]
    generalize okA (mixA x y 1) = o at f ⊢
    simp [resA] at f
    simp [v104, r104, c4]
    refine callG f ?_
    simp [resA, splice]
  by_cases c5 : K = 5
  · have f := mix_impl x y (-1) hx hy (by omega) hl
    have e : two K x y = okA (mixA x y (-1)) := by unfold two; rw [if_neg c4, if_pos c5]
    rw [e]
    generalize okA (mixA x y (-1)) = o at f ⊢
    simp [resA] at f
    simp [v104, r104, c5]
    refine callG f ?_
    simp [resA, splice]
  by_cases c6 : K = 6
  · by_cases c7 : x.T = []
    · have f := mix_impl noA y x.C noA_ok hy (coefOk_b hx.c) (by simp [noA]; omega)
      have e : two K x y = okA (mixA noA y x.C) := by unfold two; rw [if_neg c4, if_neg c5, if_pos c6, if_pos c7]
      rw [e]
      generalize okA (mixA noA y x.C) = o at f ⊢
      simp [resA, noA] at f
      simp [v104, r104, c6, c7]
      refine callG f ?_
      simp [resA, splice]
    · have c7' : ¬ (x.T.length : Int) = 0 := fun h => c7 ((nl x).2 h)
      by_cases c8 : y.T = []
      · have f := mix_impl noA x y.C noA_ok hx (coefOk_b hy.c) (by simp [noA]; omega)
        have e : two K x y = okA (mixA noA x y.C) := by unfold two; rw [if_neg c4, if_neg c5, if_pos c6, if_neg c7, if_pos c8]
        rw [e]
        generalize okA (mixA noA x y.C) = o at f ⊢
        simp [resA, noA] at f
        simp [v104, r104, c6, c7, c7', c8]
        refine callG f ?_
        simp [resA, splice]
      · have c8' : ¬ (y.T.length : Int) = 0 := fun h => c8 ((nl y).2 h)
        have e : two K x y = none := by unfold two; rw [if_neg c4, if_neg c5, if_pos c6, if_neg c7, if_neg c8]
        rw [e]
        simp [v104, r104, c6, c7, c7', c8, c8', resA, splice]
  · have e : two K x y = none := by unfold two; rw [if_neg c4, if_neg c5, if_neg c6]
    rw [e]
    simp [v104, r104, c4, c5, c6, resA, splice]

theorem affE_A {ns : List Nm} {K N : Int} {S : Nm} {L : List Exp} (h0 : L ≠ []) (hK : (decide (4 ≤ K) && decide (K ≤ 8)) = false) : affE ns ⟨K, N, S, L⟩ = none := by
  match L, h0 with
  | [x], _ => rw [affE]; all_goals simp
  | [x, y], _ =>
    rw [affE]
    have h : ∀ p q, two K p q = none := fun p q => by
      unfold two
      rw [if_neg (by rintro rfl; simp at hK), if_neg (by rintro rfl; simp at hK), if_neg (by rintro rfl; simp at hK)]
    cases affE ns x with
    | none => rfl
    | some p => cases affE ns y with
      | none => rfl
      | some q => exact h p q
  | x :: y :: z :: l, _ => rw [affE]; all_goals simp
theorem affE_B {ns : List Nm} {K N : Int} {S : Nm} {L : List Exp} (h0 : L ≠ []) (h2 : L.length ≠ 2) : affE ns ⟨K, N, S, L⟩ = none := by
  match L, h0, h2 with
  | [x], _, _ => rw [affE]; all_goals simp
  | [x, y], _, h => simp at h
  | x :: y :: z :: l, _, _ => rw [affE]; all_goals simp
theorem aff_impl (ns : List Nm) (hns : ns.length ≤ 1048576) : ∀ (e : Exp), e.tot ≤ 10000000 → Says prog 92 [.agg (Cs e.d), .rsl ns.length (Cs (ns.flatMap dStr))] (resA (affE ns e)) [] := Exp.ind fun e ih ht => by
  obtain ⟨K, N, S, L⟩ := e
  have htt := Exp.tot_eq ⟨K, N, S, L⟩
  simp only at htt
  have fI := coef_ok_impl N
  have fT := isTwo_impl K
  have fH := has_impl ns S (by omega)
  have fN := nm_impl S (by omega)
  refine Fn_G Go.Proofs.Try.func92 ok92 ?_
  by_cases hL : L = []
  · subst hL
    by_cases c1 : K = 1
    · cases c2 : coefOk N
      · rw [c2] at fI
        have e : affE ns ⟨K, N, S, []⟩ = none := by rw [affE, if_pos c1, c2]; simp
        rw [e]
        have fT2 : Says prog 62 [.int .i64 1] (.bool false) [] := by simpa [c1] using fT
        simp [v92, r92, c1]
        refine callG fI ?_
        simp
        refine callG fT2 ?_
        simp [resA, splice]
      · rw [c2] at fI
        have e : affE ns ⟨K, N, S, []⟩ = some ⟨N, []⟩ := by rw [affE, if_pos c1, c2]; simp
        rw [e]
        simp [v92, r92, c1]
        refine callG fI ?_
        simp [resA, splice]
    by_cases c2 : K = 2
    · by_cases c3 : S ∈ ns
      · cases c4 : nameOk S
        · rw [c4] at fN
          have e : affE ns ⟨K, N, S, []⟩ = none := by rw [affE, if_neg c1, if_pos c2, c4]; simp
          rw [e]
          have fT2 : Says prog 62 [.int .i64 2] (.bool false) [] := by simpa [c2] using fT
          simp [c3] at fH
          simp [v92, r92, c2]
          refine callG fH ?_
          simp
          refine callG fN ?_
          simp
          refine callG fT2 ?_
          simp [resA, splice]
        · rw [c4] at fN
          have e : affE ns ⟨K, N, S, []⟩ = some ⟨0, [⟨S, 1⟩]⟩ := by rw [affE, if_neg c1, if_pos c2, c4, if_pos ⟨c3, rfl⟩]
          rw [e]
          simp [c3] at fH
          simp [v92, r92, c2]
          refine callG fH ?_
          simp
          refine callG fN ?_
          simp [resA, splice]
      · have e : affE ns ⟨K, N, S, []⟩ = none := by rw [affE, if_neg c1, if_pos c2]; simp [c3]
        rw [e]
        have fT2 : Says prog 62 [.int .i64 2] (.bool false) [] := by simpa [c2] using fT
        simp [c3] at fH
        simp [v92, r92, c2]
        refine callG fH ?_
        simp
        refine callG fT2 ?_
        simp [resA, splice]
    · have e : affE ns ⟨K, N, S, []⟩ = none := by rw [affE, if_neg c1, if_neg c2]
      rw [e]
      cases hz : (decide (4 ≤ K) && decide (K ≤ 8))
      · rw [hz] at fT
        simp [v92, r92, c1, c2]
        refine callG fT ?_
        simp [resA, splice]
      · rw [hz] at fT
        simp [v92, r92, c1, c2]
        refine callG fT ?_
        simp [resA, splice]
  have hn0 : ¬ (L.length : Int) = 0 := fun h => hL (List.length_eq_zero_iff.1 (by omega))
  cases hz : (decide (4 ≤ K) && decide (K ≤ 8))
  · rw [affE_A hL hz]
    rw [hz] at fT
    by_cases c1 : K = 1
    · subst c1
      cases c2 : coefOk N
      · rw [c2] at fI
        simp [v92, r92]
        refine callG fI ?_
        simp
        refine callG fT ?_
        simp [resA, splice]
      · rw [c2] at fI
        simp [v92, r92, hn0, hL]
        refine callG fI ?_
        simp [hn0, hL]
        refine callG fT ?_
        simp [resA, splice]
    by_cases c2 : K = 2
    · subst c2
      simp [v92, r92, hn0, hL]
      refine callG fT ?_
      simp [resA, splice]
    · simp [v92, r92, c1, c2]
      refine callG fT ?_
      simp [resA, splice]
  rw [hz] at fT
  have c1 : ¬ K = 1 := by rintro rfl; simp at hz
  have c2 : ¬ K = 2 := by rintro rfl; simp at hz
  by_cases h2 : L.length = 2
  · match L, ih, htt, h2 with
    | [x, y], ih, htt, _ =>
    simp only [List.map_cons, List.map_nil, List.sum_cons, List.sum_nil, List.length_cons, List.length_nil] at htt
    have fx := ih x (by simp) (by omega)
    have fy := ih y (by simp) (by omega)
    have e : affE ns ⟨K, N, S, [x, y]⟩ = match affE ns x, affE ns y with
        | some p, some q => two K p q
        | _, _ => none := by rw [affE]; rfl
    rw [e]
    simp only at ih
    clear ih
    simp at fx fy
    cases hx : affE ns x with
    | none =>
      rw [hx] at fx
      simp [resA] at fx
      simp [v92, r92, c1, c2]
      refine callG fT ?_
      simp
      refine callG fx ?_
      simp [resA, splice]
    | some p =>
      rw [hx] at fx
      obtain ⟨ap, lp⟩ := affE_some ns x p hx
      simp [resA] at fx
      cases hy : affE ns y with
      | none =>
        rw [hy] at fy
        simp [resA] at fy
        simp [v92, r92, c1, c2]
        refine callG fT ?_
        simp
        refine callG fx ?_
        simp [splice]
        refine callG fy ?_
        simp [resA, splice]
      | some q' =>
        rw [hy] at fy
        obtain ⟨aq, lq⟩ := affE_some ns y q' hy
        simp [resA] at fy
        have f2 := two_impl K p q' ap aq (by omega)
        simp only
        generalize two K p q' = o at f2 ⊢
        simp [resA] at f2
        simp [v92, r92, c1, c2]
        refine callG fT ?_
        simp
        refine callG fx ?_
        simp [splice]
        refine callG fy ?_
        simp [splice]
        refine callG f2 ?_
        simp [resA, splice]
  · rw [affE_B hL h2]
    have h2' : ¬ (L.length : Int) = 2 := by omega
    simp [v92, r92, c1, c2]
    refine callG fT ?_
    simp [h2']
    simp [resA, splice]
end Go.AmC
