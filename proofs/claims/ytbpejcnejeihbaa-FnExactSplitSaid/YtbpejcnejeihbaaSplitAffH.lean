/- Part of a proof: see the last text of this folder. -/
import Derived.Test.YtbpejcnejeihbaaSplitAffG
set_option linter.unusedSimpArgs false
set_option linter.unusedVariables false
set_option maxRecDepth 20000
set_option maxHeartbeats 4000000
namespace Go.AmC
open Go Go.AM
open Go.Proofs.Try (prog)

theorem affE_0 {ns : List Nm} {K N : Int} {S : Nm} (h1 : ¬ K = 1) (h2 : ¬ K = 2) : affE ns ⟨K, N, S, []⟩ = none := by rw [affE, if_neg h1, if_neg h2]
theorem aff_spec (ns : List Nm) (hns : ns.length ≤ 1048576) : ∀ (e : Exp), e.tot ≤ 10000000 → Says prog 89 [.agg (Cs e.d), .rsl ns.length (Cs (ns.flatMap dStr))] (resA (affE ns e)) [] := Exp.ind fun e ih ht => by
  obtain ⟨K, N, S, L⟩ := e
  have htt := Exp.tot_eq ⟨K, N, S, L⟩
  simp only at htt
  have fH := has_spec ns S (by omega)
  refine Fn_G Go.Proofs.Try.func89 ok89 ?_
  by_cases hL : L = []
  · subst hL
    by_cases c1 : K = 1
    · have fA := affOk_spec ⟨N, []⟩ (by rw [Aff.tot_eq]; simp)
      have hz : affOk ⟨N, []⟩ = coefOk N := by simp [affOk, okT]
      rw [hz] at fA
      simp at fA
      cases c2 : coefOk N
      · rw [c2] at fA
        have e : affE ns ⟨K, N, S, []⟩ = none := by rw [affE, if_pos c1, c2]; simp
        rw [e]
        simp [v89, r89, c1, splice]
        refine callG fA ?_
        simp [resA, splice]
      · rw [c2] at fA
        have e : affE ns ⟨K, N, S, []⟩ = some ⟨N, []⟩ := by rw [affE, if_pos c1, c2]; simp
        rw [e]
        simp [v89, r89, c1, splice]
        refine callG fA ?_
        simp [resA, splice]
    by_cases c2 : K = 2
    · by_cases c3 : S ∈ ns
      · have fA := affOk_spec ⟨0, [⟨S, 1⟩]⟩ (by rw [Aff.tot_eq]; simp [Term.tot_eq]; omega)
        have hz : affOk ⟨0, [⟨S, 1⟩]⟩ = nameOk S := by
          have h1 : coefOk 1 = true := by decide
          have h0 : coefOk 0 = true := by decide
          simp [affOk, okT_cons, okT, ltO, h1, h0]
        rw [hz] at fA
        simp at fA
        simp [c3] at fH
        cases c4 : nameOk S
        · rw [c4] at fA
          have e : affE ns ⟨K, N, S, []⟩ = none := by rw [affE, if_neg c1, if_pos c2, c4]; simp
          rw [e]
          simp [v89, r89, c2, splice]
          refine callG fH ?_
          simp
          refine callG fA ?_
          simp [resA, splice]
        · rw [c4] at fA
          have e : affE ns ⟨K, N, S, []⟩ = some ⟨0, [⟨S, 1⟩]⟩ := by rw [affE, if_neg c1, if_pos c2, c4, if_pos ⟨c3, rfl⟩]
          rw [e]
          simp [v89, r89, c2, splice]
          refine callG fH ?_
          simp
          refine callG fA ?_
          simp [resA, splice]
      · have e : affE ns ⟨K, N, S, []⟩ = none := by rw [affE, if_neg c1, if_pos c2]; simp [c3]
        rw [e]
        simp [c3] at fH
        simp [v89, r89, c2, splice]
        refine callG fH ?_
        simp [resA, splice]
    · rw [affE_0 c1 c2]
      simp [v89, r89, c1, c2, resA, splice]
  have hn0 : ¬ (L.length : Int) = 0 := fun h => hL (List.length_eq_zero_iff.1 (by omega))
  have g1 : ∀ b : Bool, (b && decide (L.length = 0)) = false := by
    intro b
    have : ¬ L.length = 0 := by omega
    simp [this]
  by_cases h2 : L.length = 2
  · match L, ih, htt, h2 with
    | [x, y], ih, htt, _ =>
    simp only [List.map_cons, List.map_nil, List.sum_cons, List.sum_nil, List.length_cons, List.length_nil] at htt
    have fx := ih x (by simp) (by omega)
    have fy := ih y (by simp) (by omega)
    have e : affE ns ⟨K, N, S, [x, y]⟩ = match affE ns x, affE ns y with
        | some p, some q => two K p q
        | _, _ => none := by rw [affE]; rfl
    rw [e]
    simp only at ih
    clear ih
    simp at fx fy
    cases hx : affE ns x with
    | none =>
      rw [hx] at fx
      simp [resA] at fx
      cases hy : affE ns y with
      | none =>
        rw [hy] at fy
        simp [resA] at fy
        by_cases c1 : K = 1 <;> by_cases c2 : K = 2 <;> (try (exfalso; omega)) <;> simp [v89, r89, c1, c2, splice] <;> refine callG fx ?_ <;> simp [splice] <;> refine callG fy ?_ <;> simp [resA, splice]
      | some q' =>
        rw [hy] at fy
        simp [resA] at fy
        by_cases c1 : K = 1 <;> by_cases c2 : K = 2 <;> (try (exfalso; omega)) <;> simp [v89, r89, c1, c2, splice] <;> refine callG fx ?_ <;> simp [splice] <;> refine callG fy ?_ <;> simp [resA, splice]
    | some p =>
      rw [hx] at fx
      obtain ⟨ap, lp⟩ := affE_some ns x p hx
      simp [resA] at fx
      cases hy : affE ns y with
      | none =>
        rw [hy] at fy
        simp [resA] at fy
        by_cases c1 : K = 1 <;> by_cases c2 : K = 2 <;> (try (exfalso; omega)) <;> simp [v89, r89, c1, c2, splice] <;> refine callG fx ?_ <;> simp [splice] <;> refine callG fy ?_ <;> simp [resA, splice]
      | some q' =>
        rw [hy] at fy
        obtain ⟨aq, lq⟩ := affE_some ns y q' hy
        simp [resA] at fy
        simp only
        have nl : ∀ z : Aff, z.T = [] ↔ (z.T.length : Int) = 0 := fun z => by rw [← List.length_eq_zero_iff]; omega
        by_cases c4 : K = 4
        · have f := add_spec p q' ap aq (by omega)
          have e : two K p q' = okA (mixA p q' 1) := by unfold two; rw [if_pos c4]
          rw [e]
          generalize okA (mixA p q' 1) = o at f ⊢
          simp [resA] at f
          simp [v89, r89, c4, splice]
          refine callG fx ?_
          simp [splice]
          refine callG fy ?_
          simp [splice]
          refine callG f ?_
          simp [resA, splice]
        by_cases c5 : K = 5
        · have f := sub_spec p q' ap aq (by omega)
          have e : two K p q' = okA (mixA p q' (-1)) := by unfold two; rw [if_neg c4, if_pos c5]
          rw [e]
          generalize okA (mixA p q' (-1)) = o at f ⊢
          simp [resA] at f
          simp [v89, r89, c5, splice]
          refine callG fx ?_
          simp [splice]
          refine callG fy ?_
          simp [splice]
          refine callG f ?_
          simp [resA, splice]
        by_cases c6 : K = 6
        · by_cases c8 : q'.T = []
          · have f := times_spec p q'.C ap (coefOk_b aq.c) (by omega)
            have e : two K p q' = okA (mixA noA p q'.C) := by
              unfold two; rw [if_neg c4, if_neg c5, if_pos c6]
              split
              · rename_i c7
                rw [← times_mix _ ap, ← times_mix _ aq]
                unfold timesA
                rw [c7, c8, Int.mul_comm]; simp
              · rfl
            rw [e]
            generalize okA (mixA noA p q'.C) = o at f ⊢
            simp [resA] at f
            simp [v89, r89, c6, c8, splice]
            refine callG fx ?_
            simp [splice]
            refine callG fy ?_
            simp [splice, c8]
            refine callG f ?_
            simp [resA, splice]
          · have c8' : ¬ (q'.T.length : Int) = 0 := fun h => c8 ((nl q').2 h)
            by_cases c7 : p.T = []
            · have f := times_spec q' p.C aq (coefOk_b ap.c) (by omega)
              have e : two K p q' = okA (mixA noA q' p.C) := by unfold two; rw [if_neg c4, if_neg c5, if_pos c6, if_pos c7]
              rw [e]
              generalize okA (mixA noA q' p.C) = o at f ⊢
              simp [resA] at f
              simp [v89, r89, c6, c7, c8, c8', splice]
              refine callG fx ?_
              simp [splice]
              refine callG fy ?_
              simp [splice, c7, c8, c8']
              refine callG f ?_
              simp [resA, splice]
            · have c7' : ¬ (p.T.length : Int) = 0 := fun h => c7 ((nl p).2 h)
              have e : two K p q' = none := by unfold two; rw [if_neg c4, if_neg c5, if_pos c6, if_neg c7, if_neg c8]
              rw [e]
              simp [v89, r89, c6, c7, c7', c8, c8', splice]
              refine callG fx ?_
              simp [splice]
              refine callG fy ?_
              simp [splice, c7, c8, c7', c8', resA]
        · have e : two K p q' = none := by unfold two; rw [if_neg c4, if_neg c5, if_neg c6]
          rw [e]
          by_cases c1 : K = 1 <;> by_cases c2 : K = 2 <;> (try (exfalso; omega)) <;> simp [v89, r89, c1, c2, c4, c5, c6, splice] <;> refine callG fx ?_ <;> simp [splice] <;> refine callG fy ?_ <;> simp [c4, c5, c6, resA, splice]
  · rw [affE_B hL h2]
    have h2' : ¬ (L.length : Int) = 2 := by omega
    by_cases c1 : K = 1
    · simp [v89, r89, c1, hL, hn0, h2, h2', resA, splice]
    by_cases c2 : K = 2
    · simp [v89, r89, c2, hL, hn0, h2, h2', resA, splice]
    simp [v89, r89, c1, c2, hL, hn0, h2, h2', resA, splice]
end Go.AmC
