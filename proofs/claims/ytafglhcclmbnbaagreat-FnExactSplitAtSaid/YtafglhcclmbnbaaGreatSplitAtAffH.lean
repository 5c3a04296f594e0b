/- Part of a proof: see the last text of this folder. -/
import Derived.Test.YtafglhcclmbnbaaGreatSplitAtAffO
/- Part of a proof: see the last text of this folder. -/
set_option linter.unusedSimpArgs false
set_option linter.unusedVariables false
set_option maxRecDepth 20000
set_option maxHeartbeats 4000000
namespace Go.AmC
open Go Go.AM
open Go.Proofs.Tryz (prog)
theorem add_spec (a b : Aff) (ha : AOk a) (hb : AOk b) (hl : a.T.length + b.T.length ≤ 100000000) : Says prog 365 [.agg (Cs a.d), .agg (Cs b.d)] (resA (okA (mixA a b 1))) [] := by
  have f := sum_spec a b 1 ha hb (by omega) hl (names_6 ha hb)
  rw [sum_mix _ ha hb] at f
  refine Fn_G Go.Proofs.Tryz.func365 ok365 ?_
  generalize okA (mixA a b 1) = o at f ⊢
  simp [resA] at f
  simp [v365, r365]
  refine callG f ?_
  simp [resA, splice]
theorem sub_spec (a b : Aff) (ha : AOk a) (hb : AOk b) (hl : a.T.length + b.T.length ≤ 100000000) : Says prog 366 [.agg (Cs a.d), .agg (Cs b.d)] (resA (okA (mixA a b (-1)))) [] := by
  have f := sum_spec a b (-1) ha hb (by omega) hl (names_6 ha hb)
  rw [sum_mix _ ha hb] at f
  refine Fn_G Go.Proofs.Tryz.func366 ok366 ?_
  generalize okA (mixA a b (-1)) = o at f ⊢
  simp [resA] at f
  simp [v366, r366]
  refine callG f ?_
  simp [resA, splice]
theorem times_spec (a : Aff) (n : Int) (ha : AOk a) (hn : -100000 ≤ n ∧ n ≤ 100000) (hl : a.T.length ≤ 100000000) : Says prog 367 [.agg (Cs a.d), .int .i64 n] (resA (okA (mixA noA a n))) [] := by
  rw [← times_mix n ha]
  have fO := affOk_spec (timesA a n) (by
    rw [Aff.tot_eq]
    have h1 : (timesA a n).T.length ≤ a.T.length := by unfold timesA; simp only; split <;> simp
    have := tot6 (timesA a n).T fun t ht => by
      unfold timesA at ht; simp only at ht
      split at ht
      · simp at ht
      · obtain ⟨u, hu, rfl⟩ := List.mem_map.1 ht
        exact nm6 (ha.t.each u hu).1
    omega)
  refine Fn_G Go.Proofs.Tryz.func367 ok367 ?_
  have hC := mulb (coefOk_b ha.c) hn
  obtain ⟨c, hc⟩ : ∃ c, a.C * n = c := ⟨_, rfl⟩
  have hw1 : IntKind.i64.wrap (a.C * n) = c := by rw [hc]; exact wrap64 (by omega) (by omega)
  generalize hR : resA (okA (timesA a n)) = R0
  have fin : ∀ Z, timesA a n = ⟨c, Z⟩ → Says prog 293 [.agg [.int .i64 c, .rsl Z.length (Cs (Z.flatMap Term.d))]] (.bool (affOk ⟨c, Z⟩)) [] ∧ resA (okA ⟨c, Z⟩) = R0 := by
    intro Z hZ
    rw [hZ] at hR fO
    exact ⟨by simpa using fO, hR⟩
  clear hR fO
  by_cases h0 : n = 0
  · obtain ⟨fO, hR⟩ := fin [] (by unfold timesA; rw [if_pos h0, hc])
    simp at fO
    simp [v367, r367, hw1, splice]
    refine G_for (l := l367_0) (b := b367_0) rfl [] (fun i => [(6, .int .i64 0)]) (fun _ => True) 0 trivial (by simp) (fun i hi => absurd hi (Nat.not_lt_zero i)) ?_
    intro _ q hx hr
    by_cases hl0 : 0 < a.T.length
    · simp [hl0, h0]
      refine hx _ _ ?_
      simp
      refine callG fO ?_
      cases hz : affOk ⟨c, []⟩
      · simp [splice, ← hR, okA, hz, resA]
      · simp [splice, ← hR, okA, hz, resA]
    · simp [hl0, h0]
      refine hx _ _ ?_
      simp
      refine callG fO ?_
      cases hz : affOk ⟨c, []⟩
      · simp [splice, ← hR, okA, hz, resA]
      · simp [splice, ← hR, okA, hz, resA]
  · obtain ⟨fO, hR⟩ := fin (a.T.map fun t => ⟨t.Name, t.N * n⟩) (by unfold timesA; rw [if_neg h0, hc])
    simp [v367, r367, hw1, splice]
    refine G_for (l := l367_0) (b := b367_0) rfl [] (fun i => [(5, .bx 0 201 [.int .i64 c, .osl 0 320 i (Ows (((a.T.take i).map fun t => (⟨t.Name, t.N * n⟩ : Term)).flatMap Term.d))]), (6, .int .i64 i)]) (fun _ => True) a.T.length trivial (by simp) ?_ ?_
    · intro i hi _ q hn' hx hr
      obtain ⟨x, hx0⟩ := get_some hi
      have hrow := row_drop Term.d 2 Term.d_len hx0
      have hw := wrap_succ (i := i) (by omega)
      have hbd : i + 1 ≤ bnd := by unfold bnd; omega
      have hm := mulb (coefOk_b (ha.t.each x (List.mem_of_getElem? hx0)).2.2) hn
      obtain ⟨y, hy⟩ : ∃ y, x.N * n = y := ⟨_, rfl⟩
      have hw3 : IntKind.i64.wrap (x.N * n) = y := by rw [hy]; exact wrap64 (by omega) (by omega)
      rw [List.take_add_one, hx0, List.map_append] at hn'
      simp only [Option.toList_some, List.map_cons, List.map_nil, hy] at hn'
      generalize (a.T.take i).map (fun t => (⟨t.Name, t.N * n⟩ : Term)) = A at hn' ⊢
      simp [hi, Cs_drop, hrow, splice, h0, hw3, hw, hbd]
      refine hn' _ ?_ trivial
      simp
    intro _ q hx hr
    rw [List.take_length]
    have hzl : (a.T.map fun t => (⟨t.Name, t.N * n⟩ : Term)).length = a.T.length := by simp
    generalize (a.T.map fun t => (⟨t.Name, t.N * n⟩ : Term)) = Z at fO hR hzl ⊢
    rw [hzl] at fO
    simp
    refine hx _ _ ?_
    simp
    refine callG fO ?_
    cases hz : affOk ⟨c, Z⟩
    · simp [splice, ← hR, okA, hz, resA]
    · simp [splice, ← hR, okA, hz, resA, hzl]
def two (K : Int) (x y : Aff) : Option Aff :=
  if K = 4 then okA (mixA x y 1) else if K = 5 then okA (mixA x y (-1)) else if K = 6 then (if x.T = [] then okA (mixA noA y x.C) else if y.T = [] then okA (mixA noA x y.C) else none) else none
def affE (ns : List Nm) : Exp → Option Aff
  | ⟨K, N, S, []⟩ => if K = 1 then (if coefOk N = true then some ⟨N, []⟩ else none) else if K = 2 then (if S ∈ ns ∧ nameOk S = true then some ⟨0, [⟨S, 1⟩]⟩ else none) else none
  | ⟨K, _, _, [a, b]⟩ => match affE ns a, affE ns b with
    | some x, some y => two K x y
    | _, _ => none
  | _ => none
theorem two_some {K : Int} {x y r : Aff} (h : two K x y = some r) : AOk r ∧ r.T.length ≤ x.T.length + y.T.length := by
  unfold two at h
  have k : ∀ a b k, okA (mixA a b k) = some r → a.T.length + b.T.length ≤ x.T.length + y.T.length → AOk r ∧ r.T.length ≤ x.T.length + y.T.length := by
    intro a b k h hl
    obtain ⟨rfl, h2⟩ := okA_some h
    exact ⟨h2, Nat.le_trans (mixA_len a b k) hl⟩
  split at h
  · exact k _ _ _ h (Nat.le_refl _)
  split at h
  · exact k _ _ _ h (Nat.le_refl _)
  split at h
  · split at h
    · exact k _ _ _ h (by simp [noA])
    split at h
    · exact k _ _ _ h (by simp [noA])
    · cases h
  · cases h
theorem nm1 {n : Nm} (h : nameOk n = true) : 1 ≤ n.length := by
  unfold nameOk at h
  simp only [Bool.and_eq_true, decide_eq_true_eq] at h
  exact h.1.2.1
theorem affE_some (ns : List Nm) : ∀ (e : Exp) (a : Aff), affE ns e = some a → AOk a ∧ a.T.length ≤ e.tot := Exp.ind fun e ih a h => by
  obtain ⟨K, N, S, L⟩ := e
  match L, ih, h with
  | [], _, h =>
    rw [affE] at h
    rw [Exp.tot_eq]
    split at h
    · split at h
      · rename_i h1; cases h; exact ⟨⟨⟨by simp, by simp, by simp⟩, h1⟩, by simp⟩
      · cases h
    · split at h
      · split at h
        · rename_i h1; cases h
          have := nm1 h1.2
          exact ⟨⟨⟨by simp [h1.2, coefOk], by simp, by simp⟩, by simp [coefOk]⟩, by simp; omega⟩
        · cases h
      · cases h
  | [x], _, h => simp [affE] at h
  | [x, y], ih, h =>
    rw [affE] at h
    cases hx : affE ns x with
    | none => simp [hx] at h
    | some p =>
      cases hy : affE ns y with
      | none => simp [hx, hy] at h
      | some q =>
        simp only [hx, hy] at h
        obtain ⟨h1, h2⟩ := two_some h
        have h3 := (ih x (by simp) p hx).2
        have h4 := (ih y (by simp) q hy).2
        rw [Exp.tot_eq]
        simp
        exact ⟨h1, by omega⟩
  | x :: y :: z :: l, _, h => simp [affE] at h
end Go.AmC

/- Part of a proof: see the last text of this folder. -/
set_option linter.unusedSimpArgs false
set_option linter.unusedVariables false
set_option maxRecDepth 20000
set_option maxHeartbeats 4000000
namespace Go.AmC
open Go Go.AM
open Go.Proofs.Tryz (prog)
theorem isTwo_impl (k : Int) : Says prog 369 [.int .i64 k] (.bool (decide (4 ≤ k) && decide (k ≤ 8))) [] := by
  have f := in_impl k 4 8
  refine Fn_G Go.Proofs.Tryz.func369 ok369 ?_
  simp [v369, r369]
  refine callG f ?_
  simp
theorem two_impl (K : Int) (x y : Aff) (hx : AOk x) (hy : AOk y) (hl : x.T.length + y.T.length ≤ 100000000) : Says prog 370 [.int .i64 K, .agg (Cs x.d), .agg (Cs y.d)] (resA (two K x y)) [] := by
  refine Fn_G Go.Proofs.Tryz.func370 ok370 ?_
  have nl : ∀ z : Aff, z.T = [] ↔ (z.T.length : Int) = 0 := fun z => by rw [← List.length_eq_zero_iff]; omega
  by_cases c4 : K = 4
  · have f := mix_impl x y 1 hx hy (by omega) hl
    have e : two K x y = okA (mixA x y 1) := by unfold two; rw [if_pos c4]
    rw [e]
    generalize okA (mixA x y 1) = o at f ⊢
    simp [resA] at f
    simp [v370, r370, c4]
    refine callG f ?_
    simp [resA, splice]
  by_cases c5 : K = 5
  · have f := mix_impl x y (-1) hx hy (by omega) hl
    have e : two K x y = okA (mixA x y (-1)) := by unfold two; rw [if_neg c4, if_pos c5]
    rw [e]
    generalize okA (mixA x y (-1)) = o at f ⊢
    simp [resA] at f
    simp [v370, r370, c5]
    refine callG f ?_
    simp [resA, splice]
  by_cases c6 : K = 6
  · by_cases c7 : x.T = []
    · have f := mix_impl noA y x.C noA_ok hy (coefOk_b hx.c) (by simp [noA]; omega)
      have e : two K x y = okA (mixA noA y x.C) := by unfold two; rw [if_neg c4, if_neg c5, if_pos c6, if_pos c7]
      rw [e]
      generalize okA (mixA noA y x.C) = o at f ⊢
      simp [resA, noA] at f
      simp [v370, r370, c6, c7]
      refine callG f ?_
      simp [resA, splice]
    · have c7' : ¬ (x.T.length : Int) = 0 := fun h => c7 ((nl x).2 h)
      by_cases c8 : y.T = []
      · have f := mix_impl noA x y.C noA_ok hx (coefOk_b hy.c) (by simp [noA]; omega)
        have e : two K x y = okA (mixA noA x y.C) := by unfold two; rw [if_neg c4, if_neg c5, if_pos c6, if_neg c7, if_pos c8]
        rw [e]
        generalize okA (mixA noA x y.C) = o at f ⊢
        simp [resA, noA] at f
        simp [v370, r370, c6, c7, c7', c8]
        refine callG f ?_
        simp [resA, splice]
      · have c8' : ¬ (y.T.length : Int) = 0 := fun h => c8 ((nl y).2 h)
        have e : two K x y = none := by unfold two; rw [if_neg c4, if_neg c5, if_pos c6, if_neg c7, if_neg c8]
        rw [e]
        simp [v370, r370, c6, c7, c7', c8, c8', resA, splice]
  · have e : two K x y = none := by unfold two; rw [if_neg c4, if_neg c5, if_neg c6]
    rw [e]
    simp [v370, r370, c4, c5, c6, resA, splice]
theorem affE_A {ns : List Nm} {K N : Int} {S : Nm} {L : List Exp} (h0 : L ≠ []) (hK : (decide (4 ≤ K) && decide (K ≤ 8)) = false) : affE ns ⟨K, N, S, L⟩ = none := by
  match L, h0 with
  | [x], _ => rw [affE]; all_goals simp
  | [x, y], _ =>
    rw [affE]
    have h : ∀ p q, two K p q = none := fun p q => by
      unfold two
      rw [if_neg (by rintro rfl; simp at hK), if_neg (by rintro rfl; simp at hK), if_neg (by rintro rfl; simp at hK)]
    cases affE ns x with
    | none => rfl
    | some p => cases affE ns y with
      | none => rfl
      | some q => exact h p q
  | x :: y :: z :: l, _ => rw [affE]; all_goals simp
theorem affE_B {ns : List Nm} {K N : Int} {S : Nm} {L : List Exp} (h0 : L ≠ []) (h2 : L.length ≠ 2) : affE ns ⟨K, N, S, L⟩ = none := by
  match L, h0, h2 with
  | [x], _, _ => rw [affE]; all_goals simp
  | [x, y], _, h => simp at h
  | x :: y :: z :: l, _, _ => rw [affE]; all_goals simp
theorem aff_impl (ns : List Nm) (hns : ns.length ≤ 1048576) : ∀ (e : Exp), e.tot ≤ 10000000 → Says prog 336 [.agg (Cs e.d), .rsl ns.length (Cs (ns.flatMap dStr))] (resA (affE ns e)) [] := Exp.ind fun e ih ht => by
  obtain ⟨K, N, S, L⟩ := e
  have htt := Exp.tot_eq ⟨K, N, S, L⟩
  simp only at htt
  have fI := coef_ok_impl N
  have fT := isTwo_impl K
  have fH := has_impl ns S (by omega)
  have fN := nm_impl S (by omega)
  refine Fn_G Go.Proofs.Tryz.func336 ok336 ?_
  by_cases hL : L = []
  · subst hL
    by_cases c1 : K = 1
    · cases c2 : coefOk N
      · rw [c2] at fI
        have e : affE ns ⟨K, N, S, []⟩ = none := by rw [affE, if_pos c1, c2]; simp
        rw [e]
        have fT2 : Says prog 369 [.int .i64 1] (.bool false) [] := by simpa [c1] using fT
        simp [v336, r336, c1]
        refine callG fI ?_
        simp
        refine callG fT2 ?_
        simp [resA, splice]
      · rw [c2] at fI
        have e : affE ns ⟨K, N, S, []⟩ = some ⟨N, []⟩ := by rw [affE, if_pos c1, c2]; simp
        rw [e]
        simp [v336, r336, c1]
        refine callG fI ?_
        simp [resA, splice]
    by_cases c2 : K = 2
    · by_cases c3 : S ∈ ns
      · cases c4 : nameOk S
        · rw [c4] at fN
          have e : affE ns ⟨K, N, S, []⟩ = none := by rw [affE, if_neg c1, if_pos c2, c4]; simp
          rw [e]
          have fT2 : Says prog 369 [.int .i64 2] (.bool false) [] := by simpa [c2] using fT
          simp [c3] at fH
          simp [v336, r336, c2]
          refine callG fH ?_
          simp
          refine callG fN ?_
          simp
          refine callG fT2 ?_
          simp [resA, splice]
        · rw [c4] at fN
          have e : affE ns ⟨K, N, S, []⟩ = some ⟨0, [⟨S, 1⟩]⟩ := by rw [affE, if_neg c1, if_pos c2, c4, if_pos ⟨c3, rfl⟩]
          rw [e]
          simp [c3] at fH
          simp [v336, r336, c2]
          refine callG fH ?_
          simp
          refine callG fN ?_
          simp [resA, splice]
      · have e : affE ns ⟨K, N, S, []⟩ = none := by rw [affE, if_neg c1, if_pos c2]; simp [c3]
        rw [e]
        have fT2 : Says prog 369 [.int .i64 2] (.bool false) [] := by simpa [c2] using fT
        simp [c3] at fH
        simp [v336, r336, c2]
        refine callG fH ?_
        simp
        refine callG fT2 ?_
        simp [resA, splice]
    · have e : affE ns ⟨K, N, S, []⟩ = none := by rw [affE, if_neg c1, if_neg c2]
      rw [e]
      cases hz : (decide (4 ≤ K) && decide (K ≤ 8))
      · rw [hz] at fT
        simp [v336, r336, c1, c2]
        refine callG fT ?_
        simp [resA, splice]
      · rw [hz] at fT
        simp [v336, r336, c1, c2]
        refine callG fT ?_
        simp [resA, splice]
  have hn0 : ¬ (L.length : Int) = 0 := fun h => hL (List.length_eq_zero_iff.1 (by omega))
  cases hz : (decide (4 ≤ K) && decide (K ≤ 8))
  · rw [affE_A hL hz]
    rw [hz] at fT
    by_cases c1 : K = 1
    · subst c1
      cases c2 : coefOk N
      · rw [c2] at fI
        simp [v336, r336]
        refine callG fI ?_
        simp
        refine callG fT ?_
        simp [resA, splice]
      · rw [c2] at fI
        simp [v336, r336, hn0, hL]
        refine callG fI ?_
        simp [hn0, hL]
        refine callG fT ?_
        simp [resA, splice]
    by_cases c2 : K = 2
    · subst c2
      simp [v336, r336, hn0, hL]
      refine callG fT ?_
      simp [resA, splice]
    · simp [v336, r336, c1, c2]
      refine callG fT ?_
      simp [resA, splice]
  rw [hz] at fT
  have c1 : ¬ K = 1 := by rintro rfl; simp at hz
  have c2 : ¬ K = 2 := by rintro rfl; simp at hz
  by_cases h2 : L.length = 2
  · match L, ih, htt, h2 with
    | [x, y], ih, htt, _ =>
    simp only [List.map_cons, List.map_nil, List.sum_cons, List.sum_nil, List.length_cons, List.length_nil] at htt
    have fx := ih x (by simp) (by omega)
    have fy := ih y (by simp) (by omega)
    have e : affE ns ⟨K, N, S, [x, y]⟩ = match affE ns x, affE ns y with
        | some p, some q => two K p q
        | _, _ => none := by rw [affE] <;> rfl
    rw [e]
    simp only at ih
    clear ih
    simp at fx fy
    cases hx : affE ns x with
    | none =>
      rw [hx] at fx
      simp [resA] at fx
      simp [v336, r336, c1, c2]
      refine callG fT ?_
      simp
      refine callG fx ?_
      simp [resA, splice]
    | some p =>
      rw [hx] at fx
      obtain ⟨ap, lp⟩ := affE_some ns x p hx
      simp [resA] at fx
      cases hy : affE ns y with
      | none =>
        rw [hy] at fy
        simp [resA] at fy
        simp [v336, r336, c1, c2]
        refine callG fT ?_
        simp
        refine callG fx ?_
        simp [splice]
        refine callG fy ?_
        simp [resA, splice]
      | some q' =>
        rw [hy] at fy
        obtain ⟨aq, lq⟩ := affE_some ns y q' hy
        simp [resA] at fy
        have f2 := two_impl K p q' ap aq (by omega)
        simp only
        generalize two K p q' = o at f2 ⊢
        simp [resA] at f2
        simp [v336, r336, c1, c2]
        refine callG fT ?_
        simp
        refine callG fx ?_
        simp [splice]
        refine callG fy ?_
        simp [splice]
        refine callG f2 ?_
        simp [resA, splice]
  · rw [affE_B hL h2]
    have h2' : ¬ (L.length : Int) = 2 := by omega
    simp [v336, r336, c1, c2]
    refine callG fT ?_
    simp [h2']
    simp [resA, splice]
end Go.AmC

/- Part of a proof: see the last text of this folder. -/
set_option linter.unusedSimpArgs false
set_option linter.unusedVariables false
set_option maxRecDepth 20000
set_option maxHeartbeats 4000000
namespace Go.AmC
open Go Go.AM
open Go.Proofs.Tryz (prog)
theorem affE_0 {ns : List Nm} {K N : Int} {S : Nm} (h1 : ¬ K = 1) (h2 : ¬ K = 2) : affE ns ⟨K, N, S, []⟩ = none := by rw [affE, if_neg h1, if_neg h2]
theorem aff_spec (ns : List Nm) (hns : ns.length ≤ 1048576) : ∀ (e : Exp), e.tot ≤ 10000000 → Says prog 330 [.agg (Cs e.d), .rsl ns.length (Cs (ns.flatMap dStr))] (resA (affE ns e)) [] := Exp.ind fun e ih ht => by
  obtain ⟨K, N, S, L⟩ := e
  have htt := Exp.tot_eq ⟨K, N, S, L⟩
  simp only at htt
  have fH := has_spec ns S (by omega)
  refine Fn_G Go.Proofs.Tryz.func330 ok330 ?_
  by_cases hL : L = []
  · subst hL
    by_cases c1 : K = 1
    · have fA := affOk_spec ⟨N, []⟩ (by rw [Aff.tot_eq]; simp)
      have hz : affOk ⟨N, []⟩ = coefOk N := by simp [affOk, okT]
      rw [hz] at fA
      simp at fA
      cases c2 : coefOk N
      · rw [c2] at fA
        have e : affE ns ⟨K, N, S, []⟩ = none := by rw [affE, if_pos c1, c2]; simp
        rw [e]
        simp [v330, r330, c1, splice]
        refine callG fA ?_
        simp [resA, splice]
      · rw [c2] at fA
        have e : affE ns ⟨K, N, S, []⟩ = some ⟨N, []⟩ := by rw [affE, if_pos c1, c2]; simp
        rw [e]
        simp [v330, r330, c1, splice]
        refine callG fA ?_
        simp [resA, splice]
    by_cases c2 : K = 2
    · by_cases c3 : S ∈ ns
      · have fA := affOk_spec ⟨0, [⟨S, 1⟩]⟩ (by rw [Aff.tot_eq]; simp [Term.tot_eq]; omega)
        have hz : affOk ⟨0, [⟨S, 1⟩]⟩ = nameOk S := by
          have h1 : coefOk 1 = true := by decide
          have h0 : coefOk 0 = true := by decide
          simp [affOk, okT_cons, okT, ltO, h1, h0]
        rw [hz] at fA
        simp at fA
        simp [c3] at fH
        cases c4 : nameOk S
        · rw [c4] at fA
          have e : affE ns ⟨K, N, S, []⟩ = none := by rw [affE, if_neg c1, if_pos c2, c4]; simp
          rw [e]
          simp [v330, r330, c2, splice]
          refine callG fH ?_
          simp
          refine callG fA ?_
          simp [resA, splice]
        · rw [c4] at fA
          have e : affE ns ⟨K, N, S, []⟩ = some ⟨0, [⟨S, 1⟩]⟩ := by rw [affE, if_neg c1, if_pos c2, c4, if_pos ⟨c3, rfl⟩]
          rw [e]
          simp [v330, r330, c2, splice]
          refine callG fH ?_
          simp
          refine callG fA ?_
          simp [resA, splice]
      · have e : affE ns ⟨K, N, S, []⟩ = none := by rw [affE, if_neg c1, if_pos c2]; simp [c3]
        rw [e]
        simp [c3] at fH
        simp [v330, r330, c2, splice]
        refine callG fH ?_
        simp [resA, splice]
    · rw [affE_0 c1 c2]
      simp [v330, r330, c1, c2, resA, splice]
  have hn0 : ¬ (L.length : Int) = 0 := fun h => hL (List.length_eq_zero_iff.1 (by omega))
  have g1 : ∀ b : Bool, (b && decide (L.length = 0)) = false := by
    intro b
    have : ¬ L.length = 0 := by omega
    simp [this]
  by_cases h2 : L.length = 2
  · match L, ih, htt, h2 with
    | [x, y], ih, htt, _ =>
    simp only [List.map_cons, List.map_nil, List.sum_cons, List.sum_nil, List.length_cons, List.length_nil] at htt
    have fx := ih x (by simp) (by omega)
    have fy := ih y (by simp) (by omega)
    have e : affE ns ⟨K, N, S, [x, y]⟩ = match affE ns x, affE ns y with
        | some p, some q => two K p q
        | _, _ => none := by rw [affE] <;> rfl
    rw [e]
    simp only at ih
    clear ih
    simp at fx fy
    cases hx : affE ns x with
    | none =>
      rw [hx] at fx
      simp [resA] at fx
      cases hy : affE ns y with
      | none =>
        rw [hy] at fy
        simp [resA] at fy
        by_cases c1 : K = 1 <;> by_cases c2 : K = 2 <;> (try (exfalso; omega)) <;> simp [v330, r330, c1, c2, splice] <;> refine callG fx ?_ <;> simp [splice] <;> refine callG fy ?_ <;> simp [resA, splice]
      | some q' =>
        rw [hy] at fy
        simp [resA] at fy
        by_cases c1 : K = 1 <;> by_cases c2 : K = 2 <;> (try (exfalso; omega)) <;> simp [v330, r330, c1, c2, splice] <;> refine callG fx ?_ <;> simp [splice] <;> refine callG fy ?_ <;> simp [resA, splice]
    | some p =>
      rw [hx] at fx
      obtain ⟨ap, lp⟩ := affE_some ns x p hx
      simp [resA] at fx
      cases hy : affE ns y with
      | none =>
        rw [hy] at fy
        simp [resA] at fy
        by_cases c1 : K = 1 <;> by_cases c2 : K = 2 <;> (try (exfalso; omega)) <;> simp [v330, r330, c1, c2, splice] <;> refine callG fx ?_ <;> simp [splice] <;> refine callG fy ?_ <;> simp [resA, splice]
      | some q' =>
        rw [hy] at fy
        obtain ⟨aq, lq⟩ := affE_some ns y q' hy
        simp [resA] at fy
        simp only
        have nl : ∀ z : Aff, z.T = [] ↔ (z.T.length : Int) = 0 := fun z => by rw [← List.length_eq_zero_iff]; omega
        by_cases c4 : K = 4
        · have f := add_spec p q' ap aq (by omega)
          have e : two K p q' = okA (mixA p q' 1) := by unfold two; rw [if_pos c4]
          rw [e]
          generalize okA (mixA p q' 1) = o at f ⊢
          simp [resA] at f
          simp [v330, r330, c4, splice]
          refine callG fx ?_
          simp [splice]
          refine callG fy ?_
          simp [splice]
          refine callG f ?_
          simp [resA, splice]
        by_cases c5 : K = 5
        · have f := sub_spec p q' ap aq (by omega)
          have e : two K p q' = okA (mixA p q' (-1)) := by unfold two; rw [if_neg c4, if_pos c5]
          rw [e]
          generalize okA (mixA p q' (-1)) = o at f ⊢
          simp [resA] at f
          simp [v330, r330, c5, splice]
          refine callG fx ?_
          simp [splice]
          refine callG fy ?_
          simp [splice]
          refine callG f ?_
          simp [resA, splice]
        by_cases c6 : K = 6
        · by_cases c8 : q'.T = []
          · have f := times_spec p q'.C ap (coefOk_b aq.c) (by omega)
            have e : two K p q' = okA (mixA noA p q'.C) := by
              unfold two; rw [if_neg c4, if_neg c5, if_pos c6]
              split
              · rename_i c7
                rw [← times_mix _ ap, ← times_mix _ aq]
                unfold timesA
                rw [c7, c8, Int.mul_comm]; simp
              · rfl
            rw [e]
            generalize okA (mixA noA p q'.C) = o at f ⊢
            simp [resA] at f
            simp [v330, r330, c6, c8, splice]
            refine callG fx ?_
            simp [splice]
            refine callG fy ?_
            simp [splice, c8]
            refine callG f ?_
            simp [resA, splice]
          · have c8' : ¬ (q'.T.length : Int) = 0 := fun h => c8 ((nl q').2 h)
            by_cases c7 : p.T = []
            · have f := times_spec q' p.C aq (coefOk_b ap.c) (by omega)
              have e : two K p q' = okA (mixA noA q' p.C) := by unfold two; rw [if_neg c4, if_neg c5, if_pos c6, if_pos c7]
              rw [e]
              generalize okA (mixA noA q' p.C) = o at f ⊢
              simp [resA] at f
              simp [v330, r330, c6, c7, c8, c8', splice]
              refine callG fx ?_
              simp [splice]
              refine callG fy ?_
              simp [splice, c7, c8, c8']
              refine callG f ?_
              simp [resA, splice]
            · have c7' : ¬ (p.T.length : Int) = 0 := fun h => c7 ((nl p).2 h)
              have e : two K p q' = none := by unfold two; rw [if_neg c4, if_neg c5, if_pos c6, if_neg c7, if_neg c8]
              rw [e]
              simp [v330, r330, c6, c7, c7', c8, c8', splice]
              refine callG fx ?_
              simp [splice]
              refine callG fy ?_
              simp [splice, c7, c8, c7', c8', resA]
        · have e : two K p q' = none := by unfold two; rw [if_neg c4, if_neg c5, if_neg c6]
          rw [e]
          by_cases c1 : K = 1 <;> by_cases c2 : K = 2 <;> (try (exfalso; omega)) <;> simp [v330, r330, c1, c2, c4, c5, c6, splice] <;> refine callG fx ?_ <;> simp [splice] <;> refine callG fy ?_ <;> simp [c4, c5, c6, resA, splice]
  · rw [affE_B hL h2]
    have h2' : ¬ (L.length : Int) = 2 := by omega
    by_cases c1 : K = 1
    · simp [v330, r330, c1, hL, hn0, h2, h2', resA, splice]
    by_cases c2 : K = 2
    · simp [v330, r330, c2, hL, hn0, h2, h2', resA, splice]
    simp [v330, r330, c1, c2, hL, hn0, h2, h2', resA, splice]
end Go.AmC

