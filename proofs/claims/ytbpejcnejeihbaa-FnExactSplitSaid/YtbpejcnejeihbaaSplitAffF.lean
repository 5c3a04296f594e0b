/- Part of a proof: see the last text of this folder. -/
import Derived.Test.YtbpejcnejeihbaaSplitAffO
set_option linter.unusedSimpArgs false
set_option linter.unusedVariables false
set_option maxRecDepth 20000
set_option maxHeartbeats 4000000
namespace Go.AmC
open Go Go.AM
open Go.Proofs.Try (prog)

theorem add_spec (a b : Aff) (ha : AOk a) (hb : AOk b) (hl : a.T.length + b.T.length ≤ 100000000) : Says prog 97 [.agg (Cs a.d), .agg (Cs b.d)] (resA (okA (mixA a b 1))) [] := by
  have f := sum_spec a b 1 ha hb (by omega) hl (names_6 ha hb)
  rw [sum_mix _ ha hb] at f
  refine Fn_G Go.Proofs.Try.func97 ok97 ?_
  generalize okA (mixA a b 1) = o at f ⊢
  simp [resA] at f
  simp [v97, r97]
  refine callG f ?_
  simp [resA, splice]
theorem sub_spec (a b : Aff) (ha : AOk a) (hb : AOk b) (hl : a.T.length + b.T.length ≤ 100000000) : Says prog 98 [.agg (Cs a.d), .agg (Cs b.d)] (resA (okA (mixA a b (-1)))) [] := by
  have f := sum_spec a b (-1) ha hb (by omega) hl (names_6 ha hb)
  rw [sum_mix _ ha hb] at f
  refine Fn_G Go.Proofs.Try.func98 ok98 ?_
  generalize okA (mixA a b (-1)) = o at f ⊢
  simp [resA] at f
  simp [v98, r98]
  refine callG f ?_
  simp [resA, splice]
theorem times_spec (a : Aff) (n : Int) (ha : AOk a) (hn : -100000 ≤ n ∧ n ≤ 100000) (hl : a.T.length ≤ 100000000) : Says prog 99 [.agg (Cs a.d), .int .i64 n] (resA (okA (mixA noA a n))) [] := by
  rw [← times_mix n ha]
  have fO := affOk_spec (timesA a n) (by
    rw [Aff.tot_eq]
    have h1 : (timesA a n).T.length ≤ a.T.length := by unfold timesA; simp only; split <;> simp
    have := tot6 (timesA a n).T fun t ht => by
      unfold timesA at ht; simp only at ht
      split at ht
      · simp at ht
      · obtain ⟨u, hu, rfl⟩ := List.mem_map.1 ht
        exact nm6 (ha.t.each u hu).1
    omega)
  refine Fn_G Go.Proofs.Try.func99 ok99 ?_
  have hC := mulb (coefOk_b ha.c) hn
  obtain ⟨c, hc⟩ : ∃ c, a.C * n = c := ⟨_, rfl⟩
  have hw1 : IntKind.i64.wrap (a.C * n) = c := by rw [hc]; exact wrap64 (by omega) (by omega)
  generalize hR : resA (okA (timesA a n)) = R0
  have fin : ∀ Z, timesA a n = ⟨c, Z⟩ → Says prog 95 [.agg [.int .i64 c, .rsl Z.length (Cs (Z.flatMap Term.d))]] (.bool (affOk ⟨c, Z⟩)) [] ∧ resA (okA ⟨c, Z⟩) = R0 := by
    intro Z hZ
    rw [hZ] at hR fO
    exact ⟨by simpa using fO, hR⟩
  clear hR fO
  by_cases h0 : n = 0
  · obtain ⟨fO, hR⟩ := fin [] (by unfold timesA; rw [if_pos h0, hc])
    simp at fO
    simp [v99, r99, hw1, splice]
    refine G_for (l := l99_0) (b := b99_0) rfl [] (fun i => [(6, .int .i64 0)]) (fun _ => True) 0 trivial (by simp) (fun i hi => absurd hi (Nat.not_lt_zero i)) ?_
    intro _ q hx hr
    by_cases hl0 : 0 < a.T.length
    · simp [hl0, h0]
      refine hx _ _ ?_
      simp
      refine callG fO ?_
      cases hz : affOk ⟨c, []⟩
      · simp [splice, ← hR, okA, hz, resA]
      · simp [splice, ← hR, okA, hz, resA]
    · simp [hl0, h0]
      refine hx _ _ ?_
      simp
      refine callG fO ?_
      cases hz : affOk ⟨c, []⟩
      · simp [splice, ← hR, okA, hz, resA]
      · simp [splice, ← hR, okA, hz, resA]
  · obtain ⟨fO, hR⟩ := fin (a.T.map fun t => ⟨t.Name, t.N * n⟩) (by unfold timesA; rw [if_neg h0, hc])
    simp [v99, r99, hw1, splice]
    refine G_for (l := l99_0) (b := b99_0) rfl [] (fun i => [(5, .bx 0 103 [.int .i64 c, .osl 0 111 i (Ows (((a.T.take i).map fun t => (⟨t.Name, t.N * n⟩ : Term)).flatMap Term.d))]), (6, .int .i64 i)]) (fun _ => True) a.T.length trivial (by simp) ?_ ?_
    · intro i hi _ q hn' hx hr
      obtain ⟨x, hx0⟩ := get_some hi
      have hrow := row_drop Term.d 2 Term.d_len hx0
      have hw := wrap_succ (i := i) (by omega)
      have hbd : i + 1 ≤ bnd := by unfold bnd; omega
      have hm := mulb (coefOk_b (ha.t.each x (List.mem_of_getElem? hx0)).2.2) hn
      obtain ⟨y, hy⟩ : ∃ y, x.N * n = y := ⟨_, rfl⟩
      have hw3 : IntKind.i64.wrap (x.N * n) = y := by rw [hy]; exact wrap64 (by omega) (by omega)
      rw [List.take_add_one, hx0, List.map_append] at hn'
      simp only [Option.toList_some, List.map_cons, List.map_nil, hy] at hn'
      generalize (a.T.take i).map (fun t => (⟨t.Name, t.N * n⟩ : Term)) = A at hn' ⊢
      simp [hi, Cs_drop, hrow, splice, h0, hw3, hw, hbd]
      refine hn' _ ?_ trivial
      simp
    intro _ q hx hr
    rw [List.take_length]
    have hzl : (a.T.map fun t => (⟨t.Name, t.N * n⟩ : Term)).length = a.T.length := by simp
    generalize (a.T.map fun t => (⟨t.Name, t.N * n⟩ : Term)) = Z at fO hR hzl ⊢
    rw [hzl] at fO
    simp
    refine hx _ _ ?_
    simp
    refine callG fO ?_
    cases hz : affOk ⟨c, Z⟩
    · simp [splice, ← hR, okA, hz, resA]
    · simp [splice, ← hR, okA, hz, resA, hzl]

/-! ### An expression as a straight sum -/
def two (K : Int) (x y : Aff) : Option Aff :=
  if K = 4 then okA (mixA x y 1) else if K = 5 then okA (mixA x y (-1)) else if K = 6 then (if x.T = [] then okA (mixA noA y x.C) else if y.T = [] then okA (mixA noA x y.C) else none) else none
def affE (ns : List Nm) : Exp → Option Aff
  | ⟨K, N, S, []⟩ => if K = 1 then (if coefOk N = true then some ⟨N, []⟩ else none) else if K = 2 then (if S ∈ ns ∧ nameOk S = true then some ⟨0, [⟨S, 1⟩]⟩ else none) else none
  | ⟨K, _, _, [a, b]⟩ => match affE ns a, affE ns b with
    | some x, some y => two K x y
    | _, _ => none
  | _ => none
theorem two_some {K : Int} {x y r : Aff} (h : two K x y = some r) : AOk r ∧ r.T.length ≤ x.T.length + y.T.length := by
  unfold two at h
  have k : ∀ a b k, okA (mixA a b k) = some r → a.T.length + b.T.length ≤ x.T.length + y.T.length → AOk r ∧ r.T.length ≤ x.T.length + y.T.length := by
    intro a b k h hl
    obtain ⟨rfl, h2⟩ := okA_some h
    exact ⟨h2, Nat.le_trans (mixA_len a b k) hl⟩
  split at h
  · exact k _ _ _ h (Nat.le_refl _)
  split at h
  · exact k _ _ _ h (Nat.le_refl _)
  split at h
  · split at h
    · exact k _ _ _ h (by simp [noA])
    split at h
    · exact k _ _ _ h (by simp [noA])
    · cases h
  · cases h
theorem nm1 {n : Nm} (h : nameOk n = true) : 1 ≤ n.length := by
  unfold nameOk at h
  simp only [Bool.and_eq_true, decide_eq_true_eq] at h
  exact h.1.2.1
theorem affE_some (ns : List Nm) : ∀ (e : Exp) (a : Aff), affE ns e = some a → AOk a ∧ a.T.length ≤ e.tot := Exp.ind fun e ih a h => by
  obtain ⟨K, N, S, L⟩ := e
  match L, ih, h with
  | [], _, h =>
    rw [affE] at h
    rw [Exp.tot_eq]
    split at h
    · split at h
      · rename_i h1; cases h; exact ⟨⟨⟨by simp, by simp, by simp⟩, h1⟩, by simp⟩
      · cases h
    · split at h
      · split at h
        · rename_i h1; cases h
          have := nm1 h1.2
          exact ⟨⟨⟨by simp [h1.2, coefOk], by simp, by simp⟩, by simp [coefOk]⟩, by simp; omega⟩
        · cases h
      · cases h
  | [x], _, h => simp [affE] at h
  | [x, y], ih, h =>
    rw [affE] at h
    cases hx : affE ns x with
    | none => simp [hx] at h
    | some p =>
      cases hy : affE ns y with
      | none => simp [hx, hy] at h
      | some q =>
        simp only [hx, hy] at h
        obtain ⟨h1, h2⟩ := two_some h
        have h3 := (ih x (by simp) p hx).2
        have h4 := (ih y (by simp) q hy).2
        rw [Exp.tot_eq]
        simp
        exact ⟨h1, by omega⟩
  | x :: y :: z :: l, _, h => simp [affE] at h
end Go.AmC
