/- Part of a proof: see the last text of this folder. -/
import Derived.Test.YtbpejcnejeihbaaSplitSum
set_option linter.unusedSimpArgs false
set_option linter.unusedVariables false
set_option maxRecDepth 20000
set_option maxHeartbeats 4000000
namespace Go.AmC
open Go Go.AM
open Go.Proofs.Try (prog)

theorem puts_mem : ∀ (ts : List Term) (l : List Nm), Sd l → Sd (puts l ts) ∧ ∀ n, n ∈ puts l ts ↔ n ∈ l ∨ ∃ t ∈ ts, t.Name = n
  | [], l, h => by simp [puts, h]
  | t :: ts, l, h => by
    obtain ⟨h1, h2⟩ := puts_mem ts (put l t.Name) (put_sd h _)
    refine ⟨h1, fun n => ?_⟩
    show n ∈ puts (put l t.Name) ts ↔ _
    rw [h2, mem_put h]
    constructor
    · rintro ((rfl | h) | ⟨u, hu, h⟩)
      · exact .inr ⟨t, by simp, rfl⟩
      · exact .inl h
      · exact .inr ⟨u, by simp [hu], h⟩
    · rintro (h | ⟨u, hu, h⟩)
      · exact .inl (.inr h)
      · rcases List.mem_cons.1 hu with rfl | hu
        · exact .inl (.inl h.symm)
        · exact .inr ⟨u, hu, h⟩
theorem names_mem (a b : Aff) : Sd (namesA a b) ∧ ∀ n, n ∈ namesA a b ↔ (∃ t ∈ a.T, t.Name = n) ∨ ∃ t ∈ b.T, t.Name = n := by
  obtain ⟨h1, h2⟩ := puts_mem a.T [] (by simp)
  obtain ⟨h3, h4⟩ := puts_mem b.T _ h1
  refine ⟨h3, fun n => ?_⟩
  show n ∈ puts (puts [] a.T) b.T ↔ _
  rw [h4, h2]; simp
theorem names_6 {a b : Aff} (ha : AOk a) (hb : AOk b) : ∀ n ∈ namesA a b, n.length ≤ 6 := by
  intro n hn
  rcases ((names_mem a b).2 n).1 hn with ⟨t, ht, rfl⟩ | ⟨t, ht, rfl⟩
  · exact nm6 (ha.t.each t ht).1
  · exact nm6 (hb.t.each t ht).1

/-- Terms in order that hold the same are one. -/
theorem terms_ext {xs ys : List Term} (h1 : xs.Pairwise fun x y => x.Name < y.Name) (h2 : ys.Pairwise fun x y => x.Name < y.Name) (h : ∀ x, x ∈ xs ↔ x ∈ ys) : xs = ys :=
  ord_ext (fun x => List.lt_irrefl x.Name) (fun x y h h' => List.lt_irrefl x.Name (List.lt_trans h h')) h1 h2 h
/-- A sort of terms of which no two have one name. -/
theorem sortT_sd {ts : List Term} (h : ts.Pairwise fun x y => x.Name ≠ y.Name) : (sortT ts).Pairwise fun x y => x.Name < y.Name := by
  obtain ⟨hp, hs⟩ := sortT_facts ts
  have hn : (sortT ts).Pairwise fun x y => x.Name ≠ y.Name := (hp.symm.pairwise_iff (fun h => Ne.symm h)).1 h
  refine (hs.and hn).imp ?_
  rintro x y ⟨h1, h2⟩
  rcases List.le_total x.Name y.Name with h | h
  · exact List.not_le.1 fun h' => h2 (List.le_antisymm h h')
  · exact absurd (List.le_antisymm h (List.not_lt.1 h1)) (Ne.symm h2)
theorem m1_iff {b : Aff} {k : Int} {x y : Term} : m1 b k x = some y ↔ y.Name = x.Name ∧ y.N = x.N + k * coef b.T x.Name ∧ y.N ≠ 0 := by
  unfold m1
  constructor
  · intro h
    split at h
    · cases h
    · rename_i h0; cases h; exact ⟨rfl, rfl, h0⟩
  · rintro ⟨h1, h2, h3⟩
    rw [if_neg (by rw [← h2]; exact h3)]
    cases y; simp_all
theorem m2_iff {a : Aff} {k : Int} {x y : Term} : m2 a k x = some y ↔ y.Name = x.Name ∧ y.N = k * x.N ∧ y.N ≠ 0 ∧ coef a.T x.Name = 0 := by
  unfold m2
  constructor
  · intro h
    split at h
    · cases h
    · rename_i h0
      split at h
      · rename_i h1; cases h; exact ⟨rfl, rfl, h0, h1⟩
      · cases h
  · rintro ⟨h1, h2, h3, h4⟩
    rw [if_neg (by rw [← h2]; exact h3), if_pos h4]
    cases y; simp_all
theorem s1_iff {a b : Aff} {k : Int} {n : Nm} {y : Term} : s1 a b k n = some y ↔ y.Name = n ∧ y.N = coef a.T n + k * coef b.T n ∧ y.N ≠ 0 := by
  unfold s1
  constructor
  · intro h
    split at h
    · cases h
    · rename_i h0; cases h; exact ⟨rfl, rfl, h0⟩
  · rintro ⟨h1, h2, h3⟩
    rw [if_neg (by rw [← h2]; exact h3)]
    cases y; simp_all
theorem pw_fm {α : Type} {f : α → Option Term} {R : α → α → Prop} {S : Term → Term → Prop} {xs : List α} (h : xs.Pairwise R) (hf : ∀ x y u v, R x y → f x = some u → f y = some v → S u v) : (xs.filterMap f).Pairwise S := by
  rw [List.pairwise_filterMap]
  exact h.imp fun hr u hu v hv => hf _ _ _ _ hr hu hv
/-- What is in the sum: what both are together, where that is not 0. -/
theorem mem_mixT {a b : Aff} {k : Int} (ha : AOk a) (hb : AOk b) (y : Term) : y ∈ mixT a b k ↔ y.N = coef a.T y.Name + k * coef b.T y.Name ∧ y.N ≠ 0 := by
  rw [mixT, (sortT_facts _).1.mem_iff, List.mem_append, List.mem_filterMap, List.mem_filterMap]
  constructor
  · rintro (⟨x, hx, h⟩ | ⟨x, hx, h⟩)
    · obtain ⟨h1, h2, h3⟩ := m1_iff.1 h
      rw [h1, coef_mem ha.t hx]; exact ⟨h2, h3⟩
    · obtain ⟨h1, h2, h3, h4⟩ := m2_iff.1 h
      rw [h1, h4, coef_mem hb.t hx]; exact ⟨by omega, h3⟩
  · rintro ⟨h1, h2⟩
    by_cases h0 : coef a.T y.Name = 0
    · right
      have hb0 : coef b.T y.Name ≠ 0 := fun e => h2 (by rw [h1, h0, e]; simp)
      have : ∃ t ∈ b.T, t.Name = y.Name := by
        refine Classical.byContradiction fun hc => hb0 ?_
        exact coef_none fun t ht e => hc ⟨t, ht, e⟩
      obtain ⟨t, ht, e⟩ := this
      exact ⟨t, ht, m2_iff.2 ⟨e.symm, by rw [h1, h0, ← e, coef_mem hb.t ht]; simp, h2, by rw [e]; exact h0⟩⟩
    · left
      have : ∃ t ∈ a.T, t.Name = y.Name := by
        refine Classical.byContradiction fun hc => h0 ?_
        exact coef_none fun t ht e => hc ⟨t, ht, e⟩
      obtain ⟨t, ht, e⟩ := this
      exact ⟨t, ht, m1_iff.2 ⟨e.symm, by rw [h1, ← e, coef_mem ha.t ht], h2⟩⟩
theorem mixT_sd {a b : Aff} {k : Int} (ha : AOk a) (hb : AOk b) : (mixT a b k).Pairwise fun x y => x.Name < y.Name := by
  refine sortT_sd ?_
  have ne : ∀ {x y : Nm}, x < y → x ≠ y := fun h e => List.lt_irrefl _ (e ▸ h)
  rw [List.pairwise_append]
  refine ⟨pw_fm ha.t.ord fun x y u v hr hu hv => ?_, pw_fm hb.t.ord fun x y u v hr hu hv => ?_, fun u hu v hv => ?_⟩
  · rw [m1_name hu, m1_name hv]; exact ne hr
  · rw [m2_name hu, m2_name hv]; exact ne hr
  · obtain ⟨x, hx, h⟩ := List.mem_filterMap.1 hu
    obtain ⟨z, hz, h'⟩ := List.mem_filterMap.1 hv
    intro e
    obtain ⟨h1, _⟩ := m1_iff.1 h
    obtain ⟨h2, _, _, h4⟩ := m2_iff.1 h'
    exact (coef_zero ha.t).1 h4 x hx (by rw [← h1, e, h2])
theorem sum_mix {a b : Aff} (k : Int) (ha : AOk a) (hb : AOk b) : sumA a b k = mixA a b k := by
  unfold sumA mixA
  congr 1
  refine terms_ext (pw_fm (names_mem a b).1 fun x y u v hr hu hv => ?_) (mixT_sd ha hb) fun y => ?_
  · rw [(s1_iff.1 hu).1, (s1_iff.1 hv).1]; exact hr
  · rw [mem_mixT ha hb, List.mem_filterMap]
    constructor
    · rintro ⟨n, hn, h⟩
      obtain ⟨h1, h2, h3⟩ := s1_iff.1 h
      rw [h1]; exact ⟨h2, h3⟩
    · rintro ⟨h1, h2⟩
      refine ⟨y.Name, ?_, s1_iff.2 ⟨rfl, h1, h2⟩⟩
      rw [(names_mem a b).2]
      refine Classical.byContradiction fun hc => ?_
      simp only [not_or] at hc
      have e1 : coef a.T y.Name = 0 := coef_none fun t ht e => hc.1 ⟨t, ht, e⟩
      have e2 : coef b.T y.Name = 0 := coef_none fun t ht e => hc.2 ⟨t, ht, e⟩
      exact h2 (by rw [h1, e1, e2]; simp)
def timesA (a : Aff) (n : Int) : Aff := ⟨a.C * n, if n = 0 then [] else a.T.map fun t => ⟨t.Name, t.N * n⟩⟩
def noA : Aff := ⟨0, []⟩
theorem noA_ok : AOk noA := ⟨⟨by simp [noA], by simp [noA], by simp⟩, by decide⟩
theorem times_mix {b : Aff} (k : Int) (hb : AOk b) : timesA b k = mixA noA b k := by
  unfold timesA mixA
  have e0 : noA.C + k * b.C = b.C * k := by simp [noA, Int.mul_comm]
  rw [e0]
  congr 1
  refine terms_ext ?_ (mixT_sd noA_ok hb) fun y => ?_
  · split
    · exact List.Pairwise.nil
    · rw [List.pairwise_map]; exact hb.t.ord
  · rw [mem_mixT noA_ok hb]
    have e1 : coef noA.T y.Name = 0 := rfl
    rw [e1]
    split
    · rename_i h; subst h; simp
    · rename_i h
      rw [List.mem_map]
      constructor
      · rintro ⟨t, ht, rfl⟩
        refine ⟨by simp only; rw [coef_mem hb.t ht, Int.mul_comm]; simp, ?_⟩
        simp only
        exact Int.mul_ne_zero (hb.t.each t ht).2.1 h
      · rintro ⟨h1, h2⟩
        have hb0 : coef b.T y.Name ≠ 0 := fun e => h2 (by rw [h1, e]; simp)
        have : ∃ t ∈ b.T, t.Name = y.Name := by
          refine Classical.byContradiction fun hc => hb0 ?_
          exact coef_none fun t ht e => hc ⟨t, ht, e⟩
        obtain ⟨t, ht, e⟩ := this
        refine ⟨t, ht, ?_⟩
        cases y with
        | mk nm n =>
          simp only at e h1
          rw [← e, coef_mem hb.t ht] at h1
          rw [e, h1, Int.mul_comm]; simp
theorem mixA_len (a b : Aff) (k : Int) : (mixA a b k).T.length ≤ a.T.length + b.T.length := by
  show (sortT _).length ≤ _
  rw [sortT_len, List.length_append]
  have h1 := List.length_filterMap_le (m1 b k) a.T
  have h2 := List.length_filterMap_le (m2 a k) b.T
  omega
theorem okA_some {a x : Aff} (h : okA a = some x) : x = a ∧ AOk x := by
  unfold okA at h
  split at h
  · rename_i h0; cases h; exact ⟨rfl, (affOk_iff _).1 h0⟩
  · cases h
end Go.AmC
