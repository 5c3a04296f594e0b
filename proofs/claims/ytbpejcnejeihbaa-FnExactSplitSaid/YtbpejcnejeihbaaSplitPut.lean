/- Part of a proof: see the last text of this folder. -/
import Derived.Test.YtbpejcnejeihbaaSplitNm
import Derived.Sort.Walk0
set_option linter.unusedSimpArgs false
set_option linter.unusedVariables false
set_option maxRecDepth 20000
set_option maxHeartbeats 4000000
namespace Go.AmC
open Go Go.AM
open Go.Proofs (bytesLess_eq)
open Go.Proofs.Try (prog)

/-! ### Names in order -/
abbrev Nm := List UInt8
def putGo (s : Nm) : Bool → List Nm → List Nm
  | d, [] => if d then [] else [s]
  | d, x :: xs => (if !d && !decide (x < s) then [s] else []) ++ ((if x = s then [] else [x]) ++ putGo s (d || !decide (x < s)) xs)
def put (l : List Nm) (s : Nm) : List Nm := putGo s false l
theorem putGo_len (s : Nm) : ∀ (xs : List Nm) (d : Bool), (putGo s d xs).length ≤ xs.length + (if d then 0 else 1)
  | [], d => by cases d <;> simp [putGo]
  | x :: xs, d => by
    have h := putGo_len s xs (d || !decide (x < s))
    cases d <;> by_cases h1 : x < s <;> by_cases h2 : x = s <;> simp [putGo, h1, h2] at h ⊢ <;> omega
theorem put_len (l : List Nm) (s : Nm) : (put l s).length ≤ l.length + 1 := by simpa [put] using putGo_len s l false
theorem put_spec (l : List Nm) (s : Nm) (hl : l.length ≤ 4000000000) : Says prog 120 [.rsl l.length (Cs (l.flatMap dStr)), .str s] (.osl 0 9 (put l s).length (Ows ((put l s).flatMap dStr))) [] := by
  refine Fn_G Go.Proofs.Try.func120 ok120 ?_
  have hRl := put_len l s
  generalize hR : put l s = R at hRl ⊢
  simp [v120, r120]
  refine G_whl (α := Nat × Bool × List Nm) (l := l120_0) (b := b120_0) rfl [] (fun a => [(3, .osl 0 9 a.2.2.length (Ows (a.2.2.flatMap dStr))), (4, .bool a.2.1), (5, .int .i64 a.1)]) (fun a => l.length - a.1)
    (fun a => a.1 ≤ l.length ∧ a.2.2 ++ putGo s a.2.1 (l.drop a.1) = R) (0, false, []) ⟨by simp, by simpa [put] using hR⟩ (by simp) ?_
  rintro ⟨i, d, o⟩ ⟨hi, hI⟩ q hn hx hr
  simp only at hi hI
  have hol : o.length ≤ l.length + 1 := by have := congrArg List.length hI; simp at this; omega
  have hb1 : o.length + 1 ≤ bnd := by unfold bnd; omega
  have hb2 : o.length + 1 + 1 ≤ bnd := by unfold bnd; omega
  by_cases hil : i < l.length
  · obtain ⟨x, hx0⟩ := get_some hil
    have hrow := row_drop dStr 1 (fun _ => by simp) hx0
    rw [Nat.mul_one] at hrow
    have hw := wrap_succ (i := i) (by omega)
    rw [drop_cons hx0, putGo] at hI
    have hnx : ∀ d' o', o' ++ putGo s d' (l.drop (i + 1)) = R → ∀ e', e' = updE _ _ → q .normal e' := fun d' o' h e' he => hn e' (i + 1, d', o') he ⟨by omega, h⟩ (by simp only; omega)
    by_cases h2 : x = s
    · subst h2
      have h1 : ¬ x < x := List.lt_irrefl x
      cases d
      · simp [h1] at hI
        simp [hil, Cs_drop, hrow, hw, bytesLess_eq, h1, hb1]
        exact hnx true (o ++ [x]) (by simpa using hI) _ (by simp)
      · simp [h1] at hI
        simp [hil, Cs_drop, hrow, hw, bytesLess_eq, h1, hb1]
        exact hnx true o (by simpa using hI) _ (by simp)
    · by_cases h1 : x < s
      · cases d
        · simp [h1, h2] at hI
          simp [hil, Cs_drop, hrow, hw, bytesLess_eq, h1, h2, hb1]
          exact hnx false (o ++ [x]) (by simpa using hI) _ (by simp)
        · simp [h1, h2] at hI
          simp [hil, Cs_drop, hrow, hw, bytesLess_eq, h1, h2, hb1]
          exact hnx true (o ++ [x]) (by simpa using hI) _ (by simp)
      · cases d
        · simp [h1, h2] at hI
          simp [hil, Cs_drop, hrow, hw, bytesLess_eq, h1, h2, hb1, hb2]
          exact hnx true (o ++ [s, x]) (by simpa using hI) _ (by simp)
        · simp [h1, h2] at hI
          simp [hil, Cs_drop, hrow, hw, bytesLess_eq, h1, h2, hb1]
          exact hnx true (o ++ [x]) (by simpa using hI) _ (by simp)
  · have hie : i = l.length := by omega
    subst hie
    simp [putGo] at hI
    simp
    refine hx _ _ ?_
    cases d
    · simp at hI
      simp [hb1, ← hI]
    · simp at hI
      simp [← hI]

/-! What it is: a list without a name twice, in order. -/
abbrev Sd (l : List Nm) : Prop := l.Pairwise (· < ·)
theorem putGo_true (s : Nm) : ∀ (xs : List Nm), (∀ x ∈ xs, s < x) → putGo s true xs = xs
  | [], _ => by simp [putGo]
  | x :: xs, h => by
    have h1 := h x (by simp)
    have h2 : ¬ x = s := fun e => List.lt_irrefl _ (e ▸ h1)
    simp [putGo, h2, putGo_true s xs fun y hy => h y (by simp [hy])]
theorem putGo_sd (s : Nm) : ∀ (xs : List Nm), Sd xs → Sd (putGo s false xs) ∧ ∀ x, x ∈ putGo s false xs ↔ x = s ∨ x ∈ xs
  | [], _ => by simp [putGo]
  | x :: xs, h => by
    obtain ⟨hx, hs⟩ := List.pairwise_cons.1 h
    obtain ⟨k1, k2⟩ := putGo_sd s xs hs
    by_cases h1 : x < s
    · have h2 : ¬ x = s := fun e => List.lt_irrefl _ (e ▸ h1)
      have e : putGo s false (x :: xs) = x :: putGo s false xs := by simp [putGo, h1, h2]
      rw [e]
      refine ⟨List.pairwise_cons.2 ⟨fun y hy => ?_, k1⟩, fun y => ?_⟩
      · rcases (k2 y).1 hy with rfl | hy
        · exact h1
        · exact hx y hy
      · rw [List.mem_cons, k2, List.mem_cons]
        exact ⟨fun h => by rcases h with h | h | h <;> simp only [h, true_or, or_true], fun h => by rcases h with h | h | h <;> simp only [h, true_or, or_true]⟩
    · by_cases h2 : x = s
      · subst h2
        have e : putGo x false (x :: xs) = x :: xs := by
          have h0 : ¬ x < x := List.lt_irrefl x
          simp [putGo, h0, putGo_true x xs hx]
        rw [e]
        exact ⟨h, fun y => by simp⟩
      · have h3 : s < x := by
          rcases List.le_total x s with h | h
          · exact absurd (List.le_antisymm h (List.not_lt.1 h1)) h2
          · exact List.not_le.1 fun h' => h2 (List.le_antisymm h' h)
        have e : putGo s false (x :: xs) = s :: x :: xs := by
          simp [putGo, h1, h2, putGo_true s xs fun y hy => List.lt_trans h3 (hx y hy)]
        rw [e]
        refine ⟨List.pairwise_cons.2 ⟨fun y hy => ?_, h⟩, fun y => by simp⟩
        rcases List.mem_cons.1 hy with rfl | hy
        · exact h3
        · exact List.lt_trans h3 (hx y hy)
theorem put_sd {l : List Nm} (h : Sd l) (s : Nm) : Sd (put l s) := (putGo_sd s l h).1
theorem mem_put {l : List Nm} (h : Sd l) (s x : Nm) : x ∈ put l s ↔ x = s ∨ x ∈ l := (putGo_sd s l h).2 x
/-- Two lists in order that hold the same are one. -/
theorem ord_ext {α : Type} {R : α → α → Prop} (hirr : ∀ x, ¬ R x x) (hasy : ∀ x y, R x y → ¬ R y x) : ∀ {xs ys : List α}, xs.Pairwise R → ys.Pairwise R → (∀ x, x ∈ xs ↔ x ∈ ys) → xs = ys
  | [], [], _, _, _ => rfl
  | [], y :: ys, _, _, h => absurd ((h y).2 (by simp)) (by simp)
  | x :: xs, [], _, _, h => absurd ((h x).1 (by simp)) (by simp)
  | x :: xs, y :: ys, h1, h2, h => by
    obtain ⟨a1, b1⟩ := List.pairwise_cons.1 h1
    obtain ⟨a2, b2⟩ := List.pairwise_cons.1 h2
    have e : x = y := by
      rcases List.mem_cons.1 ((h x).1 (by simp)) with e | hx
      · exact e
      · rcases List.mem_cons.1 ((h y).2 (by simp)) with e | hy
        · exact e.symm
        · exact absurd (a2 x hx) (hasy _ _ (a1 y hy))
    subst e
    rw [ord_ext hirr hasy b1 b2 fun z => ?_]
    constructor
    · intro hz
      rcases List.mem_cons.1 ((h z).1 (by simp [hz])) with e | hz'
      · subst e; exact absurd (a1 z hz) (hirr z)
      · exact hz'
    · intro hz
      rcases List.mem_cons.1 ((h z).2 (by simp [hz])) with e | hz'
      · subst e; exact absurd (a2 z hz) (hirr z)
      · exact hz'
theorem sd_ext {xs ys : List Nm} (h1 : Sd xs) (h2 : Sd ys) (h : ∀ x, x ∈ xs ↔ x ∈ ys) : xs = ys :=
  ord_ext (fun x => List.lt_irrefl x) (fun x y h h' => List.lt_irrefl x (List.lt_trans h h')) h1 h2 h

/-! ### slices.Index, slices.Contains -/
def idxOf (s : Nm) : List Nm → Nat → Int
  | [], _ => -1
  | x :: xs, i => if x = s then i else idxOf s xs (i + 1)
theorem index_impl (l : List Nm) (s : Nm) (hl : l.length ≤ 4000000000) : Says prog 111 [.rsl l.length (Cs (l.flatMap dStr)), .str s] (.int .i64 (idxOf s l 0)) [] := by
  refine Fn_G Go.Proofs.Try.func111 ok111 ?_
  generalize hR : idxOf s l 0 = R0
  simp [v111, r111]
  refine G_for (l := l111_0) (b := b111_0) rfl [6] (fun i => [(4, .int .i64 i)]) (fun i => idxOf s (l.drop i) i = R0) l.length (by simpa using hR) (by simp) ?_ ?_
  · intro i hi hI q hn hx hr
    obtain ⟨x, hx0⟩ := get_some hi
    have hrow := row_drop dStr 1 (fun _ => by simp) hx0
    rw [Nat.mul_one] at hrow
    have hw := wrap_succ (i := i) (by omega)
    rw [drop_cons hx0, idxOf] at hI
    by_cases c : x = s
    · simp [hi, Cs_drop, hrow, c]
      refine hr _ ?_
      rw [if_pos c] at hI
      simp [hI]
    · simp [hi, Cs_drop, hrow, Ne.symm c, hw]
      rw [if_neg c] at hI
      exact hn _ (by simp) hI
  · intro hI q hx hr
    simp [idxOf] at hI
    simp
    refine hx _ _ ?_
    simp [hI]
theorem idxOf_nonneg (s : Nm) : ∀ (l : List Nm) (i : Nat), (0 ≤ idxOf s l i) ↔ s ∈ l
  | [], i => by simp [idxOf]
  | x :: xs, i => by
    by_cases c : x = s
    · simp [idxOf, c]
    · simp [idxOf, c, Ne.symm c, idxOf_nonneg s xs]
theorem has_impl (l : List Nm) (s : Nm) (hl : l.length ≤ 4000000000) : Says prog 103 [.rsl l.length (Cs (l.flatMap dStr)), .str s] (.bool (decide (s ∈ l))) [] := by
  have f := index_impl l s hl
  refine Fn_G Go.Proofs.Try.func103 ok103 ?_
  simp [v103, r103]
  refine callG f ?_
  simp [idxOf_nonneg]
end Go.AmC
