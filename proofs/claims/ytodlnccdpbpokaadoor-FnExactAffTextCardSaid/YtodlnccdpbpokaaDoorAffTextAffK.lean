/- Part of a proof: see the last text of this folder. -/
import Derived.Test.YtodlnccdpbpokaaDoorAffTextNm
import Derived.Sort.Walk0
set_option linter.unusedSimpArgs false
set_option linter.unusedVariables false
set_option maxRecDepth 20000
set_option maxHeartbeats 4000000
namespace Go.AmC
open Go Go.AM
open Go.Proofs (bytesLess_eq)
open Go.Proofs.Tryd (prog)

/-! ### Straight sums: what they are -/
def coefOk (n : Int) : Bool := decide (-100000 ≤ n) && decide (n ≤ 100000)
def ltO : Option (List UInt8) → List UInt8 → Bool
  | none, _ => true
  | some q, n => decide (q < n)
def okT (p : Option (List UInt8)) : List Term → Bool
  | [] => true
  | t :: ts => nameOk t.Name && !decide (t.N = 0) && coefOk t.N && ltO p t.Name && okT (some t.Name) ts
theorem okT_cons {p : Option (List UInt8)} {t : Term} {ts : List Term} : okT p (t :: ts) = (nameOk t.Name && !decide (t.N = 0) && coefOk t.N && ltO p t.Name && okT (some t.Name) ts) := by rw [okT]
def affOk (a : Aff) : Bool := okT none a.T && coefOk a.C

theorem coef_ok_spec (n : Int) : Says prog 29 [.int .i64 n] (.bool (coefOk n)) [] := by
  have f := in_spec n (-100000) 100000
  refine Fn_G Go.Proofs.Tryd.func29 ok29 ?_
  simp [v29, r29]
  refine callG f ?_
  simp [coefOk]
theorem coef_ok_impl (n : Int) : Says prog 32 [.int .i64 n] (.bool (coefOk n)) [] := by
  have f := in_impl n (-100000) 100000
  refine Fn_G Go.Proofs.Tryd.func32 ok32 ?_
  simp [v32, r32]
  refine callG f ?_
  simp [coefOk]
def prevT (ts : List Term) (i : Nat) : Option (List UInt8) := if i = 0 then none else (ts[i - 1]?).map (·.Name)
theorem prevT_succ {ts : List Term} {i : Nat} {t : Term} (h : ts[i]? = some t) : prevT ts (i + 1) = some t.Name := by simp [prevT, h]
theorem okT_step {ts : List Term} {i : Nat} {t : Term} (h : ts[i]? = some t) {b : Bool} (hI : okT (prevT ts i) (ts.drop i) = b) :
    (nameOk t.Name && !decide (t.N = 0) && coefOk t.N && ltO (prevT ts i) t.Name && okT (prevT ts (i + 1)) (ts.drop (i + 1))) = b := by
  rw [drop_cons h, okT_cons] at hI
  rw [prevT_succ h]; exact hI
theorem bl_geq (p n : List UInt8) : (!Op.bytesLess p n) = !decide (p < n) := by rw [bytesLess_eq]
theorem bl_leq (n p : List UInt8) : (Op.bytesLess n p || n == p) = !decide (p < n) := by
  rw [bytesLess_eq]
  by_cases h1 : p < n
  · have h2 : ¬ n < p := fun h => List.lt_irrefl _ (List.lt_trans h h1)
    have h3 : ¬ n = p := fun h => List.lt_irrefl _ (h ▸ h1)
    simp [h1, h2, h3]
  · by_cases h2 : n < p
    · simp [h1, h2]
    · have : n = p := List.le_antisymm (List.not_lt.1 h1) (List.not_lt.1 h2)
      simp [h1, this]
theorem affOk_spec (a : Aff) (hl : a.tot ≤ 4294967296) : Says prog 21 [.agg (Cs a.d)] (.bool (affOk a)) [] := by
  have ht := a.tot_eq
  have fC := coef_ok_spec a.C
  refine Fn_G Go.Proofs.Tryd.func21 ok21 ?_
  generalize hR : affOk a = R0
  unfold affOk at hR
  generalize hR2 : okT none a.T = R2 at hR
  simp [v21, r21]
  refine G_for (l := l21_0) (b := b21_0) rfl [] (fun i => [(3, .int .i64 i)]) (fun i => okT (prevT a.T i) (a.T.drop i) = R2) a.T.length (by simpa [prevT] using hR2) (by simp) ?_ ?_
  · intro i hi hI q hn hx hr
    obtain ⟨x, hx0⟩ := get_some hi
    have hrow := row_drop Term.d 2 Term.d_len hx0
    have hw := wrap_succ (i := i) (by omega)
    have hI2 := okT_step hx0 hI
    have fN := nm_spec x.Name (by have := mem_sum Term.tot (List.mem_of_getElem? hx0); rw [Term.tot_eq] at this; omega)
    have fK := coef_ok_spec x.N
    have bad : R2 = false → R0 = false := fun h => by rw [← hR, h]; rfl
    cases c1 : nameOk x.Name
    · rw [c1] at fN hI2
      simp [hi, Cs_drop, hrow, splice]
      refine callD fN ?_
      simp
      refine hr _ ?_
      simp at hI2
      simp [bad hI2]
    by_cases c2 : x.N = 0
    · rw [c1] at fN hI2
      simp [c2] at hI2
      simp [hi, Cs_drop, hrow, splice]
      refine callD fN ?_
      simp [hi, Cs_drop, hrow, c2]
      refine hr _ ?_
      simp [bad hI2]
    cases c3 : coefOk x.N
    · rw [c1] at fN hI2
      rw [c3] at fK hI2
      simp [c2] at hI2
      simp [hi, Cs_drop, hrow, splice]
      refine callD fN ?_
      simp [hi, Cs_drop, hrow, c2]
      refine callD fK ?_
      simp [c2]
      refine hr _ ?_
      simp [bad hI2]
    rw [c1] at fN hI2
    rw [c3] at fK hI2
    simp [hi, Cs_drop, hrow, splice]
    refine callD fN ?_
    simp [hi, Cs_drop, hrow, c2]
    refine callD fK ?_
    cases i with
    | zero =>
      have hw1 : IntKind.i64.wrap 1 = 1 := by decide
      simp [hw1, c2]
      exact hn _ (by simp) (by simpa [c2, prevT, ltO] using hI2)
    | succ j =>
      obtain ⟨y, hy0⟩ := get_some (xs := a.T) (i := j) (by omega)
      have hrow2 := row_drop Term.d 2 Term.d_len hy0
      have hwj : IntKind.i64.wrap ((j : Int) + 1 - 1) = (j : Int) := by rw [wrap_small] <;> omega
      have hwj2 : IntKind.i64.wrap (j : Int) = (j : Int) := by rw [wrap_small] <;> omega
      have hj : (0 : Int) < (j : Int) + 1 := by omega
      have hj2 : j < a.T.length := by omega
      have hj3 : (0 : Int) ≤ (j : Int) + 1 := by omega
      have hj4 : (j : Int) + 1 < (a.T.length : Int) := by omega
      have hw3 : IntKind.i64.wrap ((j : Int) + 1 + 1) = (j : Int) + 1 + 1 := by rw [wrap_small] <;> omega
      rw [prevT_succ hy0] at hI2
      by_cases c4 : y.Name < x.Name
      · simp [c2, hi, hj, hj2, hj3, hj4, hwj, hwj2, Cs_drop, hrow, hrow2, bl_geq, bl_leq, c4, hw3]
        exact hn _ (by simp) (by simpa [c2, c4, ltO] using hI2)
      · simp [c2, hi, hj, hj2, hj3, hj4, hwj, hwj2, Cs_drop, hrow, hrow2, bl_geq, bl_leq, c4, hw3]
        refine hr _ ?_
        simp [c2, c4, ltO] at hI2
        simp [bad hI2]
  · intro hI q hx hr
    simp [okT] at hI
    simp
    refine hx _ _ ?_
    simp
    refine callG fC ?_
    simp [← hR, ← hI]
theorem affOk_impl (a : Aff) (hl : a.tot ≤ 4294967296) : Says prog 23 [.agg (Cs a.d)] (.bool (affOk a)) [] := by
  have ht := a.tot_eq
  have fC := coef_ok_impl a.C
  refine Fn_G Go.Proofs.Tryd.func23 ok23 ?_
  generalize hR : affOk a = R0
  unfold affOk at hR
  generalize hR2 : okT none a.T = R2 at hR
  simp [v23, r23]
  refine G_for (l := l23_0) (b := b23_0) rfl [7, 8] (fun i => [(5, .int .i64 i)]) (fun i => okT (prevT a.T i) (a.T.drop i) = R2) a.T.length (by simpa [prevT] using hR2) (by simp) ?_ ?_
  · intro i hi hI q hn hx hr
    obtain ⟨x, hx0⟩ := get_some hi
    have hrow := row_drop Term.d 2 Term.d_len hx0
    have hw := wrap_succ (i := i) (by omega)
    have hI2 := okT_step hx0 hI
    have fN := nm_impl x.Name (by have := mem_sum Term.tot (List.mem_of_getElem? hx0); rw [Term.tot_eq] at this; omega)
    have fK := coef_ok_impl x.N
    have bad : R2 = false → R0 = false := fun h => by rw [← hR, h]; rfl
    cases c1 : nameOk x.Name
    · rw [c1] at fN hI2
      simp [hi, Cs_drop, hrow, splice]
      refine callD fN ?_
      simp
      refine hr _ ?_
      simp at hI2
      simp [bad hI2]
    by_cases c2 : x.N = 0
    · rw [c1] at fN hI2
      simp [c2] at hI2
      simp [hi, Cs_drop, hrow, splice]
      refine callD fN ?_
      simp [hi, Cs_drop, hrow, c2]
      refine hr _ ?_
      simp [bad hI2]
    cases c3 : coefOk x.N
    · rw [c1] at fN hI2
      rw [c3] at fK hI2
      simp [c2] at hI2
      simp [hi, Cs_drop, hrow, splice]
      refine callD fN ?_
      simp [hi, Cs_drop, hrow, c2]
      refine callD fK ?_
      simp [c2]
      refine hr _ ?_
      simp [bad hI2]
    rw [c1] at fN hI2
    rw [c3] at fK hI2
    simp [hi, Cs_drop, hrow, splice]
    refine callD fN ?_
    simp [hi, Cs_drop, hrow, c2]
    refine callD fK ?_
    cases i with
    | zero =>
      have hw1 : IntKind.i64.wrap 1 = 1 := by decide
      simp [hw1, c2]
      exact hn _ (by simp) (by simpa [c2, prevT, ltO] using hI2)
    | succ j =>
      obtain ⟨y, hy0⟩ := get_some (xs := a.T) (i := j) (by omega)
      have hrow2 := row_drop Term.d 2 Term.d_len hy0
      have hwj : IntKind.i64.wrap ((j : Int) + 1 - 1) = (j : Int) := by rw [wrap_small] <;> omega
      have hwj2 : IntKind.i64.wrap (j : Int) = (j : Int) := by rw [wrap_small] <;> omega
      have hj : (0 : Int) < (j : Int) + 1 := by omega
      have hj2 : j < a.T.length := by omega
      have hj3 : (0 : Int) ≤ (j : Int) + 1 := by omega
      have hj4 : (j : Int) + 1 < (a.T.length : Int) := by omega
      have hw3 : IntKind.i64.wrap ((j : Int) + 1 + 1) = (j : Int) + 1 + 1 := by rw [wrap_small] <;> omega
      rw [prevT_succ hy0] at hI2
      by_cases c4 : y.Name < x.Name
      · simp [c2, hi, hj, hj2, hj3, hj4, hwj, hwj2, Cs_drop, hrow, hrow2, bl_geq, bl_leq, c4, hw3]
        exact hn _ (by simp) (by simpa [c2, c4, ltO] using hI2)
      · simp [c2, hi, hj, hj2, hj3, hj4, hwj, hwj2, Cs_drop, hrow, hrow2, bl_geq, bl_leq, c4, hw3]
        refine hr _ ?_
        simp [c2, c4, ltO] at hI2
        simp [bad hI2]
  · intro hI q hx hr
    simp [okT] at hI
    simp
    refine hx _ _ ?_
    simp
    refine callG fC ?_
    simp [← hR, ← hI]
end Go.AmC
