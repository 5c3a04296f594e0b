/- Part of a proof: see the last text of this folder. -/
import Derived.Test.YtbpejcnejeihbaaSplitAffH
set_option linter.unusedSimpArgs false
set_option linter.unusedVariables false
set_option maxRecDepth 20000
set_option maxHeartbeats 4000000
namespace Go.AmC
open Go Go.AM
open Go.Proofs.Try (prog)

/-! ### Constants -/
def constE (e : Exp) : Option Int := (affE [] e).map (·.C)
def resC (o : Option Int) : AV := .tup [none, none] [.int .i64 (o.getD 0), .bool o.isSome]
theorem resC_A (o : Option Aff) : resC (o.map (·.C)) = .tup [none, none] [.int .i64 (o.getD ⟨0, []⟩).C, .bool o.isSome] := by
  cases o <;> rfl
theorem const_impl (e : Exp) (h : e.tot ≤ 10000000) : Says prog 85 [.agg (Cs e.d)] (resC (constE e)) [] := by
  have f := aff_impl [] (by simp) e h
  unfold constE
  rw [resC_A]
  refine Fn_G Go.Proofs.Try.func85 ok85 ?_
  generalize affE [] e = o at f ⊢
  simp [resA] at f
  simp [v85, r85, splice]
  refine callG f ?_
  simp [splice]
theorem const_spec (e : Exp) (h : e.tot ≤ 10000000) : Says prog 83 [.agg (Cs e.d)] (resC (constE e)) [] := by
  have f := aff_spec [] (by simp) e h
  unfold constE
  rw [resC_A]
  refine Fn_G Go.Proofs.Try.func83 ok83 ?_
  generalize affE [] e = o at f ⊢
  simp [resA] at f
  simp [v83, r83, splice]
  refine callG f ?_
  simp [splice]

/-! ### Ranges -/
def inB (n : Int) : Bool := decide (-10000 ≤ n) && decide (n ≤ 10000)
def rngNames (l : List Rng) : List Nm := l.map (·.Name)
def okB (all : List Rng) : Nat → List Rng → Bool
  | _, [] => true
  | i, r :: rs => nameOk r.Name && inB r.Lo && inB r.Hi && decide (idxOf r.Name (rngNames all) 0 = (i : Int)) && okB all (i + 1) rs
def boxOk (l : List Rng) : Bool := okB l 0 l && decide (l.length ≤ 8)
def fullB (l : List Rng) : Bool := l.all (fun r => decide (r.Lo ≤ r.Hi)) && boxOk l

theorem at_spec (l : List Rng) (n : Nm) (hl : l.length ≤ 4000000000) : Says prog 91 [.rsl l.length (Cs (l.flatMap Rng.d)), .str n] (.int .i64 (idxOf n (rngNames l) 0)) [] := by
  refine Fn_G Go.Proofs.Try.func91 ok91 ?_
  generalize hR : idxOf n (rngNames l) 0 = R0
  simp [v91, r91]
  refine G_for (l := l91_0) (b := b91_0) rfl [] (fun i => [(3, .int .i64 i)]) (fun i => idxOf n (rngNames (l.drop i)) i = R0) l.length (by simpa using hR) (by simp) ?_ ?_
  · intro i hi hI q hn hx hr
    obtain ⟨x, hx0⟩ := get_some hi
    have hrow := row_drop Rng.d 3 Rng.d_len hx0
    have hw := wrap_succ (i := i) (by omega)
    rw [drop_cons hx0] at hI
    simp only [rngNames, List.map_cons, idxOf] at hI
    by_cases c : x.Name = n
    · simp [hi, Cs_drop, hrow, c]
      refine hr _ ?_
      rw [if_pos c] at hI
      simp [hI]
    · simp [hi, Cs_drop, hrow, c, hw]
      rw [if_neg c] at hI
      exact hn _ (by simp) hI
  · intro hI q hx hr
    simp [rngNames, idxOf] at hI
    simp
    refine hx _ _ ?_
    simp [hI]
theorem eqName_impl (r : Rng) (n : Nm) : Says prog 108 [.agg (Cs r.d), .rp [.str n]] (.bool (r.Name == n)) [] := by
  refine Fn_G Go.Proofs.Try.func108 ok108 ?_
  simp [v108, r108]
theorem idxF_impl (l : List Rng) (n : Nm) (hl : l.length ≤ 4000000000) : Says prog 107 [.rsl l.length (Cs (l.flatMap Rng.d)), .fn 108 [.rp [.str n]]] (.int .i64 (idxOf n (rngNames l) 0)) [] := by
  refine Fn_G Go.Proofs.Try.func107 ok107 ?_
  have pl : plainFn prog 108 = true := by kernel_rfl
  generalize hR : idxOf n (rngNames l) 0 = R0
  simp [v107, r107]
  refine G_for (l := l107_0) (b := b107_0) rfl [6] (fun i => [(4, .int .i64 i)]) (fun i => idxOf n (rngNames (l.drop i)) i = R0) l.length (by simpa using hR) (by simp) ?_ ?_
  · intro i hi hI q hn hx hr
    obtain ⟨x, hx0⟩ := get_some hi
    have hrow := row_drop Rng.d 3 Rng.d_len hx0
    have hw := wrap_succ (i := i) (by omega)
    rw [drop_cons hx0] at hI
    simp only [rngNames, List.map_cons, idxOf] at hI
    have f := eqName_impl x n
    simp at f
    simp [hi, Cs_drop, hrow]
    refine callV pl f ?_
    by_cases c : x.Name = n
    · simp [c]
      refine hr _ ?_
      rw [if_pos c] at hI
      simp [hI]
    · simp [c, hw]
      rw [if_neg c] at hI
      exact hn _ (by simp) hI
  · intro hI q hx hr
    simp [rngNames, idxOf] at hI
    simp
    refine hx _ _ ?_
    simp [hI]
theorem at_impl (l : List Rng) (n : Nm) (hl : l.length ≤ 4000000000) : Says prog 94 [.rsl l.length (Cs (l.flatMap Rng.d)), .str n] (.int .i64 (idxOf n (rngNames l) 0)) [] := by
  have f := idxF_impl l n hl
  refine Fn_G Go.Proofs.Try.func94 ok94 ?_
  simp [v94, r94]
  refine callG f ?_
  simp
theorem okB_step {all l : List Rng} {i : Nat} {r : Rng} (h : l[i]? = some r) {b : Bool} (hI : okB all i (l.drop i) = b) :
    (nameOk r.Name && inB r.Lo && inB r.Hi && decide (idxOf r.Name (rngNames all) 0 = (i : Int)) && okB all (i + 1) (l.drop (i + 1))) = b := by
  rw [drop_cons h, okB] at hI; exact hI
theorem boxOk_spec (l : List Rng) (hl : l.length ≤ 4000000000) (hs : ∀ r ∈ l, r.Name.length ≤ 4294967296) : Says prog 84 [.rsl l.length (Cs (l.flatMap Rng.d))] (.bool (boxOk l)) [] := by
  refine Fn_G Go.Proofs.Try.func84 ok84 ?_
  generalize hR : boxOk l = R0
  unfold boxOk at hR
  generalize hR2 : okB l 0 l = R2 at hR
  simp [v84, r84]
  refine G_for (l := l84_0) (b := b84_0) rfl [] (fun i => [(2, .int .i64 i)]) (fun i => okB l i (l.drop i) = R2) l.length (by simpa using hR2) (by simp) ?_ ?_
  · intro i hi hI q hn hx hr
    obtain ⟨x, hx0⟩ := get_some hi
    have hrow := row_drop Rng.d 3 Rng.d_len hx0
    have hw := wrap_succ (i := i) (by omega)
    have hI2 := okB_step hx0 hI
    have fN := nm_spec x.Name (hs x (List.mem_of_getElem? hx0))
    have fL := in_spec x.Lo (-10000) 10000
    have fH := in_spec x.Hi (-10000) 10000
    have fA := at_spec l x.Name hl
    have bad : R2 = false → R0 = false := fun h => by rw [← hR, h]; rfl
    change Says prog _ _ (.bool (inB x.Lo)) _ at fL
    change Says prog _ _ (.bool (inB x.Hi)) _ at fH
    cases c1 : nameOk x.Name
    · rw [c1] at fN hI2
      simp [hi, Cs_drop, hrow, splice]
      refine callG fN ?_
      simp
      refine hr _ ?_
      simp at hI2
      simp [bad hI2]
    cases c2 : inB x.Lo
    · rw [c1] at fN hI2
      rw [c2] at fL hI2
      simp [hi, Cs_drop, hrow, splice]
      refine callG fN ?_
      simp [hi, Cs_drop, hrow]
      refine callG fL ?_
      simp
      refine hr _ ?_
      simp at hI2
      simp [bad hI2]
    cases c3 : inB x.Hi
    · rw [c1] at fN hI2
      rw [c2] at fL hI2
      rw [c3] at fH hI2
      simp [hi, Cs_drop, hrow, splice]
      refine callG fN ?_
      simp [hi, Cs_drop, hrow]
      refine callG fL ?_
      simp [hi, Cs_drop, hrow]
      refine callG fH ?_
      simp
      refine hr _ ?_
      simp at hI2
      simp [bad hI2]
    rw [c1] at fN hI2
    rw [c2] at fL hI2
    rw [c3] at fH hI2
    simp [hi, Cs_drop, hrow, splice]
    refine callG fN ?_
    simp [hi, Cs_drop, hrow]
    refine callG fL ?_
    simp [hi, Cs_drop, hrow]
    refine callG fH ?_
    simp [hi, Cs_drop, hrow]
    refine callG fA ?_
    by_cases c4 : idxOf x.Name (rngNames l) 0 = (i : Int)
    · simp [c4, hw]
      exact hn _ (by simp) (by simpa [c4] using hI2)
    · simp [c4, hw]
      refine hr _ ?_
      simp [c4] at hI2
      simp [bad hI2]
  · intro hI q hx hr
    simp [okB] at hI
    simp
    refine hx _ _ ?_
    have e : ((l.length : Int) ≤ 8) ↔ l.length ≤ 8 := by omega
    simp [← hR, ← hI, e]
theorem boxOk_impl (l : List Rng) (hl : l.length ≤ 4000000000) (hs : ∀ r ∈ l, r.Name.length ≤ 4294967296) : Says prog 86 [.rsl l.length (Cs (l.flatMap Rng.d))] (.bool (boxOk l)) [] := by
  refine Fn_G Go.Proofs.Try.func86 ok86 ?_
  generalize hR : boxOk l = R0
  unfold boxOk at hR
  generalize hR2 : okB l 0 l = R2 at hR
  simp [v86, r86]
  refine G_for (l := l86_0) (b := b86_0) rfl [6, 7] (fun i => [(4, .int .i64 i)]) (fun i => okB l i (l.drop i) = R2) l.length (by simpa using hR2) (by simp) ?_ ?_
  · intro i hi hI q hn hx hr
    obtain ⟨x, hx0⟩ := get_some hi
    have hrow := row_drop Rng.d 3 Rng.d_len hx0
    have hw := wrap_succ (i := i) (by omega)
    have hI2 := okB_step hx0 hI
    have fN := nm_impl x.Name (hs x (List.mem_of_getElem? hx0))
    have fL := in_impl x.Lo (-10000) 10000
    have fH := in_impl x.Hi (-10000) 10000
    have fA := at_impl l x.Name hl
    have bad : R2 = false → R0 = false := fun h => by rw [← hR, h]; rfl
    change Says prog _ _ (.bool (inB x.Lo)) _ at fL
    change Says prog _ _ (.bool (inB x.Hi)) _ at fH
    cases c1 : nameOk x.Name
    · rw [c1] at fN hI2
      simp [hi, Cs_drop, hrow, splice]
      refine callG fN ?_
      simp
      refine hr _ ?_
      simp at hI2
      simp [bad hI2]
    cases c2 : inB x.Lo
    · rw [c1] at fN hI2
      rw [c2] at fL hI2
      simp [hi, Cs_drop, hrow, splice]
      refine callG fN ?_
      simp [hi, Cs_drop, hrow]
      refine callG fL ?_
      simp
      refine hr _ ?_
      simp at hI2
      simp [bad hI2]
    cases c3 : inB x.Hi
    · rw [c1] at fN hI2
      rw [c2] at fL hI2
      rw [c3] at fH hI2
      simp [hi, Cs_drop, hrow, splice]
      refine callG fN ?_
      simp [hi, Cs_drop, hrow]
      refine callG fL ?_
      simp [hi, Cs_drop, hrow]
      refine callG fH ?_
      simp
      refine hr _ ?_
      simp at hI2
      simp [bad hI2]
    rw [c1] at fN hI2
    rw [c2] at fL hI2
    rw [c3] at fH hI2
    simp [hi, Cs_drop, hrow, splice]
    refine callG fN ?_
    simp [hi, Cs_drop, hrow]
    refine callG fL ?_
    simp [hi, Cs_drop, hrow]
    refine callG fH ?_
    simp [hi, Cs_drop, hrow]
    refine callG fA ?_
    by_cases c4 : idxOf x.Name (rngNames l) 0 = (i : Int)
    · simp [c4, hw]
      exact hn _ (by simp) (by simpa [c4] using hI2)
    · simp [c4, hw]
      refine hr _ ?_
      simp [c4] at hI2
      simp [bad hI2]
  · intro hI q hx hr
    simp [okB] at hI
    simp
    refine hx _ _ ?_
    have e : ((l.length : Int) ≤ 8) ↔ l.length ≤ 8 := by omega
    simp [← hR, ← hI, e]
theorem all_step {l : List Rng} {i : Nat} {r : Rng} (h : l[i]? = some r) {b : Bool} (hI : (l.drop i).all (fun r => decide (r.Lo ≤ r.Hi)) = b) :
    (decide (r.Lo ≤ r.Hi) && (l.drop (i + 1)).all (fun r => decide (r.Lo ≤ r.Hi))) = b := by
  rw [drop_cons h, List.all_cons] at hI; exact hI
theorem full_spec (l : List Rng) (hl : l.length ≤ 4000000000) (hs : ∀ r ∈ l, r.Name.length ≤ 4294967296) : Says prog 71 [.rsl l.length (Cs (l.flatMap Rng.d))] (.bool (fullB l)) [] := by
  have fB := boxOk_spec l hl hs
  refine Fn_G Go.Proofs.Try.func71 ok71 ?_
  generalize hR : fullB l = R0
  unfold fullB at hR
  generalize hR2 : l.all (fun r => decide (r.Lo ≤ r.Hi)) = R2 at hR
  simp [v71, r71]
  refine G_for (l := l71_0) (b := b71_0) rfl [] (fun i => [(2, .int .i64 i)]) (fun i => (l.drop i).all (fun r => decide (r.Lo ≤ r.Hi)) = R2) l.length (by simpa using hR2) (by simp) ?_ ?_
  · intro i hi hI q hn hx hr
    obtain ⟨x, hx0⟩ := get_some hi
    have hrow := row_drop Rng.d 3 Rng.d_len hx0
    have hw := wrap_succ (i := i) (by omega)
    have hI2 := all_step hx0 hI
    by_cases c : x.Lo ≤ x.Hi
    · have c' : ¬ x.Hi < x.Lo := by omega
      simp [hi, Cs_drop, hrow, splice, c, c', hw]
      exact hn _ (by simp) (by simpa [c] using hI2)
    · have c' : x.Hi < x.Lo := by omega
      simp [hi, Cs_drop, hrow, splice, c, c', hw]
      refine hr _ ?_
      simp [c] at hI2
      simp [← hR, hI2]
  · intro hI q hx hr
    simp at hI
    simp
    refine hx _ _ ?_
    simp
    refine callG fB ?_
    simp [← hR, ← hI]
theorem full_impl (l : List Rng) (hl : l.length ≤ 4000000000) (hs : ∀ r ∈ l, r.Name.length ≤ 4294967296) : Says prog 73 [.rsl l.length (Cs (l.flatMap Rng.d))] (.bool (fullB l)) [] := by
  have fB := boxOk_impl l hl hs
  refine Fn_G Go.Proofs.Try.func73 ok73 ?_
  generalize hR : fullB l = R0
  unfold fullB at hR
  generalize hR2 : l.all (fun r => decide (r.Lo ≤ r.Hi)) = R2 at hR
  simp [v73, r73]
  refine G_for (l := l73_0) (b := b73_0) rfl [6] (fun i => [(4, .int .i64 i)]) (fun i => (l.drop i).all (fun r => decide (r.Lo ≤ r.Hi)) = R2) l.length (by simpa using hR2) (by simp) ?_ ?_
  · intro i hi hI q hn hx hr
    obtain ⟨x, hx0⟩ := get_some hi
    have hrow := row_drop Rng.d 3 Rng.d_len hx0
    have hw := wrap_succ (i := i) (by omega)
    have hI2 := all_step hx0 hI
    by_cases c : x.Lo ≤ x.Hi
    · have c' : ¬ x.Hi < x.Lo := by omega
      simp [hi, Cs_drop, hrow, splice, c, c', hw]
      exact hn _ (by simp) (by simpa [c] using hI2)
    · have c' : x.Hi < x.Lo := by omega
      simp [hi, Cs_drop, hrow, splice, c, c', hw]
      refine hr _ ?_
      simp [c] at hI2
      simp [← hR, hI2]
  · intro hI q hx hr
    simp at hI
    simp
    refine hx _ _ ?_
    simp
    refine callG fB ?_
    simp [← hR, ← hI]
end Go.AmC
