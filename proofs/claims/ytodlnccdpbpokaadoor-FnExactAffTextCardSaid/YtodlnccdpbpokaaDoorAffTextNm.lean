/- Part of a proof: see the last text of this folder. -/
import Derived.Test.YtodlnccdpbpokaaDoorAffTextIn
set_option linter.unusedSimpArgs false
set_option linter.unusedVariables false
set_option maxRecDepth 20000
set_option maxHeartbeats 4000000
namespace Go.AmC
open Go Go.AM
open Go.Proofs.Tryd (prog)

theorem wrap_succ {i : Nat} (h : i < 4611686018427387904) : IntKind.i64.wrap ((i : Int) + 1) = ((i + 1 : Nat) : Int) := by rw [wrap_small] <;> omega
theorem all_take {α : Type} {p : α → Bool} {xs : List α} {i : Nat} {x : α} (h : (xs.take i).all p = true) (hx : xs[i]? = some x) (hp : p x = true) : (xs.take (i + 1)).all p = true := by
  rw [List.take_add_one, hx, List.all_append, h]; simp [hp]
theorem get_some {α : Type} {xs : List α} {i : Nat} (h : i < xs.length) : ∃ x, xs[i]? = some x := ⟨_, List.getElem?_eq_getElem h⟩
theorem all_not {α : Type} {p : α → Bool} {xs : List α} {i : Nat} {x : α} (hx : xs[i]? = some x) (hp : p x = false) : xs.all p = false := by
  rw [List.all_eq_false]; exact ⟨x, List.mem_of_getElem? hx, by simp [hp]⟩

def isLow (c : UInt8) : Bool := decide (97 ≤ c.toNat) && decide (c.toNat ≤ 122)
def keptL : List (List UInt8) := [[97, 114, 114, 97, 121], [102, 111, 114], [116, 111], [112, 114, 105, 110, 116], [109, 105, 110], [109, 97, 120]]
def kept (s : List UInt8) : Bool := decide (s ∈ keptL)
def nameOk (s : List UInt8) : Bool := s.all isLow && (decide (1 ≤ s.length) && decide (s.length ≤ 6)) && !kept s

theorem low_spec (c : UInt8) : Says prog 38 [.int .u8 c.toNat] (.bool (isLow c)) [] := by
  have f := in_spec (c.toNat : Int) 97 122
  have hc : c.toNat < 256 := c.toNat_lt
  have hw : IntKind.i64.wrap (c.toNat : Int) = c.toNat := by rw [wrap_small] <;> omega
  refine Fn_G Go.Proofs.Tryd.func38 ok38 ?_
  simp [v38, r38, hw]
  refine callG f ?_
  have e1 : (97 ≤ (c.toNat : Int)) ↔ 97 ≤ c.toNat := by omega
  have e2 : ((c.toNat : Int) ≤ 122) ↔ c.toNat ≤ 122 := by omega
  simp [isLow, e1, e2]
theorem low_impl (c : UInt8) : Says prog 41 [.int .u8 c.toNat] (.bool (isLow c)) [] := by
  refine Fn_G Go.Proofs.Tryd.func41 ok41 ?_
  have e1 : (97 ≤ (c.toNat : Int)) ↔ 97 ≤ c.toNat := by omega
  have e2 : ((c.toNat : Int) ≤ 122) ↔ c.toNat ≤ 122 := by omega
  by_cases h : 97 ≤ c.toNat <;> simp [v41, r41, h, isLow, e1, e2]
theorem has_spec (xs : List (List UInt8)) (s : List UInt8) (hm : xs.length ≤ 1048576) : Says prog 47 [.rsl xs.length (Cs (xs.flatMap dStr)), .str s] (.bool (decide (s ∈ xs))) [] := by
  refine Fn_G Go.Proofs.Tryd.func47 ok47 ?_
  generalize hR : decide (s ∈ xs) = R0
  simp [v47, r47]
  refine G_for (l := l47_0) (b := b47_0) rfl [] (fun i => [(3, .int .i64 i)]) (fun i => s ∉ xs.take i) xs.length (by simp) (by simp) ?_ ?_
  · intro i hi hI q hn hx hr
    obtain ⟨x, hx0⟩ := get_some hi
    have hrow := row_drop dStr 1 (fun _ => by simp) hx0
    rw [Nat.mul_one] at hrow
    have hw := wrap_succ (i := i) (by omega)
    by_cases c : x = s
    · simp [hi, Cs_drop, hrow, c]
      refine hr _ ?_
      simp [← hR, ← c, List.mem_of_getElem? hx0]
    · simp [hi, Cs_drop, hrow, c, hw]
      refine hn _ (by simp) ?_
      rw [List.take_add_one, hx0]; simp [hI, Ne.symm c]
  · intro hI q hx hr
    rw [List.take_length] at hI
    simp
    refine hx _ _ ?_
    simp [← hR, hI]
theorem kept_spec (s : List UInt8) : Says prog 40 [.str s] (.bool (kept s)) [] := by
  have f := has_spec keptL s (by simp [keptL])
  simp [keptL] at f
  refine Fn_G Go.Proofs.Tryd.func40 ok40 ?_
  simp [v40, r40, List.replicate, splice]
  refine callG f ?_
  simp [kept, keptL]
theorem kept_impl (s : List UInt8) : Says prog 43 [.str s] (.bool (kept s)) [] := by
  refine Fn_G Go.Proofs.Tryd.func43 ok43 ?_
  generalize hR : kept s = R0
  unfold kept keptL at hR
  by_cases h1 : s = [97, 114, 114, 97, 121]
  · simp [v43, r43, ← hR, h1]
  by_cases h2 : s = [102, 111, 114]
  · simp [v43, r43, ← hR, h2]
  by_cases h3 : s = [116, 111]
  · simp [v43, r43, ← hR, h3]
  by_cases h4 : s = [112, 114, 105, 110, 116]
  · simp [v43, r43, ← hR, h4]
  by_cases h5 : s = [109, 105, 110]
  · simp [v43, r43, ← hR, h5]
  by_cases h6 : s = [109, 97, 120]
  · simp [v43, r43, ← hR, h6]
  simp [v43, r43, ← hR, h1, h2, h3, h4, h5, h6]
theorem nm_spec (s : List UInt8) (hm : s.length ≤ 4294967296) : Says prog 28 [.str s] (.bool (nameOk s)) [] := by
  have f1 := in_spec (s.length : Int) 1 6
  have f2 := kept_spec s
  refine Fn_G Go.Proofs.Tryd.func28 ok28 ?_
  generalize hR : nameOk s = R0
  unfold nameOk at hR
  simp [v28, r28]
  refine G_for (l := l28_0) (b := b28_0) rfl [] (fun i => [(2, .int .i64 i)]) (fun i => (s.take i).all isLow = true) s.length (by simp) (by simp) ?_ ?_
  · intro i hi hI q hn hx hr
    obtain ⟨c, hc⟩ := get_some hi
    have hw := wrap_succ (i := i) (by omega)
    have hg := (List.getElem?_eq_some_iff.1 hc).2
    have f := low_spec c
    simp [hi, hc, hg]
    refine callG f ?_
    cases h : isLow c
    · simp
      refine hr _ ?_
      simp [← hR, all_not hc h]
    · simp [hw]
      exact hn _ (by simp) (all_take hI hc h)
  · intro hI q hx hr
    rw [List.take_length] at hI
    simp
    refine hx _ _ ?_
    simp
    refine callG f1 ?_
    have e1 : ((1 : Int) ≤ s.length) ↔ 1 ≤ s.length := by omega
    have e2 : ((s.length : Int) ≤ 6) ↔ s.length ≤ 6 := by omega
    by_cases c1 : 1 ≤ s.length ∧ s.length ≤ 6
    · simp [e1, e2, c1]
      refine callG f2 ?_
      simp [← hR, hI, c1]
    · have c2 : (decide (1 ≤ s.length) && decide (s.length ≤ 6)) = false := by simpa using c1
      simp only [e1, e2, c2]
      simp [← hR, c2]
theorem nm_impl (s : List UInt8) (hm : s.length ≤ 4294967296) : Says prog 31 [.str s] (.bool (nameOk s)) [] := by
  have f1 := in_impl (s.length : Int) 1 6
  have f2 := kept_impl s
  refine Fn_G Go.Proofs.Tryd.func31 ok31 ?_
  generalize hR : nameOk s = R0
  unfold nameOk at hR
  simp [v31, r31]
  refine G_for (l := l31_0) (b := b31_0) rfl [] (fun i => [(2, .int .i64 i)]) (fun i => (s.take i).all isLow = true) s.length (by simp) (by simp) ?_ ?_
  · intro i hi hI q hn hx hr
    obtain ⟨c, hc⟩ := get_some hi
    have hw := wrap_succ (i := i) (by omega)
    have hg := (List.getElem?_eq_some_iff.1 hc).2
    have f := low_impl c
    simp [hi, hc, hg]
    refine callG f ?_
    cases h : isLow c
    · simp
      refine hr _ ?_
      simp [← hR, all_not hc h]
    · simp [hw]
      exact hn _ (by simp) (all_take hI hc h)
  · intro hI q hx hr
    rw [List.take_length] at hI
    simp
    refine hx _ _ ?_
    simp
    refine callG f1 ?_
    have e1 : ((1 : Int) ≤ s.length) ↔ 1 ≤ s.length := by omega
    have e2 : ((s.length : Int) ≤ 6) ↔ s.length ≤ 6 := by omega
    by_cases c1 : 1 ≤ s.length ∧ s.length ≤ 6
    · simp [e1, e2, c1]
      refine callG f2 ?_
      simp [← hR, hI, c1]
    · have c2 : (decide (1 ≤ s.length) && decide (s.length ≤ 6)) = false := by simpa using c1
      simp only [e1, e2, c2]
      simp [← hR, c2]
end Go.AmC
