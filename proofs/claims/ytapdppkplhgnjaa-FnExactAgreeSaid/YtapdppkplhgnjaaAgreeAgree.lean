/- Part of a proof: see the last text of this folder. -/
import Derived.Test.YtapdppkplhgnjaaAgreeCl
set_option linter.unusedSimpArgs false
set_option linter.unusedVariables false
set_option maxRecDepth 20000
set_option maxHeartbeats 4000000
namespace Go.AmC
open Go Go.AM
open Go.Proofs.Try (prog)

theorem same_take {α : Type} {xs ys : List α} {i : Nat} {x y : α} (h : xs.take i = ys.take i) (hx : xs[i]? = some x) (hy : ys[i]? = some y) (e : x = y) : xs.take (i + 1) = ys.take (i + 1) := by
  rw [List.take_add_one, List.take_add_one, h, hx, hy, e]
theorem same_at {α : Type} {xs ys : List α} {i : Nat} {x y : α} (hx : xs[i]? = some x) (hy : ys[i]? = some y) (e : ¬ x = y) : ¬ xs = ys := by
  intro h; subst h; rw [hx] at hy; exact e (Option.some.inj hy)

theorem ints_spec (xs ys : List Int) (hm : xs.length ≤ 1048576) : Says prog 57 [.rsl (List.length xs) (Cs ((List.flatMap dInt xs))), .rsl (List.length ys) (Cs ((List.flatMap dInt ys)))] (.bool (decide (xs = ys))) [] := by
  refine Fn_G Go.Proofs.Try.func57 ok57 ?_
  by_cases hl : xs.length = ys.length
  · generalize hR : decide (xs = ys) = R0
    simp [v57, r57, ← hl]
    refine G_loop (l := l57_0) (b := b57_0) rfl [] (fun i => [.rsl (List.length xs) (Cs ((List.flatMap dInt xs))), .rsl (List.length xs) (Cs ((List.flatMap dInt ys))), .bool false, .dead, .int .i64 (i : Int), .dead, .dead]) (fun i => xs.take i = ys.take i) xs.length
      (fun ex en => (xs = ys ∧ ex = .exit 0 ∧ en = [.rsl (List.length xs) (Cs ((List.flatMap dInt xs))), .rsl (List.length xs) (Cs ((List.flatMap dInt ys))), .bool false, .dead, .int .i64 xs.length, .dead, .dead]) ∨ (xs ≠ ys ∧ ex = .ret ∧ ∃ i : Int, en = [.rsl (List.length xs) (Cs ((List.flatMap dInt xs))), .rsl (List.length xs) (Cs ((List.flatMap dInt ys))), .bool false, .dead, .int .i64 i, .dead, .dead])) ?_ ?_ (by simp) (by simp) ?_
    · intro i hi hI q hn hx hr
      obtain ⟨x, hx0⟩ : ∃ x, xs[i]? = some x := ⟨_, List.getElem?_eq_getElem hi⟩
      obtain ⟨y, hy0⟩ : ∃ y, ys[i]? = some y := ⟨_, List.getElem?_eq_getElem (by omega)⟩
      have hrow := row_drop dInt 1 (fun _ => by simp) hx0
      have hrow2 := row_drop dInt 1 (fun _ => by simp) hy0
      rw [Nat.mul_one] at hrow hrow2
      have hw : IntKind.i64.wrap ((i : Int) + 1) = ((i + 1 : Nat) : Int) := by rw [wrap_small] <;> omega
      by_cases c : x = y
      · simp [hi, Cs_drop, hrow, hrow2, hw, c]
        exact hn _ (by simp) (same_take hI hx0 hy0 c)
      · simp [hi, Cs_drop, hrow, hrow2, hw, c]
        exact hr _ (.inr ⟨same_at hx0 hy0 c, rfl, i, rfl⟩)
    · intro hI q hx hr
      rw [List.take_length, hl, List.take_length] at hI
      simp
      exact hx _ _ (.inl ⟨hI, rfl, by simp⟩)
    · rintro ex en (⟨h1, rfl, rfl⟩ | ⟨h1, rfl, i, rfl⟩)
      · simp [← hR, h1]
      · simp [← hR, h1]
  · have : ¬ xs = ys := fun h => hl (by rw [h])
    have hl' : ¬ ((xs.length : Int) = ys.length) := by omega
    simp [v57, r57, this, hl, hl']
theorem ints_impl (xs ys : List Int) (hm : xs.length ≤ 1048576) : Says prog 61 [.rsl (List.length xs) (Cs ((List.flatMap dInt xs))), .rsl (List.length ys) (Cs ((List.flatMap dInt ys)))] (.bool (decide (xs = ys))) [] := by
  refine Fn_G Go.Proofs.Try.func61 ok61 ?_
  by_cases hl : xs.length = ys.length
  · generalize hR : decide (xs = ys) = R0
    simp [v61, r61, ← hl]
    refine G_loop (l := l61_0) (b := b61_0) rfl [7] (fun i => [.rsl (List.length xs) (Cs ((List.flatMap dInt xs))), .rsl (List.length xs) (Cs ((List.flatMap dInt ys))), .bool false, .dead, .int .i64 xs.length, .int .i64 (i : Int), .dead, .dead, .dead]) (fun i => xs.take i = ys.take i) xs.length
      (fun ex en => (xs = ys ∧ ex = .exit 0 ∧ en = [.rsl (List.length xs) (Cs ((List.flatMap dInt xs))), .rsl (List.length xs) (Cs ((List.flatMap dInt ys))), .bool false, .dead, .int .i64 xs.length, .int .i64 xs.length, .dead, .dead, .dead]) ∨ (xs ≠ ys ∧ ex = .ret ∧ ∃ i j : Int, en = [.rsl (List.length xs) (Cs ((List.flatMap dInt xs))), .rsl (List.length xs) (Cs ((List.flatMap dInt ys))), .bool false, .dead, .int .i64 xs.length, .int .i64 i, .dead, .int .i64 j, .dead])) ?_ ?_ (by simp) (by simp) ?_
    · intro i hi hI q hn hx hr
      obtain ⟨x, hx0⟩ : ∃ x, xs[i]? = some x := ⟨_, List.getElem?_eq_getElem hi⟩
      obtain ⟨y, hy0⟩ : ∃ y, ys[i]? = some y := ⟨_, List.getElem?_eq_getElem (by omega)⟩
      have hrow := row_drop dInt 1 (fun _ => by simp) hx0
      have hrow2 := row_drop dInt 1 (fun _ => by simp) hy0
      rw [Nat.mul_one] at hrow hrow2
      have hw : IntKind.i64.wrap ((i : Int) + 1) = ((i + 1 : Nat) : Int) := by rw [wrap_small] <;> omega
      by_cases c : x = y
      · simp [hi, Cs_drop, hrow, hrow2, hw, c]
        exact hn _ (by simp) (same_take hI hx0 hy0 c)
      · simp [hi, Cs_drop, hrow, hrow2, hw, c]
        exact hr _ (.inr ⟨same_at hx0 hy0 c, rfl, i, i, rfl⟩)
    · intro hI q hx hr
      rw [List.take_length, hl, List.take_length] at hI
      simp
      exact hx _ _ (.inl ⟨hI, rfl, by simp⟩)
    · rintro ex en (⟨h1, rfl, rfl⟩ | ⟨h1, rfl, i, j, rfl⟩)
      · simp [← hR, h1]
      · simp [← hR, h1]
  · have : ¬ xs = ys := fun h => hl (by rw [h])
    have hl' : ¬ ((xs.length : Int) = ys.length) := by omega
    simp [v61, r61, this, hl, hl']
theorem fn_impl (xs ys : List (List Int)) (hm : xs.length ≤ 1048576) (hs : ∀ x ∈ xs, x.length ≤ 1048576) : Says prog 77 [.rsl (List.length xs) (Cs ((List.flatMap dIntS xs))), .rsl (List.length ys) (Cs ((List.flatMap dIntS ys))), .fn 61 []] (.bool (decide (xs = ys))) [] := by
  refine Fn_G Go.Proofs.Try.func77 ok77 ?_
  have hpl : plainFn prog 61 = true := by kernel_rfl
  by_cases hl : xs.length = ys.length
  · generalize hR : decide (xs = ys) = R0
    simp [v77, r77, ← hl]
    refine G_loop (l := l77_0) (b := b77_0) rfl [9, 10, 11] (fun i => [.rsl (List.length xs) (Cs ((List.flatMap dIntS xs))), .rsl (List.length xs) (Cs ((List.flatMap dIntS ys))), .fn 61 [], .bool false, .dead, .rsl (List.length xs) (Cs ((List.flatMap dIntS xs))), .int .i64 xs.length, .int .i64 (i : Int), .dead, .dead, .dead, .dead, .dead]) (fun i => xs.take i = ys.take i) xs.length
      (fun ex en => (xs = ys ∧ ex = .exit 0 ∧ en = [.rsl (List.length xs) (Cs ((List.flatMap dIntS xs))), .rsl (List.length xs) (Cs ((List.flatMap dIntS ys))), .fn 61 [], .bool false, .dead, .rsl (List.length xs) (Cs ((List.flatMap dIntS xs))), .int .i64 xs.length, .int .i64 xs.length, .dead, .dead, .dead, .dead, .dead]) ∨ (xs ≠ ys ∧ ex = .ret ∧ ∃ (i j : Int) (x y : List Int), en = [.rsl (List.length xs) (Cs ((List.flatMap dIntS xs))), .rsl (List.length xs) (Cs ((List.flatMap dIntS ys))), .fn 61 [], .bool false, .dead, .rsl (List.length xs) (Cs ((List.flatMap dIntS xs))), .int .i64 xs.length, .int .i64 i, .dead, .int .i64 j, .rsl x.length (Cs (x.flatMap dInt)), .rsl y.length (Cs (y.flatMap dInt)), .dead])) ?_ ?_ (by simp) (by simp) ?_
    · intro i hi hI q hn hx hr
      obtain ⟨x, hx0⟩ : ∃ x, xs[i]? = some x := ⟨_, List.getElem?_eq_getElem hi⟩
      obtain ⟨y, hy0⟩ : ∃ y, ys[i]? = some y := ⟨_, List.getElem?_eq_getElem (by omega)⟩
      have hrow := row_drop dIntS 1 (fun _ => by simp) hx0
      have hrow2 := row_drop dIntS 1 (fun _ => by simp) hy0
      rw [Nat.mul_one] at hrow hrow2
      have hw : IntKind.i64.wrap ((i : Int) + 1) = ((i + 1 : Nat) : Int) := by rw [wrap_small] <;> omega
      have hf := ints_impl x y (hs x (List.mem_of_getElem? hx0))
      simp [hi, Cs_drop, hrow, hrow2, hw]
      refine callV hpl hf ?_
      by_cases c : x = y
      · simp [hw, c]
        exact hn _ (by simp) (same_take hI hx0 hy0 c)
      · simp [hw, c]
        exact hr _ (.inr ⟨same_at hx0 hy0 c, rfl, i, i, x, y, rfl⟩)
    · intro hI q hx hr
      rw [List.take_length, hl, List.take_length] at hI
      simp
      exact hx _ _ (.inl ⟨hI, rfl, by simp⟩)
    · rintro ex en (⟨h1, rfl, rfl⟩ | ⟨h1, rfl, i, j, x, y, rfl⟩)
      · simp [← hR, h1]
      · simp [← hR, h1]
  · have : ¬ xs = ys := fun h => hl (by rw [h])
    have hl' : ¬ ((xs.length : Int) = ys.length) := by omega
    simp [v77, r77, this, hl, hl']

def sameSto (a b : Sto) : Bool := decide (a.A = b.A) && decide (a.V = b.V) && decide (a.Out = b.Out) && decide (a.End = b.End)
theorem tInt_mem {x : Sto} {xs : List Int} (h : xs ∈ x.A) : xs.length ≤ x.tot := by
  have := mem_sum tIntS h; rw [x.tot_eq]; unfold tIntS at *; omega
theorem sto_spec (a b : Sto) (ha : a.tot ≤ 1048576) (hb : b.tot ≤ 1048576) : Says prog 58 [.agg (Cs a.d), .agg (Cs b.d)] (.bool (sameSto a b)) [] := by
  have hA : a.A.length ≤ 1048576 ∧ a.V.length ≤ 1048576 ∧ a.Out.length ≤ 1048576 := by have := a.tot_eq; omega
  refine Fn_G Go.Proofs.Try.func58 ok58 ?_
  generalize hR : sameSto a b = R0
  have fV := ints_spec a.V b.V hA.2.1
  have fO := ints_spec a.Out b.Out hA.2.2
  by_cases cl : a.A.length = b.A.length
  · by_cases cV : a.V = b.V
    · by_cases cO : a.Out = b.Out
      · by_cases cE : a.End = b.End
        · simp [cV] at fV
          simp [cO] at fO
          simp [v58, r58, ← cl, cV, cO, cE]
          refine callG fV ?_
          simp [cE]
          refine callG fO ?_
          simp [cE]
          generalize hcb : [AV.rsl a.A.length (Cs (List.flatMap dIntS b.A)), AV.rsl b.V.length (Cs (List.flatMap dInt b.V)), AV.rsl b.Out.length (Cs (List.flatMap dInt b.Out)), AV.int .i64 b.End] = cb
          generalize hca : [AV.rsl a.A.length (Cs (List.flatMap dIntS a.A)), AV.rsl b.V.length (Cs (List.flatMap dInt b.V)), AV.rsl b.Out.length (Cs (List.flatMap dInt b.Out)), AV.int .i64 b.End] = ca
          refine G_loop (l := l58_0) (b := b58_0) rfl [] (fun i => [.agg ca, .agg cb, .bx 0 72 ca, .bx 0 72 cb, .bool false, .dead, .int .i64 (i : Int), .dead, .dead]) (fun i => a.A.take i = b.A.take i) a.A.length
            (fun ex en => (a.A = b.A ∧ ex = .exit 0 ∧ en = [.agg ca, .agg cb, .bx 0 72 ca, .bx 0 72 cb, .bool false, .dead, .int .i64 a.A.length, .dead, .dead]) ∨ (a.A ≠ b.A ∧ ex = .ret ∧ ∃ i : Int, en = [.agg ca, .agg cb, .bx 0 72 ca, .bx 0 72 cb, .bool false, .dead, .int .i64 i, .dead, .dead])) ?_ ?_ (by simp) (by simp) ?_
          · subst hca; subst hcb
            intro i hi hI q hn hx hr
            obtain ⟨x, hx0⟩ : ∃ x, a.A[i]? = some x := ⟨_, List.getElem?_eq_getElem hi⟩
            obtain ⟨y, hy0⟩ : ∃ y, b.A[i]? = some y := ⟨_, List.getElem?_eq_getElem (by omega)⟩
            have hrow := row_drop dIntS 1 (fun _ => by simp) hx0
            have hrow2 := row_drop dIntS 1 (fun _ => by simp) hy0
            rw [Nat.mul_one] at hrow hrow2
            have hw : IntKind.i64.wrap ((i : Int) + 1) = ((i + 1 : Nat) : Int) := by rw [wrap_small] <;> omega
            have hf := ints_spec x y (by have := tInt_mem (List.mem_of_getElem? hx0); omega)
            by_cases c : x = y
            · simp [c] at hf
              simp [hi, Cs_drop, hrow, hrow2, hw, c]
              refine callD hf ?_
              simp [hw]
              exact hn _ (by simp) (same_take hI hx0 hy0 c)
            · simp [c] at hf
              simp [hi, Cs_drop, hrow, hrow2, hw]
              refine callD hf ?_
              simp [hw]
              exact hr _ (.inr ⟨same_at hx0 hy0 c, rfl, i, rfl⟩)
          · subst hca; subst hcb
            intro hI q hx hr
            rw [List.take_length, cl, List.take_length] at hI
            simp
            exact hx _ _ (.inl ⟨hI, rfl, by simp⟩)
          · subst hca; subst hcb
            rintro ex en (⟨h1, rfl, rfl⟩ | ⟨h1, rfl, i, rfl⟩)
            · simp [← hR, sameSto, h1, cV, cO, cE]
            · simp [← hR, sameSto, h1, cV, cO, cE]
        · simp [cV] at fV
          simp [cO] at fO
          simp [v58, r58, ← cl, cV, cO, cE]
          refine callG fV ?_
          simp [cE]
          refine callG fO ?_
          simp [cE, ← hR, sameSto]
      · simp [cV] at fV
        simp [cO] at fO
        simp [v58, r58, ← cl, cV]
        refine callG fV ?_
        simp
        refine callG fO ?_
        simp [cO, ← hR, sameSto]
    · simp [cV] at fV
      simp [v58, r58, ← cl]
      refine callG fV ?_
      simp [cV, ← hR, sameSto]
  · have : ¬ a.A = b.A := fun h => cl (by rw [h])
    have cl' : ¬ ((a.A.length : Int) = b.A.length) := by omega
    simp [v58, r58, cl', cl, ← hR, sameSto, this]
theorem sto_impl (a b : Sto) (ha : a.tot ≤ 1048576) (hb : b.tot ≤ 1048576) : Says prog 62 [.agg (Cs a.d), .agg (Cs b.d)] (.bool (sameSto a b)) [] := by
  have hA : a.A.length ≤ 1048576 ∧ a.V.length ≤ 1048576 ∧ a.Out.length ≤ 1048576 := by have := a.tot_eq; omega
  refine Fn_G Go.Proofs.Try.func62 ok62 ?_
  generalize hR : sameSto a b = R0
  have fV := ints_impl a.V b.V hA.2.1
  have fO := ints_impl a.Out b.Out hA.2.2
  have fA := fn_impl a.A b.A hA.1 (fun x hx => by have := tInt_mem hx; omega)
  by_cases cE : a.End = b.End
  · by_cases cV : a.V = b.V
    · by_cases cO : a.Out = b.Out
      · simp [cV] at fV
        simp [cO] at fO
        simp [v62, r62, cV, cO, cE]
        refine callG fV ?_
        simp
        refine callG fO ?_
        simp
        refine callG fA ?_
        simp [← hR, sameSto, cV, cO, cE]
      · simp [cV] at fV
        simp [cO] at fO
        simp [v62, r62, cV, cE]
        refine callG fV ?_
        simp
        refine callG fO ?_
        simp [cO, ← hR, sameSto]
    · simp [cV] at fV
      simp [v62, r62, cE]
      refine callG fV ?_
      simp [cV, ← hR, sameSto]
  · simp [v62, r62, cE, ← hR, sameSto]
def agreeB (a b : Sto) : Bool := decide (a.End = b.End) && decide (a.Out = b.Out) && (!(decide (a.End = 0)) || sameSto a b)
theorem agree_spec (p : Prog) (a b : Sto) (ha : a.tot ≤ 1048576) (hb : b.tot ≤ 1048576) : Says prog 29 [.agg (Cs p.d), .agg (Cs a.d), .agg (Cs b.d)] (.bool (agreeB a b)) [] := by
  have hA : a.Out.length ≤ 1048576 := by have := a.tot_eq; omega
  refine Fn_G Go.Proofs.Try.func29 ok29 ?_
  generalize hR : agreeB a b = R0
  have fO := ints_spec a.Out b.Out hA
  have fS := sto_spec a b ha hb
  simp at fS
  by_cases cE : a.End = b.End
  · by_cases cO : a.Out = b.Out
    · simp [cO] at fO
      by_cases c0 : b.End = 0
      · simp [cE, cO, c0] at fS
        simp [v29, r29, cE, cO, c0]
        refine callG fO ?_
        simp
        refine callG fS ?_
        simp [← hR, agreeB, cO, cE, c0]
      · simp [v29, r29, cE, cO, c0]
        refine callG fO ?_
        simp [← hR, agreeB, cO, cE, c0]
    · simp [cO] at fO
      simp [v29, r29, cE]
      refine callG fO ?_
      simp [cO, ← hR, agreeB]
  · simp [v29, r29, cE, ← hR, agreeB]
theorem agree_impl (p : Prog) (a b : Sto) (ha : a.tot ≤ 1048576) (hb : b.tot ≤ 1048576) : Says prog 32 [.agg (Cs p.d), .agg (Cs a.d), .agg (Cs b.d)] (.bool (agreeB a b)) [] := by
  have hA : a.Out.length ≤ 1048576 := by have := a.tot_eq; omega
  refine Fn_G Go.Proofs.Try.func32 ok32 ?_
  generalize hR : agreeB a b = R0
  have fO := ints_impl a.Out b.Out hA
  have fS := sto_impl a b ha hb
  simp at fS
  by_cases cE : a.End = b.End
  · by_cases cO : a.Out = b.Out
    · simp [cO] at fO
      by_cases c0 : b.End = 0
      · simp [cE, cO, c0] at fS
        simp [v32, r32, cE, cO, c0]
        refine callG fO ?_
        simp
        refine callG fS ?_
        simp [← hR, agreeB, cO, cE, c0]
      · simp [v32, r32, cE, cO, c0]
        refine callG fO ?_
        simp [← hR, agreeB, cO, cE, c0]
    · simp [cO] at fO
      simp [v32, r32, cE]
      refine callG fO ?_
      simp [cO, ← hR, agreeB]
  · simp [v32, r32, cE, ← hR, agreeB]
theorem law_Agree (p : Prog) (a : Sto) (b : Sto) (h1 : Prog.lg p) (h2 : Sto.lg a) (h3 : Sto.lg b) : Says prog 7 [.agg (Cs (Prog.d p)), .agg (Cs (Sto.d a)), .agg (Cs (Sto.d b))] (.bool true) [] := by
  refine Fn_G Go.Proofs.Try.func7 ok7 ?_
  have z1 := sz_Prog p h1 ((1048576 : Int)) (by omega) (by omega)
  by_cases c1 : ((Prog.tot p : Nat) : Int) ≤ (1048576 : Int)
  · have e1 : szR (Prog.tot p) ((1048576 : Int)) = (1048576 : Int) - (Prog.tot p : Nat) := by unfold szR; rw [if_pos c1]
    have d1 : ¬ ((1048576 : Int) - (Prog.tot p : Nat) < 0) := by omega
    rw [e1] at z1
    have z2 := sz_Sto a h2 ((1048576 : Int) - (Prog.tot p : Nat)) (by omega) (by omega)
    by_cases c2 : ((Sto.tot a : Nat) : Int) ≤ (1048576 : Int) - (Prog.tot p : Nat)
    · have e2 : szR (Sto.tot a) ((1048576 : Int) - (Prog.tot p : Nat)) = (1048576 : Int) - (Prog.tot p : Nat) - (Sto.tot a : Nat) := by unfold szR; rw [if_pos c2]
      have d2 : ¬ ((1048576 : Int) - (Prog.tot p : Nat) - (Sto.tot a : Nat) < 0) := by omega
      rw [e2] at z2
      have z3 := sz_Sto b h3 ((1048576 : Int) - (Prog.tot p : Nat) - (Sto.tot a : Nat)) (by omega) (by omega)
      by_cases c3 : ((Sto.tot b : Nat) : Int) ≤ (1048576 : Int) - (Prog.tot p : Nat) - (Sto.tot a : Nat)
      · have e3 : szR (Sto.tot b) ((1048576 : Int) - (Prog.tot p : Nat) - (Sto.tot a : Nat)) = (1048576 : Int) - (Prog.tot p : Nat) - (Sto.tot a : Nat) - (Sto.tot b : Nat) := by unfold szR; rw [if_pos c3]
        have d3 : ¬ ((1048576 : Int) - (Prog.tot p : Nat) - (Sto.tot a : Nat) - (Sto.tot b : Nat) < 0) := by omega
        rw [e3] at z3
        have b1 : Prog.tot p ≤ 1048576 := by omega
        have t1 := to_Prog p b1
        have q1 := eq_Prog p h1
        have b2 : Sto.tot a ≤ 1048576 := by omega
        have t2 := to_Sto a b2
        have q2 := eq_Sto a h2
        have b3 : Sto.tot b ≤ 1048576 := by omega
        have t3 := to_Sto b b3
        have q3 := eq_Sto b h3
        have f1 := agree_spec p a b b2 b3
        have f2 := agree_impl p a b b2 b3
        try simp at z1
        try simp at z2
        try simp at z3
        try simp at t1
        try simp at q1
        try simp at t2
        try simp at q2
        try simp at t3
        try simp at q3
        try simp at f1
        try simp at f2
        simp [v7, r7]
        repeat' (first | refine callG (by assumption) ?_ | refine callD (by assumption) ?_ | (simp [d1, d2, d3]; done) | simp [d1, d2, d3])
      · have e3 : szR (Sto.tot b) ((1048576 : Int) - (Prog.tot p : Nat) - (Sto.tot a : Nat)) = -1 := by unfold szR; rw [if_neg c3]
        rw [e3] at z3
        try simp at z1
        try simp at z2
        try simp at z3
        simp [v7, r7]
        repeat' (first | refine callG (by assumption) ?_ | (simp [d1, d2]; done) | simp [d1, d2])
    · have e2 : szR (Sto.tot a) ((1048576 : Int) - (Prog.tot p : Nat)) = -1 := by unfold szR; rw [if_neg c2]
      rw [e2] at z2
      try simp at z1
      try simp at z2
      simp [v7, r7]
      repeat' (first | refine callG (by assumption) ?_ | (simp [d1]; done) | simp [d1])
  · have e1 : szR (Prog.tot p) ((1048576 : Int)) = -1 := by unfold szR; rw [if_neg c1]
    rw [e1] at z1
    try simp at z1
    simp [v7, r7]
    repeat' (first | refine callG (by assumption) ?_ | (simp []; done) | simp [])

end Go.AmC
