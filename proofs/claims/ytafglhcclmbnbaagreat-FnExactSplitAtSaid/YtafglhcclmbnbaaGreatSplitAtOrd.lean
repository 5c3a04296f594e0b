/- Part of a proof: see the last text of this folder. -/
import Derived.Test.YtafglhcclmbnbaaGreatSplitAtStC
import Derived.Test.YtafglhcclmbnbaaGreatSplitAtCnt
import Derived.Sort.Walk0
import Derived.Lib.SlicesCompact
/- Part of a proof: see the last text of this folder. -/
set_option linter.unusedSimpArgs false
set_option linter.unusedVariables false
set_option maxRecDepth 20000
set_option maxHeartbeats 8000000
namespace Go.AmC
open Go Go.AM
open Go.Proofs.Tryz (prog)
theorem stmt_spec1 (x : Stmt) (hx : x.tot ≤ 5000000) (d : Int) (g0 : 0 ≤ d) (g1 : d ≤ 3) (hno : loopB d x = false) : Says prog 165 [.agg (Cs x.d), .int .i64 d] (.int .i64 (cnS d x : Nat)) [] := by
  have ht := x.tot_eq
  have f1 := in_spec x.K 1 4
  have zA := zero_spec x.At
  have zE := zero_spec x.E
  have zL := zero_spec x.Lo
  have zH := zero_spec x.Hi
  have eA := expOk_spec x.At (by omega)
  have eE := expOk_spec x.E (by omega)
  have eL := expOk_spec x.Lo (by omega)
  have eH := expOk_spec x.Hi (by omega)
  have f7 := nm_spec x.S (by omega)
  refine Fn_G Go.Proofs.Tryz.func165 ok165 ?_
  rw [cnS_eq]
  have h0 : ((x.Body.length : Int) == 0) = decide (x.Body.length = 0) := by rw [Bool.eq_iff_iff]; simp
  simp at zA zE zL zH eA eE eL eH f7
  generalize hzA : zeroB x.At = bzA at zA
  generalize hzE : zeroB x.E = bzE at zE
  generalize hzL : zeroB x.Lo = bzL at zL
  generalize hzH : zeroB x.Hi = bzH at zH
  generalize heA : expOk x.At = beA at eA
  generalize heE : expOk x.E = beE at eE
  generalize heL : expOk x.Lo = beL at eL
  generalize heH : expOk x.Hi = beH at eH
  generalize hnm : nameOk x.S = bnm at f7
  have hown0 : ownB x = ((decide (1 ≤ x.K) && decide (x.K ≤ 4)) && (fieldB x.At (decide (x.K = 2)) && (fieldB x.E (decide (x.K ≠ 3)) && (fieldB x.Lo (decide (x.K = 3)) && (fieldB x.Hi (decide (x.K = 3)) && (if x.K = 4 then decide (x.S = []) else nameOk x.S)))))) := rfl
  by_cases c0 : 1 ≤ x.K ∧ x.K ≤ 4
  · have c00 : (decide (1 ≤ x.K) && decide (x.K ≤ 4)) = true := by simpa using c0
    rw [c00] at f1
    have hK : x.K = 1 ∨ x.K = 2 ∨ x.K = 4 ∨ x.K = 3 := by omega
    rcases hK with k | k | k | k
    · have hown : ownB x = (bzA && (beE && (bzL && (bzH && (bnm))))) := by rw [hown0]; simp [k, fieldB, hzA, hzE, hzL, hzH, heA, heE, heL, heH, hnm]
      rw [hown]
      simp only [k] at f1
      try simp at f1
      cases bzA
      · simp [v165, r165, k]
        repeat' (first | refine callG (by assumption) ?_ | refine callD (by assumption) ?_ | simp [k])
      cases beE
      · simp [v165, r165, k]
        repeat' (first | refine callG (by assumption) ?_ | refine callD (by assumption) ?_ | simp [k])
      cases bzL
      · simp [v165, r165, k]
        repeat' (first | refine callG (by assumption) ?_ | refine callD (by assumption) ?_ | simp [k])
      cases bzH
      · simp [v165, r165, k]
        repeat' (first | refine callG (by assumption) ?_ | refine callD (by assumption) ?_ | simp [k])
      cases bnm
      · simp [v165, r165, k]
        repeat' (first | refine callG (by assumption) ?_ | refine callD (by assumption) ?_ | simp [k])
      by_cases cB : x.Body.length = 0
      · have cB' : x.Body = [] := List.eq_nil_of_length_eq_zero cB
        simp [v165, r165, k]
        repeat' (first | refine callG (by assumption) ?_ | refine callD (by assumption) ?_ | simp [k, cB'])
      · have cB' : 0 < x.Body.length := by omega
        have cB2 : ¬ x.Body = [] := fun h => cB (by rw [h]; rfl)
        simp [v165, r165, k]
        repeat' (first | refine callG (by assumption) ?_ | refine callD (by assumption) ?_ | simp [k, cB', cB2])
    · have hown : ownB x = (beA && (beE && (bzL && (bzH && (bnm))))) := by rw [hown0]; simp [k, fieldB, hzA, hzE, hzL, hzH, heA, heE, heL, heH, hnm]
      rw [hown]
      simp only [k] at f1
      try simp at f1
      cases beA
      · simp [v165, r165, k]
        repeat' (first | refine callG (by assumption) ?_ | refine callD (by assumption) ?_ | simp [k])
      cases beE
      · simp [v165, r165, k]
        repeat' (first | refine callG (by assumption) ?_ | refine callD (by assumption) ?_ | simp [k])
      cases bzL
      · simp [v165, r165, k]
        repeat' (first | refine callG (by assumption) ?_ | refine callD (by assumption) ?_ | simp [k])
      cases bzH
      · simp [v165, r165, k]
        repeat' (first | refine callG (by assumption) ?_ | refine callD (by assumption) ?_ | simp [k])
      cases bnm
      · simp [v165, r165, k]
        repeat' (first | refine callG (by assumption) ?_ | refine callD (by assumption) ?_ | simp [k])
      by_cases cB : x.Body.length = 0
      · have cB' : x.Body = [] := List.eq_nil_of_length_eq_zero cB
        simp [v165, r165, k]
        repeat' (first | refine callG (by assumption) ?_ | refine callD (by assumption) ?_ | simp [k, cB'])
      · have cB' : 0 < x.Body.length := by omega
        have cB2 : ¬ x.Body = [] := fun h => cB (by rw [h]; rfl)
        simp [v165, r165, k]
        repeat' (first | refine callG (by assumption) ?_ | refine callD (by assumption) ?_ | simp [k, cB', cB2])
    · have hown : ownB x = (bzA && (beE && (bzL && (bzH && (decide (x.S = [])))))) := by rw [hown0]; simp [k, fieldB, hzA, hzE, hzL, hzH, heA, heE, heL, heH, hnm]
      rw [hown]
      simp only [k] at f1
      try simp at f1
      cases bzA
      · simp [v165, r165, k]
        repeat' (first | refine callG (by assumption) ?_ | refine callD (by assumption) ?_ | simp [k])
      cases beE
      · simp [v165, r165, k]
        repeat' (first | refine callG (by assumption) ?_ | refine callD (by assumption) ?_ | simp [k])
      cases bzL
      · simp [v165, r165, k]
        repeat' (first | refine callG (by assumption) ?_ | refine callD (by assumption) ?_ | simp [k])
      cases bzH
      · simp [v165, r165, k]
        repeat' (first | refine callG (by assumption) ?_ | refine callD (by assumption) ?_ | simp [k])
      by_cases cS : x.S = []
      rotate_left
      · simp [v165, r165, k]
        repeat' (first | refine callG (by assumption) ?_ | refine callD (by assumption) ?_ | simp [k, cS])
      simp only [cS] at f7
      by_cases cB : x.Body.length = 0
      · have cB' : x.Body = [] := List.eq_nil_of_length_eq_zero cB
        simp [v165, r165, k]
        repeat' (first | refine callG (by assumption) ?_ | refine callD (by assumption) ?_ | simp [k, cB', cS])
      · have cB' : 0 < x.Body.length := by omega
        have cB2 : ¬ x.Body = [] := fun h => cB (by rw [h]; rfl)
        simp [v165, r165, k]
        repeat' (first | refine callG (by assumption) ?_ | refine callD (by assumption) ?_ | simp [k, cB', cB2, cS])
    · have hown : ownB x = (bzA && (bzE && (beL && (beH && (bnm))))) := by rw [hown0]; simp [k, fieldB, hzA, hzE, hzL, hzH, heA, heE, heL, heH, hnm]
      rw [hown]
      simp only [k] at f1
      try simp at f1
      cases bzA
      · simp [v165, r165, k]
        repeat' (first | refine callG (by assumption) ?_ | refine callD (by assumption) ?_ | simp [k])
      cases bzE
      · simp [v165, r165, k]
        repeat' (first | refine callG (by assumption) ?_ | refine callD (by assumption) ?_ | simp [k])
      cases beL
      · simp [v165, r165, k]
        repeat' (first | refine callG (by assumption) ?_ | refine callD (by assumption) ?_ | simp [k])
      cases beH
      · simp [v165, r165, k]
        repeat' (first | refine callG (by assumption) ?_ | refine callD (by assumption) ?_ | simp [k])
      cases bnm
      · simp [v165, r165, k]
        repeat' (first | refine callG (by assumption) ?_ | refine callD (by assumption) ?_ | simp [k])
      have g8 := in_spec (x.Body.length : Int) 1 6
      have e1 : decide ((1 : Int) ≤ (x.Body.length : Int)) = decide (1 ≤ x.Body.length) := decide_eq_decide.2 (by omega)
      have e2 : decide ((x.Body.length : Int) ≤ 6) = decide (x.Body.length ≤ 6) := decide_eq_decide.2 (by omega)
      rw [e1, e2] at g8
      unfold loopB at hno
      rw [hown] at hno
      by_cases c8 : d = 3
      · subst c8
        simp [v165, r165, k]
        repeat' (first | refine callG (by assumption) ?_ | refine callD (by assumption) ?_ | simp [k])
      have c8' : d < 3 := by omega
      have c8n : ¬ 3 ≤ d := by omega
      have hb : (decide (1 ≤ x.Body.length) && decide (x.Body.length ≤ 6)) = false := by simpa [k, c8'] using hno
      rw [hb] at g8
      have hb2 : ¬ (d < 3 ∧ 1 ≤ x.Body.length ∧ x.Body.length ≤ 6) := by simp at hb; omega
      rw [if_neg hb2]
      simp [v165, r165, k, c8n]
      repeat' (first | refine callG (by assumption) ?_ | refine callD (by assumption) ?_ | simp [k, c8n])
  · have c00 : (decide (1 ≤ x.K) && decide (x.K ≤ 4)) = false := by simpa using c0
    rw [c00] at f1
    have hown : ownB x = false := by rw [hown0, c00, Bool.false_and]
    rw [hown]
    have k2 : ¬ x.K = 2 := by omega
    have k3 : ¬ x.K = 3 := by omega
    have k4 : ¬ x.K = 4 := by omega
    try simp at f1
    cases bzA
    · simp [v165, r165, k2, k3, k4]
      repeat' (first | refine callG (by assumption) ?_ | refine callD (by assumption) ?_ | simp [k2, k3, k4])
    cases beE
    · simp [v165, r165, k2, k3, k4]
      repeat' (first | refine callG (by assumption) ?_ | refine callD (by assumption) ?_ | simp [k2, k3, k4])
    cases bzL
    · simp [v165, r165, k2, k3, k4]
      repeat' (first | refine callG (by assumption) ?_ | refine callD (by assumption) ?_ | simp [k2, k3, k4])
    cases bzH
    · simp [v165, r165, k2, k3, k4]
      repeat' (first | refine callG (by assumption) ?_ | refine callD (by assumption) ?_ | simp [k2, k3, k4])
    cases bnm
    · simp [v165, r165, k2, k3, k4]
      repeat' (first | refine callG (by assumption) ?_ | refine callD (by assumption) ?_ | simp [k2, k3, k4])
    simp [v165, r165, k2, k3, k4]
    repeat' (first | refine callG (by assumption) ?_ | refine callD (by assumption) ?_ | simp [k2, k3, k4])
end Go.AmC

/- Part of a proof: see the last text of this folder. -/
set_option linter.unusedSimpArgs false
set_option linter.unusedVariables false
set_option maxRecDepth 20000
set_option maxHeartbeats 8000000
namespace Go.AmC
open Go Go.AM
open Go.Proofs.Tryz (prog)
def accS (d : Int) (L : List Stmt) (i : Nat) : Nat := 1 + ((L.take i).map (cnS d)).sum
theorem accS_succ {d : Int} {L : List Stmt} {i : Nat} {y : Stmt} (hy : L[i]? = some y) : accS d L (i + 1) = accS d L i + cnS d y := by
  unfold accS
  rw [List.take_add_one, hy]
  simp; omega
theorem stmt_spec : ∀ x : Stmt, x.tot ≤ 5000000 → ∀ d : Int, 0 ≤ d → d ≤ 3 → Says prog 165 [.agg (Cs x.d), .int .i64 d] (.int .i64 (cnS d x : Nat)) [] := Stmt.ind fun x ih hx d g0 g1 => by
  cases hl : loopB d x
  · exact stmt_spec1 x hx d g0 g1 hl
  have ht := x.tot_eq
  unfold loopB at hl
  simp only [Bool.and_eq_true, decide_eq_true_eq] at hl
  obtain ⟨k, ho, c8, n1, n6⟩ := hl
  have hR : cnS d x = cnSL (d + 1) 1 x.Body := by
    rw [cnS_eq, if_pos ho, if_pos k, if_pos ⟨c8, n1, n6⟩]
  have ho2 := ho
  unfold ownB at ho2
  simp only [Bool.and_eq_true, k] at ho2
  obtain ⟨c00, b3, b4, b5, b6, b7⟩ := ho2
  simp [fieldB] at b3 b4 b5 b6
  rw [if_neg (by omega)] at b7
  have f1 := in_spec x.K 1 4
  have zA := zero_spec x.At
  have zE := zero_spec x.E
  have zL := zero_spec x.Lo
  have zH := zero_spec x.Hi
  have eE := expOk_spec x.E (by omega)
  have eL := expOk_spec x.Lo (by omega)
  have eH := expOk_spec x.Hi (by omega)
  have f7 := nm_spec x.S (by omega)
  have g8 := in_spec (x.Body.length : Int) 1 6
  have e1 : decide ((1 : Int) ≤ (x.Body.length : Int)) = true := decide_eq_true (by omega)
  have e2 : decide ((x.Body.length : Int) ≤ 6) = true := decide_eq_true (by omega)
  rw [e1, e2] at g8
  rw [b3] at zA
  rw [b4] at zE
  rw [b5] at eL
  rw [b6] at eH
  rw [b7] at f7
  simp [k] at f1 zA zE zL zH eE eL eH f7 g8
  have c8' : ¬ 3 ≤ d := by omega
  have hw3 : IntKind.i64.wrap (d + 1) = d + 1 := wrap64 (by omega) (by omega)
  refine Fn_G Go.Proofs.Tryz.func165 ok165 ?_
  rw [hR]
  generalize hRR : cnSL (d + 1) 1 x.Body = R
  simp [v165, r165, k, c8', n1, n6]
  iterate 20 (first | refine callG (by assumption) ?_ | simp [k, c8', n1, n6])
  refine G_for (l := l165_0) (b := b165_0) rfl [19] (fun i => [(17, .int .i64 (accS (d + 1) x.Body i : Nat)), (18, .int .i64 i)]) (fun i => cnSL (d + 1) (accS (d + 1) x.Body i) (x.Body.drop i) = R) x.Body.length (by simpa [accS] using hRR) (by simp [accS]) ?_ ?_
  · intro i hi hI q hn hx2 hr
    obtain ⟨y, hy0⟩ := get_some hi
    have hrow := row_drop Stmt.d 19 Stmt.d_len hy0
    have hwi := wrap_succ (i := i) (by omega)
    have hym := List.mem_of_getElem? hy0
    have fy := ih y hym (by have := mem_sum Stmt.tot hym; omega) (d + 1) (by omega) (by omega)
    have hle := cnS_le y (d + 1)
    have hs := accS_succ (d := d + 1) hy0
    rw [drop_cons hy0, cnSL] at hI
    rw [hs] at hn
    simp at fy
    generalize accS (d + 1) x.Body i = A at hn hI ⊢
    generalize cnS (d + 1) y = z at fy hn hI hle
    by_cases hA : A ≤ 40
    · rw [if_pos hA] at hI
      have hA' : (A : Int) ≤ 40 := by omega
      have hwa : IntKind.i64.wrap ((A : Int) + (z : Int)) = ((A + z : Nat) : Int) := by rw [wrap_small] <;> omega
      simp [hi, Cs_drop, hrow, hw3, hA']
      refine callG fy ?_
      simp at hwa
      simp [hwa, hwi]
      refine hn _ ?_ hI
      simp
    · rw [if_neg hA] at hI
      have hA' : ¬ (A : Int) ≤ 40 := by omega
      simp [hi, hA']
      refine hx2 _ _ ?_
      simp [← hI]
  · intro hI q hx2 hr
    simp [cnSL] at hI
    simp
    refine hx2 _ _ ?_
    simp [← hI]
theorem stOk_spec (x : Stmt) (hx : x.tot ≤ 5000000) : Says prog 92 [.agg (Cs x.d)] (.bool (stOk x)) [] := by
  have f1 := stmt_spec x hx 0 (by omega) (by omega)
  have hv := stOk_cn x
  simp at f1
  refine Fn_G Go.Proofs.Tryz.func92 ok92 ?_
  simp [v92, r92]
  refine callG f1 ?_
  try simp at hv
  simp [hv]
end Go.AmC

/- Part of a proof: see the last text of this folder. -/
set_option linter.unusedSimpArgs false
set_option linter.unusedVariables false
set_option maxRecDepth 20000
set_option maxHeartbeats 4000000
namespace Go.AmC
open Go Go.AM
open Go.Proofs (bytesLess_eq)
open Go.Proofs.Tryz (prog)
def ltO : Option (List UInt8) → List UInt8 → Bool
  | none, _ => true
  | some q, n => decide (q < n)
theorem bl_geq (p n : List UInt8) : (!Op.bytesLess p n) = !decide (p < n) := by rw [bytesLess_eq]
theorem bl_leq (n p : List UInt8) : (Op.bytesLess n p || n == p) = !decide (p < n) := by
  rw [bytesLess_eq]
  by_cases h1 : p < n
  · have h2 : ¬ n < p := fun h => List.lt_irrefl _ (List.lt_trans h h1)
    have h3 : ¬ n = p := fun h => List.lt_irrefl _ (h ▸ h1)
    simp [h1, h2, h3]
  · by_cases h2 : n < p
    · simp [h1, h2]
    · have : n = p := List.le_antisymm (List.not_lt.1 h1) (List.not_lt.1 h2)
      simp [h1, this]
end Go.AmC

/- Part of a proof: see the last text of this folder. -/
set_option linter.unusedSimpArgs false
set_option linter.unusedVariables false
set_option maxRecDepth 20000
set_option maxHeartbeats 8000000
namespace Go.AmC
open Go Go.AM
open Go.Proofs.Tryz (prog)
def okArr (p : Option (List UInt8)) : List Arr → Bool
  | [] => true
  | a :: l => nameOk a.Name && ((decide (1 ≤ a.Size) && decide (a.Size ≤ 16)) && (ltO p a.Name && okArr (some a.Name) l))
theorem okA_cons {p : Option (List UInt8)} {a : Arr} {l : List Arr} : okArr p (a :: l) = (nameOk a.Name && ((decide (1 ≤ a.Size) && decide (a.Size ≤ 16)) && (ltO p a.Name && okArr (some a.Name) l))) := by rw [okArr]
def prevA (l : List Arr) (i : Nat) : Option (List UInt8) := if i = 0 then none else (l[i - 1]?).map (·.Name)
theorem prevA_succ {l : List Arr} {i : Nat} {a : Arr} (h : l[i]? = some a) : prevA l (i + 1) = some a.Name := by simp [prevA, h]
theorem okA_step {l : List Arr} {i : Nat} {a : Arr} (h : l[i]? = some a) {b : Bool} (hI : okArr (prevA l i) (l.drop i) = b) :
    (nameOk a.Name && ((decide (1 ≤ a.Size) && decide (a.Size ≤ 16)) && (ltO (prevA l i) a.Name && okArr (prevA l (i + 1)) (l.drop (i + 1))))) = b := by
  rw [drop_cons h, okA_cons] at hI
  rw [prevA_succ h]; exact hI
def arrsB (l : List Arr) : Bool := okArr none l && decide (l.length ≤ 4)
theorem arrs_impl (l : List Arr) (hl : l.length + (l.map Arr.tot).sum ≤ 5000000) : Says prog 124 [.rsl l.length (Cs (l.flatMap Arr.d))] (.bool (arrsB l)) [] := by
  refine Fn_G Go.Proofs.Tryz.func124 ok124 ?_
  generalize hR : arrsB l = R0
  unfold arrsB at hR
  generalize hR2 : okArr none l = R2 at hR
  simp [v124, r124]
  refine G_for (l := l124_0) (b := b124_0) rfl [6, 7, 8] (fun i => [(4, .int .i64 i)]) (fun i => okArr (prevA l i) (l.drop i) = R2) l.length (by simpa [prevA] using hR2) (by simp) ?_ ?_
  · intro i hi hI q hn hx hr
    obtain ⟨y, hy0⟩ := get_some hi
    have hrow := row_drop Arr.d 2 Arr.d_len hy0
    have hw := wrap_succ (i := i) (by omega)
    have hI2 := okA_step hy0 hI
    have fN := nm_impl y.Name (by have := mem_sum Arr.tot (List.mem_of_getElem? hy0); rw [Arr.tot_eq] at this; omega)
    have fK := in_impl y.Size 1 16
    have bad : R2 = false → R0 = false := fun h => by rw [← hR, h]; rfl
    cases c1 : nameOk y.Name
    · rw [c1] at fN hI2
      simp [hi, Cs_drop, hrow, splice]
      refine callD fN ?_
      simp
      refine hr _ ?_
      simp at hI2
      simp [bad hI2]
    rw [c1] at fN hI2
    cases c3 : (decide (1 ≤ y.Size) && decide (y.Size ≤ 16))
    · rw [c3] at fK hI2
      simp at hI2
      simp [hi, Cs_drop, hrow, splice]
      refine callD fN ?_
      simp
      refine callD fK ?_
      simp
      refine hr _ ?_
      simp [bad hI2]
    rw [c3] at fK hI2
    simp only [Bool.true_and] at hI2
    simp [hi, Cs_drop, hrow, splice]
    refine callD fN ?_
    simp
    refine callD fK ?_
    cases i with
    | zero =>
      have hw1 : IntKind.i64.wrap 1 = 1 := by decide
      simp [hw1]
      exact hn _ (by simp) (by simpa [prevA, ltO] using hI2)
    | succ j =>
      obtain ⟨z, hz0⟩ := get_some (xs := l) (i := j) (by omega)
      have hrow2 := row_drop Arr.d 2 Arr.d_len hz0
      have hwj : IntKind.i64.wrap ((j : Int) + 1 - 1) = (j : Int) := by rw [wrap_small] <;> omega
      have hwj2 : IntKind.i64.wrap (j : Int) = (j : Int) := by rw [wrap_small] <;> omega
      have hj : (0 : Int) < (j : Int) + 1 := by omega
      have hj2 : j < l.length := by omega
      have hw3 : IntKind.i64.wrap ((j : Int) + 1 + 1) = (j : Int) + 1 + 1 := by rw [wrap_small] <;> omega
      rw [prevA_succ hz0] at hI2
      by_cases c4 : z.Name < y.Name
      · simp [hi, hj, hj2, hwj, hwj2, Cs_drop, hrow, hrow2, bl_geq, bl_leq, c4, hw3]
        exact hn _ (by simp) (by simpa [c4, ltO] using hI2)
      · simp [hi, hj, hj2, hwj, hwj2, Cs_drop, hrow, hrow2, bl_geq, bl_leq, c4, hw3]
        refine hr _ ?_
        simp [c4, ltO] at hI2
        simp [bad hI2]
  · intro hI q hx hr
    simp [okArr] at hI
    simp
    refine hx _ _ ?_
    have e : decide ((l.length : Int) ≤ 4) = decide (l.length ≤ 4) := decide_eq_decide.2 (by omega)
    simp [← hR, ← hI, e]
end Go.AmC

/- Part of a proof: see the last text of this folder. -/
set_option linter.unusedSimpArgs false
set_option linter.unusedVariables false
set_option maxRecDepth 20000
set_option maxHeartbeats 4000000
namespace Go.AmC
open Go Go.AM
open Go.Proofs (bytesLess_eq)
open Go.Proofs.Tryz (prog)
abbrev Nm := List UInt8
def putGo (s : Nm) : Bool → List Nm → List Nm
  | d, [] => if d then [] else [s]
  | d, x :: xs => (if !d && !decide (x < s) then [s] else []) ++ ((if x = s then [] else [x]) ++ putGo s (d || !decide (x < s)) xs)
def put (l : List Nm) (s : Nm) : List Nm := putGo s false l
theorem putGo_len (s : Nm) : ∀ (xs : List Nm) (d : Bool), (putGo s d xs).length ≤ xs.length + (if d then 0 else 1)
  | [], d => by cases d <;> simp [putGo]
  | x :: xs, d => by
    have h := putGo_len s xs (d || !decide (x < s))
    cases d <;> by_cases h1 : x < s <;> by_cases h2 : x = s <;> simp [putGo, h1, h2] at h ⊢ <;> omega
theorem put_len (l : List Nm) (s : Nm) : (put l s).length ≤ l.length + 1 := by simpa [put] using putGo_len s l false
theorem put_spec (l : List Nm) (s : Nm) (hl : l.length ≤ 4000000000) : Says prog 184 [.rsl l.length (Cs (l.flatMap dStr)), .str s] (.osl 0 9 (put l s).length (Ows ((put l s).flatMap dStr))) [] := by
  refine Fn_G Go.Proofs.Tryz.func184 ok184 ?_
  have hRl := put_len l s
  generalize hR : put l s = R at hRl ⊢
  simp [v184, r184]
  refine G_whl (α := Nat × Bool × List Nm) (l := l184_0) (b := b184_0) rfl [] (fun a => [(3, .osl 0 9 a.2.2.length (Ows (a.2.2.flatMap dStr))), (4, .bool a.2.1), (5, .int .i64 a.1)]) (fun a => l.length - a.1)
    (fun a => a.1 ≤ l.length ∧ a.2.2 ++ putGo s a.2.1 (l.drop a.1) = R) (0, false, []) ⟨by simp, by simpa [put] using hR⟩ (by simp) ?_
  rintro ⟨i, d, o⟩ ⟨hi, hI⟩ q hn hx hr
  simp only at hi hI
  have hol : o.length ≤ l.length + 1 := by have := congrArg List.length hI; simp at this; omega
  have hb1 : o.length + 1 ≤ bnd := by unfold bnd; omega
  have hb2 : o.length + 1 + 1 ≤ bnd := by unfold bnd; omega
  by_cases hil : i < l.length
  · obtain ⟨x, hx0⟩ := get_some hil
    have hrow := row_drop dStr 1 (fun _ => by simp) hx0
    rw [Nat.mul_one] at hrow
    have hw := wrap_succ (i := i) (by omega)
    rw [drop_cons hx0, putGo] at hI
    have hnx : ∀ d' o', o' ++ putGo s d' (l.drop (i + 1)) = R → ∀ e', e' = updE _ _ → q .normal e' := fun d' o' h e' he => hn e' (i + 1, d', o') he ⟨by omega, h⟩ (by simp only; omega)
    by_cases h2 : x = s
    · subst h2
      have h1 : ¬ x < x := List.lt_irrefl x
      cases d
      · simp [h1] at hI
        simp [hil, Cs_drop, hrow, hw, bytesLess_eq, h1, hb1]
        exact hnx true (o ++ [x]) (by simpa using hI) _ (by simp)
      · simp [h1] at hI
        simp [hil, Cs_drop, hrow, hw, bytesLess_eq, h1, hb1]
        exact hnx true o (by simpa using hI) _ (by simp)
    · by_cases h1 : x < s
      · cases d
        · simp [h1, h2] at hI
          simp [hil, Cs_drop, hrow, hw, bytesLess_eq, h1, h2, hb1]
          exact hnx false (o ++ [x]) (by simpa using hI) _ (by simp)
        · simp [h1, h2] at hI
          simp [hil, Cs_drop, hrow, hw, bytesLess_eq, h1, h2, hb1]
          exact hnx true (o ++ [x]) (by simpa using hI) _ (by simp)
      · cases d
        · simp [h1, h2] at hI
          simp [hil, Cs_drop, hrow, hw, bytesLess_eq, h1, h2, hb1, hb2]
          exact hnx true (o ++ [s, x]) (by simpa using hI) _ (by simp)
        · simp [h1, h2] at hI
          simp [hil, Cs_drop, hrow, hw, bytesLess_eq, h1, h2, hb1]
          exact hnx true (o ++ [x]) (by simpa using hI) _ (by simp)
  · have hie : i = l.length := by omega
    subst hie
    simp [putGo] at hI
    simp
    refine hx _ _ ?_
    cases d
    · simp at hI
      simp [hb1, ← hI]
    · simp at hI
      simp [← hI]
abbrev Sd (l : List Nm) : Prop := l.Pairwise (· < ·)
theorem putGo_true (s : Nm) : ∀ (xs : List Nm), (∀ x ∈ xs, s < x) → putGo s true xs = xs
  | [], _ => by simp [putGo]
  | x :: xs, h => by
    have h1 := h x (by simp)
    have h2 : ¬ x = s := fun e => List.lt_irrefl _ (e ▸ h1)
    simp [putGo, h2, putGo_true s xs fun y hy => h y (by simp [hy])]
theorem putGo_sd (s : Nm) : ∀ (xs : List Nm), Sd xs → Sd (putGo s false xs) ∧ ∀ x, x ∈ putGo s false xs ↔ x = s ∨ x ∈ xs
  | [], _ => by simp [putGo]
  | x :: xs, h => by
    obtain ⟨hx, hs⟩ := List.pairwise_cons.1 h
    obtain ⟨k1, k2⟩ := putGo_sd s xs hs
    by_cases h1 : x < s
    · have h2 : ¬ x = s := fun e => List.lt_irrefl _ (e ▸ h1)
      have e : putGo s false (x :: xs) = x :: putGo s false xs := by simp [putGo, h1, h2]
      rw [e]
      refine ⟨List.pairwise_cons.2 ⟨fun y hy => ?_, k1⟩, fun y => ?_⟩
      · rcases (k2 y).1 hy with rfl | hy
        · exact h1
        · exact hx y hy
      · rw [List.mem_cons, k2, List.mem_cons]
        exact ⟨fun h => by rcases h with h | h | h <;> simp only [h, true_or, or_true], fun h => by rcases h with h | h | h <;> simp only [h, true_or, or_true]⟩
    · by_cases h2 : x = s
      · subst h2
        have e : putGo x false (x :: xs) = x :: xs := by
          have h0 : ¬ x < x := List.lt_irrefl x
          simp [putGo, h0, putGo_true x xs hx]
        rw [e]
        exact ⟨h, fun y => by simp⟩
      · have h3 : s < x := by
          rcases List.le_total x s with h | h
          · exact absurd (List.le_antisymm h (List.not_lt.1 h1)) h2
          · exact List.not_le.1 fun h' => h2 (List.le_antisymm h' h)
        have e : putGo s false (x :: xs) = s :: x :: xs := by
          simp [putGo, h1, h2, putGo_true s xs fun y hy => List.lt_trans h3 (hx y hy)]
        rw [e]
        refine ⟨List.pairwise_cons.2 ⟨fun y hy => ?_, h⟩, fun y => by simp⟩
        rcases List.mem_cons.1 hy with rfl | hy
        · exact h3
        · exact List.lt_trans h3 (hx y hy)
theorem put_sd {l : List Nm} (h : Sd l) (s : Nm) : Sd (put l s) := (putGo_sd s l h).1
theorem mem_put {l : List Nm} (h : Sd l) (s x : Nm) : x ∈ put l s ↔ x = s ∨ x ∈ l := (putGo_sd s l h).2 x
theorem ord_ext {α : Type} {R : α → α → Prop} (hirr : ∀ x, ¬ R x x) (hasy : ∀ x y, R x y → ¬ R y x) : ∀ {xs ys : List α}, xs.Pairwise R → ys.Pairwise R → (∀ x, x ∈ xs ↔ x ∈ ys) → xs = ys
  | [], [], _, _, _ => rfl
  | [], y :: ys, _, _, h => absurd ((h y).2 (by simp)) (by simp)
  | x :: xs, [], _, _, h => absurd ((h x).1 (by simp)) (by simp)
  | x :: xs, y :: ys, h1, h2, h => by
    obtain ⟨a1, b1⟩ := List.pairwise_cons.1 h1
    obtain ⟨a2, b2⟩ := List.pairwise_cons.1 h2
    have e : x = y := by
      rcases List.mem_cons.1 ((h x).1 (by simp)) with e | hx
      · exact e
      · rcases List.mem_cons.1 ((h y).2 (by simp)) with e | hy
        · exact e.symm
        · exact absurd (a2 x hx) (hasy _ _ (a1 y hy))
    subst e
    rw [ord_ext hirr hasy b1 b2 fun z => ?_]
    constructor
    · intro hz
      rcases List.mem_cons.1 ((h z).1 (by simp [hz])) with e | hz'
      · subst e; exact absurd (a1 z hz) (hirr z)
      · exact hz'
    · intro hz
      rcases List.mem_cons.1 ((h z).2 (by simp [hz])) with e | hz'
      · subst e; exact absurd (a2 z hz) (hirr z)
      · exact hz'
theorem sd_ext {xs ys : List Nm} (h1 : Sd xs) (h2 : Sd ys) (h : ∀ x, x ∈ xs ↔ x ∈ ys) : xs = ys :=
  ord_ext (fun x => List.lt_irrefl x) (fun x y h h' => List.lt_irrefl x (List.lt_trans h h')) h1 h2 h
def idxOf (s : Nm) : List Nm → Nat → Int
  | [], _ => -1
  | x :: xs, i => if x = s then i else idxOf s xs (i + 1)
theorem index_impl (l : List Nm) (s : Nm) (hl : l.length ≤ 4000000000) : Says prog 259 [.rsl l.length (Cs (l.flatMap dStr)), .str s] (.int .i64 (idxOf s l 0)) [] := by
  refine Fn_G Go.Proofs.Tryz.func259 ok259 ?_
  generalize hR : idxOf s l 0 = R0
  simp [v259, r259]
  refine G_for (l := l259_0) (b := b259_0) rfl [6] (fun i => [(4, .int .i64 i)]) (fun i => idxOf s (l.drop i) i = R0) l.length (by simpa using hR) (by simp) ?_ ?_
  · intro i hi hI q hn hx hr
    obtain ⟨x, hx0⟩ := get_some hi
    have hrow := row_drop dStr 1 (fun _ => by simp) hx0
    rw [Nat.mul_one] at hrow
    have hw := wrap_succ (i := i) (by omega)
    rw [drop_cons hx0, idxOf] at hI
    by_cases c : x = s
    · simp [hi, Cs_drop, hrow, c]
      refine hr _ ?_
      rw [if_pos c] at hI
      simp [hI]
    · simp [hi, Cs_drop, hrow, Ne.symm c, hw]
      rw [if_neg c] at hI
      exact hn _ (by simp) hI
  · intro hI q hx hr
    simp [idxOf] at hI
    simp
    refine hx _ _ ?_
    simp [hI]
theorem idxOf_nonneg (s : Nm) : ∀ (l : List Nm) (i : Nat), (0 ≤ idxOf s l i) ↔ s ∈ l
  | [], i => by simp [idxOf]
  | x :: xs, i => by
    by_cases c : x = s
    · simp [idxOf, c]
    · simp [idxOf, c, Ne.symm c, idxOf_nonneg s xs]
theorem has_impl (l : List Nm) (s : Nm) (hl : l.length ≤ 4000000000) : Says prog 193 [.rsl l.length (Cs (l.flatMap dStr)), .str s] (.bool (decide (s ∈ l))) [] := by
  have f := index_impl l s hl
  refine Fn_G Go.Proofs.Tryz.func193 ok193 ?_
  simp [v193, r193]
  refine callG f ?_
  simp [idxOf_nonneg]
end Go.AmC

/- Part of a proof: see the last text of this folder. -/
set_option linter.unusedSimpArgs false
set_option linter.unusedVariables false
set_option maxRecDepth 20000
set_option maxHeartbeats 4000000
namespace Go.AmC
open Go Go.AM
def putAll (l : List Nm) (r : List Nm) : List Nm := r.foldl put l
theorem putAll_sd : ∀ {r l : List Nm}, Sd l → Sd (putAll l r) ∧ ∀ x, x ∈ putAll l r ↔ x ∈ l ∨ x ∈ r
  | [], l, h => ⟨h, fun x => by simp [putAll]⟩
  | s :: r, l, h => by
    obtain ⟨h1, h2⟩ := putAll_sd (r := r) (put_sd h s)
    refine ⟨h1, fun x => ?_⟩
    have := h2 x
    rw [mem_put h] at this
    show x ∈ putAll (put l s) r ↔ _
    rw [this, List.mem_cons]
    exact ⟨fun h => by rcases h with (h | h) | h <;> simp only [h, true_or, or_true], fun h => by rcases h with h | h | h <;> simp only [h, true_or, or_true]⟩
theorem putAll_len : ∀ (r l : List Nm), (putAll l r).length ≤ l.length + r.length
  | [], l => by simp [putAll]
  | s :: r, l => by
    have h1 := putAll_len r (put l s)
    have h2 := put_len l s
    show (putAll (put l s) r).length ≤ _
    simp only [List.length_cons]
    omega
def nrm (r : List Nm) : List Nm := putAll [] r
theorem nrm_sd (r : List Nm) : Sd (nrm r) := (putAll_sd (r := r) (l := []) List.Pairwise.nil).1
theorem mem_nrm (r : List Nm) (x : Nm) : x ∈ nrm r ↔ x ∈ r := by
  have := (putAll_sd (r := r) (l := []) List.Pairwise.nil).2 x
  simpa [nrm] using this
theorem nrm_len (r : List Nm) : (nrm r).length ≤ r.length := by
  have := putAll_len r []
  simpa [nrm] using this
theorem nrm_ext {a b : List Nm} (h : ∀ x, x ∈ a ↔ x ∈ b) : nrm a = nrm b :=
  sd_ext (nrm_sd a) (nrm_sd b) fun x => by rw [mem_nrm, mem_nrm, h]
theorem putAll_append (l a b : List Nm) : putAll l (a ++ b) = putAll (putAll l a) b := by simp [putAll]
section
open Go.Lib
theorem compact_sorted (d : Array Nm) (hs : ∀ i j, i ≤ j → j < d.size → d[i]! ≤ d[j]!) : ∀ m, m ≤ d.size → Sd (compactUpTo d m) ∧ ∀ x, x ∈ compactUpTo d m ↔ ∃ j, j < m ∧ d[j]! = x
  | 0, _ => by simp [compactUpTo]
  | m + 1, hm => by
    obtain ⟨h1, h2⟩ := compact_sorted d hs m (by omega)
    rw [compactUpTo_succ]
    by_cases hk : keeps d m = true
    · rw [if_pos hk]
      have hlt : ∀ j, j < m → d[j]! < d[m]! := by
        intro j hj
        have hne : d[m]! ≠ d[m - 1]! := by
          intro e
          have := keeps_neg (d := d) (m := m) (by omega) e
          rw [this] at hk; cases hk
        have h3 := hs j (m - 1) (by omega) (by omega)
        have h4 := hs (m - 1) m (by omega) (by omega)
        have h5 : d[m - 1]! < d[m]! := List.not_le.1 fun h => hne (List.le_antisymm h h4)
        exact List.not_le.1 fun h => absurd (List.le_trans h h3) (List.not_le.2 h5)
      refine ⟨?_, fun x => ?_⟩
      · refine List.pairwise_append.2 ⟨h1, by simp, fun a ha b hb => ?_⟩
        obtain ⟨j, hj, rfl⟩ := (h2 a).1 ha
        simp at hb; subst hb
        exact hlt j hj
      · rw [List.mem_append, h2]
        constructor
        · rintro (⟨j, hj, rfl⟩ | h)
          · exact ⟨j, by omega, rfl⟩
          · simp at h; exact ⟨m, by omega, h.symm⟩
        · rintro ⟨j, hj, rfl⟩
          by_cases e : j = m
          · subst e; simp
          · exact .inl ⟨j, by omega, rfl⟩
    · rw [if_neg hk, List.append_nil]
      refine ⟨h1, fun x => ?_⟩
      rw [h2]
      constructor
      · rintro ⟨j, hj, rfl⟩; exact ⟨j, by omega, rfl⟩
      · rintro ⟨j, hj, rfl⟩
        by_cases e : j = m
        · subst e
          have h0 : j ≠ 0 := by
            rintro rfl
            exact hk (by simp [keeps])
          refine ⟨j - 1, by omega, ?_⟩
          refine Classical.byContradiction fun hne => hk ?_
          exact keeps_pos (Ne.symm hne)
        · exact ⟨j, by omega, rfl⟩
theorem compact_nrm (zs : List Nm) : compact (zs.mergeSort fun x y => decide (x ≤ y)) = nrm zs := by
  have hp := List.mergeSort_perm zs (fun x y => decide (x ≤ y))
  have hso : (zs.mergeSort fun x y => decide (x ≤ y)).Pairwise fun x y => decide (x ≤ y) = true :=
    List.pairwise_mergeSort (le := fun x y : Nm => decide (x ≤ y)) (fun a b c h1 h2 => by simp only [decide_eq_true_eq] at *; exact List.le_trans h1 h2) (fun a b => by
      simp only [Bool.or_eq_true, decide_eq_true_eq]; exact List.le_total a b) zs
  generalize zs.mergeSort (fun x y => decide (x ≤ y)) = ms at hp hso
  have hs : ∀ i j, i ≤ j → j < ms.toArray.size → ms.toArray[i]! ≤ ms.toArray[j]! := by
    intro i j hij hj
    have hj' : j < ms.length := by simpa using hj
    by_cases e : i = j
    · subst e; exact List.le_refl _
    · have := (List.pairwise_iff_getElem.1 hso) i j (by omega) hj' (by omega)
      rw [getElem!_pos ms.toArray i (by simp; omega), getElem!_pos ms.toArray j (by simpa using hj')]
      simpa using this
  have h := compact_sorted ms.toArray hs ms.length (by simp)
  refine sd_ext h.1 (nrm_sd zs) fun x => ?_
  rw [mem_nrm, ← hp.mem_iff]
  show x ∈ compactUpTo ms.toArray ms.length ↔ _
  rw [h.2, List.mem_iff_getElem]
  constructor
  · rintro ⟨j, hj, e⟩
    refine ⟨j, hj, ?_⟩
    rw [getElem!_pos ms.toArray j (by simpa using hj)] at e
    simpa using e
  · rintro ⟨j, hj, e⟩
    refine ⟨j, hj, ?_⟩
    rw [getElem!_pos ms.toArray j (by simpa using hj)]
    simpa using e
end
end Go.AmC

