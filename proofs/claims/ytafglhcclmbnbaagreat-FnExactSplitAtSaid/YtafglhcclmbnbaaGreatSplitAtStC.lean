/- Part of a proof: see the last text of this folder. -/
import Derived.Test.YtafglhcclmbnbaaGreatSplitAtCnt
/- Part of a proof: see the last text of this folder. -/
set_option linter.unusedSimpArgs false
set_option linter.unusedVariables false
set_option maxRecDepth 20000
set_option maxHeartbeats 4000000
namespace Go.AmC
open Go Go.AM
open Go.Proofs.Tryz (prog)
def accN (d : Int) (L : List Exp) (i : Nat) : Nat := 1 + ((L.take i).map fun x => (cntE d x).getD 0).sum
theorem accN_succ {d : Int} {L : List Exp} {i : Nat} {y : Exp} {m : Nat} (hy : L[i]? = some y) (hm : cntE d y = some m) : accN d L (i + 1) = accN d L i + m := by
  unfold accN
  rw [List.take_add_one, hy]
  simp [hm]; omega
theorem drop_at {L : List Exp} {i : Nat} {y : Exp} (hy : L[i]? = some y) : L.drop i = y :: L.drop (i + 1) := by
  rw [List.drop_eq_getElem_cons (List.getElem?_eq_some_iff.1 hy).1, (List.getElem?_eq_some_iff.1 hy).2]
theorem acc_le (d : Int) (L : List Exp) (i : Nat) : accN d L i ≤ 1 + (L.length + (L.map Exp.tot).sum) := by
  have key : ∀ M : List Exp, ((M.map fun x => (cntE d x).getD 0).sum) ≤ M.length + (M.map Exp.tot).sum := by
    intro M
    induction M with
    | nil => simp
    | cons x M ih =>
      have : (cntE d x).getD 0 ≤ 1 + x.tot := by
        cases h : cntE d x with
        | none => simp
        | some k => have := (cntE_tot x d k h).2; simpa using this
      simp only [List.map_cons, List.sum_cons, List.length_cons]
      omega
  have h1 := key (L.take i)
  have h2 : L.map Exp.tot = (L.take i).map Exp.tot ++ (L.drop i).map Exp.tot := by rw [← List.map_append, List.take_append_drop]
  have h3 : (L.map Exp.tot).sum = ((L.take i).map Exp.tot).sum + ((L.drop i).map Exp.tot).sum := by rw [h2, List.sum_append]
  have h4 : (L.take i).length ≤ L.length := by simp; omega
  unfold accN
  omega
theorem measure_impl : ∀ e : Exp, e.tot ≤ 5000000 → ∀ d : Int, 0 ≤ d → d ≤ 100 → Says prog 340 [.agg (Cs e.d), .int .i64 d] (.int .i64 (cntR (cntE d e))) [] := Exp.ind fun e ih he d d0 d1 => by
  have ht := e.tot_eq
  have f1 := parts_impl e (by omega)
  have hw : IntKind.i64.wrap (d + 1) = d + 1 := wrap64 (by omega) (by omega)
  refine Fn_G Go.Proofs.Tryz.func340 ok340 ?_
  rw [cntE_eq]
  simp at f1
  by_cases c1 : d ≤ 8
  · have c1' : ¬ 8 < d := by omega
    cases hb : hereB e
    · rw [hb] at f1
      simp [v340, r340, c1, c1']
      refine callG f1 ?_
      simp [cntR]
    · rw [hb] at f1
      simp [v340, r340, c1, c1']
      refine callG f1 ?_
      simp
      generalize hR : cntL (d + 1) 1 e.L = R
      refine G_for (l := l340_0) (b := b340_0) rfl [10, 11, 12] (fun i => [(5, .int .i64 (accN (d + 1) e.L i : Nat)), (8, .int .i64 i)]) (fun i => cntL (d + 1) (accN (d + 1) e.L i) (e.L.drop i) = R) e.L.length (by simpa [accN] using hR) (by simp [accN]) ?_ ?_
      · intro i hi hI q hn hx hr
        obtain ⟨y, hy0⟩ := get_some hi
        have hrow := row_drop Exp.d 4 Exp.d_len hy0
        have hwi := wrap_succ (i := i) (by omega)
        have hf := ih y (List.mem_of_getElem? hy0) (by have := mem_sum Exp.tot (List.mem_of_getElem? hy0); omega) (d + 1) (by omega) (by omega)
        rw [drop_at hy0, cntL] at hI
        cases hc : cntE (d + 1) y with
        | none =>
          rw [hc] at hI hf
          simp only at hI
          simp [cntR] at hf
          simp [hi, Cs_drop, hrow, hw]
          refine callG hf ?_
          simp
          refine hr _ ?_
          simp [← hI, cntR]
        | some m =>
          rw [hc] at hI hf
          simp only at hI
          have hs := accN_succ hy0 hc
          have hle := acc_le (d + 1) e.L (i + 1)
          rw [hs] at hle hn
          simp [cntR] at hf
          generalize accN (d + 1) e.L i = A at hn hI hle ⊢
          have hwa : IntKind.i64.wrap ((A : Int) + (m : Int)) = ((A + m : Nat) : Int) := by rw [wrap_small] <;> omega
          have hm0 : ¬ ((m : Int) < 0) := by omega
          simp [hi, Cs_drop, hrow, hw]
          refine callG hf ?_
          simp at hwa
          simp [hm0, hwa, hwi]
          refine hn _ ?_ hI
          simp
      · intro hI q hx hr
        simp [cntL] at hI
        simp
        refine hx _ _ ?_
        simp [← hI, cntR]
  · have c1' : 8 < d := by omega
    simp [v340, r340, c1, c1', cntR]
end Go.AmC

/- Part of a proof: see the last text of this folder. -/
set_option linter.unusedSimpArgs false
set_option linter.unusedVariables false
set_option maxRecDepth 20000
set_option maxHeartbeats 4000000
namespace Go.AmC
open Go Go.AM
open Go.Proofs.Tryz (prog)
mutual
def cntP (d : Int) : Exp → Nat
  | ⟨K, N, S, L⟩ => if d ≤ 8 ∧ hereB ⟨K, N, S, L⟩ = true then cntPL (d + 1) 1 L else 100
def cntPL (d : Int) (n : Nat) : List Exp → Nat
  | [] => n
  | x :: l => if n ≤ 60 then cntPL d (n + cntP d x) l else n
end
theorem cntP_eq (d : Int) (e : Exp) : cntP d e = if d ≤ 8 ∧ hereB e = true then cntPL (d + 1) 1 e.L else 100 := by cases e; rw [cntP]
theorem cntPL_ge {d : Int} : ∀ {l : List Exp} {n : Nat}, n ≤ cntPL d n l
  | [], n => by simp [cntPL]
  | x :: l, n => by
    rw [cntPL]
    split
    · have := cntPL_ge (d := d) (l := l) (n := n + cntP d x); omega
    · omega
theorem cntL_ge {d : Int} {l : List Exp} {n k : Nat} (h : cntL d n l = some k) : n ≤ k := (cntL_tot (fun x _ k hk => (cntE_tot x d k hk).2) h).1
def Like (v : Nat) (o : Option Nat) : Prop := (v ≤ 60 → o = some v) ∧ ∀ k, o = some k → k ≤ 60 → v = k
theorem like_L {d : Int} : ∀ {l : List Exp} {n : Nat}, (∀ x ∈ l, Like (cntP d x) (cntE d x)) → Like (cntPL d n l) (cntL d n l)
  | [], n, _ => by simp [Like, cntPL, cntL]
  | x :: l, n, h => by
    have h0 := h x (by simp)
    rw [cntPL, cntL]
    by_cases hn : n ≤ 60
    · rw [if_pos hn]
      cases hc : cntE d x with
      | none =>
        have hv : ¬ cntP d x ≤ 60 := fun hv => by have := h0.1 hv; rw [hc] at this; cases this
        have := cntPL_ge (d := d) (l := l) (n := n + cntP d x)
        exact ⟨fun hh => by omega, fun k hk => by cases hk⟩
      | some m =>
        by_cases hm : m ≤ 60
        · rw [h0.2 m hc hm]
          exact like_L fun y hy => h y (by simp [hy])
        · have hv : ¬ cntP d x ≤ 60 := fun hv => by have := h0.1 hv; rw [hc] at this; cases this; exact hm hv
          have := cntPL_ge (d := d) (l := l) (n := n + cntP d x)
          refine ⟨fun hh => by omega, fun k hk hk2 => ?_⟩
          have := cntL_ge hk
          omega
    · rw [if_neg hn]
      refine ⟨fun hh => absurd hh hn, fun k hk hk2 => ?_⟩
      split at hk
      · have := cntL_ge hk; omega
      · cases hk
theorem like_E : ∀ (e : Exp) (d : Int), Like (cntP d e) (cntE d e) := Exp.ind fun e ih d => by
  rw [cntP_eq, cntE_eq]
  split
  · exact like_L fun x hx => ih x hx _
  · exact ⟨fun h => by omega, fun k hk => by cases hk⟩
theorem cntPL_le {d : Int} {B : Nat} : ∀ {l : List Exp} {n : Nat}, (∀ x ∈ l, cntP d x ≤ B) → cntPL d n l ≤ max n (60 + B)
  | [], n, _ => by simp only [cntPL]; omega
  | x :: l, n, h => by
    rw [cntPL]
    split
    · have h1 := h x (by simp)
      have := cntPL_le (l := l) (n := n + cntP d x) (fun y hy => h y (by simp [hy]))
      omega
    · omega
theorem cntP_le : ∀ (e : Exp) (d : Int), cntP d e ≤ 100 + 60 * (9 - d).toNat := Exp.ind fun e ih d => by
  rw [cntP_eq]
  split
  · rename_i h
    have := cntPL_le (l := e.L) (n := 1) (B := 100 + 60 * (9 - (d + 1)).toNat) (fun x hx => ih x hx (d + 1))
    have h2 : (9 - d).toNat = (9 - (d + 1)).toNat + 1 := by omega
    omega
  · omega
end Go.AmC

/- Part of a proof: see the last text of this folder. -/
set_option linter.unusedSimpArgs false
set_option linter.unusedVariables false
set_option maxRecDepth 20000
set_option maxHeartbeats 4000000
namespace Go.AmC
open Go Go.AM
open Go.Proofs.Tryz (prog)
def accP (d : Int) (L : List Exp) (i : Nat) : Nat := 1 + ((L.take i).map (cntP d)).sum
theorem accP_succ {d : Int} {L : List Exp} {i : Nat} {y : Exp} (hy : L[i]? = some y) : accP d L (i + 1) = accP d L i + cntP d y := by
  unfold accP
  rw [List.take_add_one, hy]
  simp; omega
theorem count_spec : ∀ e : Exp, e.tot ≤ 5000000 → ∀ d : Int, 0 ≤ d → d ≤ 100 → Says prog 295 [.agg (Cs e.d), .int .i64 d] (.int .i64 (cntP d e : Nat)) [] := Exp.ind fun e ih he d d0 d1 => by
  have ht := e.tot_eq
  have f1 := here_spec e (by omega)
  have hw : IntKind.i64.wrap (d + 1) = d + 1 := wrap64 (by omega) (by omega)
  refine Fn_G Go.Proofs.Tryz.func295 ok295 ?_
  rw [cntP_eq]
  simp at f1
  by_cases c1 : d ≤ 8
  · have c1' : ¬ 8 < d := by omega
    cases hb : hereB e
    · rw [hb] at f1
      simp [v295, r295, c1, c1']
      refine callG f1 ?_
      simp
    · rw [hb] at f1
      simp [v295, r295, c1, c1']
      refine callG f1 ?_
      simp
      generalize hR : cntPL (d + 1) 1 e.L = R
      refine G_for (l := l295_0) (b := b295_0) rfl [] (fun i => [(5, .int .i64 (accP (d + 1) e.L i : Nat)), (6, .int .i64 i)]) (fun i => cntPL (d + 1) (accP (d + 1) e.L i) (e.L.drop i) = R) e.L.length (by simpa [accP] using hR) (by simp [accP]) ?_ ?_
      · intro i hi hI q hn hx hr
        obtain ⟨y, hy0⟩ := get_some hi
        have hrow := row_drop Exp.d 4 Exp.d_len hy0
        have hwi := wrap_succ (i := i) (by omega)
        have hf := ih y (List.mem_of_getElem? hy0) (by have := mem_sum Exp.tot (List.mem_of_getElem? hy0); omega) (d + 1) (by omega) (by omega)
        have hle := cntP_le y (d + 1)
        have hs := accP_succ (d := d + 1) hy0
        rw [drop_at hy0, cntPL] at hI
        rw [hs] at hn
        simp at hf
        generalize accP (d + 1) e.L i = A at hn hI ⊢
        generalize cntP (d + 1) y = z at hf hn hI hle
        by_cases hA : A ≤ 60
        · rw [if_pos hA] at hI
          have hA' : (A : Int) ≤ 60 := by omega
          have hwa : IntKind.i64.wrap ((A : Int) + (z : Int)) = ((A + z : Nat) : Int) := by rw [wrap_small] <;> omega
          simp [hi, Cs_drop, hrow, hw, hA']
          refine callG hf ?_
          simp at hwa
          simp [hwa, hwi]
          refine hn _ ?_ hI
          simp
        · rw [if_neg hA] at hI
          have hA' : ¬ (A : Int) ≤ 60 := by omega
          simp [hi, hA']
          refine hx _ _ ?_
          simp [← hI]
      · intro hI q hx hr
        simp [cntPL] at hI
        simp
        refine hx _ _ ?_
        simp [← hI]
  · have c1' : 8 < d := by omega
    simp [v295, r295, c1, c1']
def expOk (e : Exp) : Bool := match cntE 1 e with
  | some n => decide (n ≤ 60)
  | none => false
theorem expOk_impl (e : Exp) (he : e.tot ≤ 5000000) : Says prog 308 [.agg (Cs e.d)] (.bool (expOk e)) [] := by
  have f := measure_impl e he 1 (by omega) (by omega)
  have g := in_impl (cntR (cntE 1 e)) 1 60
  have hv : (decide (1 ≤ cntR (cntE 1 e)) && decide (cntR (cntE 1 e) ≤ 60)) = expOk e := by
    unfold expOk
    cases hc : cntE 1 e with
    | none => simp [cntR]
    | some n =>
      have := (cntE_tot e 1 n hc).1
      show (decide (1 ≤ (n : Int)) && decide ((n : Int) ≤ 60)) = decide (n ≤ 60)
      rw [Bool.eq_iff_iff, Bool.and_eq_true, decide_eq_true_iff, decide_eq_true_iff, decide_eq_true_iff]
      omega
  rw [hv] at g
  generalize cntR (cntE 1 e) = z at f g
  simp at f
  refine Fn_G Go.Proofs.Tryz.func308 ok308 ?_
  simp [v308, r308]
  refine callG f ?_
  simp
  refine callG g ?_
  simp
theorem expOk_spec (e : Exp) (he : e.tot ≤ 5000000) : Says prog 235 [.agg (Cs e.d)] (.bool (expOk e)) [] := by
  have f := count_spec e he 1 (by omega) (by omega)
  have hl := like_E e 1
  have hv : decide (((cntP 1 e : Nat) : Int) ≤ 60) = expOk e := by
    unfold expOk
    cases hc : cntE 1 e with
    | none =>
      have : ¬ cntP 1 e ≤ 60 := fun h => by have := hl.1 h; rw [hc] at this; cases this
      simp; omega
    | some n =>
      rw [Bool.eq_iff_iff]
      simp
      constructor
      · intro h
        have h1 := hl.1 (by omega)
        rw [hc] at h1; cases h1; omega
      · intro h
        have := hl.2 n hc h
        omega
  simp at f
  refine Fn_G Go.Proofs.Tryz.func235 ok235 ?_
  simp [v235, r235]
  refine callG f ?_
  try simp at hv
  simp [hv]
end Go.AmC

/- Part of a proof: see the last text of this folder. -/
set_option linter.unusedSimpArgs false
set_option linter.unusedVariables false
set_option maxRecDepth 20000
set_option maxHeartbeats 4000000
namespace Go.AmC
open Go Go.AM
open Go.Proofs.Tryz (prog)
def zeroB (e : Exp) : Bool := decide (e.K = 0) && (decide (e.N = 0) && (decide (e.S = []) && decide (e.L = [])))
theorem zero_spec (e : Exp) : Says prog 234 [.agg (Cs e.d)] (.bool (zeroB e)) [] := by
  have h0 : ((e.L.length : Int) == 0) = decide (e.L = []) := by rw [Bool.eq_iff_iff]; simp
  refine Fn_G Go.Proofs.Tryz.func234 ok234 ?_
  unfold zeroB
  by_cases c1 : e.K = 0 <;> by_cases c2 : e.N = 0 <;> by_cases c3 : e.S = [] <;> simp [v234, r234, c1, c2, c3, h0]
theorem zero_impl (e : Exp) : Says prog 309 [.agg (Cs e.d)] (.bool (zeroB e)) [] := by
  have h0 : ((e.L.length : Int) == 0) = decide (e.L = []) := by rw [Bool.eq_iff_iff]; simp
  refine Fn_G Go.Proofs.Tryz.func309 ok309 ?_
  unfold zeroB
  by_cases c1 : e.K = 0 <;> by_cases c2 : e.N = 0 <;> by_cases c3 : e.S = [] <;> simp [v309, r309, c1, c2, c3, h0]
end Go.AmC

/- Part of a proof: see the last text of this folder. -/
set_option linter.unusedSimpArgs false
set_option linter.unusedVariables false
set_option maxRecDepth 20000
set_option maxHeartbeats 4000000
namespace Go.AmC
open Go Go.AM
open Go.Proofs.Tryz (prog)
theorem field_impl (e : Exp) (b : Bool) (he : e.tot ≤ 5000000) : Says prog 247 [.agg (Cs e.d), .bool b] (.bool (if b then expOk e else zeroB e)) [] := by
  have f1 := expOk_impl e he
  have f2 := zero_impl e
  simp at f1 f2
  refine Fn_G Go.Proofs.Tryz.func247 ok247 ?_
  cases b
  · simp [v247, r247]
    refine callG f2 ?_
    simp
  · simp [v247, r247]
    refine callG f1 ?_
    simp
theorem fields_impl (k : Int) : Says prog 246 [.int .i64 k] (.tup [none, none, none, none] [.bool (decide (k = 2)), .bool (decide (k ≠ 3)), .bool (decide (k = 3)), .bool (decide (k = 1 ∨ k = 2 ∨ k = 3))]) [] := by
  refine Fn_G Go.Proofs.Tryz.func246 ok246 ?_
  by_cases c1 : k = 1
  · subst c1; simp [v246, r246]
  · by_cases c2 : k = 2
    · subst c2; simp [v246, r246]
    · by_cases c3 : k = 3
      · subst c3; simp [v246, r246]
      · simp [v246, r246, c1, c2, c3]
end Go.AmC

/- Part of a proof: see the last text of this folder. -/
set_option linter.unusedSimpArgs false
set_option linter.unusedVariables false
set_option maxRecDepth 20000
set_option maxHeartbeats 8000000
namespace Go.AmC
open Go Go.AM
open Go.Proofs.Tryz (prog)
def fieldB (e : Exp) (b : Bool) : Bool := if b then expOk e else zeroB e
def ownB (x : Stmt) : Bool :=
  (decide (1 ≤ x.K) && decide (x.K ≤ 4)) && (fieldB x.At (decide (x.K = 2)) && (fieldB x.E (decide (x.K ≠ 3)) && (fieldB x.Lo (decide (x.K = 3)) && (fieldB x.Hi (decide (x.K = 3)) && (if x.K = 4 then decide (x.S = []) else nameOk x.S)))))
mutual
def rightB (f : Int) : Stmt → Bool
  | ⟨K, S, At, E, Lo, Hi, B⟩ => ownB ⟨K, S, At, E, Lo, Hi, B⟩ && (if K = 3 then decide (f < 3) && ((decide (1 ≤ B.length) && decide (B.length ≤ 6)) && rightL (f + 1) B) else decide (B.length = 0))
def rightL (f : Int) : List Stmt → Bool
  | [] => true
  | x :: l => rightB f x && rightL f l
end
theorem rightB_eq (f : Int) (x : Stmt) : rightB f x = (ownB x && (if x.K = 3 then decide (f < 3) && ((decide (1 ≤ x.Body.length) && decide (x.Body.length ≤ 6)) && rightL (f + 1) x.Body) else decide (x.Body.length = 0))) := by cases x; rw [rightB]
def loopB (f : Int) (x : Stmt) : Bool := decide (x.K = 3) && (ownB x && (decide (f < 3) && (decide (1 ≤ x.Body.length) && decide (x.Body.length ≤ 6))))
theorem right_impl1 (x : Stmt) (hx : x.tot ≤ 5000000) (f : Int) (g0 : 0 ≤ f) (g1 : f ≤ 3) (hno : loopB f x = false) : Says prog 175 [.agg (Cs x.d), .int .i64 f] (.bool (rightB f x)) [] := by
  have ht := x.tot_eq
  have f1 := in_impl x.K 1 4
  have f2 := fields_impl x.K
  have f3 := field_impl x.At (decide (x.K = 2)) (by omega)
  have f4 := field_impl x.E (decide (x.K ≠ 3)) (by omega)
  have f5 := field_impl x.Lo (decide (x.K = 3)) (by omega)
  have f6 := field_impl x.Hi (decide (x.K = 3)) (by omega)
  have f7 := nm_impl x.S (by omega)
  refine Fn_G Go.Proofs.Tryz.func175 ok175 ?_
  rw [rightB_eq]
  by_cases c0 : 1 ≤ x.K ∧ x.K ≤ 4
  · have c00 : (decide (1 ≤ x.K) && decide (x.K ≤ 4)) = true := by simpa using c0
    rw [c00] at f1
    have hown : ownB x = (fieldB x.At (decide (x.K = 2)) && (fieldB x.E (decide (x.K ≠ 3)) && (fieldB x.Lo (decide (x.K = 3)) && (fieldB x.Hi (decide (x.K = 3)) && (if x.K = 4 then decide (x.S = []) else nameOk x.S))))) := by unfold ownB; rw [c00, Bool.true_and]
    unfold loopB at hno
    rw [hown] at hno ⊢
    change Says _ _ _ (.bool (fieldB x.At _)) _ at f3
    change Says _ _ _ (.bool (fieldB x.E _)) _ at f4
    change Says _ _ _ (.bool (fieldB x.Lo _)) _ at f5
    change Says _ _ _ (.bool (fieldB x.Hi _)) _ at f6
    generalize fieldB x.At (decide (x.K = 2)) = b3 at f3 hno ⊢
    generalize fieldB x.E (decide (x.K ≠ 3)) = b4 at f4 hno ⊢
    generalize fieldB x.Lo (decide (x.K = 3)) = b5 at f5 hno ⊢
    generalize fieldB x.Hi (decide (x.K = 3)) = b6 at f6 hno ⊢
    generalize nameOk x.S = b7 at f7 hno ⊢
    have hK : x.K = 1 ∨ x.K = 2 ∨ x.K = 4 ∨ x.K = 3 := by omega
    have h0 : ((x.Body.length : Int) == 0) = decide (x.Body.length = 0) := by rw [Bool.eq_iff_iff]; simp
    rcases hK with k | k | k | k
    · simp [k] at f1 f2 f3 f4 f5 f6 f7
      cases b3
      · simp [v175, r175, k]
        repeat' (first | refine callG (by assumption) ?_ | refine callD (by assumption) ?_ | simp [k])
      cases b4
      · simp [v175, r175, k]
        repeat' (first | refine callG (by assumption) ?_ | refine callD (by assumption) ?_ | simp [k])
      cases b5
      · simp [v175, r175, k]
        repeat' (first | refine callG (by assumption) ?_ | refine callD (by assumption) ?_ | simp [k])
      cases b6
      · simp [v175, r175, k]
        repeat' (first | refine callG (by assumption) ?_ | refine callD (by assumption) ?_ | simp [k])
      cases b7
      · simp [v175, r175, k]
        repeat' (first | refine callG (by assumption) ?_ | refine callD (by assumption) ?_ | simp [k])
      simp [v175, r175, k]
      repeat' (first | refine callG (by assumption) ?_ | refine callD (by assumption) ?_ | simp [k, h0])
    · simp [k] at f1 f2 f3 f4 f5 f6 f7
      cases b3
      · simp [v175, r175, k]
        repeat' (first | refine callG (by assumption) ?_ | refine callD (by assumption) ?_ | simp [k])
      cases b4
      · simp [v175, r175, k]
        repeat' (first | refine callG (by assumption) ?_ | refine callD (by assumption) ?_ | simp [k])
      cases b5
      · simp [v175, r175, k]
        repeat' (first | refine callG (by assumption) ?_ | refine callD (by assumption) ?_ | simp [k])
      cases b6
      · simp [v175, r175, k]
        repeat' (first | refine callG (by assumption) ?_ | refine callD (by assumption) ?_ | simp [k])
      cases b7
      · simp [v175, r175, k]
        repeat' (first | refine callG (by assumption) ?_ | refine callD (by assumption) ?_ | simp [k])
      simp [v175, r175, k]
      repeat' (first | refine callG (by assumption) ?_ | refine callD (by assumption) ?_ | simp [k, h0])
    · simp [k] at f1 f2 f3 f4 f5 f6
      cases b3
      · simp [v175, r175, k]
        repeat' (first | refine callG (by assumption) ?_ | refine callD (by assumption) ?_ | simp [k])
      cases b4
      · simp [v175, r175, k]
        repeat' (first | refine callG (by assumption) ?_ | refine callD (by assumption) ?_ | simp [k])
      cases b5
      · simp [v175, r175, k]
        repeat' (first | refine callG (by assumption) ?_ | refine callD (by assumption) ?_ | simp [k])
      cases b6
      · simp [v175, r175, k]
        repeat' (first | refine callG (by assumption) ?_ | refine callD (by assumption) ?_ | simp [k])
      by_cases c7 : x.S = []
      · simp [v175, r175, k]
        repeat' (first | refine callG (by assumption) ?_ | refine callD (by assumption) ?_ | simp [k, h0, c7])
      · simp [v175, r175, k]
        repeat' (first | refine callG (by assumption) ?_ | refine callD (by assumption) ?_ | simp [k, h0, c7])
    · simp [k] at f1 f2 f3 f4 f5 f6 f7
      cases b3
      · simp [v175, r175, k]
        repeat' (first | refine callG (by assumption) ?_ | refine callD (by assumption) ?_ | simp [k])
      cases b4
      · simp [v175, r175, k]
        repeat' (first | refine callG (by assumption) ?_ | refine callD (by assumption) ?_ | simp [k])
      cases b5
      · simp [v175, r175, k]
        repeat' (first | refine callG (by assumption) ?_ | refine callD (by assumption) ?_ | simp [k])
      cases b6
      · simp [v175, r175, k]
        repeat' (first | refine callG (by assumption) ?_ | refine callD (by assumption) ?_ | simp [k])
      cases b7
      · simp [v175, r175, k]
        repeat' (first | refine callG (by assumption) ?_ | refine callD (by assumption) ?_ | simp [k])
      have g8 := in_impl (x.Body.length : Int) 1 6
      have e1 : decide ((1 : Int) ≤ (x.Body.length : Int)) = decide (1 ≤ x.Body.length) := decide_eq_decide.2 (by omega)
      have e2 : decide ((x.Body.length : Int) ≤ 6) = decide (x.Body.length ≤ 6) := decide_eq_decide.2 (by omega)
      rw [e1, e2] at g8
      by_cases c8 : f = 3
      · subst c8
        simp [v175, r175, k]
        repeat' (first | refine callG (by assumption) ?_ | refine callD (by assumption) ?_ | simp [k])
      have c8' : f < 3 := by omega
      cases hb : (decide (1 ≤ x.Body.length) && decide (x.Body.length ≤ 6))
      · rw [hb] at g8
        simp [v175, r175, k, c8, c8']
        repeat' (first | refine callG (by assumption) ?_ | refine callD (by assumption) ?_ | simp [k, c8, c8'])
      rw [hb] at hno
      simp [k, c8'] at hno
  · have c00 : (decide (1 ≤ x.K) && decide (x.K ≤ 4)) = false := by simpa using c0
    rw [c00] at f1
    have hown : ownB x = false := by unfold ownB; rw [c00, Bool.false_and]
    try simp at f1
    simp [v175, r175, hown]
    refine callG f1 ?_
    simp
end Go.AmC

/- Part of a proof: see the last text of this folder. -/
set_option linter.unusedSimpArgs false
set_option linter.unusedVariables false
set_option maxRecDepth 20000
set_option maxHeartbeats 8000000
namespace Go.AmC
open Go Go.AM
open Go.Proofs.Tryz (prog)
theorem rightL_eq (f : Int) : ∀ l : List Stmt, rightL f l = l.all (rightB f)
  | [] => by simp [rightL]
  | x :: l => by simp [rightL, rightL_eq f l]
theorem right_impl : ∀ x : Stmt, x.tot ≤ 5000000 → ∀ f : Int, 0 ≤ f → f ≤ 3 → Says prog 175 [.agg (Cs x.d), .int .i64 f] (.bool (rightB f x)) [] := Stmt.ind fun x ih hx f g0 g1 => by
  cases hl : loopB f x
  · exact right_impl1 x hx f g0 g1 hl
  have ht := x.tot_eq
  unfold loopB at hl
  simp only [Bool.and_eq_true, decide_eq_true_eq] at hl
  obtain ⟨k, ho, c8, n1, n6⟩ := hl
  have hR : rightB f x = x.Body.all (rightB (f + 1)) := by
    rw [rightB_eq, ho, if_pos k, rightL_eq]
    simp [c8, n1, n6]
  have ho2 := ho
  unfold ownB at ho2
  simp only [Bool.and_eq_true] at ho2
  obtain ⟨c00, b3, b4, b5, b6, b7⟩ := ho2
  have f1 := in_impl x.K 1 4
  have f2 := fields_impl x.K
  have f3 := field_impl x.At (decide (x.K = 2)) (by omega)
  have f4 := field_impl x.E (decide (x.K ≠ 3)) (by omega)
  have f5 := field_impl x.Lo (decide (x.K = 3)) (by omega)
  have f6 := field_impl x.Hi (decide (x.K = 3)) (by omega)
  have f7 := nm_impl x.S (by omega)
  have g8 := in_impl (x.Body.length : Int) 1 6
  have e1 : decide ((1 : Int) ≤ (x.Body.length : Int)) = true := decide_eq_true (by omega)
  have e2 : decide ((x.Body.length : Int) ≤ 6) = true := decide_eq_true (by omega)
  rw [e1, e2] at g8
  change Says _ _ _ (.bool (fieldB x.At _)) _ at f3
  change Says _ _ _ (.bool (fieldB x.E _)) _ at f4
  change Says _ _ _ (.bool (fieldB x.Lo _)) _ at f5
  change Says _ _ _ (.bool (fieldB x.Hi _)) _ at f6
  rw [b3] at f3
  rw [b4] at f4
  rw [b5] at f5
  rw [b6] at f6
  rw [if_neg (by omega)] at b7
  rw [b7] at f7
  simp [k] at f1 f2 f3 f4 f5 f6 f7 g8
  have c8' : ¬ f = 3 := by omega
  have hw3 : IntKind.i64.wrap (f + 1) = f + 1 := wrap64 (by omega) (by omega)
  refine Fn_G Go.Proofs.Tryz.func175 ok175 ?_
  rw [hR]
  generalize hRR : x.Body.all (rightB (f + 1)) = R
  simp [v175, r175, k, c8', n1, n6]
  iterate 16 (first | refine callG (by assumption) ?_ | (simp [k, c8', n1, n6]; done) | simp [k, c8', n1, n6])
  refine G_for (l := l175_0) (b := b175_0) rfl [17, 18] (fun i => [(15, .int .i64 i)]) (fun i => (x.Body.take i).all (rightB (f + 1)) = true) x.Body.length (by simp) (by simp) ?_ ?_
  · intro i hi hI q hn hx2 hr
    obtain ⟨y, hy0⟩ := get_some hi
    have hrow := row_drop Stmt.d 19 Stmt.d_len hy0
    have hw := wrap_succ (i := i) (by omega)
    have hym := List.mem_of_getElem? hy0
    have fy := ih y hym (by have := mem_sum Stmt.tot hym; omega) (f + 1) (by omega) (by omega)
    simp at fy
    cases hb : rightB (f + 1) y
    · rw [hb] at fy
      simp [hi, Cs_drop, hrow, splice, hw3]
      refine callG fy ?_
      simp
      refine hr _ ?_
      simp [← hRR, all_not hy0 hb]
    · rw [hb] at fy
      simp [hi, Cs_drop, hrow, splice, hw3]
      refine callG fy ?_
      simp [hw]
      exact hn _ (by simp) (all_take hI hy0 hb)
  · intro hI q hx2 hr
    rw [List.take_length] at hI
    simp
    refine hx2 _ _ ?_
    simp [← hRR, hI]
end Go.AmC

/- Part of a proof: see the last text of this folder. -/
set_option linter.unusedSimpArgs false
set_option linter.unusedVariables false
set_option maxRecDepth 20000
set_option maxHeartbeats 8000000
namespace Go.AmC
open Go Go.AM
open Go.Proofs.Tryz (prog)
mutual
def cnS (d : Int) : Stmt → Nat
  | ⟨K, S, At, E, Lo, Hi, B⟩ => if ownB ⟨K, S, At, E, Lo, Hi, B⟩ = true then (if K = 3 then (if d < 3 ∧ 1 ≤ B.length ∧ B.length ≤ 6 then cnSL (d + 1) 1 B else 100) else (if B.length = 0 then 1 else 100)) else 100
def cnSL (d : Int) (n : Nat) : List Stmt → Nat
  | [] => n
  | x :: l => if n ≤ 40 then cnSL d (n + cnS d x) l else n
end
theorem cnS_eq (d : Int) (x : Stmt) : cnS d x = if ownB x = true then (if x.K = 3 then (if d < 3 ∧ 1 ≤ x.Body.length ∧ x.Body.length ≤ 6 then cnSL (d + 1) 1 x.Body else 100) else (if x.Body.length = 0 then 1 else 100)) else 100 := by cases x; rw [cnS]
theorem cnSL_ge {d : Int} : ∀ {l : List Stmt} {n : Nat}, n ≤ cnSL d n l
  | [], n => by simp [cnSL]
  | x :: l, n => by
    rw [cnSL]
    split
    · have := cnSL_ge (d := d) (l := l) (n := n + cnS d x); omega
    · omega
def LikeS (v : Nat) (r : Bool) (s : Nat) : Prop := (v ≤ 40 → r = true ∧ v = s) ∧ (r = true → s ≤ 40 → v = s)
theorem likeS_L {d : Int} : ∀ {l : List Stmt} {n : Nat}, (∀ x ∈ l, LikeS (cnS d x) (rightB d x) (szS x)) → LikeS (cnSL d n l) (l.all (rightB d)) (n + (l.map szS).sum)
  | [], n, _ => by simp [LikeS, cnSL]
  | x :: l, n, h => by
    have h0 := h x (by simp)
    rw [cnSL]
    by_cases hn : n ≤ 40
    · rw [if_pos hn]
      have ih := likeS_L (l := l) (n := n + cnS d x) fun y hy => h y (by simp [hy])
      have hge := cnSL_ge (d := d) (l := l) (n := n + cnS d x)
      refine ⟨fun hh => ?_, fun hr hs => ?_⟩
      · obtain ⟨r1, r2⟩ := ih.1 hh
        obtain ⟨q1, q2⟩ := h0.1 (by omega)
        refine ⟨by simp [q1, r1], ?_⟩
        simp only [List.map_cons, List.sum_cons]; omega
      · simp only [List.map_cons, List.sum_cons] at hs ⊢
        simp only [List.all_cons, Bool.and_eq_true] at hr
        have q := h0.2 hr.1 (by omega)
        rw [ih.2 hr.2 (by omega)]; omega
    · rw [if_neg hn]
      exact ⟨fun hh => absurd hh hn, fun _ hs => absurd hs (by omega)⟩
theorem likeS : ∀ (x : Stmt) (d : Int), LikeS (cnS d x) (rightB d x) (szS x) := Stmt.ind fun x ih d => by
  rw [cnS_eq, rightB_eq, szS_eq]
  cases ho : ownB x
  · simp [LikeS]
  simp only [if_true, Bool.true_and]
  by_cases k : x.K = 3
  · rw [if_pos k, if_pos k, rightL_eq]
    by_cases c : d < 3 ∧ 1 ≤ x.Body.length ∧ x.Body.length ≤ 6
    · rw [if_pos c]
      have := likeS_L (d := d + 1) (l := x.Body) (n := 1) fun y hy => ih y hy (d + 1)
      simpa [c] using this
    · rw [if_neg c]
      have : (decide (d < 3) && ((decide (1 ≤ x.Body.length) && decide (x.Body.length ≤ 6)) && x.Body.all (rightB (d + 1)))) = false := by
        rw [Bool.eq_false_iff]
        intro h
        simp only [Bool.and_eq_true, decide_eq_true_eq] at h
        exact c ⟨h.1, h.2.1.1, h.2.1.2⟩
      rw [this]
      simp [LikeS]
  · rw [if_neg k, if_neg k]
    by_cases c : x.Body.length = 0
    · have : x.Body = [] := List.eq_nil_of_length_eq_zero c
      simp [this, LikeS]
    · rw [if_neg c]
      have : decide (x.Body.length = 0) = false := by simpa using c
      rw [this]
      simp [LikeS]
theorem cnSL_le {d : Int} {B : Nat} : ∀ {l : List Stmt} {n : Nat}, (∀ x ∈ l, cnS d x ≤ B) → cnSL d n l ≤ max n (40 + B)
  | [], n, _ => by simp only [cnSL]; omega
  | x :: l, n, h => by
    rw [cnSL]
    split
    · have h1 := h x (by simp)
      have := cnSL_le (l := l) (n := n + cnS d x) (fun y hy => h y (by simp [hy]))
      omega
    · omega
theorem cnS_le : ∀ (x : Stmt) (d : Int), cnS d x ≤ 100 + 40 * (4 - d).toNat := Stmt.ind fun x ih d => by
  rw [cnS_eq]
  split
  · split
    · split
      · rename_i h
        have := cnSL_le (l := x.Body) (n := 1) (B := 100 + 40 * (4 - (d + 1)).toNat) (fun y hy => ih y hy (d + 1))
        have h2 : (4 - d).toNat = (4 - (d + 1)).toNat + 1 := by omega
        omega
      · omega
    · split <;> omega
  · omega
def stOk (x : Stmt) : Bool := rightB 0 x && decide (szS x ≤ 40)
theorem stOk_cn (x : Stmt) : decide (((cnS 0 x : Nat) : Int) ≤ 40) = stOk x := by
  have h := likeS x 0
  unfold stOk
  rw [Bool.eq_iff_iff]
  simp only [decide_eq_true_eq, Bool.and_eq_true]
  constructor
  · intro hc
    have := h.1 (by omega)
    exact ⟨this.1, by omega⟩
  · rintro ⟨h1, h2⟩
    have := h.2 h1 h2
    omega
theorem stOk_impl (x : Stmt) (hx : x.tot ≤ 5000000) : Says prog 97 [.agg (Cs x.d)] (.bool (stOk x)) [] := by
  have f1 := right_impl x hx 0 (by omega) (by omega)
  have f2 := size_impl [x] (by simp; omega)
  have hs : (([x] : List Stmt).map szS).sum = szS x := by simp
  rw [hs] at f2
  refine Fn_G Go.Proofs.Tryz.func97 ok97 ?_
  unfold stOk
  simp at f1 f2
  cases hb : rightB 0 x
  · rw [hb] at f1
    simp [v97, r97]
    refine callG f1 ?_
    simp
  · rw [hb] at f1
    generalize szS x = z at f2 ⊢
    have e : decide ((z : Int) ≤ 40) = decide (z ≤ 40) := decide_eq_decide.2 (by omega)
    simp [v97, r97]
    refine callG f1 ?_
    simp [splice]
    refine callG f2 ?_
    simp [e]
end Go.AmC

