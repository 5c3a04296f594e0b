/- Part of a proof: see the last text of this folder. -/
import Derived.Test.YtbpejcnejeihbaaSplitMix
set_option linter.unusedSimpArgs false
set_option linter.unusedVariables false
set_option maxRecDepth 20000
set_option maxHeartbeats 4000000
namespace Go.AmC
open Go Go.AM
open Go.Proofs.Try (prog)

def puts (l : List Nm) (ts : List Term) : List Nm := ts.foldl (fun l t => put l t.Name) l
def namesA (a b : Aff) : List Nm := puts (puts [] a.T) b.T
theorem puts_len (ts : List Term) : ∀ (l : List Nm), (puts l ts).length ≤ l.length + ts.length := by
  induction ts with
  | nil => intro l; simp [puts]
  | cons t ts ih =>
    intro l
    have h1 := ih (put l t.Name)
    have h2 := put_len l t.Name
    simp only [puts, List.foldl_cons, List.length_cons] at h1 ⊢
    omega
theorem puts_succ (l : List Nm) {ts : List Term} {i : Nat} {t : Term} (h : ts[i]? = some t) : puts l (ts.take (i + 1)) = put (puts l (ts.take i)) t.Name := by
  rw [List.take_add_one, h]; simp [puts, List.foldl_append]
theorem names_spec (a b : Aff) (hl : a.T.length + b.T.length ≤ 100000000) : Says prog 113 [.agg (Cs a.d), .agg (Cs b.d)] (.osl 0 9 (namesA a b).length (Ows ((namesA a b).flatMap dStr))) [] := by
  refine Fn_G Go.Proofs.Try.func113 ok113 ?_
  generalize hR : namesA a b = R0
  simp [v113, r113]
  refine G_for (l := l113_1) (b := b113_1) rfl [] (fun i => [(5, .osl 0 9 (puts [] (a.T.take i)).length (Ows ((puts [] (a.T.take i)).flatMap dStr))), (6, .int .i64 i)]) (fun _ => True) a.T.length trivial (by simp [puts]) ?_ ?_
  · intro i hi _ q hn hx hr
    obtain ⟨x, hx0⟩ := get_some hi
    have hrow := row_drop Term.d 2 Term.d_len hx0
    have hw := wrap_succ (i := i) (by omega)
    have hpl := puts_len (a.T.take i) []
    rw [puts_succ _ hx0] at hn
    rw [List.length_take] at hpl
    generalize puts [] (a.T.take i) = o at hn hpl ⊢
    have f := put_spec o x.Name (by simp at hpl; omega)
    generalize put o x.Name = o2 at f hn
    simp [hi, Cs_drop, hrow]
    refine callG f ?_
    simp [hw]
    refine hn _ ?_ trivial
    simp
  intro _ q hx hr
  rw [List.take_length]
  have hpl := puts_len a.T []
  have hR2 : puts (puts [] a.T) b.T = R0 := hR
  generalize puts [] a.T = o at hpl hR2 ⊢
  simp
  refine hx _ _ ?_
  clear hx hr q
  simp
  refine G_for (l := l113_0) (b := b113_0) rfl [] (fun i => [(5, .osl 0 9 (puts o (b.T.take i)).length (Ows ((puts o (b.T.take i)).flatMap dStr))), (8, .int .i64 i)]) (fun _ => True) b.T.length trivial (by simp [puts]) ?_ ?_
  · intro i hi _ q hn hx hr
    obtain ⟨x, hx0⟩ := get_some hi
    have hrow := row_drop Term.d 2 Term.d_len hx0
    have hw := wrap_succ (i := i) (by omega)
    have hpl2 := puts_len (b.T.take i) o
    rw [puts_succ _ hx0] at hn
    rw [List.length_take] at hpl2
    generalize puts o (b.T.take i) = o1 at hn hpl2 ⊢
    have f := put_spec o1 x.Name (by simp at hpl; omega)
    generalize put o1 x.Name = o2 at f hn
    simp [hi, Cs_drop, hrow]
    refine callG f ?_
    simp [hw]
    refine hn _ ?_ trivial
    simp
  intro _ q hx hr
  rw [List.take_length, hR2]
  simp
  refine hx _ _ ?_
  simp

def s1 (a b : Aff) (k : Int) (n : Nm) : Option Term := if coef a.T n + k * coef b.T n = 0 then none else some ⟨n, coef a.T n + k * coef b.T n⟩
def sumA (a b : Aff) (k : Int) : Aff := ⟨a.C + k * b.C, (namesA a b).filterMap (s1 a b k)⟩
theorem sum_spec (a b : Aff) (k : Int) (ha : AOk a) (hb : AOk b) (hk : -100000 ≤ k ∧ k ≤ 100000) (hl : a.T.length + b.T.length ≤ 100000000) (hn6 : ∀ n ∈ namesA a b, n.length ≤ 6) : Says prog 110 [.agg (Cs a.d), .agg (Cs b.d), .int .i64 k] (resA (okA (sumA a b k))) [] := by
  have t6 : ∀ x : Aff, AOk x → x.T.length ≤ 100000000 → x.tot ≤ 4294967296 := fun x hx h => by
    rw [Aff.tot_eq]
    have := tot6 x.T fun t ht => nm6 (hx.t.each t ht).1
    omega
  have fa := affOk_spec a (t6 a ha (by omega))
  have fb := affOk_spec b (t6 b hb (by omega))
  have fn := names_spec a b hl
  have hnl : (namesA a b).length ≤ 100000000 := by
    have h1 := puts_len b.T (puts [] a.T)
    have h2 := puts_len a.T []
    simp at h2
    exact Nat.le_trans h1 (by omega)
  have fO := affOk_spec (sumA a b k) (by
    rw [Aff.tot_eq]
    have := tot6 (sumA a b k).T fun t ht => by
      obtain ⟨n, hn, he⟩ := List.mem_filterMap.1 ht
      unfold s1 at he
      split at he <;> cases he
      exact hn6 n hn
    have h2 : (sumA a b k).T.length ≤ (namesA a b).length := List.length_filterMap_le _ _
    omega)
  rw [(affOk_iff a).2 ha] at fa
  rw [(affOk_iff b).2 hb] at fb
  refine Fn_G Go.Proofs.Try.func110 ok110 ?_
  have hC := coefOk_b ha.c
  have hD := mulb hk (coefOk_b hb.c)
  have hw1 : IntKind.i64.wrap (k * b.C) = k * b.C := wrap64 (by omega) (by omega)
  have hw2 : IntKind.i64.wrap (a.C + k * b.C) = a.C + k * b.C := wrap64 (by omega) (by omega)
  generalize hR : resA (okA (sumA a b k)) = R0
  have hS : sumA a b k = ⟨a.C + k * b.C, (namesA a b).filterMap (s1 a b k)⟩ := rfl
  rw [hS] at hR fO
  generalize namesA a b = L at *
  simp at fa fb
  simp [v110, r110]
  refine callG fa ?_
  simp
  refine callG fb ?_
  simp [hw1, hw2, splice]
  refine callG fn ?_
  simp
  refine G_for (l := l110_0) (b := b110_0) rfl [12] (fun i => [(8, .bx 0 103 [.int .i64 (a.C + k * b.C), .osl 0 111 ((L.take i).filterMap (s1 a b k)).length (Ows (((L.take i).filterMap (s1 a b k)).flatMap Term.d))]), (10, .int .i64 i)]) (fun _ => True) L.length trivial (by simp) ?_ ?_
  · intro i hi _ q hn hx hr
    obtain ⟨x, hx0⟩ := get_some hi
    have hrow := row_drop dStr 1 (fun _ => by simp) hx0
    rw [Nat.mul_one] at hrow
    have hw := wrap_succ (i := i) (by omega)
    have hca := coef_b ha.t x
    have hcb := coef_b hb.t x
    have hm := mulb hk hcb
    have hw3 : IntKind.i64.wrap (k * coef b.T x) = k * coef b.T x := wrap64 (by omega) (by omega)
    have hw4 : IntKind.i64.wrap (coef a.T x + k * coef b.T x) = coef a.T x + k * coef b.T x := wrap64 (by omega) (by omega)
    have hfm := fm_succ (s1 a b k) hx0
    have hln := fm_len (s1 a b k) L i
    generalize (L.take i).filterMap (s1 a b k) = A at hfm hln ⊢
    rw [hfm] at hn
    have hbd : A.length + 1 ≤ bnd := by unfold bnd; omega
    have f1 := coef_spec a x (by omega)
    have f2 := coef_spec b x (by omega)
    simp at f1 f2
    have hne : Ows (L.flatMap dStr) ≠ [] := by
      intro h
      have := congrArg List.length h
      rw [Ows_length, len_flat dStr 1 (fun _ => rfl)] at this
      simp at this; subst this; simp at hi
    have hlen : (Ows (L.flatMap dStr)).length = L.length := by rw [Ows_length, len_flat dStr 1 (fun _ => rfl), Nat.mul_one]
    have hi1 : i + 1 ≤ L.length := hi
    simp [hi, hi1, inner_osl hne, hlen, -Ows_length, Ows_drop, hrow, splice]
    refine callD f1 ?_
    simp [hi, hi1, inner_osl hne, hlen, -Ows_length, Ows_drop, hrow, splice]
    refine callD f2 ?_
    by_cases c : coef a.T x + k * coef b.T x = 0
    · have e1 : s1 a b k x = none := by simp [s1, c]
      rw [e1] at hn
      simp [hw, hw3, hw4, c]
      refine hn _ ?_ trivial
      simp
    · have e1 : s1 a b k x = some ⟨x, coef a.T x + k * coef b.T x⟩ := by simp [s1, c]
      rw [e1] at hn
      simp [hi, hi1, inner_osl hne, hlen, -Ows_length, Ows_drop, hrow, hw, hw3, hw4, c, splice, hbd]
      refine hn _ ?_ trivial
      simp
  intro _ q hx hr
  rw [List.take_length]
  generalize L.filterMap (s1 a b k) = Z at fO hR ⊢
  simp at fO
  simp
  refine hx _ _ ?_
  clear hx hr q
  simp
  refine callG fO ?_
  cases hz : affOk ⟨a.C + k * b.C, Z⟩
  · simp [splice, ← hR, okA, hz, resA]
  · simp [splice, ← hR, okA, hz, resA]
end Go.AmC
