/- Part of a proof: see the last text of this folder. -/
import Derived.Test.YtbpejcnejeihbaaSplitAff
set_option linter.unusedSimpArgs false
set_option linter.unusedVariables false
set_option maxRecDepth 20000
set_option maxHeartbeats 4000000
namespace Go.AmC
open Go Go.AM
open Go.Proofs.Try (prog)

theorem mulb {x y : Int} (hx : -100000 ≤ x ∧ x ≤ 100000) (hy : -100000 ≤ y ∧ y ≤ 100000) : -10000000000 ≤ x * y ∧ x * y ≤ 10000000000 := by
  have h1 : x.natAbs ≤ 100000 := by omega
  have h2 : y.natAbs ≤ 100000 := by omega
  have h3 := Nat.mul_le_mul h1 h2
  rw [← Int.natAbs_mul] at h3
  omega
theorem coefOk_b {n : Int} (h : coefOk n = true) : -100000 ≤ n ∧ n ≤ 100000 := by simpa [coefOk] using h
structure OkT (p : Option Nm) (ts : List Term) : Prop where
  each : ∀ t ∈ ts, nameOk t.Name = true ∧ t.N ≠ 0 ∧ coefOk t.N = true
  ord : ts.Pairwise fun x y => x.Name < y.Name
  lt : ∀ q, p = some q → ∀ t ∈ ts, q < t.Name
theorem okT_iff : ∀ (ts : List Term) (p : Option Nm), okT p ts = true ↔ OkT p ts
  | [], p => by
    simp only [okT, true_iff]
    exact ⟨by simp, by simp, by simp⟩
  | t :: ts, p => by
    rw [okT_cons]
    simp only [Bool.and_eq_true, Bool.not_eq_true', decide_eq_false_iff_not, okT_iff ts (some t.Name)]
    constructor
    · rintro ⟨⟨⟨⟨h1, h2⟩, h3⟩, h4⟩, h5⟩
      refine ⟨fun u hu => ?_, List.pairwise_cons.2 ⟨fun u hu => h5.lt _ rfl u hu, h5.ord⟩, fun q hq u hu => ?_⟩
      · rcases List.mem_cons.1 hu with rfl | hu
        · exact ⟨h1, h2, h3⟩
        · exact h5.each u hu
      · subst hq
        simp only [ltO, decide_eq_true_eq] at h4
        rcases List.mem_cons.1 hu with rfl | hu
        · exact h4
        · exact List.lt_trans h4 (h5.lt _ rfl u hu)
    · intro h
      have h1 := h.each t (by simp)
      obtain ⟨a1, a2⟩ := List.pairwise_cons.1 h.ord
      refine ⟨⟨⟨⟨h1.1, h1.2.1⟩, h1.2.2⟩, ?_⟩, ⟨fun u hu => h.each u (by simp [hu]), a2, fun q hq u hu => by cases hq; exact a1 u hu⟩⟩
      cases p with
      | none => rfl
      | some q => simpa [ltO] using h.lt q rfl t (by simp)
structure AOk (a : Aff) : Prop where
  t : OkT none a.T
  c : coefOk a.C = true
theorem affOk_iff (a : Aff) : affOk a = true ↔ AOk a := by
  simp only [affOk, Bool.and_eq_true, okT_iff]
  exact ⟨fun h => ⟨h.1, h.2⟩, fun h => ⟨h.t, h.c⟩⟩
theorem coef_mem {ts : List Term} {p : Option Nm} (h : OkT p ts) {t : Term} (ht : t ∈ ts) : coef ts t.Name = t.N := by
  induction ts generalizing p with
  | nil => simp at ht
  | cons u us ih =>
    obtain ⟨a1, a2⟩ := List.pairwise_cons.1 h.ord
    rw [coef]
    rcases List.mem_cons.1 ht with rfl | ht
    · rw [if_pos rfl]
    · rw [if_neg fun e => List.lt_irrefl _ (e ▸ a1 t ht)]
      exact ih (p := none) ⟨fun x hx => h.each x (by simp [hx]), a2, by simp⟩ ht
theorem coef_none {ts : List Term} {n : Nm} (h : ∀ t ∈ ts, t.Name ≠ n) : coef ts n = 0 := by
  induction ts with
  | nil => rfl
  | cons u us ih => rw [coef, if_neg (h u (by simp)), ih fun t ht => h t (by simp [ht])]
theorem coef_zero {ts : List Term} {p : Option Nm} (h : OkT p ts) {n : Nm} : coef ts n = 0 ↔ ∀ t ∈ ts, t.Name ≠ n :=
  ⟨fun h0 t ht e => (h.each t ht).2.1 (by rw [← coef_mem h ht, e]; exact h0), coef_none⟩
theorem coef_b {ts : List Term} {p : Option Nm} (h : OkT p ts) (n : Nm) : -100000 ≤ coef ts n ∧ coef ts n ≤ 100000 := by
  by_cases h0 : ∀ t ∈ ts, t.Name ≠ n
  · rw [coef_none h0]; omega
  · simp only [Classical.not_forall] at h0
    obtain ⟨t, ht, e⟩ := h0
    have e : t.Name = n := Classical.not_not.1 e
    rw [← e, coef_mem h ht]
    exact coefOk_b (h.each t ht).2.2

/-! ### One, and so many times the other one -/
def m1 (b : Aff) (k : Int) (x : Term) : Option Term := if x.N + k * coef b.T x.Name = 0 then none else some ⟨x.Name, x.N + k * coef b.T x.Name⟩
def m2 (a : Aff) (k : Int) (x : Term) : Option Term := if k * x.N = 0 then none else if coef a.T x.Name = 0 then some ⟨x.Name, k * x.N⟩ else none
def mixT (a b : Aff) (k : Int) : List Term := sortT (a.T.filterMap (m1 b k) ++ b.T.filterMap (m2 a k))
def mixA (a b : Aff) (k : Int) : Aff := ⟨a.C + k * b.C, mixT a b k⟩
def okA (a : Aff) : Option Aff := if affOk a = true then some a else none
/-- What is returned: a sum, and is there one. -/
def resA (o : Option Aff) : AV := .tup [some 2, none] [.int .i64 (o.getD ⟨0, []⟩).C, .osl 0 111 (o.getD ⟨0, []⟩).T.length (Ows ((o.getD ⟨0, []⟩).T.flatMap Term.d)), .bool o.isSome]
theorem fm_succ {α β : Type} (f : α → Option β) {xs : List α} {i : Nat} {x : α} (h : xs[i]? = some x) : (xs.take (i + 1)).filterMap f = (xs.take i).filterMap f ++ (match f x with | some y => [y] | none => []) := by
  rw [List.take_add_one, h, List.filterMap_append]
  cases hf : f x <;> simp [hf]
theorem fm_len {α β : Type} (f : α → Option β) (xs : List α) (i : Nat) : ((xs.take i).filterMap f).length ≤ xs.length :=
  Nat.le_trans (List.length_filterMap_le _ _) (by rw [List.length_take]; omega)

theorem nm6 {n : Nm} (h : nameOk n = true) : n.length ≤ 6 := by
  unfold nameOk at h
  simp only [Bool.and_eq_true, decide_eq_true_eq] at h
  exact h.1.2.2
theorem tot6 : ∀ (ts : List Term), (∀ t ∈ ts, t.Name.length ≤ 6) → (ts.map Term.tot).sum ≤ 6 * ts.length
  | [], _ => by simp
  | t :: ts, h => by
    have h1 := h t (by simp)
    have h2 := tot6 ts fun u hu => h u (by simp [hu])
    rw [List.map_cons, List.sum_cons, Term.tot_eq, List.length_cons]
    omega
theorem m1_name {b : Aff} {k : Int} {x y : Term} (h : m1 b k x = some y) : y.Name = x.Name := by
  unfold m1 at h; split at h <;> cases h; rfl
theorem m2_name {a : Aff} {k : Int} {x y : Term} (h : m2 a k x = some y) : y.Name = x.Name := by
  unfold m2 at h; split at h
  · cases h
  · split at h <;> cases h; rfl
theorem mix_impl (a b : Aff) (k : Int) (ha : AOk a) (hb : AOk b) (hk : -100000 ≤ k ∧ k ≤ 100000) (hl : a.T.length + b.T.length ≤ 100000000) : Says prog 112 [.agg (Cs a.d), .agg (Cs b.d), .int .i64 k] (resA (okA (mixA a b k))) [] := by
  refine Fn_G Go.Proofs.Try.func112 ok112 ?_
  have hC := coefOk_b ha.c
  have hD := mulb hk (coefOk_b hb.c)
  have hw1 : IntKind.i64.wrap (k * b.C) = k * b.C := wrap64 (by omega) (by omega)
  have hw2 : IntKind.i64.wrap (a.C + k * b.C) = a.C + k * b.C := wrap64 (by omega) (by omega)
  generalize hR : resA (okA (mixA a b k)) = R0
  simp [v112, r112, hw1, hw2, splice]
  refine G_for (l := l112_1) (b := b112_1) rfl [12, 13] (fun i => [(7, .bx 0 103 [.int .i64 (a.C + k * b.C), .osl 0 111 ((a.T.take i).filterMap (m1 b k)).length (Ows (((a.T.take i).filterMap (m1 b k)).flatMap Term.d))]), (10, .int .i64 i)]) (fun _ => True) a.T.length trivial (by simp) ?_ ?_
  · intro i hi _ q hn hx hr
    obtain ⟨x, hx0⟩ := get_some hi
    have hrow := row_drop Term.d 2 Term.d_len hx0
    have hw := wrap_succ (i := i) (by omega)
    have hcb := coef_b hb.t x.Name
    have hm := mulb hk hcb
    have hxb := coefOk_b (ha.t.each x (List.mem_of_getElem? hx0)).2.2
    have hw3 : IntKind.i64.wrap (k * coef b.T x.Name) = k * coef b.T x.Name := wrap64 (by omega) (by omega)
    have hw4 : IntKind.i64.wrap (x.N + k * coef b.T x.Name) = x.N + k * coef b.T x.Name := wrap64 (by omega) (by omega)
    have hfm := fm_succ (m1 b k) hx0
    have hln := fm_len (m1 b k) a.T i
    generalize (a.T.take i).filterMap (m1 b k) = A at hfm hln ⊢
    rw [hfm] at hn
    have hbd : A.length + 1 ≤ bnd := by unfold bnd; omega
    have f := coef_impl b x.Name (by omega)
    simp at f
    simp [hi, Cs_drop, hrow, splice]
    refine callD f ?_
    by_cases c : x.N + k * coef b.T x.Name = 0
    · have e1 : m1 b k x = none := by simp [m1, c]
      rw [e1] at hn
      simp [hw, hw3, hw4, c]
      refine hn _ ?_ trivial
      simp
    · have e1 : m1 b k x = some ⟨x.Name, x.N + k * coef b.T x.Name⟩ := by simp [m1, c]
      rw [e1] at hn
      simp [hw, hw3, hw4, c, splice, hbd]
      refine hn _ ?_ trivial
      simp
  intro _ q hx hr
  simp
  refine hx _ _ ?_
  clear hx hr q
  generalize hA : a.T.filterMap (m1 b k) = A
  have hAl : A.length ≤ a.T.length := by rw [← hA]; exact List.length_filterMap_le _ _
  simp
  refine G_for (l := l112_0) (b := b112_0) rfl [19, 20] (fun i => [(7, .bx 0 103 [.int .i64 (a.C + k * b.C), .osl 0 111 (A ++ (b.T.take i).filterMap (m2 a k)).length (Ows ((A ++ (b.T.take i).filterMap (m2 a k)).flatMap Term.d))]), (17, .int .i64 i)]) (fun _ => True) b.T.length trivial (by simp) ?_ ?_
  · intro i hi _ q hn hx hr
    obtain ⟨x, hx0⟩ := get_some hi
    have hrow := row_drop Term.d 2 Term.d_len hx0
    have hw := wrap_succ (i := i) (by omega)
    have hxb := coefOk_b (hb.t.each x (List.mem_of_getElem? hx0)).2.2
    have hm := mulb hk hxb
    obtain ⟨y, hy⟩ : ∃ y, k * x.N = y := ⟨_, rfl⟩
    have hw3 : IntKind.i64.wrap (k * x.N) = y := by rw [hy]; exact wrap64 (by omega) (by omega)
    have hfm := fm_succ (m2 a k) hx0
    have hln := fm_len (m2 a k) b.T i
    rw [hfm, ← List.append_assoc] at hn
    generalize hB : A ++ (b.T.take i).filterMap (m2 a k) = B at hn ⊢
    have hbd : B.length + 1 ≤ bnd := by rw [← hB, List.length_append]; unfold bnd; omega
    have f := coef_impl a x.Name (by omega)
    simp at f
    by_cases c : y = 0
    · have e1 : m2 a k x = none := by unfold m2; rw [hy, if_pos c]
      rw [e1] at hn
      simp [hi, Cs_drop, hrow, splice, hw3, c, hw]
      refine hn _ ?_ trivial
      simp
    · by_cases c2 : coef a.T x.Name = 0
      · have e1 : m2 a k x = some ⟨x.Name, y⟩ := by unfold m2; rw [hy, if_neg c, if_pos c2]
        rw [e1] at hn
        rw [c2] at f
        simp [hi, Cs_drop, hrow, splice, hw3, c]
        refine callG f ?_
        simp [hw, splice, hbd, c]
        refine hn _ ?_ trivial
        simp
      · have e1 : m2 a k x = none := by unfold m2; rw [hy, if_neg c, if_neg c2]
        rw [e1] at hn
        simp [hi, Cs_drop, hrow, splice, hw3, c]
        refine callG f ?_
        simp [hw, splice, c, c2]
        refine hn _ ?_ trivial
        simp
  intro _ q hx hr
  rw [List.take_length]
  generalize hB : A ++ b.T.filterMap (m2 a k) = B
  simp
  refine hx _ _ ?_
  clear hx hr q
  have hBl : B.length ≤ 100000000 := by
    have := List.length_filterMap_le (m2 a k) b.T
    rw [← hB, List.length_append]; omega
  have fS := sortF_says B (by omega)
  have hBn : ∀ t ∈ B, t.Name.length ≤ 6 := by
    intro t ht
    rw [← hB, ← hA] at ht
    rcases List.mem_append.1 ht with ht | ht
    · obtain ⟨x, hx, he⟩ := List.mem_filterMap.1 ht
      rw [m1_name he]; exact nm6 (ha.t.each x hx).1
    · obtain ⟨x, hx, he⟩ := List.mem_filterMap.1 ht
      rw [m2_name he]; exact nm6 (hb.t.each x hx).1
  have fO := affOk_impl ⟨a.C + k * b.C, sortT B⟩ (by
    rw [Aff.tot_eq]
    show (sortT B).length + ((sortT B).map Term.tot).sum ≤ 4294967296
    have := tot6 (sortT B) fun t ht => hBn t ((sortT_facts B).1.mem_iff.1 ht)
    rw [sortT_len] at this ⊢
    omega)
  have hM : mixA a b k = ⟨a.C + k * b.C, sortT B⟩ := by rw [mixA, mixT, hA, hB]
  rw [hM] at hR
  have hlen := sortT_len B
  generalize sortT B = Z at fS fO hR hlen
  have pl : plainFn prog 116 = true := by kernel_rfl
  simp at fO
  simp
  refine callM [_] pl fS ?_
  simp
  refine callG fO ?_
  cases hz : affOk ⟨a.C + k * b.C, Z⟩
  · simp [splice, ← hR, okA, hz, resA]
  · simp [splice, ← hR, okA, hz, resA]
end Go.AmC
