/- Part of a proof: see the last text of this folder. -/
import Derived.Test.YtodlnccdpbpokaaDoorAffTextNum
import Derived.Test.YtodlnccdpbpokaaDoorAffTextAffK
import Derived.Test.YtodlnccdpbpokaaDoorAffTextLay2
set_option linter.unusedSimpArgs false
set_option linter.unusedVariables false
set_option maxRecDepth 20000
set_option maxHeartbeats 4000000
namespace Go.AmC
open Go Go.AM
open Go.Proofs.Tryd (prog)

theorem joinX : Go.Proofs.Builder.Extra prog Go.Proofs.Tryd.join_ren where
  sizeBuilder := by kernel_rfl
  liesBuilder := by kernel_rfl
  t5 := Go.Proofs.Tryd.underlying5
  a5 := Go.Proofs.Tryd.isAgg5
  z5 := Go.Proofs.Tryd.sizeOf5
  v5 := Go.Proofs.Tryd.zeroValue5
  infoByte := by kernel_rfl
  cellsByte := by kernel_rfl
  sizeByte := by kernel_rfl
  neB5 := by decide
theorem plJoin : plainFn prog 24 = true := by kernel_rfl
theorem join_says (xs : List (List UInt8)) (sep : List UInt8) (hN : xs.length ≤ 4294967296) (hlen : (Lib.join xs sep).length ≤ 4294967296) :
    Says prog 24 [.osl 1 9 xs.length (Ows (xs.flatMap dStr)), .str sep] (.str (Lib.join xs sep)) (num 1 [.osl 1 9 xs.length (Ows (xs.flatMap dStr))]) := by
  have hm : (xs.map fun x => (⟨x.toArray⟩ : ByteArray)).map (·.data.toList) = xs := by simp [Function.comp_def]
  refine says_join (by kernel_rfl) xs sep (fun w blk cap hc hb hn => ?_) (fun w => ?_)
  · have := Go.Proofs.Any.strings_Join Go.Proofs.Tryd.join joinX blk 0 cap (xs.map fun x => ⟨x.toArray⟩) ⟨sep.toArray⟩ w (fun j x hj => by
      rw [List.getElem?_map] at hj
      cases h : xs[j]? with
      | none => rw [h] at hj; cases hj
      | some y =>
        rw [h] at hj
        obtain rfl := Option.some.inj hj
        rw [Nat.zero_add]
        exact hc j y h) hb (by simp; omega) (by simpa using hn) (by rw [hm]; simp; omega)
    rw [hm] at this
    simp only [List.length_map] at this
    refine Calls.mono this ?_
    rintro en w' ⟨rfl, hbl⟩
    exact ⟨rfl, Still.of_below hbl⟩
  · exact Go.Proofs.Any.strings_Join_none Go.Proofs.Tryd.join joinX none 0 ⟨sep.toArray⟩ w

/-! ### A straight sum as text -/
def sepT : List UInt8 := [32, 43, 32]
def termS (t : Term) : List UInt8 := numS t.N ++ 42 :: t.Name
def jn (l : List (List UInt8)) : List UInt8 := Lib.join l sepT
theorem jn_snoc (l : List (List UInt8)) (x : List UInt8) : jn (l ++ [x]) = if l = [] then x else jn l ++ sepT ++ x := by
  unfold jn
  cases l with
  | nil => simp [Lib.join_one]
  | cons y l => simp [Lib.join_cons, Lib.joinTail]
theorem jn_len (l : List (List UInt8)) : (jn l).length ≤ (l.map List.length).sum + 3 * l.length := by
  unfold jn
  cases l with
  | nil => simp [Lib.join_nil]
  | cons y l =>
    rw [Lib.join_cons]
    have : ∀ r : List (List UInt8), (Lib.joinTail sepT r).length = (r.map List.length).sum + 3 * r.length := by
      intro r
      induction r with
      | nil => simp [Lib.joinTail]
      | cons z r ih => unfold Lib.joinTail at ih ⊢; simp [sepT] at ih ⊢; omega
    have := this l
    simp; omega
def texts (a : Aff) : List (List UInt8) := a.T.map termS ++ (if a.C ≠ 0 ∨ a.T = [] then [numS a.C] else [])
def affTx (a : Aff) : List UInt8 := if affOk a = true then jn (texts a) else []
theorem coef64 {n : Int} (h : coefOk n = true) : i64R n := by
  unfold coefOk at h
  simp at h
  unfold i64R; omega
theorem okT_mem : ∀ {ts : List Term} {p : Option (List UInt8)}, okT p ts = true → ∀ t ∈ ts, i64R t.N
  | [], _, _, t, ht => by simp at ht
  | x :: ts, p, h, t, ht => by
    rw [okT_cons] at h
    simp at h
    rcases List.mem_cons.1 ht with rfl | ht
    · exact coef64 h.1.1.2
    · exact okT_mem h.2 t ht
theorem termS_sum : ∀ {ts : List Term}, (∀ t ∈ ts, i64R t.N) → ((ts.map termS).map List.length).sum ≤ 21 * ts.length + (ts.map Term.tot).sum
  | [], _ => by simp
  | x :: ts, h => by
    have h1 := numS_len (h x (by simp))
    have h2 := termS_sum (ts := ts) fun t ht => h t (by simp [ht])
    have h3 := x.tot_eq
    simp only [List.map_cons, List.sum_cons, termS, List.length_append, List.length_cons]
    omega
theorem jn_bound {ts : List Term} (h : ∀ t ∈ ts, i64R t.N) (hb : ts.length + (ts.map Term.tot).sum ≤ 1048576) (i : Nat) : (jn ((ts.take i).map termS)).length ≤ 26214400 := by
  have h1 := jn_len ((ts.take i).map termS)
  have h2 := termS_sum (ts := ts.take i) fun t ht => h t (List.mem_of_mem_take ht)
  have h3 := sum_take_le Term.tot ts i
  have h4 : (ts.take i).length ≤ ts.length := by simp; omega
  rw [List.length_map] at h1
  omega
theorem termS_len {ts : List Term} {t : Term} (h : ∀ t ∈ ts, i64R t.N) (ht : t ∈ ts) (hb : ts.length + (ts.map Term.tot).sum ≤ 1048576) : (numS t.N).length ≤ 20 ∧ t.Name.length ≤ 1048576 := by
  have h1 := numS_len (h t ht)
  have h2 := mem_sum Term.tot ht
  have h3 := t.tot_eq
  omega

theorem affText_spec (a : Aff) (hl : a.tot ≤ 1048576) : Says prog 11 [.agg (Cs a.d)] (.str (affTx a)) [] := by
  have ht := a.tot_eq
  have fO := affOk_spec a (by omega)
  refine Fn_G Go.Proofs.Tryd.func11 ok11 ?_
  unfold affTx
  simp at fO
  cases ho : affOk a
  · rw [ho] at fO
    simp [v11, r11]
    refine callG fO ?_
    simp
  rw [ho] at fO
  have ho' := ho
  unfold affOk at ho'
  simp only [Bool.and_eq_true] at ho'
  have hT := okT_mem ho'.1
  have hC := coef64 ho'.2
  have hCl := numS_len hC
  have fC := num_spec a.C hC
  have hb : a.T.length + (a.T.map Term.tot).sum ≤ 1048576 := by omega
  simp [v11, r11]
  refine callG fO ?_
  simp
  refine G_for (l := l11_0) (b := b11_0) rfl [7] (fun i => [(4, .str (jn ((a.T.take i).map termS))), (5, .int .i64 i)]) (fun i => True) a.T.length trivial (by simp [jn, Lib.join_nil]) ?_ ?_
  · intro i hi _ q hn hx hr
    obtain ⟨y, hy0⟩ := get_some hi
    have hrow := row_drop Term.d 2 Term.d_len hy0
    have hw := wrap_succ (i := i) (by omega)
    have hym := List.mem_of_getElem? hy0
    have f := num_spec y.N (hT y hym)
    have hA := jn_bound hT hb i
    have hyl := termS_len hT hym hb
    have hs : (a.T.take (i + 1)).map termS = (a.T.take i).map termS ++ [termS y] := by rw [List.take_add_one, hy0]; simp
    have he : ((a.T.take i).map termS = []) ↔ i = 0 := by
      rw [List.map_eq_nil_iff, List.take_eq_nil_iff]
      constructor
      · rintro (h | h)
        · exact h
        · rw [h] at hi; simp at hi
      · exact .inl
    rw [hs, jn_snoc] at hn
    simp only [he] at hn
    have hA0 : i = 0 → jn ((a.T.take i).map termS) = [] := by rintro rfl; simp [jn, Lib.join_nil]
    generalize jn ((a.T.take i).map termS) = A at hn hA hA0 ⊢
    by_cases c : i = 0
    · rw [hA0 c]
      rw [if_pos c] at hn
      subst c
      have b1 : (numS y.N).length ≤ bnd := by unfold bnd; omega
      have b2 : (numS y.N).length + 1 ≤ bnd := by unfold bnd; omega
      have b3 : (numS y.N).length + 1 + y.Name.length ≤ bnd := by unfold bnd; omega
      have hi' : 0 < a.T.length := hi
      have hrow' : a.T.flatMap Term.d = Term.d y ++ (a.T.drop 1).flatMap Term.d := by simpa using hrow
      simp [hi', Cs_drop, hrow']
      refine callD f ?_
      simp [b1, b2, b3, hi', Cs_drop, hrow']
      refine hn _ ?_ trivial
      simp [termS, hrow']
    · rw [if_neg c] at hn
      have c' : 0 < i := by omega
      have b0 : A.length + 1 + 1 + 1 ≤ bnd := by unfold bnd; omega
      have b1 : A.length + 1 + 1 + 1 + (numS y.N).length ≤ bnd := by unfold bnd; omega
      have b2 : A.length + 1 + 1 + 1 + (numS y.N).length + 1 ≤ bnd := by unfold bnd; omega
      have b3 : A.length + 1 + 1 + 1 + (numS y.N).length + 1 + y.Name.length ≤ bnd := by unfold bnd; omega
      simp [hi, c', Cs_drop, hrow, b0]
      refine callD f ?_
      have c3 : A.length + 3 + (numS y.N).length ≤ bnd := by unfold bnd; omega
      have c4 : A.length + 3 + (numS y.N).length + 1 ≤ bnd := by unfold bnd; omega
      have c5 : A.length + 3 + (numS y.N).length + 1 + y.Name.length ≤ bnd := by unfold bnd; omega
      have d1 : A.length + ((numS y.N).length + 1 + 1 + 1) ≤ bnd := by unfold bnd; omega
      have d2 : A.length + ((numS y.N).length + 1 + 1 + 1 + 1) ≤ bnd := by unfold bnd; omega
      have d3 : A.length + ((numS y.N).length + 1 + 1 + 1) + 1 ≤ bnd := by unfold bnd; omega
      have d4 : A.length + ((numS y.N).length + 1 + 1 + 1 + 1) + y.Name.length ≤ bnd := by unfold bnd; omega
      simp [b1, b2, b3, c3, c4, c5, d1, d2, d3, d4, hw, hi, Cs_drop, hrow]
      refine hn _ ?_ trivial
      simp [termS, sepT]
  · intro _ q hx hr
    have hA := jn_bound hT hb a.T.length
    rw [List.take_length] at hA
    simp
    refine hx _ _ ?_
    generalize hJ : jn (a.T.map termS) = A at hA ⊢
    have b0 : A.length + 3 ≤ bnd := by unfold bnd; omega
    have b1 : A.length + 3 + (numS a.C).length ≤ bnd := by unfold bnd; omega
    have h0 : ((a.T.length : Int) == 0) = decide (a.T = []) := by rw [Bool.eq_iff_iff]; simp
    by_cases c1 : a.T = []
    · simp [c1, h0]
      refine callG fC ?_
      simp [texts, c1, jn, Lib.join_one]
    · by_cases c2 : a.C = 0
      · simp [c1, c2, h0, texts, hJ]
      · simp [c1, c2, h0, b0]
        refine callG fC ?_
        have e : jn (texts a) = A ++ sepT ++ numS a.C := by
          unfold texts
          rw [if_pos (.inl c2), jn_snoc, if_neg (by simpa using c1), hJ]
        simp [b1, e, sepT]

theorem flat_str (xs : List (List UInt8)) : (xs.flatMap dStr).length = xs.length := by
  induction xs with
  | nil => rfl
  | cons x xs ih => simp [ih]
theorem affText_impl (a : Aff) (hl : a.tot ≤ 1048576) : Says prog 13 [.agg (Cs a.d)] (.str (affTx a)) [] := by
  have ht := a.tot_eq
  have fO := affOk_impl a (by omega)
  refine Fn_G Go.Proofs.Tryd.func13 ok13 ?_
  unfold affTx
  simp at fO
  cases ho : affOk a
  · rw [ho] at fO
    simp [v13, r13]
    refine callG fO ?_
    simp
  rw [ho] at fO
  have ho' := ho
  unfold affOk at ho'
  simp only [Bool.and_eq_true] at ho'
  have hT := okT_mem ho'.1
  have hC := coef64 ho'.2
  have hCl := numS_len hC
  have fC := num_impl a.C hC
  have hb : a.T.length + (a.T.map Term.tot).sum ≤ 1048576 := by omega
  have fJ := join_says (texts a) sepT (by
    unfold texts
    split <;> simp <;> omega) (by
    have h1 := jn_bound hT hb a.T.length
    rw [List.take_length] at h1
    show (jn (texts a)).length ≤ _
    unfold texts
    split
    · rw [jn_snoc]; split
      · omega
      · simp [sepT]; omega
    · rw [List.append_nil]; omega)
  change Says _ _ _ (.str (jn (texts a))) _ at fJ
  simp [v13, r13]
  refine callG fO ?_
  simp
  refine G_for (l := l13_0) (b := b13_0) rfl [8, 9] (fun i => [(4, .osl 0 9 ((a.T.take i).map termS).length (Ows (((a.T.take i).map termS).flatMap dStr))), (7, .int .i64 i)]) (fun i => True) a.T.length trivial (by simp) ?_ ?_
  · intro i hi _ q hn hx hr
    obtain ⟨y, hy0⟩ := get_some hi
    have hrow := row_drop Term.d 2 Term.d_len hy0
    have hw := wrap_succ (i := i) (by omega)
    have hym := List.mem_of_getElem? hy0
    have f := num_impl y.N (hT y hym)
    have hyl := termS_len hT hym hb
    have hs : (a.T.take (i + 1)).map termS = (a.T.take i).map termS ++ [termS y] := by rw [List.take_add_one, hy0]; simp
    have hA : ((a.T.take i).map termS).length ≤ 1048576 := by simp; omega
    rw [hs] at hn
    generalize (a.T.take i).map termS = A at hn hA ⊢
    have b1 : (numS y.N).length + 1 ≤ bnd := by unfold bnd; omega
    have b2 : (numS y.N).length + 1 + y.Name.length ≤ bnd := by unfold bnd; omega
    have b3 : A.length + 1 ≤ bnd := by unfold bnd; omega
    simp [hi, Cs_drop, hrow, splice]
    refine callD f ?_
    simp [b1, b2, b3, hw]
    refine hn _ ?_ trivial
    simp [termS]
  · intro _ q hx hr
    rw [List.take_length]
    simp
    refine hx _ _ ?_
    have h0 : ((a.T.length : Int) == 0) = decide (a.T = []) := by rw [Bool.eq_iff_iff]; simp
    have hcases : (a.C ≠ 0 ∨ a.T = []) ∨ ¬ (a.C ≠ 0 ∨ a.T = []) := Classical.em _
    have b3 : a.T.length + 1 ≤ bnd := by unfold bnd; omega
    rcases hcases with c | c
    · have e : texts a = a.T.map termS ++ [numS a.C] := by unfold texts; rw [if_pos c]
      rw [e] at fJ ⊢
      simp at fJ
      by_cases c1 : a.C = 0
      · have c2 : a.T = [] := by rcases c with h | h; exact absurd c1 h; exact h
        simp [c2] at fJ
        simp [c1, c2] at fC fJ
        simp [c1, c2, h0, splice]
        refine callG fC ?_
        simp [c1, c2, show 1 ≤ bnd by decide]
        refine callM [_] plJoin fJ ?_
        simp
      · simp [c1, h0, splice]
        refine callG fC ?_
        simp [b3]
        refine callM [_] plJoin fJ ?_
        simp
    · have e : texts a = a.T.map termS := by unfold texts; rw [if_neg c, List.append_nil]
      rw [e] at fJ ⊢
      simp only [not_or, Classical.not_not] at c
      simp at fJ
      simp [c.1, c.2, h0]
      refine callM [_] plJoin fJ ?_
      simp
theorem law_AffText (a : Aff) (h1 : Aff.lg a) : Says prog 4 [.agg (Cs (Aff.d a))] (.bool true) [] := by
  refine Fn_G Go.Proofs.Tryd.func4 ok4 ?_
  have z1 := sz_Aff a h1 ((1048576 : Int)) (by omega) (by omega)
  by_cases c1 : ((Aff.tot a : Nat) : Int) ≤ (1048576 : Int)
  · have e1 : szR (Aff.tot a) ((1048576 : Int)) = (1048576 : Int) - (Aff.tot a : Nat) := by unfold szR; rw [if_pos c1]
    have d1 : ¬ ((1048576 : Int) - (Aff.tot a : Nat) < 0) := by omega
    rw [e1] at z1
    have b1 : Aff.tot a ≤ 1048576 := by omega
    have t1 := to_Aff a b1
    have q1 := eq_Aff a h1
    have f1 := affText_spec a (by omega)
    have f2 := affText_impl a (by omega)
    try simp at z1
    try simp at t1
    try simp at q1
    try simp at f1
    try simp at f2
    simp [v4, r4]
    repeat' (first | refine callG (by assumption) ?_ | refine callD (by assumption) ?_ | (simp [d1]; done) | simp [d1])
  · have e1 : szR (Aff.tot a) ((1048576 : Int)) = -1 := by unfold szR; rw [if_neg c1]
    rw [e1] at z1
    try simp at z1
    simp [v4, r4]
    repeat' (first | refine callG (by assumption) ?_ | (simp []; done) | simp [])

end Go.AmC
