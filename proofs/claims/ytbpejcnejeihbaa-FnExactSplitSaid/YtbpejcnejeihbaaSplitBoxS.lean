/- Part of a proof: see the last text of this folder. -/
import Derived.Test.YtbpejcnejeihbaaSplitBoxR
set_option linter.unusedSimpArgs false
set_option linter.unusedVariables false
set_option maxRecDepth 20000
set_option maxHeartbeats 4000000
namespace Go.AmC
open Go Go.AM
open Go.Proofs.Try (prog)

mutual
def boxS (out : List Rng) : Stmt → List Rng × Bool
  | ⟨K, S, _, _, Lo, Hi, B⟩ => if K = 3 ∧ (constE Lo).isSome = true ∧ (constE Hi).isSome = true then boxL (out ++ [⟨S, (constE Lo).getD 0, (constE Hi).getD 0⟩]) B else (out, false)
def boxL (out : List Rng) : List Stmt → List Rng × Bool
  | [] => (out, true)
  | s :: l => if s.K = 3 then (if (boxS out s).2 = true then boxL (boxS out s).1 l else (out, false)) else boxL out l
end
theorem boxS_eq (out : List Rng) (x : Stmt) : boxS out x = if x.K = 3 ∧ (constE x.Lo).isSome = true ∧ (constE x.Hi).isSome = true then boxL (out ++ [⟨x.S, (constE x.Lo).getD 0, (constE x.Hi).getD 0⟩]) x.Body else (out, false) := by
  cases x; rw [boxS]
def BoxRel (out : List Rng) (r p : List Rng × Bool) : Prop := r.2 = p.2 ∧ (p.2 = true → r.1 = out ++ p.1)
theorem boxL_raw {l : List Stmt} (h : ∀ x ∈ l, ∀ out, BoxRel out (boxS out x) ((rawS x).1, decide (x.K = 3) && (rawS x).2)) : ∀ out, BoxRel out (boxL out l) (rawL l) := by
  induction l with
  | nil => intro out; simp [BoxRel, boxL, rawL]
  | cons s l ih =>
    intro out
    have hs := h s (by simp) out
    have ih := ih fun x hx => h x (by simp [hx])
    have e : rawL (s :: l) = ((rawS s).1 ++ (rawL l).1, (rawS s).2 && (rawL l).2) := by simp [rawL]
    rw [e]
    by_cases c : s.K = 3
    · rw [boxL, if_pos c]
      simp only [BoxRel, c, decide_true, Bool.true_and] at hs ⊢
      cases hb : (rawS s).2
      · rw [hs.1, hb]; simp
      · rw [hs.1, hb, if_pos rfl]
        have := ih (boxS out s).1
        rw [hs.2 hb] at this ⊢
        simp only [BoxRel] at this
        simpa using this
    · rw [boxL, if_neg c]
      have e2 : rawS s = ([], true) := by rw [rawS_eq, if_neg c]
      rw [e2]; simpa using ih out
theorem boxS_raw : ∀ x : Stmt, ∀ out, BoxRel out (boxS out x) ((rawS x).1, decide (x.K = 3) && (rawS x).2) := Stmt.ind fun x ih out => by
  rw [boxS_eq, rawS_eq]
  by_cases c : x.K = 3
  · simp only [c, true_and, if_true, decide_true, Bool.true_and]
    cases h1 : (constE x.Lo).isSome
    · simp [BoxRel]
    cases h2 : (constE x.Hi).isSome
    · simp [BoxRel]
    have := boxL_raw ih (out ++ [⟨x.S, (constE x.Lo).getD 0, (constE x.Hi).getD 0⟩])
    simpa [BoxRel] using this
  · simp [c, BoxRel]
theorem boxS_len : ∀ x : Stmt, ∀ out, (boxS out x).1.length ≤ out.length + 1 + x.tot := Stmt.ind fun x ih out => by
  rw [boxS_eq, x.tot_eq]
  have key : ∀ l : List Stmt, (∀ y ∈ l, ∀ out, (boxS out y).1.length ≤ out.length + 1 + y.tot) → ∀ out, (boxL out l).1.length ≤ out.length + l.length + (l.map Stmt.tot).sum := by
    intro l
    induction l with
    | nil => intro _ out; simp [boxL]
    | cons y l ihl =>
      intro hy out
      have h1 := hy y (by simp) out
      have h2 := ihl (fun z hz => hy z (by simp [hz]))
      rw [boxL]
      simp only [List.length_cons, List.map_cons, List.sum_cons]
      split
      · split
        · have := h2 (boxS out y).1; omega
        · simp only; omega
      · have := h2 out; omega
  split
  · have := key _ ih (out ++ [⟨x.S, (constE x.Lo).getD 0, (constE x.Hi).getD 0⟩])
    simp only [List.length_append, List.length_cons, List.length_nil] at this
    omega
  · simp only; omega
theorem boxL_len (l : List Stmt) (out : List Rng) : (boxL out l).1.length ≤ out.length + l.length + (l.map Stmt.tot).sum := by
  induction l generalizing out with
  | nil => simp [boxL]
  | cons y l ihl =>
    have h1 := boxS_len y out
    rw [boxL]
    simp only [List.length_cons, List.map_cons, List.sum_cons]
    split
    · split
      · have := ihl (boxS out y).1; omega
      · simp only; omega
    · have := ihl out; omega
/-- What is returned: the ranges; where there are none, a slice of which nothing is said. -/
def resB (r : List Rng × Bool) : AV := .tup [none, none] [if r.2 = true then .osl 0 75 r.1.length (Ows (r.1.flatMap Rng.d)) else .rsl r.1.length [], .bool r.2]
theorem resB_t {l : List Rng} : resB (l, true) = .tup [none, none] [.osl 0 75 l.length (Ows (l.flatMap Rng.d)), .bool true] := rfl
theorem resB_f {l : List Rng} : resB (l, false) = .tup [none, none] [.rsl l.length [], .bool false] := rfl
theorem box_f1 {g : Nat} {args : List AV} {l : List Rng} (h : Says prog g args (.tup [none, none] [.osl 0 75 l.length (Ows (l.flatMap Rng.d)), .bool false]) []) : Says prog g args (resB (l, false)) [] :=
  weak_tup (fun w Φ σ cv f hv => ⟨_, weak_osl hv, fun b => Nat.zero_le _⟩) rfl rfl h
theorem box_f2 {g : Nat} {args : List AV} {l : List Rng} (h : Says prog g args (.tup [none, none] [.rsl l.length (Cs (l.flatMap Rng.d)), .bool false]) []) : Says prog g args (resB (l, false)) [] :=
  weak_tup (fun w Φ σ cv f hv => ⟨f, weak_rsl hv, fun b => Nat.le_refl _⟩) rfl rfl h

theorem box_spec : ∀ (x : Stmt), x.tot ≤ 10000000 → ∀ out : List Rng, out.length + 1 + x.tot ≤ 100000000 → Says prog 70 [.rsl out.length (Cs (out.flatMap Rng.d)), .agg (Cs x.d)] (resB (boxS out x)) [] := Stmt.ind fun x ih hx out ho => by
  have hxe := x.tot_eq
  have fL := const_spec x.Lo (by omega)
  have fH := const_spec x.Hi (by omega)
  rw [boxS_eq]
  generalize hlo : constE x.Lo = lo at fL ⊢
  generalize hhi : constE x.Hi = hi at fH ⊢
  simp [resC] at fL fH
  by_cases c : x.K = 3 ∧ lo.isSome = true ∧ hi.isSome = true
  · obtain ⟨c1, c2, c3⟩ := c
    rw [if_pos ⟨c1, c2, c3⟩]
    rw [c2] at fL
    rw [c3] at fH
    have hbl := boxL_len x.Body (out ++ [⟨x.S, lo.getD 0, hi.getD 0⟩])
    have hcl : (List.flatMap Rng.d out).length = out.length * 3 := len_flat Rng.d 3 Rng.d_len out
    have hb0 : out.length ≤ bnd := by unfold bnd; omega
    have hb1 : out.length + 1 ≤ bnd := by unfold bnd; omega
    have main : ∀ R0, (∀ r, boxL (out ++ [⟨x.S, lo.getD 0, hi.getD 0⟩]) x.Body = r → R0 = .tup [none, none] [.osl 0 75 r.1.length (Ows (r.1.flatMap Rng.d)), .bool r.2]) → Says prog 70 [.rsl out.length (Cs (out.flatMap Rng.d)), .agg (Cs x.d)] R0 [] := by
      intro R0 hR
      refine Fn_G Go.Proofs.Try.func70 ok70 ?_
      simp [v70, r70, splice]
      refine callG fL ?_
      simp
      refine callG fH ?_
      simp [c1, hb0, hb1, splice, hcl, -List.length_flatMap]
      refine G_whl (α := Nat × List Rng) (l := l70_0) (b := b70_0) rfl [13, 14] (fun a => [(0, .osl 0 75 a.2.length (Ows (a.2.flatMap Rng.d))), (10, .int .i64 a.1)]) (fun a => x.Body.length - a.1)
        (fun a => a.1 ≤ x.Body.length ∧ boxL a.2 (x.Body.drop a.1) = boxL (out ++ [⟨x.S, lo.getD 0, hi.getD 0⟩]) x.Body ∧ a.2.length + (x.Body.drop a.1).length + ((x.Body.drop a.1).map Stmt.tot).sum ≤ out.length + 1 + x.tot) (0, out ++ [⟨x.S, lo.getD 0, hi.getD 0⟩]) ⟨by simp, by simp, by simp; omega⟩ (by simp [rng_sc]) ?_
      rintro ⟨i, o⟩ ⟨hi, hI, hJ⟩ q hn hx hr
      simp only at hi hI hJ
      have hR := hR _ hI.symm
      by_cases hil : i < x.Body.length
      · obtain ⟨y, hy0⟩ := get_some hil
        have hrow := row_drop Stmt.d 19 Stmt.d_len hy0
        have hw := wrap_succ (i := i) (by omega)
        have hm := List.mem_of_getElem? hy0
        have hyt := mem_sum Stmt.tot hm
        rw [drop_cons hy0, boxL] at hI hR
        rw [drop_cons hy0] at hJ
        simp only [List.length_cons, List.map_cons, List.sum_cons] at hJ
        by_cases d1 : y.K = 3
        · rw [if_pos d1] at hI hR
          have f := ih y hm (by omega) o (by omega)
          have hbl := boxS_len y o
          generalize boxS o y = r at f hI hR hbl
          obtain ⟨r1, r2⟩ := r
          simp [d1] at f
          cases r2
          · simp at hR
            simp [resB] at f
            simp [hil, Cs_drop, hrow, d1]
            refine callG f ?_
            simp
            refine hr _ ?_
            simp [hR]
          · simp only [if_true] at hI hR
            simp [resB] at f
            simp [hil, Cs_drop, hrow, d1]
            refine callG f ?_
            simp [hw]
            simp only at hbl
            exact hn _ (i + 1, r1) (by simp) ⟨by omega, hI, by simp only; omega⟩ (by simp only; omega)
        · rw [if_neg d1] at hI hR
          simp [hil, Cs_drop, hrow, d1, hw]
          exact hn _ (i + 1, o) (by simp) ⟨by omega, hI, by simp only; omega⟩ (by simp only; omega)
      · have hie : i = x.Body.length := by omega
        subst hie
        simp [boxL] at hR
        simp
        refine hx _ _ ?_
        simp [hR]
    generalize hr : boxL (out ++ [⟨x.S, lo.getD 0, hi.getD 0⟩]) x.Body = r at main
    obtain ⟨r1, r2⟩ := r
    have := main _ (fun r' h => by rw [← h])
    cases r2
    · exact box_f1 this
    · exact this
  · rw [if_neg c]
    refine box_f2 ?_
    refine Fn_G Go.Proofs.Try.func70 ok70 ?_
    by_cases c1 : x.K = 3
    · cases c2 : lo.isSome
      · rw [c2] at fL
        simp [v70, r70, splice]
        refine callG fL ?_
        simp
        refine callG fH ?_
        simp [c1]
      · cases c3 : hi.isSome
        · rw [c2] at fL
          rw [c3] at fH
          simp [v70, r70, splice]
          refine callG fL ?_
          simp
          refine callG fH ?_
          simp [c1]
        · exact absurd ⟨c1, c2, c3⟩ c
    · simp [v70, r70, splice]
      refine callG fL ?_
      simp
      refine callG fH ?_
      simp [c1]
end Go.AmC
