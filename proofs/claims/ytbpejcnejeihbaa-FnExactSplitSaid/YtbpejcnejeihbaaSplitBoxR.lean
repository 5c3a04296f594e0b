/- Part of a proof: see the last text of this folder. -/
import Derived.Test.YtbpejcnejeihbaaSplitBox
set_option linter.unusedSimpArgs false
set_option linter.unusedVariables false
set_option maxRecDepth 20000
set_option maxHeartbeats 4000000
namespace Go.AmC
open Go Go.AM
open Go.Proofs.Try (prog)

/-! ### The ranges of loops -/
def rawS : Stmt → List Rng × Bool
  | ⟨K, S, _, _, Lo, Hi, B⟩ => if K = 3 then (⟨S, (constE Lo).getD 0, (constE Hi).getD 0⟩ :: (B.map rawS).flatMap (·.1), (constE Lo).isSome && (constE Hi).isSome && (B.map rawS).all (·.2)) else ([], true)
def rawL (l : List Stmt) : List Rng × Bool := ((l.map rawS).flatMap (·.1), (l.map rawS).all (·.2))
theorem rawS_eq (x : Stmt) : rawS x = if x.K = 3 then (⟨x.S, (constE x.Lo).getD 0, (constE x.Hi).getD 0⟩ :: (rawL x.Body).1, (constE x.Lo).isSome && (constE x.Hi).isSome && (rawL x.Body).2) else ([], true) := by
  cases x; rw [rawS]; rfl
theorem rawL_succ {l : List Stmt} {i : Nat} {x : Stmt} (h : l[i]? = some x) : rawL (l.take (i + 1)) = ((rawL (l.take i)).1 ++ (rawS x).1, (rawL (l.take i)).2 && (rawS x).2) := by
  rw [List.take_add_one, h]; simp [rawL, List.flatMap_append, List.all_append]
theorem rawS_len : ∀ x : Stmt, (rawS x).1.length ≤ 1 + x.tot := Stmt.ind fun x ih => by
  rw [rawS_eq, x.tot_eq]
  split
  · have h : (rawL x.Body).1.length ≤ x.Body.length + (x.Body.map Stmt.tot).sum := by
      have key : ∀ l : List Stmt, (∀ y ∈ l, (rawS y).1.length ≤ 1 + y.tot) → (rawL l).1.length ≤ l.length + (l.map Stmt.tot).sum := by
        intro l
        induction l with
        | nil => intro _; simp [rawL]
        | cons y l ihl =>
          intro hy
          have h1 := hy y (by simp)
          have h2 := ihl fun z hz => hy z (by simp [hz])
          simp only [rawL, List.map_cons, List.flatMap_cons, List.length_append, List.length_cons, List.sum_cons] at h2 ⊢
          omega
      exact key _ ih
    simp only [List.length_cons]; omega
  · simp
theorem rawL_len (l : List Stmt) : (rawL l).1.length ≤ l.length + (l.map Stmt.tot).sum := by
  induction l with
  | nil => simp [rawL]
  | cons y l ih =>
    have h1 := rawS_len y
    simp only [rawL, List.map_cons, List.flatMap_cons, List.length_append, List.length_cons, List.sum_cons] at ih ⊢
    omega
theorem rawL_take_len (l : List Stmt) (i : Nat) : (rawL (l.take i)).1.length ≤ (rawL l).1.length := by
  have : rawL l = ((rawL (l.take i)).1 ++ (rawL (l.drop i)).1, (rawL l).2) := by
    have h : l = l.take i ++ l.drop i := (List.take_append_drop i l).symm
    conv => lhs; rw [h]
    simp only [rawL, List.map_append, List.flatMap_append]
    rw [Prod.mk.injEq]
    exact ⟨rfl, by conv => rhs; rw [h, List.map_append]⟩
  rw [this]; simp
theorem Ows_sc : ∀ {ds : List D}, (∀ d ∈ ds, isL d = false) → Ows ds = Cs ds
  | [], _ => rfl
  | d :: ds, h => by
    have h1 := h d (by simp)
    have h2 := Ows_sc (ds := ds) fun x hx => h x (by simp [hx])
    rw [Ows_cons, Cs_cons, h2]
    cases d <;> first | rfl | simp [isL] at h1
theorem rng_sc (l : List Rng) : Ows (l.flatMap Rng.d) = Cs (l.flatMap Rng.d) := Ows_sc fun d hd => by
  obtain ⟨x, _, hx⟩ := List.mem_flatMap.1 hd
  simp at hx
  rcases hx with rfl | rfl | rfl <;> rfl
def resL (r : List Rng × Bool) : AV := .tup [none, none] [.osl 0 75 r.1.length (Ows (r.1.flatMap Rng.d)), .bool r.2]

theorem rngs_impl (l : List Stmt) (hl : l.length ≤ 10000000) (ht : (l.map Stmt.tot).sum ≤ 10000000) (h : ∀ y ∈ l, Says prog 72 [.rsl y.Body.length (Cs (y.Body.flatMap Stmt.d))] (resL (rawL y.Body)) []) :
    Says prog 72 [.rsl l.length (Cs (l.flatMap Stmt.d))] (resL (rawL l)) [] := by
  refine Fn_G Go.Proofs.Try.func72 ok72 ?_
  have hfl := rawL_len l
  have htl := rawL_take_len l
  generalize hR : resL (rawL l) = R0
  simp [v72, r72]
  refine G_for (l := l72_0) (b := b72_0) rfl [9, 11, 12, 13, 14, 15, 16] (fun i => [(3, .osl 0 75 (rawL (l.take i)).1.length (Ows ((rawL (l.take i)).1.flatMap Rng.d))), (4, .bool (rawL (l.take i)).2), (7, .int .i64 i)]) (fun _ => True) l.length trivial (by simp [rawL]) ?_ ?_
  · intro i hi _ q hn hx hr
    obtain ⟨x, hx0⟩ := get_some hi
    have hrow := row_drop Stmt.d 19 Stmt.d_len hx0
    have hw := wrap_succ (i := i) (by omega)
    have hm := List.mem_of_getElem? hx0
    have hxt := mem_sum Stmt.tot hm
    have hxe := x.tot_eq
    have fL := const_impl x.Lo (by omega)
    have fH := const_impl x.Hi (by omega)
    have fB := h x hm
    have hlen1 := htl (i + 1)
    rw [rawL_succ hx0] at hn hlen1
    have hlen := htl i
    rw [rawS_eq] at hn hlen1
    generalize (rawL (l.take i)).1 = A at hn hlen hlen1 ⊢
    generalize (rawL (l.take i)).2 = bb at hn ⊢
    by_cases c : x.K = 3
    · rw [if_pos c] at hn hlen1
      generalize hlo : constE x.Lo = lo at fL hn hlen1
      generalize hhi : constE x.Hi = hi' at fH hn hlen1
      simp only [resL] at fB
      generalize (rawL x.Body).1 = B at fB hn hlen1
      generalize (rawL x.Body).2 = b2 at fB hn
      simp only [List.length_append, List.length_cons] at hlen1
      have hb1 : A.length + 1 ≤ bnd := by unfold bnd; omega
      have hb2 : A.length + 1 + B.length ≤ bnd := by unfold bnd; omega
      simp [resC] at fL fH
      try simp at fB
      simp [hi, Cs_drop, hrow, splice, c]
      refine callG fL ?_
      simp
      refine callG fH ?_
      simp
      refine callG fB ?_
      have hsc := rng_sc B
      cases bb <;> cases hl1 : lo.isSome <;> cases hl2 : hi'.isSome <;> simp [hw, hb1, hb2, splice, hsc] <;> refine hn _ ?_ trivial <;> simp [hl1, hl2, hsc] <;> omega
    · rw [if_neg c] at hn
      simp [hi, Cs_drop, hrow, splice, c, hw]
      refine hn _ ?_ trivial
      simp
  intro _ q hx hr
  rw [List.take_length]
  simp
  refine hx _ _ ?_
  simp [← hR, resL]
theorem rngs_body : ∀ x : Stmt, x.tot ≤ 10000000 → Says prog 72 [.rsl x.Body.length (Cs (x.Body.flatMap Stmt.d))] (resL (rawL x.Body)) [] := Stmt.ind fun x ih hx => by
  have := x.tot_eq
  exact rngs_impl x.Body (by omega) (by omega) fun y hy => ih y hy (by have := mem_sum Stmt.tot hy; omega)
end Go.AmC
