/- Part of a proof: see the last text of this folder. -/
import Derived.Test.YtafglhcclmbnbaaGreatSplitAtNames
/- Part of a proof: see the last text of this folder. -/
set_option linter.unusedSimpArgs false
set_option linter.unusedVariables false
set_option maxRecDepth 20000
set_option maxHeartbeats 4000000
namespace Go.AmC
open Go Go.AM
open Go.Proofs.Tryz (prog)
def eK (k : Int) (e : Exp) : List Nm := if e.K = k then [e.S] else []
def colE (k : Int) (e : Exp) : List Nm := foldE (stepC (eK k)) [] e
theorem foldE_col (k : Int) : ∀ (e : Exp) (o : List Nm), foldE (stepC (eK k)) o e = o ++ colE k e := Exp.ind fun e ih o => by
  have key : ∀ (L : List Exp), (∀ y ∈ L, ∀ o, foldE (stepC (eK k)) o y = o ++ colE k y) → ∀ o, L.foldl (foldE (stepC (eK k))) o = o ++ L.foldl (foldE (stepC (eK k))) [] := by
    intro L
    induction L with
    | nil => intro _ o; simp
    | cons y L ihL =>
      intro h o
      have e1 := h y (by simp) o
      have e2 := ihL (fun z hz => h z (by simp [hz])) (foldE (stepC (eK k)) o y)
      have e3 := ihL (fun z hz => h z (by simp [hz])) (foldE (stepC (eK k)) [] y)
      rw [List.foldl_cons, List.foldl_cons, e2, e3, e1, h y (by simp) [], List.append_assoc, List.nil_append]
  unfold colE
  rw [foldE_eq, foldE_eq, key e.L ih]
  simp [stepC]
theorem colE_eq (k : Int) (e : Exp) : ∀ n, n ∈ colE k e ↔ n ∈ eK k e ∨ ∃ y ∈ e.L, n ∈ colE k y := by
  intro n
  have key : ∀ (L : List Exp) (o : List Nm), n ∈ L.foldl (foldE (stepC (eK k))) o ↔ n ∈ o ∨ ∃ y ∈ L, n ∈ colE k y := by
    intro L
    induction L with
    | nil => intro o; simp
    | cons y L ih =>
      intro o
      rw [List.foldl_cons, ih, foldE_col, List.mem_append]
      simp only [List.mem_cons, exists_eq_or_imp, or_assoc]
  have h := key e.L []
  unfold colE
  rw [foldE_eq]
  show n ∈ (e.L.foldl (foldE (stepC (eK k))) []) ++ eK k e ↔ _
  rw [List.mem_append, h]
  simp only [List.not_mem_nil, false_or]
  exact ⟨fun h => h.symm, fun h => h.symm⟩
def askK (k : Int) (x : Stmt) : List Nm := colE k x.At ++ (colE k x.E ++ (colE k x.Lo ++ colE k x.Hi))
theorem foldP_col (k : Int) (x : Stmt) (o : List Nm) : foldP (stepC (eK k)) o x = stepC (askK k) o x := by
  show foldE _ (foldE _ (foldE _ (foldE _ o x.At) x.E) x.Lo) x.Hi = o ++ askK k x
  rw [foldE_col, foldE_col, foldE_col, foldE_col]
  simp [askK]
theorem eK_le (k : Int) (o : List Nm) (x : Exp) : (stepC (eK k) o x).length ≤ o.length + 1 := by
  unfold stepC eK
  split <;> simp
theorem asks2 (k : Int) (o : List Nm) (x : Exp) (ho : o.length + 1 ≤ 40000000) : Says prog 263 (.agg (Cs x.d) :: cpN k o) (.tup [] []) (num 1 (cpN k (stepC (eK k) o x))) := by
  have hb : o.length + 1 ≤ bnd := by unfold bnd; omega
  rw [(capN k).nm]
  refine Fn_GM [1, 2] _ Go.Proofs.Tryz.func263 ok263 (capN k).nz ?_
  by_cases c : x.K = k
  · simp [v263, r263, c, cpN, stepC, eK, splice, hb]
  · simp [v263, r263, c, cpN, stepC, eK, splice]
def askW (x : Stmt) : Nat := 4 + (x.At.tot + x.E.tot + x.Lo.tot + x.Hi.tot)
theorem askW_sum (x : Stmt) : askW x + (x.Body.map fun x => 4 + 5 * x.tot).sum ≤ 4 + 5 * x.tot := by
  have h : ∀ l : List Stmt, (l.map fun x => 4 + 5 * x.tot).sum = 4 * l.length + 5 * (l.map Stmt.tot).sum := by
    intro l
    induction l with
    | nil => simp
    | cons y l ih => simp only [List.map_cons, List.sum_cons, List.length_cons, ih]; omega
  have := h x.Body
  have := x.tot_eq
  unfold askW
  omega
theorem ask_sum (l : List Stmt) : (l.map fun x => 4 + 5 * x.tot).sum = 4 * l.length + 5 * (l.map Stmt.tot).sum := by
  induction l with
  | nil => simp
  | cons y l ih => simp only [List.map_cons, List.sum_cons, List.length_cons, ih]; omega
theorem askK_le (k : Int) (o : List Nm) (x : Stmt) : (stepC (askK k) o x).length ≤ o.length + askW x := by
  rw [← foldP_col]
  exact foldP_m (m := List.length) (fun a e => eK_le k a e) x o
theorem plPart : plainFn prog 262 = true := by kernel_rfl
theorem asks1 (k : Int) (o : List Nm) (x : Stmt) (ho : o.length + askW x ≤ 40000000) (hx : x.tot ≤ 5000000) : Says prog 261 (.agg (Cs x.d) :: cpN k o) (.tup [] []) (num 1 (cpN k (stepC (askK k) o x))) := by
  have fP := each_part (g := 263) (capN k) (by kernel_rfl) (stepC (eK k)) List.length 40000000 (fun a e => eK_le k a e) (fun a e ha _ => asks2 k a e ha) x hx o ho
  rw [foldP_col] at fP
  rw [(capN k).nm]
  refine Fn_GM [1, 2] _ Go.Proofs.Tryz.func261 ok261 (capN k).nz ?_
  generalize stepC (askK k) o x = R at fP ⊢
  simp [cpN] at fP
  simp [v261, r261, cpN]
  refine callM [_, _] plPart fP ?_
  simp [cpN]
theorem namesAsked_impl (l : List Stmt) (hl : l.length + (l.map Stmt.tot).sum ≤ 5000000) (k : Int) :
    Says prog 195 [.rsl l.length (Cs (l.flatMap Stmt.d)), .int .i64 k] (.rsl (nrm (colS (askK k) l)).length (Cs ((nrm (colS (askK k) l)).flatMap dStr))) [] := by
  have fE := each_stmt (g := 261) (capN k) (by kernel_rfl) (stepC (askK k)) List.length 40000000 askW (fun a x => askK_le k a x) (fun x => 4 + 5 * x.tot) askW_sum (fun a x ha hx => asks1 k a x ha hx) l hl [] (by rw [ask_sum]; simp; omega)
  have hlen : (colS (askK k) l).length ≤ 40000000 := by
    have key : ∀ (x : Stmt) (a : List Nm), (foldS (stepC (askK k)) a x).length ≤ a.length + (4 + 5 * x.tot) := foldS_m (m := List.length) (w := askW) (fun a x => askK_le k a x) askW_sum
    have : ∀ (L : List Stmt) (a : List Nm), (L.foldl (foldS (stepC (askK k))) a).length ≤ a.length + (4 * L.length + 5 * (L.map Stmt.tot).sum) := by
      intro L
      induction L with
      | nil => intro a; simp
      | cons y L ih =>
        intro a
        have h1 := ih (foldS (stepC (askK k)) a y)
        have h2 := key y a
        simp only [List.foldl_cons, List.length_cons, List.map_cons, List.sum_cons]
        omega
    have := this l []
    simp at this
    show (l.foldl (foldS (stepC (askK k))) []).length ≤ _
    omega
  change Says _ _ _ _ (num 1 (cpN k (colS (askK k) l))) at fE
  have fO := ordered_says (colS (askK k) l) (by omega)
  refine Fn_G Go.Proofs.Tryz.func195 ok195 ?_
  generalize colS (askK k) l = R at fE fO ⊢
  simp [cpN] at fE
  try simp at fO
  simp [v195, r195]
  refine callM [_, _] plEachS fE ?_
  simp
  refine callM [_] plOrd fO ?_
  simp [↓outOk_f]
def varsOf (l : List Stmt) : List Nm := nrm (colS (ofK 1) l)
theorem varsOf_impl (l : List Stmt) (hl : l.length + (l.map Stmt.tot).sum ≤ 5000000) : Says prog 191 [.rsl l.length (Cs (l.flatMap Stmt.d))] (.rsl (varsOf l).length (Cs ((varsOf l).flatMap dStr))) [] := by
  have f := namesOf_impl l hl 1
  refine Fn_G Go.Proofs.Tryz.func191 ok191 ?_
  unfold varsOf
  generalize colS (ofK 1) l = R at f ⊢
  simp [v191, r191]
  refine callG f ?_
  simp
def loopVars (l : List Stmt) : List Nm := nrm (colS (ofK 3) l)
theorem loopVars_impl (l : List Stmt) (hl : l.length + (l.map Stmt.tot).sum ≤ 5000000) : Says prog 192 [.rsl l.length (Cs (l.flatMap Stmt.d))] (.rsl (loopVars l).length (Cs ((loopVars l).flatMap dStr))) [] := by
  have f := namesOf_impl l hl 3
  refine Fn_G Go.Proofs.Tryz.func192 ok192 ?_
  unfold loopVars
  generalize colS (ofK 3) l = R at f ⊢
  simp [v192, r192]
  refine callG f ?_
  simp
def askedL (l : List Stmt) : List Nm := nrm (colS (askK 2) l)
theorem asked_impl (l : List Stmt) (hl : l.length + (l.map Stmt.tot).sum ≤ 5000000) : Says prog 198 [.rsl l.length (Cs (l.flatMap Stmt.d))] (.rsl (askedL l).length (Cs ((askedL l).flatMap dStr))) [] := by
  have f := namesAsked_impl l hl 2
  refine Fn_G Go.Proofs.Tryz.func198 ok198 ?_
  unfold askedL
  generalize colS (askK 2) l = R at f ⊢
  simp [v198, r198]
  refine callG f ?_
  simp
end Go.AmC

/- Part of a proof: see the last text of this folder. -/
set_option linter.unusedSimpArgs false
set_option linter.unusedVariables false
set_option maxRecDepth 20000
set_option maxHeartbeats 4000000
namespace Go.AmC
open Go Go.AM
open Go.Proofs.Tryz (prog)
theorem plNm : plainFn prog 111 = true := by kernel_rfl
theorem plExp : plainFn prog 186 = true := by kernel_rfl
theorem plExps : plainFn prog 113 = true := by kernel_rfl
theorem colS_len {f : Stmt → List Nm} {w : Stmt → Nat} (hw : ∀ x, (f x).length ≤ w x) {wt : Stmt → Nat} (hwt : ∀ x, w x + (x.Body.map wt).sum ≤ wt x) (l : List Stmt) : (colS f l).length ≤ (l.map wt).sum := by
  have hm : ∀ (a : List Nm) x, (stepC f a x).length ≤ a.length + w x := fun a x => by have := hw x; simp [stepC]; omega
  have key : ∀ (x : Stmt) (a : List Nm), (foldS (stepC f) a x).length ≤ a.length + wt x := foldS_m (m := List.length) hm hwt
  have : ∀ (L : List Stmt) (a : List Nm), (L.foldl (foldS (stepC f)) a).length ≤ a.length + (L.map wt).sum := by
    intro L
    induction L with
    | nil => intro a; simp
    | cons y L ih =>
      intro a
      have h1 := ih (foldS (stepC f) a y)
      have h2 := key y a
      simp only [List.foldl_cons, List.map_cons, List.sum_cons]
      omega
  have := this l []
  simp at this
  exact this
theorem putAll_ofK {k : Int} {o : List Nm} {y : Stmt} : putAll o (ofK k y) = if y.K = k then put o y.S else o := by
  unfold ofK
  split <;> simp [putAll]
theorem take_col (f : Stmt → List Nm) {l : List Stmt} {i : Nat} {y : Stmt} (h : l[i]? = some y) : colS f (l.take (i + 1)) = colS f (l.take i) ++ (f y ++ colS f y.Body) := by
  rw [List.take_add_one, h]
  show (l.take i ++ [y]).foldl (foldS (stepC f)) [] = _
  rw [List.foldl_append]
  show foldS (stepC f) (colS f (l.take i)) y = _
  rw [foldS_col, foldS_eq, foldl_col]
  simp [stepC]
theorem l4names1 (k : Int) (l : List Stmt) (hl : l.length + (l.map Stmt.tot).sum ≤ 5000000) (hrec : ∀ x ∈ l, ∀ o : List Nm, o.length + (x.Body.map fun x => 1 + x.tot).sum ≤ 20000000 → Says prog 111 [.osl 0 9 o.length (Ows (o.flatMap dStr)), .rsl x.Body.length (Cs (x.Body.flatMap Stmt.d)), .int .i64 k] (.osl 0 9 (putAll o (colS (ofK k) x.Body)).length (Ows ((putAll o (colS (ofK k) x.Body)).flatMap dStr))) [])
    (o : List Nm) (ho : o.length + (l.map fun x => 1 + x.tot).sum ≤ 20000000) : Says prog 111 [.osl 0 9 o.length (Ows (o.flatMap dStr)), .rsl l.length (Cs (l.flatMap Stmt.d)), .int .i64 k] (.osl 0 9 (putAll o (colS (ofK k) l)).length (Ows ((putAll o (colS (ofK k) l)).flatMap dStr))) [] := by
  refine Fn_G Go.Proofs.Tryz.func111 ok111 ?_
  simp [v111, r111]
  refine G_for (l := l111_0) (b := b111_0) rfl [5, 6] (fun i => [(0, .osl 0 9 (putAll o (colS (ofK k) (l.take i))).length (Ows ((putAll o (colS (ofK k) (l.take i))).flatMap dStr))), (4, .int .i64 i)]) (fun i => (putAll o (colS (ofK k) (l.take i))).length ≤ o.length + ((l.take i).map fun x => 1 + x.tot).sum) l.length (by simp [colS, putAll]) (by simp [colS, putAll]) ?_ ?_
  · intro i hi hI q hn hx hr
    obtain ⟨y, hy0⟩ := get_some hi
    have hrow := row_drop Stmt.d 19 Stmt.d_len hy0
    have hwi := wrap_succ (i := i) (by omega)
    have hym := List.mem_of_getElem? hy0
    have hs := sum_take (fun x : Stmt => 1 + x.tot) hy0
    have hle := AM.sum_take_le (fun x : Stmt => 1 + x.tot) l (i + 1)
    have hw1 := wt1 y
    have hcl := colS_len (f := ofK k) (w := fun _ => 1) (fun x => by unfold ofK; split <;> simp) wt1 y.Body
    have ht1 := take_col (ofK k) hy0
    have hA := putAll_len (ofK k y ++ colS (ofK k) y.Body) (putAll o (colS (ofK k) (l.take i)))
    rw [← putAll_append, ← ht1] at hA
    rw [ht1, putAll_append, putAll_append, putAll_ofK] at hn
    rw [hs] at hn hle
    have hlo : (ofK k y).length ≤ 1 := by unfold ofK; split <;> simp
    rw [ht1, putAll_append, putAll_append, putAll_ofK, List.length_append] at hA
    generalize putAll o (colS (ofK k) (l.take i)) = A at hn hI hA ⊢
    have fP := put_spec A y.S (by omega)
    have hpl := put_len A y.S
    by_cases c : y.K = k
    · rw [if_pos c] at hn hA
      have fy := hrec y hym (put A y.S) (by omega)
      generalize putAll (put A y.S) (colS (ofK k) y.Body) = A3 at hn fy hA
      generalize put A y.S = A2 at fP fy
      have fz := Says_took fy
      simp [hi, Cs_drop, hrow, c]
      refine callG fP ?_
      simp [hi, Cs_drop, hrow]
      refine callM [.gone] plNm fz ?_
      simp [hwi]
      exact hn _ (by simp) (by omega)
    · rw [if_neg c] at hn hA
      have fy := hrec y hym A (by omega)
      generalize putAll A (colS (ofK k) y.Body) = A3 at hn fy hA
      have fz := Says_took fy
      simp [hi, Cs_drop, hrow, c]
      refine callM [.gone] plNm fz ?_
      simp [hwi]
      exact hn _ (by simp) (by omega)
  · intro hI q hx hr
    rw [List.take_length]
    generalize putAll o (colS (ofK k) l) = A at hx hr ⊢
    simp
    refine hx _ _ ?_
    simp
end Go.AmC

/- Part of a proof: see the last text of this folder. -/
set_option linter.unusedSimpArgs false
set_option linter.unusedVariables false
set_option maxRecDepth 20000
set_option maxHeartbeats 4000000
namespace Go.AmC
open Go Go.AM
open Go.Proofs.Tryz (prog)
theorem l4names (k : Int) : ∀ x : Stmt, x.tot ≤ 5000000 → ∀ o : List Nm, o.length + (x.Body.map fun x => 1 + x.tot).sum ≤ 20000000 → Says prog 111 [.osl 0 9 o.length (Ows (o.flatMap dStr)), .rsl x.Body.length (Cs (x.Body.flatMap Stmt.d)), .int .i64 k] (.osl 0 9 (putAll o (colS (ofK k) x.Body)).length (Ows ((putAll o (colS (ofK k) x.Body)).flatMap dStr))) [] := Stmt.ind fun x ih hx o ho => by
  have ht := x.tot_eq
  exact l4names1 k x.Body (by omega) (fun y hy => ih y hy (by have := mem_sum Stmt.tot hy; omega)) o ho
theorem l4names_spec (k : Int) (l : List Stmt) (hl : l.length + (l.map Stmt.tot).sum ≤ 5000000) : Says prog 111 [.osl 0 9 0 [], .rsl l.length (Cs (l.flatMap Stmt.d)), .int .i64 k] (.osl 0 9 (nrm (colS (ofK k) l)).length (Ows ((nrm (colS (ofK k) l)).flatMap dStr))) [] := by
  have := l4names1 k l hl (fun x hx o ho => l4names k x (by have := mem_sum Stmt.tot hx; omega) o ho) [] (by rw [wt1_sum]; simp; omega)
  simpa [nrm] using this
mutual
def preE (k : Int) : Exp → List Nm
  | ⟨K, N, S, L⟩ => eK k ⟨K, N, S, L⟩ ++ preL k L
def preL (k : Int) : List Exp → List Nm
  | [] => []
  | x :: l => preE k x ++ preL k l
end
theorem preE_eq (k : Int) (e : Exp) : preE k e = eK k e ++ preL k e.L := by cases e; rw [preE]
theorem preL_append (k : Int) : ∀ a b : List Exp, preL k (a ++ b) = preL k a ++ preL k b
  | [], b => by simp [preL]
  | x :: a, b => by simp [preL, preL_append k a b]
theorem take_pre (k : Int) {l : List Exp} {i : Nat} {y : Exp} (h : l[i]? = some y) : preL k (l.take (i + 1)) = preL k (l.take i) ++ preE k y := by
  rw [List.take_add_one, h, preL_append]; simp [preL]
theorem mem_preL (k : Int) (n : Nm) : ∀ l : List Exp, n ∈ preL k l ↔ ∃ y ∈ l, n ∈ preE k y
  | [] => by simp [preL]
  | x :: l => by rw [preL, List.mem_append, mem_preL k n l]; simp
theorem mem_pre (k : Int) : ∀ (e : Exp) (n : Nm), n ∈ preE k e ↔ n ∈ colE k e := Exp.ind fun e ih n => by
  rw [preE_eq, colE_eq, List.mem_append, mem_preL]
  constructor
  · rintro (h | ⟨y, hy, h⟩)
    · exact .inl h
    · exact .inr ⟨y, hy, (ih y hy n).1 h⟩
  · rintro (h | ⟨y, hy, h⟩)
    · exact .inl h
    · exact .inr ⟨y, hy, (ih y hy n).2 h⟩
theorem preE_len (k : Int) : ∀ e : Exp, (preE k e).length ≤ 1 + e.tot := Exp.ind fun e ih => by
  have key : ∀ l : List Exp, (∀ y ∈ l, (preE k y).length ≤ 1 + y.tot) → (preL k l).length ≤ l.length + (l.map Exp.tot).sum := by
    intro l
    induction l with
    | nil => intro _; simp [preL]
    | cons y l ihl =>
      intro h
      have h1 := h y (by simp)
      have h2 := ihl fun z hz => h z (by simp [hz])
      simp only [preL, List.length_append, List.length_cons, List.map_cons, List.sum_cons]
      omega
  have h1 := key e.L ih
  have h2 := e.tot_eq
  have h3 : (eK k e).length ≤ 1 := by unfold eK; split <;> simp
  rw [preE_eq, List.length_append]; omega
theorem putAll_eK {k : Int} {o : List Nm} {y : Exp} : putAll o (eK k y) = if y.K = k then put o y.S else o := by
  unfold eK
  split <;> simp [putAll]
theorem exp_spec (k : Int) : ∀ e : Exp, e.tot ≤ 5000000 → ∀ o : List Nm, o.length + (1 + e.tot) ≤ 40000000 → Says prog 186 [.osl 0 9 o.length (Ows (o.flatMap dStr)), .agg (Cs e.d), .int .i64 k] (.osl 0 9 (putAll o (preE k e)).length (Ows ((putAll o (preE k e)).flatMap dStr))) [] := Exp.ind fun e ih he o ho => by
  have ht := e.tot_eq
  have fP := put_spec o e.S (by omega)
  refine Fn_G Go.Proofs.Tryz.func186 ok186 ?_
  rw [preE_eq, putAll_append]
  have hl0 : (putAll o (eK k e)).length ≤ o.length + 1 := by
    have := putAll_len (eK k e) o
    have h3 : (eK k e).length ≤ 1 := by unfold eK; split <;> simp
    omega
  by_cases c : e.K = k
  · rw [putAll_eK, if_pos c] at hl0 ⊢
    simp [v186, r186, c]
    refine callG fP ?_
    simp
    generalize put o e.S = A0 at hl0 ⊢
    refine G_for (l := l186_0) (b := b186_0) rfl [7] (fun i => [(0, .osl 0 9 (putAll A0 (preL k (e.L.take i))).length (Ows ((putAll A0 (preL k (e.L.take i))).flatMap dStr))), (6, .int .i64 i)]) (fun i => (putAll A0 (preL k (e.L.take i))).length ≤ A0.length + (i + ((e.L.take i).map Exp.tot).sum)) e.L.length (by simp [preL, putAll]) (by simp [preL, putAll]) ?_ ?_
    · intro i hi hI q hn hx hr
      obtain ⟨y, hy0⟩ := get_some hi
      have hrow := row_drop Exp.d 4 Exp.d_len hy0
      have hwi := wrap_succ (i := i) (by omega)
      have hym := List.mem_of_getElem? hy0
      have hs := sum_take Exp.tot hy0
      have hle := AM.sum_take_le Exp.tot e.L (i + 1)
      have ht1 := take_pre k hy0
      have hpl := preE_len k y
      have hA := putAll_len (preE k y) (putAll A0 (preL k (e.L.take i)))
      rw [ht1, putAll_append] at hn
      rw [hs] at hn hle
      generalize putAll A0 (preL k (e.L.take i)) = A at hn hI hA ⊢
      have fy := ih y hym (by omega) A (by omega)
      generalize putAll A (preE k y) = A3 at hn fy hA
      have fz := Says_took fy
      simp at fz
      simp [hi, Cs_drop, hrow]
      refine callM [.gone] plExp fz ?_
      simp [hwi]
      exact hn _ (by simp) (by omega)
    · intro hI q hx hr
      rw [List.take_length]
      generalize putAll A0 (preL k e.L) = A at hx hr ⊢
      simp
      refine hx _ _ ?_
      simp
  · rw [putAll_eK, if_neg c] at hl0 ⊢
    simp [v186, r186, c]
    have hA0 : ∃ A0, A0 = o := ⟨_, rfl⟩
    obtain ⟨A0, hA0⟩ := hA0
    rw [← hA0] at ho hl0 ⊢
    refine G_for (l := l186_0) (b := b186_0) rfl [7] (fun i => [(0, .osl 0 9 (putAll A0 (preL k (e.L.take i))).length (Ows ((putAll A0 (preL k (e.L.take i))).flatMap dStr))), (6, .int .i64 i)]) (fun i => (putAll A0 (preL k (e.L.take i))).length ≤ A0.length + (i + ((e.L.take i).map Exp.tot).sum)) e.L.length (by simp [preL, putAll]) (by simp [preL, putAll]) ?_ ?_
    · intro i hi hI q hn hx hr
      obtain ⟨y, hy0⟩ := get_some hi
      have hrow := row_drop Exp.d 4 Exp.d_len hy0
      have hwi := wrap_succ (i := i) (by omega)
      have hym := List.mem_of_getElem? hy0
      have hs := sum_take Exp.tot hy0
      have hle := AM.sum_take_le Exp.tot e.L (i + 1)
      have ht1 := take_pre k hy0
      have hpl := preE_len k y
      have hA := putAll_len (preE k y) (putAll A0 (preL k (e.L.take i)))
      rw [ht1, putAll_append] at hn
      rw [hs] at hn hle
      generalize putAll A0 (preL k (e.L.take i)) = A at hn hI hA ⊢
      have fy := ih y hym (by omega) A (by omega)
      generalize putAll A (preE k y) = A3 at hn fy hA
      have fz := Says_took fy
      simp at fz
      simp [hi, Cs_drop, hrow]
      refine callM [.gone] plExp fz ?_
      simp [hwi]
      exact hn _ (by simp) (by omega)
    · intro hI q hx hr
      rw [List.take_length]
      generalize putAll A0 (preL k e.L) = A at hx hr ⊢
      simp
      refine hx _ _ ?_
      simp
end Go.AmC

/- Part of a proof: see the last text of this folder. -/
set_option linter.unusedSimpArgs false
set_option linter.unusedVariables false
set_option maxRecDepth 20000
set_option maxHeartbeats 8000000
namespace Go.AmC
open Go Go.AM
open Go.Proofs.Tryz (prog)
def preP (k : Int) (x : Stmt) : List Nm := preE k x.At ++ (preE k x.E ++ (preE k x.Lo ++ preE k x.Hi))
theorem preP_len (k : Int) (x : Stmt) : (preP k x).length ≤ askW x := by
  have h1 := preE_len k x.At
  have h2 := preE_len k x.E
  have h3 := preE_len k x.Lo
  have h4 := preE_len k x.Hi
  unfold preP askW
  simp only [List.length_append]; omega
theorem mem_preP (k : Int) (x : Stmt) (n : Nm) : n ∈ preP k x ↔ n ∈ askK k x := by
  unfold preP askK
  simp only [List.mem_append, mem_pre]
theorem step5 {k : Int} {l : List Stmt} {i : Nat} {y : Stmt} (h : l[i]? = some y) (o : List Nm) :
    putAll o (colS (preP k) (l.take (i + 1))) = putAll (putAll (putAll (putAll (putAll (putAll o (colS (preP k) (l.take i))) (preE k y.At)) (preE k y.E)) (preE k y.Lo)) (preE k y.Hi)) (colS (preP k) y.Body) := by
  rw [take_col (preP k) h]
  simp only [preP, putAll_append]
theorem sums5 {l : List Stmt} {i : Nat} {y : Stmt} (h : l[i]? = some y) (hl : l.length + (l.map Stmt.tot).sum ≤ 5000000) : y.At.tot + y.E.tot + y.Lo.tot + y.Hi.tot + (y.Body.length + (y.Body.map Stmt.tot).sum) ≤ y.tot ∧ y.tot ≤ 5000000 := by
  have := mem_sum Stmt.tot (List.mem_of_getElem? h)
  have := y.tot_eq
  omega
theorem l4exps1 (k : Int) (l : List Stmt) (hl : l.length + (l.map Stmt.tot).sum ≤ 5000000) (hrec : ∀ x ∈ l, ∀ o : List Nm, o.length + (x.Body.map fun x => 4 + 5 * x.tot).sum ≤ 40000000 → Says prog 113 [.osl 0 9 o.length (Ows (o.flatMap dStr)), .rsl x.Body.length (Cs (x.Body.flatMap Stmt.d)), .int .i64 k] (.osl 0 9 (putAll o (colS (preP k) x.Body)).length (Ows ((putAll o (colS (preP k) x.Body)).flatMap dStr))) [])
    (o : List Nm) (ho : o.length + (l.map fun x => 4 + 5 * x.tot).sum ≤ 40000000) : Says prog 113 [.osl 0 9 o.length (Ows (o.flatMap dStr)), .rsl l.length (Cs (l.flatMap Stmt.d)), .int .i64 k] (.osl 0 9 (putAll o (colS (preP k) l)).length (Ows ((putAll o (colS (preP k) l)).flatMap dStr))) [] := by
  refine Fn_G Go.Proofs.Tryz.func113 ok113 ?_
  simp [v113, r113]
  refine G_for (l := l113_0) (b := b113_0) rfl [5] (fun i => [(0, .osl 0 9 (putAll o (colS (preP k) (l.take i))).length (Ows ((putAll o (colS (preP k) (l.take i))).flatMap dStr))), (4, .int .i64 i)]) (fun i => (putAll o (colS (preP k) (l.take i))).length ≤ o.length + ((l.take i).map fun x => 4 + 5 * x.tot).sum) l.length (by simp [colS, putAll]) (by simp [colS, putAll]) ?_ ?_
  · intro i hi hI q hn hx hr
    obtain ⟨y, hy0⟩ := get_some hi
    have hrow := row_drop Stmt.d 19 Stmt.d_len hy0
    have hwi := wrap_succ (i := i) (by omega)
    have hym := List.mem_of_getElem? hy0
    have hs := sum_take (fun x : Stmt => 4 + 5 * x.tot) hy0
    have hle := AM.sum_take_le (fun x : Stmt => 4 + 5 * x.tot) l (i + 1)
    have hw1 := askW_sum y
    obtain ⟨hq, hq2⟩ := sums5 hy0 hl
    have hcl := colS_len (f := preP k) (w := askW) (fun x => preP_len k x) askW_sum y.Body
    rw [step5 hy0] at hn
    rw [hs] at hn hle
    unfold askW at hw1
    generalize putAll o (colS (preP k) (l.take i)) = A0 at hn hI ⊢
    have l1 := putAll_len (preE k y.At) A0
    have l2 := putAll_len (preE k y.E) (putAll A0 (preE k y.At))
    have l3 := putAll_len (preE k y.Lo) (putAll (putAll A0 (preE k y.At)) (preE k y.E))
    have l4 := putAll_len (preE k y.Hi) (putAll (putAll (putAll A0 (preE k y.At)) (preE k y.E)) (preE k y.Lo))
    have l5 := putAll_len (colS (preP k) y.Body) (putAll (putAll (putAll (putAll A0 (preE k y.At)) (preE k y.E)) (preE k y.Lo)) (preE k y.Hi))
    have p1 := preE_len k y.At
    have p2 := preE_len k y.E
    have p3 := preE_len k y.Lo
    have p4 := preE_len k y.Hi
    have f1 := Says_took (exp_spec k y.At (by omega) A0 (by omega))
    generalize putAll A0 (preE k y.At) = A1 at hn l1 l2 l3 l4 l5 f1 ⊢
    have f2 := Says_took (exp_spec k y.E (by omega) A1 (by omega))
    generalize putAll A1 (preE k y.E) = A2 at hn l2 l3 l4 l5 f2 ⊢
    have f3 := Says_took (exp_spec k y.Lo (by omega) A2 (by omega))
    generalize putAll A2 (preE k y.Lo) = A3 at hn l3 l4 l5 f3 ⊢
    have f4 := Says_took (exp_spec k y.Hi (by omega) A3 (by omega))
    generalize putAll A3 (preE k y.Hi) = A4 at hn l4 l5 f4 ⊢
    have f5 := Says_took (hrec y hym A4 (by omega))
    generalize putAll A4 (colS (preP k) y.Body) = A5 at hn l5 f5 ⊢
    simp at f1 f2 f3 f4 f5
    simp [hi, Cs_drop, hrow]
    refine callM [.gone] plExp f1 ?_
    simp [hi, Cs_drop, hrow]
    refine callM [.gone] plExp f2 ?_
    simp [hi, Cs_drop, hrow]
    refine callM [.gone] plExp f3 ?_
    simp [hi, Cs_drop, hrow]
    refine callM [.gone] plExp f4 ?_
    simp [hi, Cs_drop, hrow]
    refine callM [.gone] plExps f5 ?_
    simp [hwi]
    exact hn _ (by simp) (by omega)
  · intro hI q hx hr
    rw [List.take_length]
    generalize putAll o (colS (preP k) l) = A at hx hr ⊢
    simp
    refine hx _ _ ?_
    simp
theorem l4exps (k : Int) : ∀ x : Stmt, x.tot ≤ 5000000 → ∀ o : List Nm, o.length + (x.Body.map fun x => 4 + 5 * x.tot).sum ≤ 40000000 → Says prog 113 [.osl 0 9 o.length (Ows (o.flatMap dStr)), .rsl x.Body.length (Cs (x.Body.flatMap Stmt.d)), .int .i64 k] (.osl 0 9 (putAll o (colS (preP k) x.Body)).length (Ows ((putAll o (colS (preP k) x.Body)).flatMap dStr))) [] := Stmt.ind fun x ih hx o ho => by
  have ht := x.tot_eq
  exact l4exps1 k x.Body (by omega) (fun y hy => ih y hy (by have := mem_sum Stmt.tot hy; omega)) o ho
theorem exps_spec (k : Int) (l : List Stmt) (hl : l.length + (l.map Stmt.tot).sum ≤ 5000000) : Says prog 113 [.osl 0 9 0 [], .rsl l.length (Cs (l.flatMap Stmt.d)), .int .i64 k] (.osl 0 9 (nrm (colS (preP k) l)).length (Ows ((nrm (colS (preP k) l)).flatMap dStr))) [] := by
  have := l4exps1 k l hl (fun x hx o ho => l4exps k x (by have := mem_sum Stmt.tot hx; omega) o ho) [] (by rw [ask_sum]; simp; omega)
  simpa [nrm] using this
end Go.AmC

