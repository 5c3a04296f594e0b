/- Part of a proof: see the last text of this folder. -/
import Derived.Test.YtafglhcclmbnbaaGreatSplitAtBoxO
import Derived.Test.YtafglhcclmbnbaaGreatSplitAtOk
set_option linter.unusedSimpArgs false
set_option linter.unusedVariables false
set_option maxRecDepth 20000
set_option maxHeartbeats 4000000
namespace Go.AmC
open Go Go.AM
open Go.Proofs.Tryz (prog)
def canSplit (x : Stmt) (at' : Int) : Bool := match boxOf x with
  | some (r :: _) => decide (r.Lo ≤ at') && decide (at' < r.Hi)
  | _ => false
theorem fullB_b {r : Rng} {l : List Rng} (h : fullB (r :: l) = true) : (-10000 ≤ r.Lo ∧ r.Lo ≤ 10000) ∧ (-10000 ≤ r.Hi ∧ r.Hi ≤ 10000) ∧ r.Lo ≤ r.Hi := by
  unfold fullB boxOk at h
  simp only [okB, List.all_cons, Bool.and_eq_true, decide_eq_true_eq, inB] at h
  obtain ⟨⟨h1, _⟩, ⟨⟨⟨⟨⟨h2, h3⟩, h4⟩, h5⟩, _⟩, _⟩⟩ := h
  exact ⟨⟨h3.1, h3.2⟩, ⟨h4.1, h4.2⟩, h1⟩
theorem split_impl (x : Stmt) (at' : Int) (hx : x.tot ≤ 5000000) : Says prog 118 [.agg (Cs x.d), .int .i64 at'] (.bool (canSplit x at')) [] := by
  have f := boxOf_impl x hx
  refine Fn_G Go.Proofs.Tryz.func118 ok118 ?_
  unfold canSplit
  cases hb : boxOf x with
  | none =>
    rw [hb] at f
    simp [resO, resL] at f
    simp [v118, r118]
    refine callG f ?_
    simp
  | some l =>
    obtain ⟨h1, h2, h3⟩ := boxOf_len hb
    match l, h1 with
    | r :: l, _ =>
    obtain ⟨b1, b2, b3⟩ := fullB_b h3
    have hw : IntKind.i64.wrap (r.Hi - 1) = r.Hi - 1 := wrap64 (by omega) (by omega)
    have fI := in_impl at' r.Lo (r.Hi - 1)
    rw [hb] at f
    simp [resO, resL] at f
    simp [v118, r118]
    refine callG f ?_
    simp [hw]
    refine callD fI ?_
    have e : (at' ≤ r.Hi - 1) ↔ at' < r.Hi := by omega
    simp [e]
theorem split_spec (x : Stmt) (at' : Int) (hx : x.tot ≤ 5000000) : Says prog 106 [.agg (Cs x.d), .int .i64 at'] (.bool (canSplit x at')) [] := by
  have f := boxOf_spec x hx
  refine Fn_G Go.Proofs.Tryz.func106 ok106 ?_
  unfold canSplit
  cases hb : boxOf x with
  | none =>
    rw [hb] at f
    simp [resO, resL] at f
    simp [v106, r106]
    refine callG f ?_
    simp
  | some l =>
    obtain ⟨h1, h2, h3⟩ := boxOf_len hb
    match l, h1 with
    | r :: l, _ =>
    rw [hb] at f
    simp [resO, resL] at f
    simp [v106, r106]
    refine callG f ?_
    by_cases c1 : r.Lo ≤ at' <;> simp [c1]
theorem copyE_impl : ∀ e : Exp, e.tot ≤ 5000000 → Says prog 167 [.agg (Cs e.d)] (.agg (Ows e.d)) [] := Exp.ind fun e ih he => by
  have ht := e.tot_eq
  have hlB : e.L.length ≤ 5000000 := by omega
  refine Fn_G Go.Proofs.Tryz.func167 ok167 ?_
  simp [v167, r167, splice]
  refine G_loop (l := l167_0) (b := b167_0) rfl [8] (fun i => [.agg (Cs e.d), .bx 0 72 (Cs e.d), .bx 0 72 [.int .i64 0, .int .i64 0, .str [], .osl 0 72 0 []], .bx 0 72 [.int .i64 e.K, .int .i64 e.N, .str e.S, .osl 0 72 i (Ows ((e.L.take i).flatMap Exp.d))], .rsl e.L.length (Cs (e.L.flatMap Exp.d)), .int .i64 e.L.length, .int .i64 (i : Int), .dead, .dead]) (fun _ => True) e.L.length
    (fun ex en => ex = .exit 0 ∧ en = [.agg (Cs e.d), .bx 0 72 (Cs e.d), .bx 0 72 [.int .i64 0, .int .i64 0, .str [], .osl 0 72 0 []], .bx 0 72 [.int .i64 e.K, .int .i64 e.N, .str e.S, .osl 0 72 e.L.length (Ows (e.L.flatMap Exp.d))], .rsl e.L.length (Cs (e.L.flatMap Exp.d)), .int .i64 e.L.length, .int .i64 e.L.length, .dead, .dead]) ?_ ?_ trivial (by simp) ?_
  · intro i hi _ q hn hx hr
    obtain ⟨y, hy0⟩ : ∃ y, e.L[i]? = some y := ⟨_, List.getElem?_eq_getElem hi⟩
    have hrow := row_drop Exp.d 4 Exp.d_len hy0
    have hwi : IntKind.i64.wrap ((i : Int) + 1) = ((i + 1 : Nat) : Int) := by rw [wrap_small] <;> omega
    have hb : i + 1 ≤ bnd := by unfold bnd; omega
    have hf := ih y (List.mem_of_getElem? hy0) (by have := mem_sum Exp.tot (List.mem_of_getElem? hy0); omega)
    have ht : (e.L.take (i + 1)).flatMap Exp.d = (e.L.take i).flatMap Exp.d ++ y.d := by
      rw [List.take_add_one, hy0]; simp
    rw [ht] at hn
    generalize (e.L.take i).flatMap Exp.d = A at hn ⊢
    simp at hf
    simp [hi, Cs_drop, hrow]
    refine callD hf ?_
    simp [hwi, splice, hb]
    refine hn _ ?_ trivial
    simp
  · intro _ q hx hr
    simp
    exact hx _ _ ⟨rfl, by simp⟩
  · rintro ex en ⟨rfl, rfl⟩
    simp [splice]
theorem copyE_spec : ∀ e : Exp, e.tot ≤ 5000000 → Says prog 156 [.agg (Cs e.d)] (.agg (Ows e.d)) [] := Exp.ind fun e ih he => by
  have ht := e.tot_eq
  have hlB : e.L.length ≤ 5000000 := by omega
  refine Fn_G Go.Proofs.Tryz.func156 ok156 ?_
  simp [v156, r156, splice]
  refine G_loop (l := l156_0) (b := b156_0) rfl [6] (fun i => [.agg (Cs e.d), .bx 0 72 (Cs e.d), .bx 0 72 [.int .i64 0, .int .i64 0, .str [], .osl 0 72 0 []], .bx 0 72 [.int .i64 e.K, .int .i64 e.N, .str e.S, .osl 0 72 i (Ows ((e.L.take i).flatMap Exp.d))], .int .i64 (i : Int), .dead, .dead]) (fun _ => True) e.L.length
    (fun ex en => ex = .exit 0 ∧ en = [.agg (Cs e.d), .bx 0 72 (Cs e.d), .bx 0 72 [.int .i64 0, .int .i64 0, .str [], .osl 0 72 0 []], .bx 0 72 [.int .i64 e.K, .int .i64 e.N, .str e.S, .osl 0 72 e.L.length (Ows (e.L.flatMap Exp.d))], .int .i64 e.L.length, .dead, .dead]) ?_ ?_ trivial (by simp) ?_
  · intro i hi _ q hn hx hr
    obtain ⟨y, hy0⟩ : ∃ y, e.L[i]? = some y := ⟨_, List.getElem?_eq_getElem hi⟩
    have hrow := row_drop Exp.d 4 Exp.d_len hy0
    have hwi : IntKind.i64.wrap ((i : Int) + 1) = ((i + 1 : Nat) : Int) := by rw [wrap_small] <;> omega
    have hb : i + 1 ≤ bnd := by unfold bnd; omega
    have hf := ih y (List.mem_of_getElem? hy0) (by have := mem_sum Exp.tot (List.mem_of_getElem? hy0); omega)
    have ht : (e.L.take (i + 1)).flatMap Exp.d = (e.L.take i).flatMap Exp.d ++ y.d := by
      rw [List.take_add_one, hy0]; simp
    rw [ht] at hn
    generalize (e.L.take i).flatMap Exp.d = A at hn ⊢
    simp at hf
    simp [hi, Cs_drop, hrow]
    refine callG hf ?_
    simp [hwi, splice, hb]
    refine hn _ ?_ trivial
    simp
  · intro _ q hx hr
    simp
    exact hx _ _ ⟨rfl, by simp⟩
  · rintro ex en ⟨rfl, rfl⟩
    simp [splice]
theorem copyAll_impl (xs : List Stmt) (hl : xs.length ≤ 5000000) (h : ∀ x ∈ xs, Says prog 94 [.agg (Cs x.d)] (.agg (Ows x.d)) []) :
    Says prog 96 [.rsl xs.length (Cs (xs.flatMap Stmt.d))] (.osl 0 74 xs.length (Ows (xs.flatMap Stmt.d))) [] := by
  refine Fn_G Go.Proofs.Tryz.func96 ok96 ?_
  simp [v96, r96]
  refine G_loop (l := l96_0) (b := b96_0) rfl [7] (fun i => [.rsl xs.length (Cs (xs.flatMap Stmt.d)), .osl 0 74 0 [], .osl 0 74 i (Ows ((xs.take i).flatMap Stmt.d)), .rsl xs.length (Cs (xs.flatMap Stmt.d)), .int .i64 xs.length, .int .i64 (i : Int), .dead, .dead]) (fun _ => True) xs.length
    (fun ex en => ex = .exit 0 ∧ en = [.rsl xs.length (Cs (xs.flatMap Stmt.d)), .osl 0 74 0 [], .osl 0 74 xs.length (Ows (xs.flatMap Stmt.d)), .rsl xs.length (Cs (xs.flatMap Stmt.d)), .int .i64 xs.length, .int .i64 xs.length, .dead, .dead]) ?_ ?_ trivial (by simp) ?_
  · intro i hi _ q hn hx hr
    obtain ⟨y, hy0⟩ : ∃ y, xs[i]? = some y := ⟨_, List.getElem?_eq_getElem hi⟩
    have hrow := row_drop Stmt.d 19 Stmt.d_len hy0
    have hwi : IntKind.i64.wrap ((i : Int) + 1) = ((i + 1 : Nat) : Int) := by rw [wrap_small] <;> omega
    have hb : i + 1 ≤ bnd := by unfold bnd; omega
    have hf := h y (List.mem_of_getElem? hy0)
    have ht : (xs.take (i + 1)).flatMap Stmt.d = (xs.take i).flatMap Stmt.d ++ y.d := by
      rw [List.take_add_one, hy0]; simp
    rw [ht] at hn
    generalize (xs.take i).flatMap Stmt.d = A at hn ⊢
    simp at hf
    simp [hi, Cs_drop, hrow, splice]
    refine callG hf ?_
    simp [hwi, splice, hb]
    refine hn _ ?_ trivial
    simp
  · intro _ q hx hr
    simp
    exact hx _ _ ⟨rfl, by simp⟩
  · rintro ex en ⟨rfl, rfl⟩
    simp
theorem copyS_impl : ∀ x : Stmt, x.tot ≤ 5000000 → Says prog 94 [.agg (Cs x.d)] (.agg (Ows x.d)) [] := Stmt.ind fun x ih hx => by
  have ht := x.tot_eq
  have fA := copyE_impl x.At (by omega); have fE := copyE_impl x.E (by omega); have fL := copyE_impl x.Lo (by omega); have fH := copyE_impl x.Hi (by omega)
  have fB := copyAll_impl x.Body (by omega) (fun y hy => ih y hy (by have := mem_sum Stmt.tot hy; omega))
  refine Fn_G Go.Proofs.Tryz.func94 ok94 ?_
  try simp at fA
  try simp at fE
  try simp at fL
  try simp at fH
  try simp at fB
  simp [v94, r94, splice]
  refine callD fA ?_
  simp
  refine callD fE ?_
  simp
  refine callD fL ?_
  simp
  refine callD fH ?_
  simp
  refine callD fB ?_
  simp [splice]
theorem copyL_spec (xs : List Stmt) (hl : xs.length ≤ 5000000) (h : ∀ x ∈ xs, x.tot ≤ 5000000 ∧ Says prog 90 [.rsl x.Body.length (Cs (x.Body.flatMap Stmt.d))] (.osl 0 74 x.Body.length (Ows (x.Body.flatMap Stmt.d))) []) :
    Says prog 90 [.rsl xs.length (Cs (xs.flatMap Stmt.d))] (.osl 0 74 xs.length (Ows (xs.flatMap Stmt.d))) [] := by
  refine Fn_G Go.Proofs.Tryz.func90 ok90 ?_
  simp [v90, r90]
  refine G_loop (l := l90_0) (b := b90_0) rfl [5] (fun i => [.rsl xs.length (Cs (xs.flatMap Stmt.d)), .osl 0 74 0 [], .osl 0 74 i (Ows ((xs.take i).flatMap Stmt.d)), .int .i64 (i : Int), .dead, .dead]) (fun _ => True) xs.length
    (fun ex en => ex = .exit 0 ∧ en = [.rsl xs.length (Cs (xs.flatMap Stmt.d)), .osl 0 74 0 [], .osl 0 74 xs.length (Ows (xs.flatMap Stmt.d)), .int .i64 xs.length, .dead, .dead]) ?_ ?_ trivial (by simp) ?_
  · intro i hi _ q hn hx hr
    obtain ⟨y, hy0⟩ : ∃ y, xs[i]? = some y := ⟨_, List.getElem?_eq_getElem hi⟩
    have hrow := row_drop Stmt.d 19 Stmt.d_len hy0
    have hwi : IntKind.i64.wrap ((i : Int) + 1) = ((i + 1 : Nat) : Int) := by rw [wrap_small] <;> omega
    have hb : i + 1 ≤ bnd := by unfold bnd; omega
    obtain ⟨hyt, fB⟩ := h y (List.mem_of_getElem? hy0)
    have hte := y.tot_eq
    have fA := copyE_spec y.At (by omega); have fE := copyE_spec y.E (by omega); have fL := copyE_spec y.Lo (by omega); have fH := copyE_spec y.Hi (by omega)
    have ht : (xs.take (i + 1)).flatMap Stmt.d = (xs.take i).flatMap Stmt.d ++ y.d := by
      rw [List.take_add_one, hy0]; simp
    rw [ht] at hn
    generalize (xs.take i).flatMap Stmt.d = A at hn ⊢
    try simp at fA
    try simp at fE
    try simp at fL
    try simp at fH
    try simp at fB
    simp [hi, Cs_drop, hrow, splice]
    refine callD fA ?_
    simp
    refine callD fE ?_
    simp
    refine callD fL ?_
    simp
    refine callD fH ?_
    simp
    refine callD fB ?_
    simp [hwi, splice, hb]
    refine hn _ ?_ trivial
    simp
  · intro _ q hx hr
    simp
    exact hx _ _ ⟨rfl, by simp⟩
  · rintro ex en ⟨rfl, rfl⟩
    simp
theorem copyS_spec : ∀ x : Stmt, x.tot ≤ 5000000 → Says prog 90 [.rsl x.Body.length (Cs (x.Body.flatMap Stmt.d))] (.osl 0 74 x.Body.length (Ows (x.Body.flatMap Stmt.d))) [] := Stmt.ind fun x ih hx => by
  have ht := x.tot_eq
  exact copyL_spec x.Body (by omega) fun y hy => by
    have := mem_sum Stmt.tot hy
    exact ⟨by omega, ih y hy (by omega)⟩
def numE (n : Int) : Exp := if n < 0 then ⟨5, 0, [], [⟨1, 0, [], []⟩, ⟨1, -n, [], []⟩]⟩ else ⟨1, n, [], []⟩
theorem numE_tot (n : Int) : (numE n).tot ≤ 2 := by
  unfold numE
  split <;> simp [Exp.tot_eq]
theorem num_impl (n : Int) (h1 : -1000000 ≤ n) (h2 : n ≤ 1000000) : Says prog 119 [.int .i64 n] (.agg (Ows (numE n).d)) [] := by
  have hw : IntKind.i64.wrap (-n) = -n := wrap64 (by omega) (by omega)
  refine Fn_G Go.Proofs.Tryz.func119 ok119 ?_
  unfold numE
  by_cases c : n < 0
  · simp [v119, r119, c, splice, hw]
  · simp [v119, r119, c, splice]
theorem one_spec (n : Int) : Says prog 181 [.int .i64 n] (.agg [.int .i64 1, .int .i64 n, .str [], .osl 0 72 0 []]) [] := by
  refine Fn_G Go.Proofs.Tryz.func181 ok181 ?_
  simp [v181, r181, splice]
theorem two_spec (k a b : Int) : Says prog 180 [.int .i64 k, .agg [.int .i64 1, .int .i64 a, .str [], .rsl 0 []], .agg [.int .i64 1, .int .i64 b, .str [], .rsl 0 []]]
    (.agg [.int .i64 k, .int .i64 0, .str [], .osl 0 72 2 [.int .i64 1, .int .i64 a, .str [], .rsl 0 [], .int .i64 1, .int .i64 b, .str [], .rsl 0 []]]) [] := by
  refine Fn_G Go.Proofs.Tryz.func180 ok180 ?_
  simp [v180, r180, splice]
def WN (n : Int) : List AV := if n < 0 then [.int .i64 5, .int .i64 0, .str [], .osl 0 72 2 [.int .i64 1, .int .i64 0, .str [], .rsl 0 [], .int .i64 1, .int .i64 (-n), .str [], .rsl 0 []]] else [.int .i64 1, .int .i64 n, .str [], .osl 0 72 0 []]
theorem num_spec (n : Int) (h1 : -1000000 ≤ n) (h2 : n ≤ 1000000) : Says prog 107 [.int .i64 n] (.agg (WN n)) [] := by
  have hw : IntKind.i64.wrap (-n) = -n := wrap64 (by omega) (by omega)
  have f0 := one_spec 0
  have f1 := one_spec (-n)
  have f2 := one_spec n
  have g := two_spec 5 0 (-n)
  refine Fn_G Go.Proofs.Tryz.func107 ok107 ?_
  unfold WN
  by_cases c : n < 0
  · simp [v107, r107, c, splice]
    refine callG f0 ?_
    simp [hw]
    refine callG f1 ?_
    simp
    refine callG g ?_
    simp
  · simp [v107, r107, c, splice]
    refine callG f2 ?_
    simp
def splitL (x : Stmt) (n : Int) : List Stmt × Bool :=
  if canSplit x n then ([{x with Hi := numE n}, {x with Lo := numE (n + 1)}], true) else ([x], false)
def resP (p : List Stmt × Bool) : AV := .tup [none, none] [.osl 0 74 p.1.length (Ows (p.1.flatMap Stmt.d)), .bool p.2]
theorem canSplit_b {x : Stmt} {n : Int} (h : canSplit x n = true) : -10000 ≤ n ∧ n ≤ 10000 := by
  unfold canSplit at h
  cases hb : boxOf x with
  | none => rw [hb] at h; cases h
  | some l =>
    obtain ⟨h1, h2, h3⟩ := boxOf_len hb
    match l, h1 with
    | r :: l, _ =>
    obtain ⟨b1, b2, b3⟩ := fullB_b h3
    rw [hb] at h
    simp only [Bool.and_eq_true, decide_eq_true_eq] at h
    omega
theorem cut_impl (x : Stmt) (n : Int) (hx : x.tot ≤ 5000000) : Says prog 56 [.agg (Cs x.d), .int .i64 n] (resP (splitL x n)) [] := by
  have f1 := copyS_impl x hx
  have f2 := split_impl x n hx
  simp at f1 f2
  refine Fn_G Go.Proofs.Tryz.func56 ok56 ?_
  unfold splitL
  by_cases c : canSplit x n = true
  · obtain ⟨b1, b2⟩ := canSplit_b c
    have hw : IntKind.i64.wrap (n + 1) = n + 1 := wrap64 (by omega) (by omega)
    have f3 := num_impl n (by omega) (by omega)
    have f4 := num_impl (n + 1) (by omega) (by omega)
    rw [c] at f2 ⊢
    generalize numE n = z1 at f3 ⊢
    generalize numE (n + 1) = z2 at f4 ⊢
    simp at f3 f4
    simp [v56, r56, splice]
    refine callG f1 ?_
    simp [splice]
    refine callG f2 ?_
    simp [splice]
    refine callG f1 ?_
    simp [splice]
    refine callG f3 ?_
    simp [splice, hw]
    refine callG f4 ?_
    simp [splice, resP]
  · rw [Bool.not_eq_true] at c
    rw [c] at f2 ⊢
    simp [v56, r56, splice]
    refine callG f1 ?_
    simp [splice]
    refine callG f2 ?_
    simp [splice, resP]
theorem cut_spec (x : Stmt) (n : Int) (hx : x.tot ≤ 5000000) : ∃ W : List AV, Says prog 50 [.agg (Cs x.d), .int .i64 n] (.tup [none, none] [.osl 0 74 (splitL x n).1.length W, .bool (splitL x n).2]) [] ∧ frzs W = some (Cs ((splitL x n).1.flatMap Stmt.d)) := by
  have f1 := copyL_spec [x, x] (by simp) (fun y hy => by
    simp at hy; subst hy
    exact ⟨hx, copyS_spec y hx⟩)
  have f2 := split_spec x n hx
  simp at f1 f2
  unfold splitL
  by_cases c : canSplit x n = true
  · obtain ⟨b1, b2⟩ := canSplit_b c
    have hw : IntKind.i64.wrap (n + 1) = n + 1 := wrap64 (by omega) (by omega)
    have f3 := num_spec n (by omega) (by omega)
    have f4 := num_spec (n + 1) (by omega) (by omega)
    rw [c] at f2 ⊢
    refine ⟨[.int .i64 x.K, .str x.S] ++ Ows x.At.d ++ Ows x.E.d ++ Ows x.Lo.d ++ WN n ++ [.osl 0 74 x.Body.length (Ows (x.Body.flatMap Stmt.d))] ++ ([.int .i64 x.K, .str x.S] ++ Ows x.At.d ++ Ows x.E.d ++ WN (n + 1) ++ Ows x.Hi.d ++ [.osl 0 74 x.Body.length (Ows (x.Body.flatMap Stmt.d))]), ?_, ?_⟩
    · refine Fn_G Go.Proofs.Tryz.func50 ok50 ?_
      by_cases c1 : n < 0 <;> by_cases c2 : n + 1 < 0 <;> simp [WN, c1, c2] at f3 f4 ⊢
      all_goals
        simp [v50, r50, splice]
        refine callG f1 ?_
        simp [splice]
        refine callG f2 ?_
        simp [splice]
        refine callG f3 ?_
        simp [splice, hw]
        refine callG f4 ?_
        simp [splice]
    · by_cases c1 : n < 0 <;> by_cases c2 : n + 1 < 0 <;> simp [WN, numE, c1, c2]
  · rw [Bool.not_eq_true] at c
    rw [c] at f2 ⊢
    refine ⟨Ows x.d, ?_, by simp⟩
    refine Fn_G Go.Proofs.Tryz.func50 ok50 ?_
    simp [v50, r50, splice]
    refine callG f1 ?_
    simp [splice]
    refine callG f2 ?_
    simp [splice, cutX]
theorem tot_lg : ∀ e : Exp, e.tot ≤ maxLen → e.lg := Exp.ind fun e ih h => by
  rw [Exp.tot_eq] at h
  rw [Exp.lg_eq]
  refine ⟨by omega, by omega, fun y hy => ih y hy ?_⟩
  have := mem_sum Exp.tot hy
  omega
theorem tot_lgS : ∀ x : Stmt, x.tot ≤ maxLen → x.lg := Stmt.ind fun x ih h => by
  rw [Stmt.tot_eq] at h
  rw [Stmt.lg_eq]
  refine ⟨by omega, tot_lg _ (by omega), tot_lg _ (by omega), tot_lg _ (by omega), tot_lg _ (by omega), by omega, fun y hy => ih y hy ?_⟩
  have := mem_sum Stmt.tot hy
  omega
theorem splitL_b (s : Stmt) (n : Int) : (splitL s n).1.length ≤ 2 ∧ ((splitL s n).1.map Stmt.tot).sum ≤ 2 * s.tot + 4 := by
  have h1 := s.tot_eq
  have h2 := numE_tot n
  have h3 := numE_tot (n + 1)
  unfold splitL
  split
  · refine ⟨by simp, ?_⟩
    simp only [List.map_cons, List.map_nil, List.sum_cons, List.sum_nil, Stmt.tot_eq]
    omega
  · refine ⟨by simp, ?_⟩
    simp only [List.map_cons, List.map_nil, List.sum_cons, List.sum_nil]
    omega
theorem arrs_same : ∀ xs : List Arr, Cs (xs.flatMap Arr.d) = Ows (xs.flatMap Arr.d)
  | [] => by simp
  | x :: xs => by have := arrs_same xs; simp only [List.flatMap_cons, Cs_append, Ows_append, this]; simp
theorem arrs_len (xs : List Arr) : (xs.flatMap Arr.d).length = xs.length * 2 := len_flat Arr.d 2 Arr.d_len xs
theorem clone_arrs (xs : List Arr) (hl : xs.length ≤ 5000000) : Says prog 101 [.rsl xs.length (Cs (xs.flatMap Arr.d))] (.osl 0 130 xs.length (Ows (xs.flatMap Arr.d))) [] := by
  cases xs with
  | nil =>
    refine Says_nil 0 (by simp) fun t => ?_
    refine Fn_G Go.Proofs.Tryz.func101 ok101 ?_
    cases t <;> simp [v101, r101]
  | cons x xs =>
    refine Fn_G Go.Proofs.Tryz.func101 ok101 ?_
    have h1 := arrs_len (x :: xs)
    have h2 := arrs_same (x :: xs)
    have hb : xs.length + 1 ≤ bnd := by unfold bnd; simp at hl; omega
    simp only [List.length_cons] at h1 ⊢
    generalize List.flatMap Arr.d (x :: xs) = A at h1 h2 ⊢
    simp [v101, r101, lenX, h1, hb, h2]
theorem copyP_impl (p : Prog) (hp : p.tot ≤ 5000000) : Says prog 55 [.agg (Cs p.d)] (.agg (Ows p.d)) [] := by
  have ht := p.tot_eq
  have f1 := clone_arrs p.Arrs (by omega)
  have f2 := copyAll_impl p.Body (by omega) (fun x hx => copyS_impl x (by have := mem_sum Stmt.tot hx; omega))
  refine Fn_G Go.Proofs.Tryz.func55 ok55 ?_
  try simp at f1 f2
  simp [v55, r55, splice]
  refine callD f1 ?_
  simp [splice]
  refine callD f2 ?_
  simp [splice]
theorem copyP_spec (p : Prog) (hp : p.tot ≤ 5000000) : Says prog 48 [.agg (Cs p.d)] (.agg (Ows p.d)) [] := by
  have ht := p.tot_eq
  have f2 := copyL_spec p.Body (by omega) (fun x hx => by
    have := mem_sum Stmt.tot hx
    exact ⟨by omega, copyS_spec x (by omega)⟩)
  have h1 := arrs_len p.Arrs
  have h2 := arrs_same p.Arrs
  have hb : p.Arrs.length ≤ bnd := by unfold bnd; omega
  refine Fn_G Go.Proofs.Tryz.func48 ok48 ?_
  try simp at f2
  rw [Prog.d_eq]
  generalize List.flatMap Arr.d p.Arrs = A at h1 h2 ⊢
  simp [v48, r48, splice, h1, hb]
  refine callD f2 ?_
  rw [h2]
  have hnf : noFrzs (Ows A) = true := by simp
  simp [splice]
def splitAtP (p : Prog) (i n : Int) : Prog × Bool :=
  if 0 ≤ i ∧ i ≤ (p.Body.length : Int) - 1 then
    match p.Body[i.toNat]? with
    | some x => if (splitL x n).2 = true ∧ okP ⟨p.Arrs, p.Body.take i.toNat ++ ((splitL x n).1 ++ p.Body.drop (i.toNat + 1))⟩ = true then (⟨p.Arrs, p.Body.take i.toNat ++ ((splitL x n).1 ++ p.Body.drop (i.toNat + 1))⟩, true) else (p, false)
    | none => (p, false)
  else (p, false)
theorem splitAt_tot (p : Prog) (i : Nat) (x : Stmt) (n : Int) (hx : p.Body[i]? = some x) (h : p.tot ≤ 1048576) : Prog.tot ⟨p.Arrs, p.Body.take i ++ ((splitL x n).1 ++ p.Body.drop (i + 1))⟩ ≤ 2 * p.tot + 8 := by
  have ht := p.tot_eq
  have h2 := Prog.tot_eq ⟨p.Arrs, p.Body.take i ++ ((splitL x n).1 ++ p.Body.drop (i + 1))⟩
  obtain ⟨b2, b3⟩ := splitL_b x n
  have hb : p.Body = p.Body.take i ++ (x :: p.Body.drop (i + 1)) := by
    have h1 := (List.getElem?_eq_some_iff.1 hx)
    rw [← h1.2, ← List.drop_eq_getElem_cons h1.1, List.take_append_drop]
  have e1 : p.Body.length = (p.Body.take i).length + (1 + (p.Body.drop (i + 1)).length) := by
    have := congrArg List.length hb; simp only [List.length_append, List.length_cons] at this; omega
  have e2 : (p.Body.map Stmt.tot).sum = ((p.Body.take i).map Stmt.tot).sum + (x.tot + ((p.Body.drop (i + 1)).map Stmt.tot).sum) := by
    have := congrArg (fun l => (l.map Stmt.tot).sum) hb; simpa using this
  simp only [List.map_append, List.sum_append, List.length_append] at h2
  omega
theorem rep_body (body : List Stmt) (k : Nat) (x : Stmt) (l : List Stmt) (hx : body[k]? = some x) (hl : 1 ≤ l.length) (hb : body.length + l.length ≤ 4294967296) :
    Says prog 57 [.osl 1 74 body.length (Ows (body.flatMap Stmt.d)), .int .i64 k, .int .i64 (k + 1 : Nat), .osl 2 74 l.length (Ows (l.flatMap Stmt.d))]
      (.osl 0 74 (body.take k ++ (l ++ body.drop (k + 1))).length (Ows ((body.take k ++ (l ++ body.drop (k + 1))).flatMap Stmt.d))) (num 1 [.gone, .gone]) := by
  have h1 := (List.getElem?_eq_some_iff.1 hx)
  have hk := h1.1
  have hbody : body = body.take k ++ (x :: body.drop (k + 1)) := by rw [← h1.2, ← List.drop_eq_getElem_cons h1.1, List.take_append_drop]
  have e : body.flatMap Stmt.d = (body.take k).flatMap Stmt.d ++ (x.d ++ (body.drop (k + 1)).flatMap Stmt.d) := by
    have := congrArg (List.flatMap Stmt.d) hbody; simpa only [List.flatMap_append, List.flatMap_cons] using this
  rw [e, List.flatMap_append, List.flatMap_append]
  exact replace_says _ _ _ _ k body.length l.length _ (by rw [len_flat Stmt.d 19 Stmt.d_len, List.length_take, Nat.min_eq_left (Nat.le_of_lt hk)]) (Stmt.d_len x) hk hl (by simp only [List.length_append, List.length_take, List.length_drop]; omega) hb
theorem splitAt_impl (p : Prog) (i n : Int) (hp : p.tot ≤ 1048576) : Says prog 13 [.agg (Cs p.d), .int .i64 i, .int .i64 n] (.tup [some 2, none] (Ows (splitAtP p i n).1.d ++ [.bool (splitAtP p i n).2])) [] := by
  have ht := p.tot_eq
  have fC := copyP_impl p (by omega)
  have fR := in_impl i 0 ((p.Body.length : Int) - 1)
  have hw : IntKind.i64.wrap ((p.Body.length : Int) - 1) = (p.Body.length : Int) - 1 := wrap64 (by omega) (by omega)
  refine Fn_G Go.Proofs.Tryz.func13 ok13 ?_
  unfold splitAtP
  by_cases c : 0 ≤ i ∧ i ≤ (p.Body.length : Int) - 1
  · obtain ⟨k, rfl⟩ : ∃ k : Nat, i = k := ⟨i.toNat, by omega⟩
    have hk : k < p.Body.length := by omega
    obtain ⟨x, hx0⟩ := get_some hk
    have hrow := row_drop Stmt.d 19 Stmt.d_len hx0
    have hxt := mem_sum Stmt.tot (List.mem_of_getElem? hx0)
    have fS := cut_impl x n (by omega)
    have hq := splitAt_tot p k x n hx0 hp
    obtain ⟨b2, b3⟩ := splitL_b x n
    have b1 : 1 ≤ (splitL x n).1.length := by unfold splitL; split <;> simp
    have hw1 := wrap_succ (i := k) (by omega)
    rw [if_pos c]
    simp only [Int.toNat_natCast, hx0]
    generalize splitL x n = g at *
    obtain ⟨l, ok⟩ := g
    simp only at fS hq b1 b2 b3 ⊢
    have fP := rep_body p.Body k x l hx0 b1 (by omega)
    obtain ⟨q, hq0⟩ : ∃ q, q = (⟨p.Arrs, p.Body.take k ++ (l ++ p.Body.drop (k + 1))⟩ : Prog) := ⟨_, rfl⟩
    have hqA : q.Arrs = p.Arrs := by rw [hq0]
    have hqB : p.Body.take k ++ (l ++ p.Body.drop (k + 1)) = q.Body := by rw [hq0]
    rw [← hq0] at hq ⊢
    rw [hqB] at fP
    clear hq0 hqB
    have fO := ok_implP q (by omega)
    rw [show (decide (0 ≤ (k : Int)) && decide ((k : Int) ≤ (p.Body.length : Int) - 1)) = true by simpa using c] at fR
    rw [Prog.d_eq q, hqA] at fO
    generalize hOk : okP q = b at fO
    simp [resP] at fS
    simp at fC fR fO fP
    simp [v13, r13, splice, hw]
    refine callG fR ?_
    simp [hk, Cs_drop, hrow, splice]
    refine callG fS ?_
    simp [splice]
    refine callG fC ?_
    simp [splice, hw1]
    refine callM [.gone, .gone] plRep fP ?_
    cases ok
    · simp [splice]
      refine callG fC ?_
      simp [splice]
    · simp [splice]
      refine callG fO ?_
      cases b
      · simp [splice]
        refine callG fC ?_
        simp [splice]
      · simp [splice, hqA]
  · simp at fC fR
    rw [show (decide (0 ≤ i) && decide (i ≤ (p.Body.length : Int) - 1)) = false by simpa using c] at fR
    simp [v13, r13, splice, hw, c]
    refine callG fR ?_
    simp [splice]
    refine callG fC ?_
    simp [splice]
set_option maxHeartbeats 8000000
theorem cut_mid {A X B L : List D} {a x b : Nat} (hA : A.length = a) (hX : X.length = x) (hB : B.length = b) : (Cs (A ++ (X ++ B))).take a ++ Cs L ++ ((Cs (A ++ (X ++ B))).drop (a + x)).take b = Cs (A ++ (L ++ B)) := by
  subst hA hX hB
  have e1 : (Cs (A ++ (X ++ B))).take A.length = Cs A := by rw [Cs_append]; exact List.take_left' (by simp)
  have e2 : (Cs (A ++ (X ++ B))).drop (A.length + X.length) = Cs B := by rw [← List.append_assoc, Cs_append]; exact List.drop_left' (by simp)
  rw [e1, e2, List.take_of_length_le (by simp)]
  simp
theorem splitAt_spec (p : Prog) (i n : Int) (hp : p.tot ≤ 1048576) : Says prog 11 [.agg (Cs p.d), .int .i64 i, .int .i64 n]
    (.tup [some 2, none] (Cs (splitAtP p i n).1.d ++ [.bool (splitAtP p i n).2])) [] := by
  have ht := p.tot_eq
  have fC := copyP_spec p (by omega)
  have fR := in_spec i 0 ((p.Body.length : Int) - 1)
  have hw : IntKind.i64.wrap ((p.Body.length : Int) - 1) = (p.Body.length : Int) - 1 := wrap64 (by omega) (by omega)
  unfold splitAtP
  by_cases c : 0 ≤ i ∧ i ≤ (p.Body.length : Int) - 1
  · obtain ⟨k, rfl⟩ : ∃ k : Nat, i = k := ⟨i.toNat, by omega⟩
    have hk : k < p.Body.length := by omega
    obtain ⟨x, hx0⟩ := get_some hk
    have hrow := row_drop Stmt.d 19 Stmt.d_len hx0
    have hxt := mem_sum Stmt.tot (List.mem_of_getElem? hx0)
    obtain ⟨W0, fS, w1⟩ := cut_spec x n (by omega)
    have hq := splitAt_tot p k x n hx0 hp
    obtain ⟨b2, b3⟩ := splitL_b x n
    have hw1 := wrap_succ (i := k) (by omega)
    rw [if_pos c]
    simp only [Int.toNat_natCast, hx0]
    generalize splitL x n = g at *
    obtain ⟨l, ok⟩ := g
    simp only at fS hq b2 b3 w1 ⊢
    obtain ⟨q, hq0⟩ : ∃ q, q = (⟨p.Arrs, p.Body.take k ++ (l ++ p.Body.drop (k + 1))⟩ : Prog) := ⟨_, rfl⟩
    have hqA : q.Arrs = p.Arrs := by rw [hq0]
    have hqB : q.Body = p.Body.take k ++ (l ++ p.Body.drop (k + 1)) := by rw [hq0]
    rw [← hq0] at hq ⊢
    clear hq0
    have fO := ok_spec q (by omega)
    rw [show (decide (0 ≤ (k : Int)) && decide ((k : Int) ≤ (p.Body.length : Int) - 1)) = true by simpa using c] at fR
    have hqn : q.Body.length = k + l.length + (p.Body.length - (k + 1)) := by rw [hqB]; simp; omega
    have hqd : Cs (q.Body.flatMap Stmt.d) = (Cs (p.Body.flatMap Stmt.d)).take (k * 19) ++ Cs (l.flatMap Stmt.d) ++ ((Cs (p.Body.flatMap Stmt.d)).drop ((k + 1) * 19)).take ((p.Body.length - (k + 1)) * 19) := by
      have h1 := (List.getElem?_eq_some_iff.1 hx0)
      have hbody : p.Body = p.Body.take k ++ (x :: p.Body.drop (k + 1)) := by rw [← h1.2, ← List.drop_eq_getElem_cons h1.1, List.take_append_drop]
      have hd : p.Body.flatMap Stmt.d = (p.Body.take k).flatMap Stmt.d ++ (x.d ++ (p.Body.drop (k + 1)).flatMap Stmt.d) := by
        have := congrArg (List.flatMap Stmt.d) hbody; simpa only [List.flatMap_append, List.flatMap_cons] using this
      have hA : ((p.Body.take k).flatMap Stmt.d).length = k * 19 := by rw [len_flat Stmt.d 19 Stmt.d_len, List.length_take, Nat.min_eq_left (Nat.le_of_lt hk)]
      have hB : ((p.Body.drop (k + 1)).flatMap Stmt.d).length = (p.Body.length - (k + 1)) * 19 := by rw [len_flat Stmt.d 19 Stmt.d_len, List.length_drop]
      rw [hqB, hd, List.flatMap_append, List.flatMap_append, show (k + 1) * 19 = k * 19 + 19 by omega]
      exact (cut_mid hA (Stmt.d_len x) hB).symm
    have hl1 : (Cs (p.Body.flatMap Stmt.d)).length = p.Body.length * 19 := by simpa using len_flat Stmt.d 19 Stmt.d_len p.Body
    have hl2 : (Cs (l.flatMap Stmt.d)).length = l.length * 19 := by simpa using len_flat Stmt.d 19 Stmt.d_len l
    have i1 : (k : Int) + 1 ≤ (p.Body.length : Int) := by omega
    have i2 : (0 : Int) ≤ (k : Int) + 1 := by omega
    have i3 : ((p.Body.length : Int) - ((k : Int) + 1)).toNat = p.Body.length - (k + 1) := by omega
    have i4 : ((k : Int) + 1).toNat = k + 1 := by omega
    have i6 : k ≤ p.Body.length := by omega
    have i7 : min ((p.Body.length - (k + 1)) * 19) (p.Body.length * 19 - (k + 1) * 19) = (p.Body.length - (k + 1)) * 19 := by omega
    have hbk : k ≤ bnd ∧ k + l.length ≤ bnd ∧ k + l.length + (p.Body.length - (k + 1)) ≤ bnd := by unfold bnd; omega
    rw [Prog.d_eq q, hqA] at fO
    obtain ⟨b, hOk⟩ : ∃ b, b = okP q := ⟨_, rfl⟩
    rw [← hOk] at fO ⊢
    clear hOk
    simp at fC fR fO fS w1
    have hqd' : List.take (k * 19) (Cs (p.Body.flatMap Stmt.d)) ++ (Cs (l.flatMap Stmt.d) ++ List.take ((p.Body.length - (k + 1)) * 19) (List.drop ((k + 1) * 19) (Cs (p.Body.flatMap Stmt.d)))) = Cs (q.Body.flatMap Stmt.d) := by rw [hqd, List.append_assoc]
    have hqb : q.Body.length ≤ bnd := by rw [hqn]; exact hbk.2.2
    clear hqd
    refine Fn_G Go.Proofs.Tryz.func11 ok11 ?_
    simp [v11, r11, splice, hw]
    refine callG fC ?_
    simp [splice, hw]
    refine callG fR ?_
    simp [hk, Cs_drop, hrow, splice]
    refine callG fS ?_
    cases ok <;> simp [splice, hw1, w1, i1, i2, i3, i4, i6, i7, hl1, hl2, hbk.1, hbk.2.1, hqn.symm, hqb, hqd']
    · refine callG fC ?_
      simp [splice]
    · refine callG fO ?_
      cases b
      · simp [splice]
        refine callG fC ?_
        simp [splice]
      · simp [splice, hqA]
  · simp at fC fR
    rw [show (decide (0 ≤ i) && decide (i ≤ (p.Body.length : Int) - 1)) = false by simpa using c] at fR
    refine Fn_G Go.Proofs.Tryz.func11 ok11 ?_
    simp [v11, r11, splice, hw, c]
    refine callG fC ?_
    simp [splice, hw]
    refine callG fR ?_
    simp [splice]
end Go.AmC
