/- Part of a proof: see the last text of this folder. -/
import Derived.Test.YtbpejcnejeihbaaSplitIn
set_option linter.unusedSimpArgs false
set_option linter.unusedVariables false
set_option maxRecDepth 20000
set_option maxHeartbeats 4000000
namespace Go.AmC
open Go Go.AM
open Go.Proofs.Try (prog)

/-! ### Copies -/
theorem copyE_impl : ∀ e : Exp, e.tot ≤ 5000000 → Says prog 76 [.agg (Cs e.d)] (.agg (Ows e.d)) [] := Exp.ind fun e ih he => by
  have ht := e.tot_eq
  have hlB : e.L.length ≤ 5000000 := by omega
  refine Fn_G Go.Proofs.Try.func76 ok76 ?_
  simp [v76, r76, splice]
  refine G_loop (l := l76_0) (b := b76_0) rfl [8] (fun i => [.agg (Cs e.d), .bx 0 31 (Cs e.d), .bx 0 31 [.int .i64 0, .int .i64 0, .str [], .osl 0 31 0 []], .bx 0 31 [.int .i64 e.K, .int .i64 e.N, .str e.S, .osl 0 31 i (Ows ((e.L.take i).flatMap Exp.d))], .rsl e.L.length (Cs (e.L.flatMap Exp.d)), .int .i64 e.L.length, .int .i64 (i : Int), .dead, .dead]) (fun _ => True) e.L.length
    (fun ex en => ex = .exit 0 ∧ en = [.agg (Cs e.d), .bx 0 31 (Cs e.d), .bx 0 31 [.int .i64 0, .int .i64 0, .str [], .osl 0 31 0 []], .bx 0 31 [.int .i64 e.K, .int .i64 e.N, .str e.S, .osl 0 31 e.L.length (Ows (e.L.flatMap Exp.d))], .rsl e.L.length (Cs (e.L.flatMap Exp.d)), .int .i64 e.L.length, .int .i64 e.L.length, .dead, .dead]) ?_ ?_ trivial (by simp) ?_
  · intro i hi _ q hn hx hr
    obtain ⟨y, hy0⟩ : ∃ y, e.L[i]? = some y := ⟨_, List.getElem?_eq_getElem hi⟩
    have hrow := row_drop Exp.d 4 Exp.d_len hy0
    have hwi : IntKind.i64.wrap ((i : Int) + 1) = ((i + 1 : Nat) : Int) := by rw [wrap_small] <;> omega
    have hb : i + 1 ≤ bnd := by unfold bnd; omega
    have hf := ih y (List.mem_of_getElem? hy0) (by have := mem_sum Exp.tot (List.mem_of_getElem? hy0); omega)
    have ht : (e.L.take (i + 1)).flatMap Exp.d = (e.L.take i).flatMap Exp.d ++ y.d := by
      rw [List.take_add_one, hy0]; simp
    rw [ht] at hn
    generalize (e.L.take i).flatMap Exp.d = A at hn ⊢
    simp at hf
    simp [hi, Cs_drop, hrow]
    refine callD hf ?_
    simp [hwi, splice, hb]
    refine hn _ ?_ trivial
    simp
  · intro _ q hx hr
    simp
    exact hx _ _ ⟨rfl, by simp⟩
  · rintro ex en ⟨rfl, rfl⟩
    simp [splice]
theorem copyE_spec : ∀ e : Exp, e.tot ≤ 5000000 → Says prog 74 [.agg (Cs e.d)] (.agg (Ows e.d)) [] := Exp.ind fun e ih he => by
  have ht := e.tot_eq
  have hlB : e.L.length ≤ 5000000 := by omega
  refine Fn_G Go.Proofs.Try.func74 ok74 ?_
  simp [v74, r74, splice]
  refine G_loop (l := l74_0) (b := b74_0) rfl [6] (fun i => [.agg (Cs e.d), .bx 0 31 (Cs e.d), .bx 0 31 [.int .i64 0, .int .i64 0, .str [], .osl 0 31 0 []], .bx 0 31 [.int .i64 e.K, .int .i64 e.N, .str e.S, .osl 0 31 i (Ows ((e.L.take i).flatMap Exp.d))], .int .i64 (i : Int), .dead, .dead]) (fun _ => True) e.L.length
    (fun ex en => ex = .exit 0 ∧ en = [.agg (Cs e.d), .bx 0 31 (Cs e.d), .bx 0 31 [.int .i64 0, .int .i64 0, .str [], .osl 0 31 0 []], .bx 0 31 [.int .i64 e.K, .int .i64 e.N, .str e.S, .osl 0 31 e.L.length (Ows (e.L.flatMap Exp.d))], .int .i64 e.L.length, .dead, .dead]) ?_ ?_ trivial (by simp) ?_
  · intro i hi _ q hn hx hr
    obtain ⟨y, hy0⟩ : ∃ y, e.L[i]? = some y := ⟨_, List.getElem?_eq_getElem hi⟩
    have hrow := row_drop Exp.d 4 Exp.d_len hy0
    have hwi : IntKind.i64.wrap ((i : Int) + 1) = ((i + 1 : Nat) : Int) := by rw [wrap_small] <;> omega
    have hb : i + 1 ≤ bnd := by unfold bnd; omega
    have hf := ih y (List.mem_of_getElem? hy0) (by have := mem_sum Exp.tot (List.mem_of_getElem? hy0); omega)
    have ht : (e.L.take (i + 1)).flatMap Exp.d = (e.L.take i).flatMap Exp.d ++ y.d := by
      rw [List.take_add_one, hy0]; simp
    rw [ht] at hn
    generalize (e.L.take i).flatMap Exp.d = A at hn ⊢
    simp at hf
    simp [hi, Cs_drop, hrow]
    refine callG hf ?_
    simp [hwi, splice, hb]
    refine hn _ ?_ trivial
    simp
  · intro _ q hx hr
    simp
    exact hx _ _ ⟨rfl, by simp⟩
  · rintro ex en ⟨rfl, rfl⟩
    simp [splice]
theorem copyAll_impl (xs : List Stmt) (hl : xs.length ≤ 5000000) (h : ∀ x ∈ xs, Says prog 52 [.agg (Cs x.d)] (.agg (Ows x.d)) []) :
    Says prog 68 [.rsl xs.length (Cs (xs.flatMap Stmt.d))] (.osl 0 34 xs.length (Ows (xs.flatMap Stmt.d))) [] := by
  refine Fn_G Go.Proofs.Try.func68 ok68 ?_
  simp [v68, r68]
  refine G_loop (l := l68_0) (b := b68_0) rfl [7] (fun i => [.rsl xs.length (Cs (xs.flatMap Stmt.d)), .osl 0 34 0 [], .osl 0 34 i (Ows ((xs.take i).flatMap Stmt.d)), .rsl xs.length (Cs (xs.flatMap Stmt.d)), .int .i64 xs.length, .int .i64 (i : Int), .dead, .dead]) (fun _ => True) xs.length
    (fun ex en => ex = .exit 0 ∧ en = [.rsl xs.length (Cs (xs.flatMap Stmt.d)), .osl 0 34 0 [], .osl 0 34 xs.length (Ows (xs.flatMap Stmt.d)), .rsl xs.length (Cs (xs.flatMap Stmt.d)), .int .i64 xs.length, .int .i64 xs.length, .dead, .dead]) ?_ ?_ trivial (by simp) ?_
  · intro i hi _ q hn hx hr
    obtain ⟨y, hy0⟩ : ∃ y, xs[i]? = some y := ⟨_, List.getElem?_eq_getElem hi⟩
    have hrow := row_drop Stmt.d 19 Stmt.d_len hy0
    have hwi : IntKind.i64.wrap ((i : Int) + 1) = ((i + 1 : Nat) : Int) := by rw [wrap_small] <;> omega
    have hb : i + 1 ≤ bnd := by unfold bnd; omega
    have hf := h y (List.mem_of_getElem? hy0)
    have ht : (xs.take (i + 1)).flatMap Stmt.d = (xs.take i).flatMap Stmt.d ++ y.d := by
      rw [List.take_add_one, hy0]; simp
    rw [ht] at hn
    generalize (xs.take i).flatMap Stmt.d = A at hn ⊢
    simp at hf
    simp [hi, Cs_drop, hrow, splice]
    refine callG hf ?_
    simp [hwi, splice, hb]
    refine hn _ ?_ trivial
    simp
  · intro _ q hx hr
    simp
    exact hx _ _ ⟨rfl, by simp⟩
  · rintro ex en ⟨rfl, rfl⟩
    simp
theorem copyS_impl : ∀ x : Stmt, x.tot ≤ 5000000 → Says prog 52 [.agg (Cs x.d)] (.agg (Ows x.d)) [] := Stmt.ind fun x ih hx => by
  have ht := x.tot_eq
  have fA := copyE_impl x.At (by omega); have fE := copyE_impl x.E (by omega); have fL := copyE_impl x.Lo (by omega); have fH := copyE_impl x.Hi (by omega)
  have fB := copyAll_impl x.Body (by omega) (fun y hy => ih y hy (by have := mem_sum Stmt.tot hy; omega))
  refine Fn_G Go.Proofs.Try.func52 ok52 ?_
  try simp at fA
  try simp at fE
  try simp at fL
  try simp at fH
  try simp at fB
  simp [v52, r52, splice]
  refine callD fA ?_
  simp
  refine callD fE ?_
  simp
  refine callD fL ?_
  simp
  refine callD fH ?_
  simp
  refine callD fB ?_
  simp [splice]
theorem copyL_spec (xs : List Stmt) (hl : xs.length ≤ 5000000) (h : ∀ x ∈ xs, x.tot ≤ 5000000 ∧ Says prog 50 [.rsl x.Body.length (Cs (x.Body.flatMap Stmt.d))] (.osl 0 34 x.Body.length (Ows (x.Body.flatMap Stmt.d))) []) :
    Says prog 50 [.rsl xs.length (Cs (xs.flatMap Stmt.d))] (.osl 0 34 xs.length (Ows (xs.flatMap Stmt.d))) [] := by
  refine Fn_G Go.Proofs.Try.func50 ok50 ?_
  simp [v50, r50]
  refine G_loop (l := l50_0) (b := b50_0) rfl [5] (fun i => [.rsl xs.length (Cs (xs.flatMap Stmt.d)), .osl 0 34 0 [], .osl 0 34 i (Ows ((xs.take i).flatMap Stmt.d)), .int .i64 (i : Int), .dead, .dead]) (fun _ => True) xs.length
    (fun ex en => ex = .exit 0 ∧ en = [.rsl xs.length (Cs (xs.flatMap Stmt.d)), .osl 0 34 0 [], .osl 0 34 xs.length (Ows (xs.flatMap Stmt.d)), .int .i64 xs.length, .dead, .dead]) ?_ ?_ trivial (by simp) ?_
  · intro i hi _ q hn hx hr
    obtain ⟨y, hy0⟩ : ∃ y, xs[i]? = some y := ⟨_, List.getElem?_eq_getElem hi⟩
    have hrow := row_drop Stmt.d 19 Stmt.d_len hy0
    have hwi : IntKind.i64.wrap ((i : Int) + 1) = ((i + 1 : Nat) : Int) := by rw [wrap_small] <;> omega
    have hb : i + 1 ≤ bnd := by unfold bnd; omega
    obtain ⟨hyt, fB⟩ := h y (List.mem_of_getElem? hy0)
    have hte := y.tot_eq
    have fA := copyE_spec y.At (by omega); have fE := copyE_spec y.E (by omega); have fL := copyE_spec y.Lo (by omega); have fH := copyE_spec y.Hi (by omega)
    have ht : (xs.take (i + 1)).flatMap Stmt.d = (xs.take i).flatMap Stmt.d ++ y.d := by
      rw [List.take_add_one, hy0]; simp
    rw [ht] at hn
    generalize (xs.take i).flatMap Stmt.d = A at hn ⊢
    try simp at fA
    try simp at fE
    try simp at fL
    try simp at fH
    try simp at fB
    simp [hi, Cs_drop, hrow, splice]
    refine callD fA ?_
    simp
    refine callD fE ?_
    simp
    refine callD fL ?_
    simp
    refine callD fH ?_
    simp
    refine callD fB ?_
    simp [hwi, splice, hb]
    refine hn _ ?_ trivial
    simp
  · intro _ q hx hr
    simp
    exact hx _ _ ⟨rfl, by simp⟩
  · rintro ex en ⟨rfl, rfl⟩
    simp
theorem copyS_spec : ∀ x : Stmt, x.tot ≤ 5000000 → Says prog 50 [.rsl x.Body.length (Cs (x.Body.flatMap Stmt.d))] (.osl 0 34 x.Body.length (Ows (x.Body.flatMap Stmt.d))) [] := Stmt.ind fun x ih hx => by
  have ht := x.tot_eq
  exact copyL_spec x.Body (by omega) fun y hy => by
    have := mem_sum Stmt.tot hy
    exact ⟨by omega, ih y hy (by omega)⟩
end Go.AmC
