/- Part of a proof: see the last text of this folder. -/
import Derived.Test.YtbpejcnejeihbaaFoldProgFold
set_option linter.unusedSimpArgs false
set_option linter.unusedVariables false
set_option maxRecDepth 20000
set_option maxHeartbeats 4000000
namespace Go.AmC
open Go Go.AM
open Go.Proofs.Try (prog)

def foldS : Stmt → Stmt
  | ⟨k, s, a, e, lo, hi, b⟩ => ⟨k, s, foldE a, foldE e, foldE lo, foldE hi, b.map foldS⟩
theorem foldS_eq (x : Stmt) : foldS x = ⟨x.K, x.S, foldE x.At, foldE x.E, foldE x.Lo, foldE x.Hi, x.Body.map foldS⟩ := by cases x; rw [foldS]
theorem foldS_tot : ∀ x : Stmt, (foldS x).tot ≤ x.tot := Stmt.ind fun x ih => by
  rw [foldS_eq, x.tot_eq, Stmt.tot_eq]
  have h1 := foldE_tot x.At; have h2 := foldE_tot x.E; have h3 := foldE_tot x.Lo; have h4 := foldE_tot x.Hi
  have h5 := sum_le_map (fun y => (foldS y).tot) Stmt.tot ih
  simp only [List.length_map, List.map_map, Function.comp_def]
  omega
theorem tot_lgS : ∀ x : Stmt, x.tot ≤ maxLen → x.lg := Stmt.ind fun x ih h => by
  rw [Stmt.tot_eq] at h
  rw [Stmt.lg_eq]
  refine ⟨by omega, tot_lg _ (by omega), tot_lg _ (by omega), tot_lg _ (by omega), tot_lg _ (by omega), by omega, fun y hy => ih y hy ?_⟩
  have := mem_sum Stmt.tot hy
  omega

theorem all_impl (xs : List Stmt) (hl : xs.length ≤ 1048576) (h : ∀ x ∈ xs, Says prog 11 [.agg (Cs x.d)] (.agg (Ows (foldS x).d)) []) :
    Says prog 37 [.rsl xs.length (Cs (xs.flatMap Stmt.d))] (.osl 0 34 xs.length (Ows ((xs.map foldS).flatMap Stmt.d))) [] := by
  refine Fn_G Go.Proofs.Try.func37 ok37 ?_
  simp [v37, r37]
  refine G_loop (l := l37_0) (b := b37_0) rfl [7] (fun i => [.rsl xs.length (Cs (xs.flatMap Stmt.d)), .osl 0 34 0 [], .osl 0 34 i (Ows (((xs.take i).map foldS).flatMap Stmt.d)), .rsl xs.length (Cs (xs.flatMap Stmt.d)), .int .i64 xs.length, .int .i64 (i : Int), .dead, .dead]) (fun _ => True) xs.length
    (fun ex en => ex = .exit 0 ∧ en = [.rsl xs.length (Cs (xs.flatMap Stmt.d)), .osl 0 34 0 [], .osl 0 34 xs.length (Ows ((xs.map foldS).flatMap Stmt.d)), .rsl xs.length (Cs (xs.flatMap Stmt.d)), .int .i64 xs.length, .int .i64 xs.length, .dead, .dead]) ?_ ?_ trivial (by simp) ?_
  · intro i hi _ q hn hx hr
    obtain ⟨y, hy0⟩ : ∃ y, xs[i]? = some y := ⟨_, List.getElem?_eq_getElem hi⟩
    have hrow := row_drop Stmt.d 19 Stmt.d_len hy0
    have hwi : IntKind.i64.wrap ((i : Int) + 1) = ((i + 1 : Nat) : Int) := by rw [wrap_small] <;> omega
    have hb : i + 1 ≤ bnd := by unfold bnd; omega
    have hf := h y (List.mem_of_getElem? hy0)
    have ht : ((xs.take (i + 1)).map foldS).flatMap Stmt.d = ((xs.take i).map foldS).flatMap Stmt.d ++ (foldS y).d := by
      rw [List.take_add_one, hy0]; simp
    rw [ht] at hn
    generalize ((xs.take i).map foldS).flatMap Stmt.d = A at hn ⊢
    generalize foldS y = z at hf hn
    simp at hf
    simp [hi, Cs_drop, hrow, splice]
    refine callG hf ?_
    simp [hwi, splice, hb]
    refine hn _ ?_ trivial
    simp
  · intro _ q hx hr
    simp
    exact hx _ _ ⟨rfl, by simp⟩
  · rintro ex en ⟨rfl, rfl⟩
    simp
theorem foldS_impl : ∀ x : Stmt, x.tot ≤ 1048576 → Says prog 11 [.agg (Cs x.d)] (.agg (Ows (foldS x).d)) [] := Stmt.ind fun x ih hx => by
  have ht := x.tot_eq
  have fA := fold_impl x.At (by omega); have fE := fold_impl x.E (by omega); have fL := fold_impl x.Lo (by omega); have fH := fold_impl x.Hi (by omega)
  have fB := all_impl x.Body (by omega) (fun y hy => ih y hy (by have := mem_sum Stmt.tot hy; omega))
  refine Fn_G Go.Proofs.Try.func11 ok11 ?_
  rw [foldS_eq]
  have hlen : (x.Body.map foldS).length = x.Body.length := by simp
  generalize foldE x.At = zA at fA ⊢; generalize foldE x.E = zE at fE ⊢; generalize foldE x.Lo = zL at fL ⊢; generalize foldE x.Hi = zH at fH ⊢
  generalize x.Body.map foldS = zB at fB hlen ⊢
  try simp at fA
  try simp at fE
  try simp at fL
  try simp at fH
  try simp at fB
  simp [v11, r11, splice]
  refine callD fA ?_
  simp
  refine callD fE ?_
  simp
  refine callD fL ?_
  simp
  refine callD fH ?_
  simp
  refine callD fB ?_
  simp [splice, hlen]

theorem foldS_spec : ∀ x : Stmt, x.tot ≤ 1048576 → Says prog 9 [.agg (Cs x.d)] (.agg (Ows (foldS x).d)) [] := Stmt.ind fun x ih hx => by
  have ht := x.tot_eq
  have fA := fold_spec x.At (by omega); have fE := fold_spec x.E (by omega); have fL := fold_spec x.Lo (by omega); have fH := fold_spec x.Hi (by omega)
  refine Fn_G Go.Proofs.Try.func9 ok9 ?_
  rw [foldS_eq]
  generalize foldE x.At = zA at fA ⊢; generalize foldE x.E = zE at fE ⊢; generalize foldE x.Lo = zL at fL ⊢; generalize foldE x.Hi = zH at fH ⊢
  generalize hR : AV.agg (Ows (Stmt.d ⟨x.K, x.S, zA, zE, zL, zH, x.Body.map foldS⟩)) = R0
  try simp at fA
  try simp at fE
  try simp at fL
  try simp at fH
  simp [v9, r9, splice]
  refine callD fA ?_
  simp
  refine callD fE ?_
  simp
  refine callD fL ?_
  simp
  refine callD fH ?_
  simp [splice]
  generalize hz : ([.int .i64 0, .str [], .int .i64 0, .int .i64 0, .str [], .osl 0 31 0 [], .int .i64 0, .int .i64 0, .str [], .osl 0 31 0 [], .int .i64 0, .int .i64 0, .str [], .osl 0 31 0 [], .int .i64 0, .int .i64 0, .str [], .osl 0 31 0 [], .osl 0 34 0 []] : List AV) = cz
  have hz2 : hrs cz = false := by rw [← hz]; simp [hrs, hr]
  have hlB : x.Body.length ≤ 1048576 := by omega
  refine G_loop (l := l9_0) (b := b9_0) rfl [6] (fun i => [.agg (Cs x.d), .bx 0 34 (Cs x.d), .bx 0 34 cz, .bx 0 34 [.int .i64 x.K, .str x.S, .int .i64 zA.K, .int .i64 zA.N, .str zA.S, .osl 0 31 zA.L.length (Ows (zA.L.flatMap Exp.d)), .int .i64 zE.K, .int .i64 zE.N, .str zE.S, .osl 0 31 zE.L.length (Ows (zE.L.flatMap Exp.d)), .int .i64 zL.K, .int .i64 zL.N, .str zL.S, .osl 0 31 zL.L.length (Ows (zL.L.flatMap Exp.d)), .int .i64 zH.K, .int .i64 zH.N, .str zH.S, .osl 0 31 zH.L.length (Ows (zH.L.flatMap Exp.d)), .osl 0 34 i (Ows (((x.Body.take i).map foldS).flatMap Stmt.d))], .int .i64 (i : Int), .dead, .dead]) (fun _ => True) x.Body.length
    (fun ex en => ex = .exit 0 ∧ en = [.agg (Cs x.d), .bx 0 34 (Cs x.d), .bx 0 34 cz, .bx 0 34 [.int .i64 x.K, .str x.S, .int .i64 zA.K, .int .i64 zA.N, .str zA.S, .osl 0 31 zA.L.length (Ows (zA.L.flatMap Exp.d)), .int .i64 zE.K, .int .i64 zE.N, .str zE.S, .osl 0 31 zE.L.length (Ows (zE.L.flatMap Exp.d)), .int .i64 zL.K, .int .i64 zL.N, .str zL.S, .osl 0 31 zL.L.length (Ows (zL.L.flatMap Exp.d)), .int .i64 zH.K, .int .i64 zH.N, .str zH.S, .osl 0 31 zH.L.length (Ows (zH.L.flatMap Exp.d)), .osl 0 34 x.Body.length (Ows ((x.Body.map foldS).flatMap Stmt.d))], .int .i64 x.Body.length, .dead, .dead]) ?_ ?_ trivial (by simp) ?_
  · intro i hi _ q hn hx hr
    obtain ⟨y, hy0⟩ : ∃ y, x.Body[i]? = some y := ⟨_, List.getElem?_eq_getElem hi⟩
    have hrow := row_drop Stmt.d 19 Stmt.d_len hy0
    have hwi : IntKind.i64.wrap ((i : Int) + 1) = ((i + 1 : Nat) : Int) := by rw [wrap_small] <;> omega
    have hb : i + 1 ≤ bnd := by unfold bnd; omega
    have hf := ih y (List.mem_of_getElem? hy0) (by have := mem_sum Stmt.tot (List.mem_of_getElem? hy0); omega)
    have ht : ((x.Body.take (i + 1)).map foldS).flatMap Stmt.d = ((x.Body.take i).map foldS).flatMap Stmt.d ++ (foldS y).d := by
      rw [List.take_add_one, hy0]; simp
    rw [ht] at hn
    generalize ((x.Body.take i).map foldS).flatMap Stmt.d = A at hn ⊢
    generalize foldS y = z at hf hn
    simp at hf
    simp [hi, Cs_drop, hrow]
    refine callG hf ?_
    simp [hwi, splice, hb]
    refine hn _ ?_ trivial
    simp
  · intro _ q hx hr
    simp
    exact hx _ _ ⟨rfl, by simp⟩
  · rintro ex en ⟨rfl, rfl⟩
    subst hz
    simp [splice, ← hR]
end Go.AmC
