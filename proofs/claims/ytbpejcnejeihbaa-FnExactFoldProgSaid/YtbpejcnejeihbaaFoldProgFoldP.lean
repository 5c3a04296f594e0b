/- Part of a proof: see the last text of this folder. -/
import Derived.Test.YtbpejcnejeihbaaFoldProgFoldS
set_option linter.unusedSimpArgs false
set_option linter.unusedVariables false
set_option maxRecDepth 20000
set_option maxHeartbeats 4000000
namespace Go.AmC
open Go Go.AM
open Go.Proofs.Try (prog)

theorem arrs_same : ∀ xs : List Arr, Cs (xs.flatMap Arr.d) = Ows (xs.flatMap Arr.d)
  | [] => by simp
  | x :: xs => by have := arrs_same xs; simp only [List.flatMap_cons, Cs_append, Ows_append, this]; simp
theorem arrs_len (xs : List Arr) : (xs.flatMap Arr.d).length = xs.length * 2 := len_flat Arr.d 2 Arr.d_len xs
theorem clone_arrs (xs : List Arr) (hl : xs.length ≤ 1048576) : Says prog 67 [.rsl xs.length (Cs (xs.flatMap Arr.d))] (.osl 0 88 xs.length (Ows (xs.flatMap Arr.d))) [] := by
  cases xs with
  | nil =>
    refine Says_nil 0 (by simp) fun t => ?_
    refine Fn_G Go.Proofs.Try.func67 ok67 ?_
    cases t <;> simp [v67, r67]
  | cons x xs =>
    refine Fn_G Go.Proofs.Try.func67 ok67 ?_
    have h1 := arrs_len (x :: xs)
    have h2 := arrs_same (x :: xs)
    have hb : xs.length + 1 ≤ bnd := by unfold bnd; simp at hl; omega
    simp only [List.length_cons] at h1 ⊢
    generalize List.flatMap Arr.d (x :: xs) = A at h1 h2 ⊢
    simp [v67, r67, lenX, h1, hb, h2]
theorem copy_none : Says prog 68 [.rsl 0 []] (.osl 0 34 0 []) [] := by
  refine Fn_G Go.Proofs.Try.func68 ok68 ?_
  simp [v68, r68]
  refine G_loop (l := l68_0) (b := b68_0) rfl [] (fun i => [.rsl 0 [], .osl 0 34 0 [], .osl 0 34 0 [], .rsl 0 [], .int .i64 0, .int .i64 (i : Int), .dead, .dead]) (fun _ => True) 0
    (fun ex en => ex = .exit 0 ∧ en = [.rsl 0 [], .osl 0 34 0 [], .osl 0 34 0 [], .rsl 0 [], .int .i64 0, .int .i64 0, .dead, .dead]) ?_ ?_ trivial (by simp) ?_
  · intro i hi; omega
  · intro _ q hx hr
    simp
    exact hx _ _ ⟨rfl, by simp⟩
  · rintro ex en ⟨rfl, rfl⟩
    simp
theorem copy_arrs (xs : List Arr) (hl : xs.length ≤ 1048576) : Says prog 43 [.agg [.rsl xs.length (Cs (xs.flatMap Arr.d)), .rsl 0 []]] (.agg [.osl 0 88 xs.length (Ows (xs.flatMap Arr.d)), .osl 0 34 0 []]) [] := by
  refine Fn_G Go.Proofs.Try.func43 ok43 ?_
  have f1 := clone_arrs xs hl
  have f2 := copy_none
  simp [v43, r43]
  refine callD f1 ?_
  simp
  refine callD f2 ?_
  simp [splice]

def foldP (p : Prog) : Prog := ⟨p.Arrs, p.Body.map foldS⟩
theorem foldP_tot (p : Prog) : (foldP p).tot ≤ p.tot := by
  rw [p.tot_eq, Prog.tot_eq]
  have h5 := sum_le_map (fun y => (foldS y).tot) Stmt.tot (xs := p.Body) (fun y _ => foldS_tot y)
  simp only [foldP, List.length_map, List.map_map, Function.comp_def]
  omega
theorem tot_lgP (p : Prog) (h : p.tot ≤ maxLen) : p.lg := by
  rw [Prog.tot_eq] at h
  rw [Prog.lg_eq]
  refine ⟨⟨by omega, fun y hy => ?_⟩, by omega, fun y hy => tot_lgS y ?_⟩
  · have := mem_sum Arr.tot hy; rw [Arr.lg_eq]; have := y.tot_eq; omega
  · have := mem_sum Stmt.tot hy; omega
theorem foldP_impl (p : Prog) (hp : p.tot ≤ 1048576) : Says prog 18 [.agg (Cs p.d)] (.agg (Ows (foldP p).d)) [] := by
  have ht := p.tot_eq
  have f1 := copy_arrs p.Arrs (by omega)
  have f2 := all_impl p.Body (by omega) (fun y hy => foldS_impl y (by have := mem_sum Stmt.tot hy; omega))
  have hlen : (p.Body.map foldS).length = p.Body.length := by simp
  refine Fn_G Go.Proofs.Try.func18 ok18 ?_
  unfold foldP
  generalize p.Body.map foldS = zB at f2 hlen ⊢
  simp [v18, r18, splice]
  refine callG f1 ?_
  simp [splice]
  refine callG f2 ?_
  simp [splice, hlen]
theorem foldP_spec (p : Prog) (hp : p.tot ≤ 1048576) : Says prog 16 [.agg (Cs p.d)] (.agg (Ows (foldP p).d)) [] := by
  have ht := p.tot_eq
  have hal := arrs_len p.Arrs
  have hsame := arrs_same p.Arrs
  have hba : p.Arrs.length ≤ bnd := by unfold bnd; omega
  refine Fn_G Go.Proofs.Try.func16 ok16 ?_
  generalize hR : AV.agg (Ows (foldP p).d) = R0
  have hz2 : hrs (Ows (p.Arrs.flatMap Arr.d)) = false := by simp
  simp [v16, r16, splice, hal, hba, hsame]
  refine G_loop (l := l16_0) (b := b16_0) rfl [6] (fun i => [.agg (Cs p.d), .bx 0 46 (Cs p.d), .bx 0 46 [.osl 0 88 0 [], .osl 0 34 0 []], .bx 0 46 [.osl 0 88 p.Arrs.length (Ows (p.Arrs.flatMap Arr.d)), .osl 0 34 i (Ows (((p.Body.take i).map foldS).flatMap Stmt.d))], .int .i64 (i : Int), .dead, .dead]) (fun _ => True) p.Body.length
    (fun ex en => ex = .exit 0 ∧ en = [.agg (Cs p.d), .bx 0 46 (Cs p.d), .bx 0 46 [.osl 0 88 0 [], .osl 0 34 0 []], .bx 0 46 [.osl 0 88 p.Arrs.length (Ows (p.Arrs.flatMap Arr.d)), .osl 0 34 p.Body.length (Ows ((p.Body.map foldS).flatMap Stmt.d))], .int .i64 p.Body.length, .dead, .dead]) ?_ ?_ trivial (by simp [hsame]) ?_
  · intro i hi _ q hn hx hr
    obtain ⟨y, hy0⟩ : ∃ y, p.Body[i]? = some y := ⟨_, List.getElem?_eq_getElem hi⟩
    have hrow := row_drop Stmt.d 19 Stmt.d_len hy0
    have hwi : IntKind.i64.wrap ((i : Int) + 1) = ((i + 1 : Nat) : Int) := by rw [wrap_small] <;> omega
    have hb : i + 1 ≤ bnd := by unfold bnd; omega
    have hf := foldS_spec y (by have := mem_sum Stmt.tot (List.mem_of_getElem? hy0); omega)
    have ht : ((p.Body.take (i + 1)).map foldS).flatMap Stmt.d = ((p.Body.take i).map foldS).flatMap Stmt.d ++ (foldS y).d := by
      rw [List.take_add_one, hy0]; simp
    rw [ht] at hn
    generalize ((p.Body.take i).map foldS).flatMap Stmt.d = A at hn ⊢
    generalize foldS y = z at hf hn
    simp at hf
    simp [hi, Cs_drop, hrow]
    refine callG hf ?_
    simp [hwi, splice, hb]
    refine hn _ ?_ trivial
    simp
  · intro _ q hx hr
    simp
    exact hx _ _ ⟨rfl, by simp⟩
  · rintro ex en ⟨rfl, rfl⟩
    simp [splice, ← hR, foldP]
end Go.AmC
