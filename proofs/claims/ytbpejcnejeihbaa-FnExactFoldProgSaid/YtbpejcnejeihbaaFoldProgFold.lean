/- Part of a proof: see the last text of this folder. -/
import Derived.Test.YtbpejcnejeihbaaFoldProgOp
import Derived.Test.YtbpejcnejeihbaaFoldProgCl
set_option linter.unusedSimpArgs false
set_option linter.unusedVariables false
set_option maxRecDepth 20000
set_option maxHeartbeats 4000000
namespace Go.AmC
open Go Go.AM
open Go.Proofs.Try (prog)

def foldTop (k n : Int) (s : List UInt8) (l : List Exp) : Exp := match l with
  | [a, b] => if (4 ≤ k ∧ k ≤ 8) ∧ a.K = 1 ∧ b.K = 1 ∧ 0 ≤ opE k a.N b.N ∧ opE k a.N b.N ≤ 999999 then ⟨1, opE k a.N b.N, [], []⟩ else ⟨k, n, s, [a, b]⟩
  | l => ⟨k, n, s, l⟩
def foldE : Exp → Exp
  | ⟨k, n, s, l⟩ => foldTop k n s (l.map foldE)
theorem foldE_eq (x : Exp) : foldE x = foldTop x.K x.N x.S (x.L.map foldE) := by cases x; rw [foldE]
theorem foldTop_tot (k n : Int) (s : List UInt8) (l : List Exp) : (foldTop k n s l).tot ≤ s.length + (l.length + (l.map Exp.tot).sum) := by
  unfold foldTop
  split
  · split
    · rw [Exp.tot_eq]; simp
    · rw [Exp.tot_eq]; simp
  · rw [Exp.tot_eq]; simp
theorem sum_le_map {α : Type} (f g : α → Nat) : ∀ {xs : List α}, (∀ x ∈ xs, f x ≤ g x) → (xs.map f).sum ≤ (xs.map g).sum
  | [], _ => by simp
  | x :: xs, h => by
    have h1 := h x (by simp)
    have h2 := sum_le_map f g (xs := xs) (fun y hy => h y (by simp [hy]))
    simp; omega
theorem foldE_tot : ∀ x : Exp, (foldE x).tot ≤ x.tot := Exp.ind fun x ih => by
  rw [foldE_eq, x.tot_eq]
  have h1 := foldTop_tot x.K x.N x.S (x.L.map foldE)
  have h2 := sum_le_map (fun y => (foldE y).tot) Exp.tot ih
  simp only [List.length_map, List.map_map, Function.comp_def] at h1
  omega
theorem tot_lg : ∀ x : Exp, x.tot ≤ maxLen → x.lg := Exp.ind fun x ih h => by
  rw [Exp.tot_eq] at h
  rw [Exp.lg_eq]
  refine ⟨by omega, by omega, fun y hy => ih y hy ?_⟩
  have := mem_sum Exp.tot hy
  omega

theorem isTwo_impl (k : Int) : Says prog 62 [.int .i64 k] (.bool (decide (4 ≤ k) && decide (k ≤ 8))) [] := by
  refine Fn_G Go.Proofs.Try.func62 ok62 ?_
  simp [v62, r62]
  refine callG (in_impl k 4 8) ?_
  simp
theorem l3Num_spec (n : Int) : Says prog 60 [.int .i64 n] (.agg [.int .i64 1, .int .i64 n, .str [], .osl 0 31 0 []]) [] := by
  refine Fn_G Go.Proofs.Try.func60 ok60 ?_
  simp [v60, r60, splice]

theorem fold_spec : ∀ x : Exp, x.tot ≤ 1048576 → Says prog 33 [.agg (Cs x.d)] (.agg (Ows (foldE x).d)) [] := Exp.ind fun x ih hx => by
  have hl : x.L.length ≤ 1048576 := by have := x.tot_eq; omega
  refine Fn_G Go.Proofs.Try.func33 ok33 ?_
  rw [foldE_eq]
  generalize hR : AV.agg (Ows (foldTop x.K x.N x.S (x.L.map foldE)).d) = R0
  simp [v33, r33, splice]
  generalize hc : [AV.int .i64 x.K, AV.int .i64 x.N, AV.str x.S, AV.rsl x.L.length (Cs (List.flatMap Exp.d x.L))] = cs
  refine G_loop (l := l33_0) (b := b33_0) rfl [6] (fun i => [.agg cs, .bx 0 31 cs, .bx 0 31 [.int .i64 0, .int .i64 0, .str [], .osl 0 31 0 []], .bx 0 31 [.int .i64 x.K, .int .i64 x.N, .str x.S, .osl 0 31 i (Ows (((x.L.take i).map foldE).flatMap Exp.d))], .int .i64 (i : Int), .dead, .dead, .dead, .dead, .dead]) (fun _ => True) x.L.length
    (fun ex en => ex = .exit 0 ∧ en = [.agg cs, .bx 0 31 cs, .bx 0 31 [.int .i64 0, .int .i64 0, .str [], .osl 0 31 0 []], .bx 0 31 [.int .i64 x.K, .int .i64 x.N, .str x.S, .osl 0 31 x.L.length (Ows ((x.L.map foldE).flatMap Exp.d))], .int .i64 x.L.length, .dead, .dead, .dead, .dead, .dead]) ?_ ?_ trivial (by simp) ?_
  · subst hc
    intro i hi _ q hn hx hr
    obtain ⟨y, hy0⟩ : ∃ y, x.L[i]? = some y := ⟨_, List.getElem?_eq_getElem hi⟩
    have hrow := row_drop Exp.d 4 Exp.d_len hy0
    have hwi : IntKind.i64.wrap ((i : Int) + 1) = ((i + 1 : Nat) : Int) := by rw [wrap_small] <;> omega
    have hb : i + 1 ≤ bnd := by unfold bnd; omega
    have hf := ih y (List.mem_of_getElem? hy0) (by have := mem_sum Exp.tot (List.mem_of_getElem? hy0); have := x.tot_eq; omega)
    have ht : ((x.L.take (i + 1)).map foldE).flatMap Exp.d = ((x.L.take i).map foldE).flatMap Exp.d ++ (foldE y).d := by
      rw [List.take_add_one, hy0]; simp
    rw [ht] at hn
    generalize ((x.L.take i).map foldE).flatMap Exp.d = A at hn ⊢
    generalize foldE y = z at hf hn
    simp at hf
    simp [hi, Cs_drop, hrow]
    refine callG hf ?_
    simp [hwi, splice, hb]
    refine hn _ ?_ trivial
    simp
  · subst hc
    intro _ q hx hr
    simp
    exact hx _ _ ⟨rfl, by simp⟩
  · subst hc
    rintro ex en ⟨rfl, rfl⟩
    have hlen : (x.L.map foldE).length = x.L.length := by simp
    generalize x.L.map foldE = l at hlen hR ⊢
    by_cases h2 : l.length = 2
    · match l, h2 with
      | [a, b], _ =>
        have hl2 : x.L.length = 2 := by simpa using hlen.symm
        simp [hl2]
        refine callG (in_spec x.K 4 8) ?_
        by_cases c1 : 4 ≤ x.K ∧ x.K ≤ 8
        · by_cases c2 : a.K = 1
          · by_cases c3 : b.K = 1
            · simp [c1.1, c1.2, c2, c3]
              refine callD (op_spec x.K a.N b.N c1) ?_
              simp
              refine callG (in_spec (opE x.K a.N b.N) 0 999999) ?_
              by_cases c4 : 0 ≤ opE x.K a.N b.N ∧ opE x.K a.N b.N ≤ 999999
              · simp [c4.1, c4.2]
                refine callG (l3Num_spec _) ?_
                simp [splice, ← hR, foldTop, c1.1, c1.2, c2, c3, c4.1, c4.2]
              · have c5 : (decide (0 ≤ opE x.K a.N b.N) && decide (opE x.K a.N b.N ≤ 999999)) = false := by simp; omega
                rw [c5]
                simp [splice, ← hR, foldTop, c2, c3, c4]
            · simp [c1.1, c1.2, c2, c3, splice, ← hR, foldTop]
          · simp [c1.1, c1.2, c2, splice, ← hR, foldTop]
        · have c5 : (decide (4 ≤ x.K) && decide (x.K ≤ 8)) = false := by simp; omega
          rw [c5]
          simp [splice, ← hR, foldTop, c1]
    · have h3 : ¬ ((x.L.length : Int) = 2) := by omega
      have h4 : foldTop x.K x.N x.S l = ⟨x.K, x.N, x.S, l⟩ := by
        unfold foldTop
        split
        · rename_i a b; simp at h2
        · rfl
      rw [h4] at hR
      simp [h3, splice, ← hR, hlen]

theorem fold_impl : ∀ x : Exp, x.tot ≤ 1048576 → Says prog 36 [.agg (Cs x.d)] (.agg (Ows (foldE x).d)) [] := Exp.ind fun x ih hx => by
  have hl : x.L.length ≤ 1048576 := by have := x.tot_eq; omega
  refine Fn_G Go.Proofs.Try.func36 ok36 ?_
  rw [foldE_eq]
  generalize hR : AV.agg (Ows (foldTop x.K x.N x.S (x.L.map foldE)).d) = R0
  simp [v36, r36, splice]
  generalize hc : [AV.int .i64 x.K, AV.int .i64 x.N, AV.str x.S, AV.rsl x.L.length (Cs (List.flatMap Exp.d x.L))] = cs
  refine G_loop (l := l36_0) (b := b36_0) rfl [8] (fun i => [.agg cs, .bx 0 31 cs, .bx 0 31 [.int .i64 0, .int .i64 0, .str [], .osl 0 31 0 []], .bx 0 31 [.int .i64 x.K, .int .i64 x.N, .str x.S, .osl 0 31 i (Ows (((x.L.take i).map foldE).flatMap Exp.d))], .rsl x.L.length (Cs (List.flatMap Exp.d x.L)), .int .i64 x.L.length, .int .i64 (i : Int), .dead, .dead, .dead, .dead, .dead]) (fun _ => True) x.L.length
    (fun ex en => ex = .exit 0 ∧ en = [.agg cs, .bx 0 31 cs, .bx 0 31 [.int .i64 0, .int .i64 0, .str [], .osl 0 31 0 []], .bx 0 31 [.int .i64 x.K, .int .i64 x.N, .str x.S, .osl 0 31 x.L.length (Ows ((x.L.map foldE).flatMap Exp.d))], .rsl x.L.length (Cs (List.flatMap Exp.d x.L)), .int .i64 x.L.length, .int .i64 x.L.length, .dead, .dead, .dead, .dead, .dead]) ?_ ?_ trivial (by simp) ?_
  · subst hc
    intro i hi _ q hn hx hr
    obtain ⟨y, hy0⟩ : ∃ y, x.L[i]? = some y := ⟨_, List.getElem?_eq_getElem hi⟩
    have hrow := row_drop Exp.d 4 Exp.d_len hy0
    have hwi : IntKind.i64.wrap ((i : Int) + 1) = ((i + 1 : Nat) : Int) := by rw [wrap_small] <;> omega
    have hb : i + 1 ≤ bnd := by unfold bnd; omega
    have hf := ih y (List.mem_of_getElem? hy0) (by have := mem_sum Exp.tot (List.mem_of_getElem? hy0); have := x.tot_eq; omega)
    have ht : ((x.L.take (i + 1)).map foldE).flatMap Exp.d = ((x.L.take i).map foldE).flatMap Exp.d ++ (foldE y).d := by
      rw [List.take_add_one, hy0]; simp
    rw [ht] at hn
    generalize ((x.L.take i).map foldE).flatMap Exp.d = A at hn ⊢
    generalize foldE y = z at hf hn
    simp at hf
    simp [hi, Cs_drop, hrow, splice]
    refine callD hf ?_
    simp [hwi, splice, hb]
    refine hn _ ?_ trivial
    simp
  · subst hc
    intro _ q hx hr
    simp
    exact hx _ _ ⟨rfl, by simp⟩
  · subst hc
    rintro ex en ⟨rfl, rfl⟩
    have hlen : (x.L.map foldE).length = x.L.length := by simp
    generalize x.L.map foldE = l at hlen hR ⊢
    simp
    refine callG (isTwo_impl x.K) ?_
    by_cases c1 : 4 ≤ x.K ∧ x.K ≤ 8
    · by_cases h2 : l.length = 2
      · match l, h2 with
        | [a, b], _ =>
          have hl2 : x.L.length = 2 := by simpa using hlen.symm
          by_cases c2 : a.K = 1
          · by_cases c3 : b.K = 1
            · simp [hl2, c1.1, c1.2, c2, c3]
              refine callD (op_impl x.K a.N b.N) ?_
              simp
              refine callG (in_impl (opE x.K a.N b.N) 0 999999) ?_
              by_cases c4 : 0 ≤ opE x.K a.N b.N ∧ opE x.K a.N b.N ≤ 999999
              · simp [c4.1, c4.2, splice, ← hR, foldTop, c1.1, c1.2, c2, c3]
              · have c5 : (decide (0 ≤ opE x.K a.N b.N) && decide (opE x.K a.N b.N ≤ 999999)) = false := by simp; omega
                rw [c5]
                simp [splice, ← hR, foldTop, c2, c3, c4, hl2]
            · simp [hl2, c1.1, c1.2, c2, c3, splice, ← hR, foldTop]
          · simp [hl2, c1.1, c1.2, c2, splice, ← hR, foldTop]
      · have h3 : ¬ ((x.L.length : Int) = 2) := by omega
        have h4 : foldTop x.K x.N x.S l = ⟨x.K, x.N, x.S, l⟩ := by
          unfold foldTop
          split
          · rename_i a b; simp at h2
          · rfl
        rw [h4] at hR
        simp [h3, splice, ← hR, hlen, c1.1, c1.2]
    · have c5 : (decide (4 ≤ x.K) && decide (x.K ≤ 8)) = false := by simp; omega
      rw [c5]
      have h4 : foldTop x.K x.N x.S l = ⟨x.K, x.N, x.S, l⟩ := by
        unfold foldTop
        split
        · rename_i a b; rw [if_neg (fun h => c1 h.1)]
        · rfl
      rw [h4] at hR
      simp [splice, ← hR, hlen]
end Go.AmC
