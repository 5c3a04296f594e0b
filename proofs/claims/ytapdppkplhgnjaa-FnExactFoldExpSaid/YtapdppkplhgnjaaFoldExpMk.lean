/- Part of a proof: see the last text of this folder. -/
import Derived.Test.YtapdppkplhgnjaaFoldExpSz
import Derived.Test.YtapdppkplhgnjaaFoldExpTo
import Derived.Test.YtapdppkplhgnjaaFoldExpEq
import Derived.Test.YtapdppkplhgnjaaFoldExpDat
set_option linter.unusedSimpArgs false
set_option linter.unusedVariables false
set_option maxRecDepth 20000
set_option maxHeartbeats 4000000
namespace Go.AmC
open Go Go.AM
open Go.Proofs.Try (prog)
theorem markText_f (k : Int) (h1 : 1 ≤ k) (h2 : k ≤ 4294967295) : Says prog 74 [.int .i64 k] (.str (mtx k)) [] := by
  obtain ⟨n, rfl⟩ := Int.eq_ofNat_of_zero_le (show 0 ≤ k by omega)
  have hn : n ≠ 0 := by omega
  have c : ¬ ((n : Int) ≤ 0) := by omega
  refine Fn_G Go.Proofs.Try.func74 ok74 ?_
  generalize hR : AV.str (mtx (n : Int)) = R0
  simp [v74, r74, hn, c]
  refine G_while (α := Nat × List UInt8) (l := l74_0) (b := b74_0) rfl [] (fun a => [.int .i64 (a.1 : Int), .str [], .dead, .str a.2, .dead]) (fun a => a.1) (fun a => a.1 ≤ n ∧ decR n = decR a.1 ++ a.2)
    (fun ex e => ex = .exit 0 ∧ e = [.int .i64 0, .str [], .dead, .str (decR n), .dead]) ?_ (n, []) (by simp) rfl ?_
  · rintro ⟨m, s⟩ ⟨hm, hs⟩ q hn hx hr
    simp only at hm hs
    by_cases hz : m = 0
    · subst hz
      have h0 : decR 0 = [] := by rw [decR]; rfl
      rw [h0] at hs
      simp at hs
      simp
      exact hx _ _ ⟨rfl, by rw [hs]⟩
    · have hl := decR_len n
      have hls : s.length + 1 ≤ n := by have := congrArg List.length hs; rw [decR_pos hz] at this; simp at this; omega
      have hb : ¬ bnd < 1 + s.length := by unfold bnd; omega
      have hb2 : 1 + s.length ≤ bnd := by unfold bnd; omega
      have hmod : IntKind.u8.wrap (IntKind.i64.wrap (48 + (m : Int).tmod 10)) = 48 + (m : Int).tmod 10 := by
        have : (m : Int).tmod 10 = ((m % 10 : Nat) : Int) := by simp [Int.tmod]
        rw [this, wrap_small (by omega) (by omega)]
        simp [IntKind.wrap, IntKind.bits, IntKind.signed]
        omega
      have hquo : IntKind.i64.wrap ((m : Int) / 10) = ((m / 10 : Nat) : Int) := by rw [wrap_small] <;> omega
      have hpos : (0 : Int) < m := by omega
      have hpos2 : 0 < m := by omega
      have htm : UInt8.ofNat (48 + (m : Int).tmod 10).toNat = UInt8.ofNat (48 + m % 10) := by
        have : (m : Int).tmod 10 = ((m % 10 : Nat) : Int) := by simp [Int.tmod]
        rw [this]; congr 1
      simp [hz, hpos, hpos2, hmod, hquo, splice, bytesOf, hb2, htm]
      refine hn _ (m / 10, UInt8.ofNat (48 + m % 10) :: s) ?_ ⟨?_, ?_⟩ ?_
      · simp
      · simp; omega
      · rw [hs, decR_pos hz]; simp
      · simp; omega
  · rintro ex e ⟨rfl, rfl⟩
    have hl := decR_len n
    have hb : ¬ bnd < 1 + (decR n).length := by unfold bnd; omega
    have hb2 : 1 + (decR n).length ≤ bnd := by unfold bnd; omega
    simp [← hR, mtx, hb2]
def mkExp : Exp → Int → Exp × Int
  | ⟨aK, aN, aS, aL⟩, k => (⟨k, k + 1, mtx (k + 1 + 1), (aL.foldl (fun p x => (p.1 ++ [(mkExp x p.2).1], (mkExp x p.2).2)) ([], k + 1 + 1 + 1)).1⟩, (aL.foldl (fun p x => (p.1 ++ [(mkExp x p.2).1], (mkExp x p.2).2)) ([], k + 1 + 1 + 1)).2)
theorem mkExp_eq (x : Exp) (k : Int) : mkExp x k = (⟨k, k + 1, mtx (k + 1 + 1), (mkFold mkExp x.L (k + 1 + 1 + 1)).1⟩, (mkFold mkExp x.L (k + 1 + 1 + 1)).2) := by cases x; rw [mkExp]; rfl
theorem mkExp_bound : ∀ (x : Exp) (k : Int), k + 3 ≤ (mkExp x k).2 ∧ (mkExp x k).2 ≤ k + 3 + 20 * ((Exp.tot x : Nat) : Int) := Exp.ind fun x ih k => by
  rw [mkExp_eq]
  have ht := Exp.tot_eq x
  have b0 := mkFold_bound mkExp Exp.tot (xs := x.L) (k := k + 1 + 1 + 1) (fun x hx k => by have b := ih x hx k; omega)
  simp only
  omega
theorem pl53 : plainFn prog 53 = true := by kernel_rfl
theorem markExpS (xs : List Exp) (hm : xs.length ≤ 1048576) (s0 : ∀ x ∈ xs, ∀ k : Int, 1 ≤ k → k + 20 * ((List.length x.L + (List.map Exp.tot x.L).sum) : Nat) ≤ 2147483648 → Says prog 53 [.osl 1 34 (List.length x.L) (Ows ((List.flatMap Exp.d x.L))), .int .i64 k] (.int .i64 ((mkFold mkExp) x.L k).2) [(1, .osl 1 34 (List.length x.L) (Ows (List.flatMap Exp.d ((mkFold mkExp) x.L k).1)))]) : ∀ k : Int, 1 ≤ k → k + 20 * ((List.length xs + (List.map Exp.tot xs).sum) : Nat) ≤ 2147483648 → Says prog 53 [.osl 1 34 (List.length xs) (Ows ((List.flatMap Exp.d xs))), .int .i64 k] (.int .i64 ((mkFold mkExp) xs k).2) [(1, .osl 1 34 (List.length xs) (Ows (List.flatMap Exp.d ((mkFold mkExp) xs k).1)))] := by
  intro k k1 kL
  refine Fn_GM [1] [.osl 1 34 xs.length (Ows (List.flatMap Exp.d ((mkFold mkExp) xs k).1))] Go.Proofs.Try.func53 ok53 (by simp) ?_
  generalize hR : ((mkFold mkExp) xs k).2 = R0
  simp [v53, r53]
  refine G_loop (l := l53_0) (b := b53_0) rfl [] (fun i => [.osl 1 34 xs.length (Ows (((mkFold mkExp) (xs.take i) k).1.flatMap Exp.d) ++ Ows ((xs.drop i).flatMap Exp.d)), .int .i64 ((mkFold mkExp) (xs.take i) k).2, .int .i64 0, .int .i64 (i : Int), .dead]) (fun _ => True) xs.length
    (fun ex en => ex = .exit 0 ∧ en = [.osl 1 34 xs.length (Ows (List.flatMap Exp.d ((mkFold mkExp) xs k).1)), .int .i64 ((mkFold mkExp) xs k).2, .int .i64 0, .int .i64 xs.length, .dead]) ?_ ?_ trivial (by simp [mkFold]) ?_
  · intro i hi _ q hn hx hr
    obtain ⟨x, hx0⟩ : ∃ x, xs[i]? = some x := ⟨_, List.getElem?_eq_getElem hi⟩
    have hsum := sum_take_le (Exp.tot) xs (i + 1)
    rw [sum_take (Exp.tot) hx0] at hsum
    have hbd := mkFold_bound mkExp Exp.tot (xs := (xs.take i)) (k := k) (fun x hx k => by have b := mkExp_bound x k; omega)
    have hln : (xs.take i).length = i := by simp; omega
    have hA : (Ows (((mkFold mkExp) (xs.take i) k).1.flatMap Exp.d)).length = i * 4 := by rw [Ows_length, len_flat _ 4 Exp.d_len, mkFold_length]; simp; omega
    rw [mkFold_succ _ k hx0] at hn
    rw [drop_cons hx0]
    generalize (mkFold mkExp) (xs.take i) k = P at hn hbd hA ⊢
    obtain ⟨pa, κ⟩ := P
    simp only at hn hbd hA ⊢
    have kp : 1 ≤ κ := by omega
    have kq : κ + 20 * (1 + Exp.tot x : Nat) ≤ 2147483648 + 0 := by omega
    have hwi : IntKind.i64.wrap ((i : Int) + 1) = ((i + 1 : Nat) : Int) := by rw [wrap_small] <;> omega
    rw [List.flatMap_append, Ows_append] at hn
    generalize hA0 : Ows (pa.flatMap Exp.d) = A at hn hA ⊢
    have hA1 : A.length = i * 4 := hA
    rw [List.flatMap_cons, Ows_append]
    generalize Ows ((xs.drop (i + 1)).flatMap Exp.d) = B at hn ⊢
    have hc0 : i * 4 + 1 ≤ i * 4 + (B.length + 1 + 1 + 1 + 1) := by omega
    have hc1 : i * 4 + 1 + 1 ≤ i * 4 + (B.length + 1 + 1 + 1 + 1) := by omega
    have hc2 : i * 4 + 2 + 1 ≤ i * 4 + (B.length + 1 + 1 + 1 + 1) := by omega
    have hc3 : i * 4 + 3 + 1 ≤ i * 4 + (B.length + 1 + 1 + 1 + 1) := by omega
    rw [mkExp_eq] at hn
    have ht := Exp.tot_eq x
    have w0 : IntKind.i64.wrap (κ + 1) = κ + 1 := by rw [wrap_small] <;> omega
    have w1 : IntKind.i64.wrap (κ + 1 + 1) = κ + 1 + 1 := by rw [wrap_small] <;> omega
    have w2 : IntKind.i64.wrap (κ + 1 + 1 + 1) = κ + 1 + 1 + 1 := by rw [wrap_small] <;> omega
    simp [hi, hwi, mid_drop hA1, mid_drop0 hA1, mid_get hA1, mid_get0 hA1, mid_set hA1, mid_set0 hA1, mid_splice hA1, mid_splice0 hA1, spl, hA1, hc0, hc1, hc2, hc3, w0, w1, w2]
    refine callG (markText_f (κ + 1 + 1) (by omega) (by omega)) ?_
    simp [hi, hwi, mid_drop hA1, mid_drop0 hA1, mid_get hA1, mid_get0 hA1, mid_set hA1, mid_set0 hA1, mid_splice hA1, mid_splice0 hA1, spl, hA1, hc0, hc1, hc2, hc3, w0, w1, w2]
    have b0 := mkFold_bound mkExp Exp.tot (xs := x.L) (k := κ + 1 + 1 + 1) (fun x hx k => by have b := mkExp_bound x k; omega)
    have c0 := s0 x (List.mem_of_getElem? hx0) (κ + 1 + 1 + 1) (by omega) (by omega)
    try simp at c0
    have le0 := mkFold_length mkExp x.L (κ + 1 + 1 + 1)
    generalize hq0 : mkFold mkExp x.L (κ + 1 + 1 + 1) = q0 at b0 c0 hn le0
    obtain ⟨l0, κ0⟩ := q0
    simp only at b0 c0 hn le0
    refine callM [_] pl53 c0 ?_
    simp [hi, hwi, mid_drop hA1, mid_drop0 hA1, mid_get hA1, mid_get0 hA1, mid_set hA1, mid_set0 hA1, mid_splice hA1, mid_splice0 hA1, spl, hA1, hc0, hc1, hc2, hc3, w0, w1, w2]
    refine hn _ ?_ trivial
    simp [le0]
  · intro _ q hx hr
    simp
    exact hx _ _ ⟨rfl, by simp⟩
  · rintro ex en ⟨rfl, rfl⟩
    simp [← hR]
theorem heldExpS (xs : List Exp) (hm : xs.length ≤ 1048576) (s0 : ∀ x ∈ xs, ∀ k : Int, 1 ≤ k → k + 20 * ((List.length x.L + (List.map Exp.tot x.L).sum) : Nat) ≤ 2147483648 → Says prog 54 [.rsl (List.length x.L) (Cs (List.flatMap Exp.d ((mkFold mkExp) x.L k).1)), .int .i64 k] (.int .i64 ((mkFold mkExp) x.L k).2) []) : ∀ k : Int, 1 ≤ k → k + 20 * ((List.length xs + (List.map Exp.tot xs).sum) : Nat) ≤ 2147483648 → Says prog 54 [.rsl (List.length xs) (Cs (List.flatMap Exp.d ((mkFold mkExp) xs k).1)), .int .i64 k] (.int .i64 ((mkFold mkExp) xs k).2) [] := by
  intro k k1 kL
  refine Fn_G Go.Proofs.Try.func54 ok54 ?_
  generalize hR : ((mkFold mkExp) xs k).2 = R0
  have hML := mkFold_length mkExp xs k
  simp [v54, r54]
  refine G_loop (l := l54_0) (b := b54_0) rfl [] (fun i => [.rsl xs.length (Cs (((mkFold mkExp) xs k).1.flatMap Exp.d)), .int .i64 ((mkFold mkExp) (xs.take i) k).2, .int .i64 0, .int .i64 (i : Int), .dead, .dead, .dead, .dead, .dead]) (fun _ => True) xs.length
    (fun ex en => ex = .exit 0 ∧ en = [.rsl xs.length (Cs (((mkFold mkExp) xs k).1.flatMap Exp.d)), .int .i64 ((mkFold mkExp) xs k).2, .int .i64 0, .int .i64 xs.length, .dead, .dead, .dead, .dead, .dead]) ?_ ?_ trivial (by simp [mkFold]) ?_
  · intro i hi _ q hn hx hr
    obtain ⟨x, hx0⟩ : ∃ x, xs[i]? = some x := ⟨_, List.getElem?_eq_getElem hi⟩
    have hsum := sum_take_le (Exp.tot) xs (i + 1)
    rw [sum_take (Exp.tot) hx0] at hsum
    have hbd := mkFold_bound mkExp Exp.tot (xs := (xs.take i)) (k := k) (fun x hx k => by have b := mkExp_bound x k; omega)
    have hln : (xs.take i).length = i := by simp; omega
    have hy := mkFold_get mkExp k hx0
    have hrow := row_drop Exp.d 4 Exp.d_len hy
    generalize (mkFold mkExp) xs k = M at hrow hn ⊢
    rw [mkFold_succ _ k hx0] at hn
    generalize (mkFold mkExp) (xs.take i) k = P at hn hbd hrow ⊢
    obtain ⟨pa, κ⟩ := P
    simp only at hn hbd hrow ⊢
    have kp : 1 ≤ κ := by omega
    have kq : κ + 20 * (1 + Exp.tot x : Nat) ≤ 2147483648 + 0 := by omega
    have hwi : IntKind.i64.wrap ((i : Int) + 1) = ((i + 1 : Nat) : Int) := by rw [wrap_small] <;> omega
    rw [mkExp_eq] at hn hrow
    have ht := Exp.tot_eq x
    have w0 : IntKind.i64.wrap (κ + 1) = κ + 1 := by rw [wrap_small] <;> omega
    have w1 : IntKind.i64.wrap (κ + 1 + 1) = κ + 1 + 1 := by rw [wrap_small] <;> omega
    have w2 : IntKind.i64.wrap (κ + 1 + 1 + 1) = κ + 1 + 1 + 1 := by rw [wrap_small] <;> omega
    have b0 := mkFold_bound mkExp Exp.tot (xs := x.L) (k := κ + 1 + 1 + 1) (fun x hx k => by have b := mkExp_bound x k; omega)
    have c0 := s0 x (List.mem_of_getElem? hx0) (κ + 1 + 1 + 1) (by omega) (by omega)
    have le0 := mkFold_length mkExp x.L (κ + 1 + 1 + 1)
    generalize hq0 : mkFold mkExp x.L (κ + 1 + 1 + 1) = q0 at b0 c0 hn hrow le0
    obtain ⟨l0, κ0⟩ := q0
    simp only at b0 c0 hn hrow le0
    rw [← le0] at c0
    try simp at c0
    have n0 : ¬ (κ0 < 0) := by omega
    simp [hi, hwi, Cs_drop, hrow, w0, w1, w2, n0]
    refine callD (markText_f (κ + 1 + 1) (by omega) (by omega)) ?_
    simp [hi, hwi, Cs_drop, hrow, w0, w1, w2, n0]
    refine callG c0 ?_
    simp [hi, hwi, Cs_drop, hrow, w0, w1, w2, n0]
    refine hn _ ?_ trivial
    simp
  · intro _ q hx hr
    simp
    exact hx _ _ ⟨rfl, by simp⟩
  · rintro ex en ⟨rfl, rfl⟩
    simp [← hR]
theorem markL_Exp : ∀ x : Exp, Exp.tot x ≤ 1048576 → ∀ k : Int, 1 ≤ k → k + 20 * ((List.length x.L + (List.map Exp.tot x.L).sum) : Nat) ≤ 2147483648 → Says prog 53 [.osl 1 34 (List.length x.L) (Ows ((List.flatMap Exp.d x.L))), .int .i64 k] (.int .i64 ((mkFold mkExp) x.L k).2) [(1, .osl 1 34 (List.length x.L) (Ows (List.flatMap Exp.d ((mkFold mkExp) x.L k).1)))] := Exp.ind fun x ih h => by
  have ht := Exp.tot_eq x
  exact markExpS x.L (by omega) (fun y hy => ih y hy (by have := mem_sum Exp.tot hy; omega))
theorem mark_ExpS (xs : List Exp) (h : (List.length xs + (List.map Exp.tot xs).sum) ≤ 1048576) : ∀ k : Int, 1 ≤ k → k + 20 * ((List.length xs + (List.map Exp.tot xs).sum) : Nat) ≤ 2147483648 → Says prog 53 [.osl 1 34 (List.length xs) (Ows ((List.flatMap Exp.d xs))), .int .i64 k] (.int .i64 ((mkFold mkExp) xs k).2) [(1, .osl 1 34 (List.length xs) (Ows (List.flatMap Exp.d ((mkFold mkExp) xs k).1)))] := markExpS xs (by omega) (fun y hy => markL_Exp y (by have := mem_sum Exp.tot hy; omega))
theorem heldL_Exp : ∀ x : Exp, Exp.tot x ≤ 1048576 → ∀ k : Int, 1 ≤ k → k + 20 * ((List.length x.L + (List.map Exp.tot x.L).sum) : Nat) ≤ 2147483648 → Says prog 54 [.rsl (List.length x.L) (Cs (List.flatMap Exp.d ((mkFold mkExp) x.L k).1)), .int .i64 k] (.int .i64 ((mkFold mkExp) x.L k).2) [] := Exp.ind fun x ih h => by
  have ht := Exp.tot_eq x
  exact heldExpS x.L (by omega) (fun y hy => ih y hy (by have := mem_sum Exp.tot hy; omega))
theorem held_ExpS (xs : List Exp) (h : (List.length xs + (List.map Exp.tot xs).sum) ≤ 1048576) : ∀ k : Int, 1 ≤ k → k + 20 * ((List.length xs + (List.map Exp.tot xs).sum) : Nat) ≤ 2147483648 → Says prog 54 [.rsl (List.length xs) (Cs (List.flatMap Exp.d ((mkFold mkExp) xs k).1)), .int .i64 k] (.int .i64 ((mkFold mkExp) xs k).2) [] := heldExpS xs (by omega) (fun y hy => heldL_Exp y (by have := mem_sum Exp.tot hy; omega))
def mkExpT (x : Exp) (k : Int) : Exp × Int := (⟨x.K, x.N, x.S, (mkFold mkExp x.L (k)).1⟩, (mkFold mkExp x.L (k)).2)
theorem mkExpT_bound (x : Exp) (k : Int) : k ≤ (mkExpT x k).2 ∧ (mkExpT x k).2 ≤ k + 20 * (Exp.tot x : Nat) := by
  have ht := Exp.tot_eq x
  have b0 := mkFold_bound mkExp Exp.tot (xs := x.L) (k := k) (fun x hx k => by have b := mkExp_bound x k; omega)
  simp only [mkExpT]
  omega
theorem pl25 : plainFn prog 25 = true := by kernel_rfl
theorem markExp (x : Exp) (sL : ∀ k : Int, 1 ≤ k → k + 20 * ((List.length x.L + (List.map Exp.tot x.L).sum) : Nat) ≤ 2147483648 → Says prog 53 [.osl 1 34 (List.length x.L) (Ows ((List.flatMap Exp.d x.L))), .int .i64 k] (.int .i64 ((mkFold mkExp) x.L k).2) [(1, .osl 1 34 (List.length x.L) (Ows (List.flatMap Exp.d ((mkFold mkExp) x.L k).1)))]) : ∀ k : Int, 1 ≤ k → k + 20 * (Exp.tot x : Nat) ≤ 2147483648 → Says prog 25 [.agg [.int .i64 x.K, .int .i64 x.N, .str x.S, .osl 1 34 (List.length x.L) (Ows (List.flatMap Exp.d x.L))], .int .i64 k] (.int .i64 (mkExpT x k).2) [(1, .osl 1 34 (List.length (mkExpT x k).1.L) (Ows (List.flatMap Exp.d (mkExpT x k).1.L)))] := by
  intro k k1 kL
  have ht := Exp.tot_eq x
  refine Fn_GM [1] [.osl 1 34 (List.length (mkExpT x k).1.L) (Ows (List.flatMap Exp.d (mkExpT x k).1.L))] Go.Proofs.Try.func25 ok25 (by simp) ?_
  simp only [mkExpT]
  have b0 := mkFold_bound mkExp Exp.tot (xs := x.L) (k := k) (fun x hx k => by have b := mkExp_bound x k; omega)
  have c0 := sL (k) (by omega) (by omega)
  have le0 := mkFold_length mkExp x.L (k)
  generalize hq0 : mkFold mkExp x.L (k) = q0 at b0 c0 le0 ⊢
  obtain ⟨l0, κ0⟩ := q0
  simp only at b0 c0 le0 ⊢
  try simp at c0
  simp [v25, r25, le0]
  refine callM [_] pl53 c0 ?_
  simp [le0]
theorem heldExp (x : Exp) (sL : ∀ k : Int, 1 ≤ k → k + 20 * ((List.length x.L + (List.map Exp.tot x.L).sum) : Nat) ≤ 2147483648 → Says prog 54 [.rsl (List.length x.L) (Cs (List.flatMap Exp.d ((mkFold mkExp) x.L k).1)), .int .i64 k] (.int .i64 ((mkFold mkExp) x.L k).2) []) : ∀ k : Int, 1 ≤ k → k + 20 * (Exp.tot x : Nat) ≤ 2147483648 → Says prog 26 [.agg (Cs (Exp.d (mkExpT x k).1)), .int .i64 k] (.int .i64 (mkExpT x k).2) [] := by
  intro k k1 kL
  have ht := Exp.tot_eq x
  refine Fn_G Go.Proofs.Try.func26 ok26 ?_
  simp only [mkExpT]
  have b0 := mkFold_bound mkExp Exp.tot (xs := x.L) (k := k) (fun x hx k => by have b := mkExp_bound x k; omega)
  have c0 := sL (k) (by omega) (by omega)
  have le0 := mkFold_length mkExp x.L (k)
  generalize hq0 : mkFold mkExp x.L (k) = q0 at b0 c0 le0 ⊢
  obtain ⟨l0, κ0⟩ := q0
  simp only at b0 c0 le0 ⊢
  try simp at c0
  have n0 : ¬ (κ0 < 0) := by omega
  simp [v26, r26, le0, n0]
  refine callG c0 ?_
  simp [le0, n0]
theorem mark_Exp (x : Exp) (h : Exp.tot x ≤ 1048576) : ∀ k : Int, 1 ≤ k → k + 20 * (Exp.tot x : Nat) ≤ 2147483648 → Says prog 25 [.agg [.int .i64 x.K, .int .i64 x.N, .str x.S, .osl 1 34 (List.length x.L) (Ows (List.flatMap Exp.d x.L))], .int .i64 k] (.int .i64 (mkExpT x k).2) [(1, .osl 1 34 (List.length (mkExpT x k).1.L) (Ows (List.flatMap Exp.d (mkExpT x k).1.L)))] := by
  have ht := Exp.tot_eq x
  exact markExp x (mark_ExpS x.L (by omega))
theorem held_Exp (x : Exp) (h : Exp.tot x ≤ 1048576) : ∀ k : Int, 1 ≤ k → k + 20 * (Exp.tot x : Nat) ≤ 2147483648 → Says prog 26 [.agg (Cs (Exp.d (mkExpT x k).1)), .int .i64 k] (.int .i64 (mkExpT x k).2) [] := by
  have ht := Exp.tot_eq x
  exact heldExp x (held_ExpS x.L (by omega))
end Go.AmC
