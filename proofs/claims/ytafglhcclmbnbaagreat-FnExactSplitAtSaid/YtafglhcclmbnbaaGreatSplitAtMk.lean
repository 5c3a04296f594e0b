/- Part of a proof: see the last text of this folder. -/
import Derived.Test.YtafglhcclmbnbaaGreatSplitAtSz
import Derived.Test.YtafglhcclmbnbaaGreatSplitAtRd
import Derived.Test.YtafglhcclmbnbaaGreatSplitAtDat
/- Part of a proof: see the last text of this folder. -/
set_option linter.unusedSimpArgs false
set_option linter.unusedVariables false
set_option maxRecDepth 20000
set_option maxHeartbeats 4000000
namespace Go.AmC
open Go Go.AM
open Go.Proofs.Tryz (prog)
theorem markText_f (k : Int) (h1 : 1 ≤ k) (h2 : k ≤ 4294967295) : Says prog 128 [.int .i64 k] (.str (mtx k)) [] := by
  obtain ⟨n, rfl⟩ := Int.eq_ofNat_of_zero_le (show 0 ≤ k by omega)
  have hn : n ≠ 0 := by omega
  have c : ¬ ((n : Int) ≤ 0) := by omega
  refine Fn_G Go.Proofs.Tryz.func128 ok128 ?_
  generalize hR : AV.str (mtx (n : Int)) = R0
  simp [v128, r128, hn, c]
  refine G_while (α := Nat × List UInt8) (l := l128_0) (b := b128_0) rfl [] (fun a => [.int .i64 (a.1 : Int), .str [], .dead, .str a.2, .dead]) (fun a => a.1) (fun a => a.1 ≤ n ∧ decR n = decR a.1 ++ a.2)
    (fun ex e => ex = .exit 0 ∧ e = [.int .i64 0, .str [], .dead, .str (decR n), .dead]) ?_ (n, []) (by simp) rfl ?_
  · rintro ⟨m, s⟩ ⟨hm, hs⟩ q hn hx hr
    simp only at hm hs
    by_cases hz : m = 0
    · subst hz
      have h0 : decR 0 = [] := by rw [decR]; rfl
      rw [h0] at hs
      simp at hs
      simp
      exact hx _ _ ⟨rfl, by rw [hs]⟩
    · have hl := decR_len n
      have hls : s.length + 1 ≤ n := by have := congrArg List.length hs; rw [decR_pos hz] at this; simp at this; omega
      have hb : ¬ bnd < 1 + s.length := by unfold bnd; omega
      have hb2 : 1 + s.length ≤ bnd := by unfold bnd; omega
      have hmod : IntKind.u8.wrap (IntKind.i64.wrap (48 + (m : Int).tmod 10)) = 48 + (m : Int).tmod 10 := by
        have : (m : Int).tmod 10 = ((m % 10 : Nat) : Int) := by simp [Int.tmod]
        rw [this, wrap_small (by omega) (by omega)]
        simp [IntKind.wrap, IntKind.bits, IntKind.signed]
        omega
      have hquo : IntKind.i64.wrap ((m : Int) / 10) = ((m / 10 : Nat) : Int) := by rw [wrap_small] <;> omega
      have hpos : (0 : Int) < m := by omega
      have hpos2 : 0 < m := by omega
      have htm : UInt8.ofNat (48 + (m : Int).tmod 10).toNat = UInt8.ofNat (48 + m % 10) := by
        have : (m : Int).tmod 10 = ((m % 10 : Nat) : Int) := by simp [Int.tmod]
        rw [this]; congr 1
      simp [hz, hpos, hpos2, hmod, hquo, splice, bytesOf, hb2, htm]
      refine hn _ (m / 10, UInt8.ofNat (48 + m % 10) :: s) ?_ ⟨?_, ?_⟩ ?_
      · simp
      · simp; omega
      · rw [hs, decR_pos hz]; simp
      · simp; omega
  · rintro ex e ⟨rfl, rfl⟩
    have hl := decR_len n
    have hb : ¬ bnd < 1 + (decR n).length := by unfold bnd; omega
    have hb2 : 1 + (decR n).length ≤ bnd := by unfold bnd; omega
    simp [← hR, mtx, hb2]
def mkExp : Exp → Int → Exp × Int
  | ⟨aK, aN, aS, aL⟩, k => (⟨k, k + 1, mtx (k + 1 + 1), (aL.foldl (fun p x => (p.1 ++ [(mkExp x p.2).1], (mkExp x p.2).2)) ([], k + 1 + 1 + 1)).1⟩, (aL.foldl (fun p x => (p.1 ++ [(mkExp x p.2).1], (mkExp x p.2).2)) ([], k + 1 + 1 + 1)).2)
theorem mkExp_eq (x : Exp) (k : Int) : mkExp x k = (⟨k, k + 1, mtx (k + 1 + 1), (mkFold mkExp x.L (k + 1 + 1 + 1)).1⟩, (mkFold mkExp x.L (k + 1 + 1 + 1)).2) := by cases x; rw [mkExp] <;> rfl
theorem mkExp_bound : ∀ (x : Exp) (k : Int), k + 3 ≤ (mkExp x k).2 ∧ (mkExp x k).2 ≤ k + 3 + 20 * ((Exp.tot x : Nat) : Int) := Exp.ind fun x ih k => by
  rw [mkExp_eq]
  have ht := Exp.tot_eq x
  have b0 := mkFold_bound mkExp Exp.tot (xs := x.L) (k := k + 1 + 1 + 1) (fun x hx k => by have b := ih x hx k; omega)
  simp only
  omega
theorem pl129 : plainFn prog 129 = true := by kernel_rfl
theorem markExpS (xs : List Exp) (hm : xs.length ≤ 4194304) (s0 : ∀ x ∈ xs, ∀ k : Int, 1 ≤ k → k + 20 * ((List.length x.L + (List.map Exp.tot x.L).sum) : Nat) ≤ 2147483648 → Says prog 129 [.osl 1 72 (List.length x.L) (Ows ((List.flatMap Exp.d x.L))), .int .i64 k] (.int .i64 ((mkFold mkExp) x.L k).2) [(1, .osl 1 72 (List.length x.L) (Ows (List.flatMap Exp.d ((mkFold mkExp) x.L k).1)))]) : ∀ k : Int, 1 ≤ k → k + 20 * ((List.length xs + (List.map Exp.tot xs).sum) : Nat) ≤ 2147483648 → Says prog 129 [.osl 1 72 (List.length xs) (Ows ((List.flatMap Exp.d xs))), .int .i64 k] (.int .i64 ((mkFold mkExp) xs k).2) [(1, .osl 1 72 (List.length xs) (Ows (List.flatMap Exp.d ((mkFold mkExp) xs k).1)))] := by
  intro k k1 kL
  refine Fn_GM [1] [.osl 1 72 xs.length (Ows (List.flatMap Exp.d ((mkFold mkExp) xs k).1))] Go.Proofs.Tryz.func129 ok129 (by simp) ?_
  generalize hR : ((mkFold mkExp) xs k).2 = R0
  simp [v129, r129]
  refine G_loop (l := l129_0) (b := b129_0) rfl [] (fun i => [.osl 1 72 xs.length (Ows (((mkFold mkExp) (xs.take i) k).1.flatMap Exp.d) ++ Ows ((xs.drop i).flatMap Exp.d)), .int .i64 ((mkFold mkExp) (xs.take i) k).2, .int .i64 0, .int .i64 (i : Int), .dead]) (fun _ => True) xs.length
    (fun ex en => ex = .exit 0 ∧ en = [.osl 1 72 xs.length (Ows (List.flatMap Exp.d ((mkFold mkExp) xs k).1)), .int .i64 ((mkFold mkExp) xs k).2, .int .i64 0, .int .i64 xs.length, .dead]) ?_ ?_ trivial (by simp [mkFold]) ?_
  · intro i hi _ q hn hx hr
    obtain ⟨x, hx0⟩ : ∃ x, xs[i]? = some x := ⟨_, List.getElem?_eq_getElem hi⟩
    have hsum := sum_take_le (Exp.tot) xs (i + 1)
    rw [sum_take (Exp.tot) hx0] at hsum
    have hbd := mkFold_bound mkExp Exp.tot (xs := (xs.take i)) (k := k) (fun x hx k => by have b := mkExp_bound x k; omega)
    have hln : (xs.take i).length = i := by simp; omega
    have hA : (Ows (((mkFold mkExp) (xs.take i) k).1.flatMap Exp.d)).length = i * 4 := by rw [Ows_length, len_flat _ 4 Exp.d_len, mkFold_length]; simp; omega
    rw [mkFold_succ _ k hx0] at hn
    rw [drop_cons hx0]
    generalize (mkFold mkExp) (xs.take i) k = P at hn hbd hA ⊢
    obtain ⟨pa, κ⟩ := P
    simp only at hn hbd hA ⊢
    have kp : 1 ≤ κ := by omega
    have kq : κ + 20 * (1 + Exp.tot x : Nat) ≤ 2147483648 + 0 := by omega
    have hwi : IntKind.i64.wrap ((i : Int) + 1) = ((i + 1 : Nat) : Int) := by rw [wrap_small] <;> omega
    rw [List.flatMap_append, Ows_append] at hn
    generalize hA0 : Ows (pa.flatMap Exp.d) = A at hn hA ⊢
    have hA1 : A.length = i * 4 := hA
    rw [List.flatMap_cons, Ows_append]
    generalize Ows ((xs.drop (i + 1)).flatMap Exp.d) = B at hn ⊢
    have offn : ∀ a b : Nat, i * 4 + a + b = i * 4 + (a + b) := fun a b => Nat.add_assoc _ _ _
    have hc0 : i * 4 + 1 ≤ i * 4 + (B.length + 1 + 1 + 1 + 1) := by omega
    have hc1 : i * 4 + 2 ≤ i * 4 + (B.length + 1 + 1 + 1 + 1) := by omega
    have hc2 : i * 4 + 3 ≤ i * 4 + (B.length + 1 + 1 + 1 + 1) := by omega
    have hc3 : i * 4 + 4 ≤ i * 4 + (B.length + 1 + 1 + 1 + 1) := by omega
    rw [mkExp_eq] at hn
    have ht := Exp.tot_eq x
    have w0 : IntKind.i64.wrap (κ + 1) = κ + 1 := by rw [wrap_small] <;> omega
    have w1 : IntKind.i64.wrap (κ + 1 + 1) = κ + 1 + 1 := by rw [wrap_small] <;> omega
    have w2 : IntKind.i64.wrap (κ + 1 + 1 + 1) = κ + 1 + 1 + 1 := by rw [wrap_small] <;> omega
    simp [hi, hwi, offn, mid_drop hA1, mid_drop0 hA1, mid_get hA1, mid_get0 hA1, mid_set hA1, mid_set0 hA1, mid_splice hA1, mid_splice0 hA1, spl, hA1, hc0, hc1, hc2, hc3, w0, w1, w2]
    refine callG (markText_f (κ + 1 + 1) (by omega) (by omega)) ?_
    simp [hi, hwi, offn, mid_drop hA1, mid_drop0 hA1, mid_get hA1, mid_get0 hA1, mid_set hA1, mid_set0 hA1, mid_splice hA1, mid_splice0 hA1, spl, hA1, hc0, hc1, hc2, hc3, w0, w1, w2]
    have b0 := mkFold_bound mkExp Exp.tot (xs := x.L) (k := κ + 1 + 1 + 1) (fun x hx k => by have b := mkExp_bound x k; omega)
    have c0 := s0 x (List.mem_of_getElem? hx0) (κ + 1 + 1 + 1) (by omega) (by omega)
    try simp at c0
    have le0 := mkFold_length mkExp x.L (κ + 1 + 1 + 1)
    generalize hq0 : mkFold mkExp x.L (κ + 1 + 1 + 1) = q0 at b0 c0 hn le0
    obtain ⟨l0, κ0⟩ := q0
    simp only at b0 c0 hn le0
    refine callM [_] pl129 c0 ?_
    simp [hi, hwi, offn, mid_drop hA1, mid_drop0 hA1, mid_get hA1, mid_get0 hA1, mid_set hA1, mid_set0 hA1, mid_splice hA1, mid_splice0 hA1, spl, hA1, hc0, hc1, hc2, hc3, w0, w1, w2]
    refine hn _ ?_ trivial
    simp [le0]
  · intro _ q hx hr
    simp
    exact hx _ _ ⟨rfl, by simp⟩
  · rintro ex en ⟨rfl, rfl⟩
    simp [← hR]
theorem heldExpS (xs : List Exp) (hm : xs.length ≤ 4194304) (s0 : ∀ x ∈ xs, ∀ k : Int, 1 ≤ k → k + 20 * ((List.length x.L + (List.map Exp.tot x.L).sum) : Nat) ≤ 2147483648 → Says prog 130 [.rsl (List.length x.L) (Cs (List.flatMap Exp.d ((mkFold mkExp) x.L k).1)), .int .i64 k] (.int .i64 ((mkFold mkExp) x.L k).2) []) : ∀ k : Int, 1 ≤ k → k + 20 * ((List.length xs + (List.map Exp.tot xs).sum) : Nat) ≤ 2147483648 → Says prog 130 [.rsl (List.length xs) (Cs (List.flatMap Exp.d ((mkFold mkExp) xs k).1)), .int .i64 k] (.int .i64 ((mkFold mkExp) xs k).2) [] := by
  intro k k1 kL
  refine Fn_G Go.Proofs.Tryz.func130 ok130 ?_
  generalize hR : ((mkFold mkExp) xs k).2 = R0
  have hML := mkFold_length mkExp xs k
  simp [v130, r130]
  refine G_loop (l := l130_0) (b := b130_0) rfl [] (fun i => [.rsl xs.length (Cs (((mkFold mkExp) xs k).1.flatMap Exp.d)), .int .i64 ((mkFold mkExp) (xs.take i) k).2, .int .i64 0, .int .i64 (i : Int), .dead, .dead, .dead, .dead, .dead]) (fun _ => True) xs.length
    (fun ex en => ex = .exit 0 ∧ en = [.rsl xs.length (Cs (((mkFold mkExp) xs k).1.flatMap Exp.d)), .int .i64 ((mkFold mkExp) xs k).2, .int .i64 0, .int .i64 xs.length, .dead, .dead, .dead, .dead, .dead]) ?_ ?_ trivial (by simp [mkFold]) ?_
  · intro i hi _ q hn hx hr
    obtain ⟨x, hx0⟩ : ∃ x, xs[i]? = some x := ⟨_, List.getElem?_eq_getElem hi⟩
    have hsum := sum_take_le (Exp.tot) xs (i + 1)
    rw [sum_take (Exp.tot) hx0] at hsum
    have hbd := mkFold_bound mkExp Exp.tot (xs := (xs.take i)) (k := k) (fun x hx k => by have b := mkExp_bound x k; omega)
    have hln : (xs.take i).length = i := by simp; omega
    have hy := mkFold_get mkExp k hx0
    have hrow := row_drop Exp.d 4 Exp.d_len hy
    generalize (mkFold mkExp) xs k = M at hrow hn ⊢
    rw [mkFold_succ _ k hx0] at hn
    generalize (mkFold mkExp) (xs.take i) k = P at hn hbd hrow ⊢
    obtain ⟨pa, κ⟩ := P
    simp only at hn hbd hrow ⊢
    have kp : 1 ≤ κ := by omega
    have kq : κ + 20 * (1 + Exp.tot x : Nat) ≤ 2147483648 + 0 := by omega
    have hwi : IntKind.i64.wrap ((i : Int) + 1) = ((i + 1 : Nat) : Int) := by rw [wrap_small] <;> omega
    rw [mkExp_eq] at hn hrow
    have ht := Exp.tot_eq x
    have w0 : IntKind.i64.wrap (κ + 1) = κ + 1 := by rw [wrap_small] <;> omega
    have w1 : IntKind.i64.wrap (κ + 1 + 1) = κ + 1 + 1 := by rw [wrap_small] <;> omega
    have w2 : IntKind.i64.wrap (κ + 1 + 1 + 1) = κ + 1 + 1 + 1 := by rw [wrap_small] <;> omega
    have b0 := mkFold_bound mkExp Exp.tot (xs := x.L) (k := κ + 1 + 1 + 1) (fun x hx k => by have b := mkExp_bound x k; omega)
    have c0 := s0 x (List.mem_of_getElem? hx0) (κ + 1 + 1 + 1) (by omega) (by omega)
    have le0 := mkFold_length mkExp x.L (κ + 1 + 1 + 1)
    generalize hq0 : mkFold mkExp x.L (κ + 1 + 1 + 1) = q0 at b0 c0 hn hrow le0
    obtain ⟨l0, κ0⟩ := q0
    simp only at b0 c0 hn hrow le0
    rw [← le0] at c0
    try simp at c0
    have n0 : ¬ (κ0 < 0) := by omega
    simp [hi, hwi, Cs_drop, hrow, w0, w1, w2, n0]
    refine callD (markText_f (κ + 1 + 1) (by omega) (by omega)) ?_
    simp [hi, hwi, Cs_drop, hrow, w0, w1, w2, n0]
    refine callG c0 ?_
    simp [hi, hwi, Cs_drop, hrow, w0, w1, w2, n0]
    refine hn _ ?_ trivial
    simp
  · intro _ q hx hr
    simp
    exact hx _ _ ⟨rfl, by simp⟩
  · rintro ex en ⟨rfl, rfl⟩
    simp [← hR]
theorem markL_Exp : ∀ x : Exp, Exp.tot x ≤ 4194304 → ∀ k : Int, 1 ≤ k → k + 20 * ((List.length x.L + (List.map Exp.tot x.L).sum) : Nat) ≤ 2147483648 → Says prog 129 [.osl 1 72 (List.length x.L) (Ows ((List.flatMap Exp.d x.L))), .int .i64 k] (.int .i64 ((mkFold mkExp) x.L k).2) [(1, .osl 1 72 (List.length x.L) (Ows (List.flatMap Exp.d ((mkFold mkExp) x.L k).1)))] := Exp.ind fun x ih h => by
  have ht := Exp.tot_eq x
  exact markExpS x.L (by omega) (fun y hy => ih y hy (by have := mem_sum Exp.tot hy; omega))
theorem mark_ExpS (xs : List Exp) (h : (List.length xs + (List.map Exp.tot xs).sum) ≤ 4194304) : ∀ k : Int, 1 ≤ k → k + 20 * ((List.length xs + (List.map Exp.tot xs).sum) : Nat) ≤ 2147483648 → Says prog 129 [.osl 1 72 (List.length xs) (Ows ((List.flatMap Exp.d xs))), .int .i64 k] (.int .i64 ((mkFold mkExp) xs k).2) [(1, .osl 1 72 (List.length xs) (Ows (List.flatMap Exp.d ((mkFold mkExp) xs k).1)))] := markExpS xs (by omega) (fun y hy => markL_Exp y (by have := mem_sum Exp.tot hy; omega))
theorem heldL_Exp : ∀ x : Exp, Exp.tot x ≤ 4194304 → ∀ k : Int, 1 ≤ k → k + 20 * ((List.length x.L + (List.map Exp.tot x.L).sum) : Nat) ≤ 2147483648 → Says prog 130 [.rsl (List.length x.L) (Cs (List.flatMap Exp.d ((mkFold mkExp) x.L k).1)), .int .i64 k] (.int .i64 ((mkFold mkExp) x.L k).2) [] := Exp.ind fun x ih h => by
  have ht := Exp.tot_eq x
  exact heldExpS x.L (by omega) (fun y hy => ih y hy (by have := mem_sum Exp.tot hy; omega))
theorem held_ExpS (xs : List Exp) (h : (List.length xs + (List.map Exp.tot xs).sum) ≤ 4194304) : ∀ k : Int, 1 ≤ k → k + 20 * ((List.length xs + (List.map Exp.tot xs).sum) : Nat) ≤ 2147483648 → Says prog 130 [.rsl (List.length xs) (Cs (List.flatMap Exp.d ((mkFold mkExp) xs k).1)), .int .i64 k] (.int .i64 ((mkFold mkExp) xs k).2) [] := heldExpS xs (by omega) (fun y hy => heldL_Exp y (by have := mem_sum Exp.tot hy; omega))
def mkStmt : Stmt → Int → Stmt × Int
  | ⟨aK, aS, aAt, aE, aLo, aHi, aBody⟩, k => (⟨k, mtx (k + 1), (mkExp aAt (k + 1 + 1)).1, (mkExp aE ((mkExp aAt (k + 1 + 1)).2)).1, (mkExp aLo ((mkExp aE ((mkExp aAt (k + 1 + 1)).2)).2)).1, (mkExp aHi ((mkExp aLo ((mkExp aE ((mkExp aAt (k + 1 + 1)).2)).2)).2)).1, (aBody.foldl (fun p x => (p.1 ++ [(mkStmt x p.2).1], (mkStmt x p.2).2)) ([], (mkExp aHi ((mkExp aLo ((mkExp aE ((mkExp aAt (k + 1 + 1)).2)).2)).2)).2)).1⟩, (aBody.foldl (fun p x => (p.1 ++ [(mkStmt x p.2).1], (mkStmt x p.2).2)) ([], (mkExp aHi ((mkExp aLo ((mkExp aE ((mkExp aAt (k + 1 + 1)).2)).2)).2)).2)).2)
theorem mkStmt_eq (x : Stmt) (k : Int) : mkStmt x k = (⟨k, mtx (k + 1), (mkExp x.At (k + 1 + 1)).1, (mkExp x.E ((mkExp x.At (k + 1 + 1)).2)).1, (mkExp x.Lo ((mkExp x.E ((mkExp x.At (k + 1 + 1)).2)).2)).1, (mkExp x.Hi ((mkExp x.Lo ((mkExp x.E ((mkExp x.At (k + 1 + 1)).2)).2)).2)).1, (mkFold mkStmt x.Body ((mkExp x.Hi ((mkExp x.Lo ((mkExp x.E ((mkExp x.At (k + 1 + 1)).2)).2)).2)).2)).1⟩, (mkFold mkStmt x.Body ((mkExp x.Hi ((mkExp x.Lo ((mkExp x.E ((mkExp x.At (k + 1 + 1)).2)).2)).2)).2)).2) := by cases x; rw [mkStmt] <;> rfl
theorem mkStmt_bound : ∀ (x : Stmt) (k : Int), k + 14 ≤ (mkStmt x k).2 ∧ (mkStmt x k).2 ≤ k + 14 + 20 * ((Stmt.tot x : Nat) : Int) := Stmt.ind fun x ih k => by
  rw [mkStmt_eq]
  have ht := Stmt.tot_eq x
  have b0 := mkExp_bound x.At (k + 1 + 1)
  have b1 := mkExp_bound x.E ((mkExp x.At (k + 1 + 1)).2)
  have b2 := mkExp_bound x.Lo ((mkExp x.E ((mkExp x.At (k + 1 + 1)).2)).2)
  have b3 := mkExp_bound x.Hi ((mkExp x.Lo ((mkExp x.E ((mkExp x.At (k + 1 + 1)).2)).2)).2)
  have b4 := mkFold_bound mkStmt Stmt.tot (xs := x.Body) (k := (mkExp x.Hi ((mkExp x.Lo ((mkExp x.E ((mkExp x.At (k + 1 + 1)).2)).2)).2)).2) (fun x hx k => by have b := ih x hx k; omega)
  simp only
  omega
theorem pl62 : plainFn prog 62 = true := by kernel_rfl
theorem markStmtS (xs : List Stmt) (hm : xs.length ≤ 4194304) (s0 : ∀ x ∈ xs, ∀ k : Int, 1 ≤ k → k + 20 * ((List.length x.At.L + (List.map Exp.tot x.At.L).sum) : Nat) ≤ 2147483648 → Says prog 129 [.osl 1 72 (List.length x.At.L) (Ows ((List.flatMap Exp.d x.At.L))), .int .i64 k] (.int .i64 ((mkFold mkExp) x.At.L k).2) [(1, .osl 1 72 (List.length x.At.L) (Ows (List.flatMap Exp.d ((mkFold mkExp) x.At.L k).1)))]) (s1 : ∀ x ∈ xs, ∀ k : Int, 1 ≤ k → k + 20 * ((List.length x.E.L + (List.map Exp.tot x.E.L).sum) : Nat) ≤ 2147483648 → Says prog 129 [.osl 1 72 (List.length x.E.L) (Ows ((List.flatMap Exp.d x.E.L))), .int .i64 k] (.int .i64 ((mkFold mkExp) x.E.L k).2) [(1, .osl 1 72 (List.length x.E.L) (Ows (List.flatMap Exp.d ((mkFold mkExp) x.E.L k).1)))]) (s2 : ∀ x ∈ xs, ∀ k : Int, 1 ≤ k → k + 20 * ((List.length x.Lo.L + (List.map Exp.tot x.Lo.L).sum) : Nat) ≤ 2147483648 → Says prog 129 [.osl 1 72 (List.length x.Lo.L) (Ows ((List.flatMap Exp.d x.Lo.L))), .int .i64 k] (.int .i64 ((mkFold mkExp) x.Lo.L k).2) [(1, .osl 1 72 (List.length x.Lo.L) (Ows (List.flatMap Exp.d ((mkFold mkExp) x.Lo.L k).1)))]) (s3 : ∀ x ∈ xs, ∀ k : Int, 1 ≤ k → k + 20 * ((List.length x.Hi.L + (List.map Exp.tot x.Hi.L).sum) : Nat) ≤ 2147483648 → Says prog 129 [.osl 1 72 (List.length x.Hi.L) (Ows ((List.flatMap Exp.d x.Hi.L))), .int .i64 k] (.int .i64 ((mkFold mkExp) x.Hi.L k).2) [(1, .osl 1 72 (List.length x.Hi.L) (Ows (List.flatMap Exp.d ((mkFold mkExp) x.Hi.L k).1)))]) (s4 : ∀ x ∈ xs, ∀ k : Int, 1 ≤ k → k + 20 * ((List.length x.Body + (List.map Stmt.tot x.Body).sum) : Nat) ≤ 2147483648 → Says prog 62 [.osl 1 74 (List.length x.Body) (Ows ((List.flatMap Stmt.d x.Body))), .int .i64 k] (.int .i64 ((mkFold mkStmt) x.Body k).2) [(1, .osl 1 74 (List.length x.Body) (Ows (List.flatMap Stmt.d ((mkFold mkStmt) x.Body k).1)))]) : ∀ k : Int, 1 ≤ k → k + 20 * ((List.length xs + (List.map Stmt.tot xs).sum) : Nat) ≤ 2147483648 → Says prog 62 [.osl 1 74 (List.length xs) (Ows ((List.flatMap Stmt.d xs))), .int .i64 k] (.int .i64 ((mkFold mkStmt) xs k).2) [(1, .osl 1 74 (List.length xs) (Ows (List.flatMap Stmt.d ((mkFold mkStmt) xs k).1)))] := by
  intro k k1 kL
  refine Fn_GM [1] [.osl 1 74 xs.length (Ows (List.flatMap Stmt.d ((mkFold mkStmt) xs k).1))] Go.Proofs.Tryz.func62 ok62 (by simp) ?_
  generalize hR : ((mkFold mkStmt) xs k).2 = R0
  simp [v62, r62]
  refine G_loop (l := l62_0) (b := b62_0) rfl [] (fun i => [.osl 1 74 xs.length (Ows (((mkFold mkStmt) (xs.take i) k).1.flatMap Stmt.d) ++ Ows ((xs.drop i).flatMap Stmt.d)), .int .i64 ((mkFold mkStmt) (xs.take i) k).2, .int .i64 0, .int .i64 (i : Int), .dead]) (fun _ => True) xs.length
    (fun ex en => ex = .exit 0 ∧ en = [.osl 1 74 xs.length (Ows (List.flatMap Stmt.d ((mkFold mkStmt) xs k).1)), .int .i64 ((mkFold mkStmt) xs k).2, .int .i64 0, .int .i64 xs.length, .dead]) ?_ ?_ trivial (by simp [mkFold]) ?_
  · intro i hi _ q hn hx hr
    obtain ⟨x, hx0⟩ : ∃ x, xs[i]? = some x := ⟨_, List.getElem?_eq_getElem hi⟩
    have hsum := sum_take_le (Stmt.tot) xs (i + 1)
    rw [sum_take (Stmt.tot) hx0] at hsum
    have hbd := mkFold_bound mkStmt Stmt.tot (xs := (xs.take i)) (k := k) (fun x hx k => by have b := mkStmt_bound x k; omega)
    have hln : (xs.take i).length = i := by simp; omega
    have hA : (Ows (((mkFold mkStmt) (xs.take i) k).1.flatMap Stmt.d)).length = i * 19 := by rw [Ows_length, len_flat _ 19 Stmt.d_len, mkFold_length]; simp; omega
    rw [mkFold_succ _ k hx0] at hn
    rw [drop_cons hx0]
    generalize (mkFold mkStmt) (xs.take i) k = P at hn hbd hA ⊢
    obtain ⟨pa, κ⟩ := P
    simp only at hn hbd hA ⊢
    have kp : 1 ≤ κ := by omega
    have kq : κ + 20 * (1 + Stmt.tot x : Nat) ≤ 2147483648 + 0 := by omega
    have hwi : IntKind.i64.wrap ((i : Int) + 1) = ((i + 1 : Nat) : Int) := by rw [wrap_small] <;> omega
    rw [List.flatMap_append, Ows_append] at hn
    generalize hA0 : Ows (pa.flatMap Stmt.d) = A at hn hA ⊢
    have hA1 : A.length = i * 19 := hA
    rw [List.flatMap_cons, Ows_append]
    generalize Ows ((xs.drop (i + 1)).flatMap Stmt.d) = B at hn ⊢
    have offn : ∀ a b : Nat, i * 19 + a + b = i * 19 + (a + b) := fun a b => Nat.add_assoc _ _ _
    have hc0 : i * 19 + 1 ≤ i * 19 + (B.length + 1 + 1 + 1 + 1 + 1 + 1 + 1 + 1 + 1 + 1 + 1 + 1 + 1 + 1 + 1 + 1 + 1 + 1 + 1) := by omega
    have hc1 : i * 19 + 2 ≤ i * 19 + (B.length + 1 + 1 + 1 + 1 + 1 + 1 + 1 + 1 + 1 + 1 + 1 + 1 + 1 + 1 + 1 + 1 + 1 + 1 + 1) := by omega
    have hc2 : i * 19 + 3 ≤ i * 19 + (B.length + 1 + 1 + 1 + 1 + 1 + 1 + 1 + 1 + 1 + 1 + 1 + 1 + 1 + 1 + 1 + 1 + 1 + 1 + 1) := by omega
    have hc3 : i * 19 + 4 ≤ i * 19 + (B.length + 1 + 1 + 1 + 1 + 1 + 1 + 1 + 1 + 1 + 1 + 1 + 1 + 1 + 1 + 1 + 1 + 1 + 1 + 1) := by omega
    have hc4 : i * 19 + 5 ≤ i * 19 + (B.length + 1 + 1 + 1 + 1 + 1 + 1 + 1 + 1 + 1 + 1 + 1 + 1 + 1 + 1 + 1 + 1 + 1 + 1 + 1) := by omega
    have hc5 : i * 19 + 6 ≤ i * 19 + (B.length + 1 + 1 + 1 + 1 + 1 + 1 + 1 + 1 + 1 + 1 + 1 + 1 + 1 + 1 + 1 + 1 + 1 + 1 + 1) := by omega
    have hc6 : i * 19 + 7 ≤ i * 19 + (B.length + 1 + 1 + 1 + 1 + 1 + 1 + 1 + 1 + 1 + 1 + 1 + 1 + 1 + 1 + 1 + 1 + 1 + 1 + 1) := by omega
    have hc7 : i * 19 + 8 ≤ i * 19 + (B.length + 1 + 1 + 1 + 1 + 1 + 1 + 1 + 1 + 1 + 1 + 1 + 1 + 1 + 1 + 1 + 1 + 1 + 1 + 1) := by omega
    have hc8 : i * 19 + 9 ≤ i * 19 + (B.length + 1 + 1 + 1 + 1 + 1 + 1 + 1 + 1 + 1 + 1 + 1 + 1 + 1 + 1 + 1 + 1 + 1 + 1 + 1) := by omega
    have hc9 : i * 19 + 10 ≤ i * 19 + (B.length + 1 + 1 + 1 + 1 + 1 + 1 + 1 + 1 + 1 + 1 + 1 + 1 + 1 + 1 + 1 + 1 + 1 + 1 + 1) := by omega
    have hc10 : i * 19 + 11 ≤ i * 19 + (B.length + 1 + 1 + 1 + 1 + 1 + 1 + 1 + 1 + 1 + 1 + 1 + 1 + 1 + 1 + 1 + 1 + 1 + 1 + 1) := by omega
    have hc11 : i * 19 + 12 ≤ i * 19 + (B.length + 1 + 1 + 1 + 1 + 1 + 1 + 1 + 1 + 1 + 1 + 1 + 1 + 1 + 1 + 1 + 1 + 1 + 1 + 1) := by omega
    have hc12 : i * 19 + 13 ≤ i * 19 + (B.length + 1 + 1 + 1 + 1 + 1 + 1 + 1 + 1 + 1 + 1 + 1 + 1 + 1 + 1 + 1 + 1 + 1 + 1 + 1) := by omega
    have hc13 : i * 19 + 14 ≤ i * 19 + (B.length + 1 + 1 + 1 + 1 + 1 + 1 + 1 + 1 + 1 + 1 + 1 + 1 + 1 + 1 + 1 + 1 + 1 + 1 + 1) := by omega
    have hc14 : i * 19 + 15 ≤ i * 19 + (B.length + 1 + 1 + 1 + 1 + 1 + 1 + 1 + 1 + 1 + 1 + 1 + 1 + 1 + 1 + 1 + 1 + 1 + 1 + 1) := by omega
    have hc15 : i * 19 + 16 ≤ i * 19 + (B.length + 1 + 1 + 1 + 1 + 1 + 1 + 1 + 1 + 1 + 1 + 1 + 1 + 1 + 1 + 1 + 1 + 1 + 1 + 1) := by omega
    have hc16 : i * 19 + 17 ≤ i * 19 + (B.length + 1 + 1 + 1 + 1 + 1 + 1 + 1 + 1 + 1 + 1 + 1 + 1 + 1 + 1 + 1 + 1 + 1 + 1 + 1) := by omega
    have hc17 : i * 19 + 18 ≤ i * 19 + (B.length + 1 + 1 + 1 + 1 + 1 + 1 + 1 + 1 + 1 + 1 + 1 + 1 + 1 + 1 + 1 + 1 + 1 + 1 + 1) := by omega
    have hc18 : i * 19 + 19 ≤ i * 19 + (B.length + 1 + 1 + 1 + 1 + 1 + 1 + 1 + 1 + 1 + 1 + 1 + 1 + 1 + 1 + 1 + 1 + 1 + 1 + 1) := by omega
    rw [mkStmt_eq] at hn
    simp only [mkExp_eq] at hn
    have ht := Stmt.tot_eq x
    have htxAt := Exp.tot_eq x.At
    have htxE := Exp.tot_eq x.E
    have htxLo := Exp.tot_eq x.Lo
    have htxHi := Exp.tot_eq x.Hi
    have w0 : IntKind.i64.wrap (κ + 1) = κ + 1 := by rw [wrap_small] <;> omega
    have w1 : IntKind.i64.wrap (κ + 1 + 1) = κ + 1 + 1 := by rw [wrap_small] <;> omega
    have w2 : IntKind.i64.wrap (κ + 1 + 1 + 1) = κ + 1 + 1 + 1 := by rw [wrap_small] <;> omega
    have w3 : IntKind.i64.wrap (κ + 1 + 1 + 1 + 1) = κ + 1 + 1 + 1 + 1 := by rw [wrap_small] <;> omega
    have w4 : IntKind.i64.wrap (κ + 1 + 1 + 1 + 1 + 1) = κ + 1 + 1 + 1 + 1 + 1 := by rw [wrap_small] <;> omega
    simp [hi, hwi, offn, mid_drop hA1, mid_drop0 hA1, mid_get hA1, mid_get0 hA1, mid_set hA1, mid_set0 hA1, mid_splice hA1, mid_splice0 hA1, spl, hA1, hc0, hc1, hc2, hc3, hc4, hc5, hc6, hc7, hc8, hc9, hc10, hc11, hc12, hc13, hc14, hc15, hc16, hc17, hc18, w0, w1, w2, w3, w4]
    refine callG (markText_f (κ + 1) (by omega) (by omega)) ?_
    simp [hi, hwi, offn, mid_drop hA1, mid_drop0 hA1, mid_get hA1, mid_get0 hA1, mid_set hA1, mid_set0 hA1, mid_splice hA1, mid_splice0 hA1, spl, hA1, hc0, hc1, hc2, hc3, hc4, hc5, hc6, hc7, hc8, hc9, hc10, hc11, hc12, hc13, hc14, hc15, hc16, hc17, hc18, w0, w1, w2, w3, w4]
    refine callG (markText_f (κ + 1 + 1 + 1 + 1) (by omega) (by omega)) ?_
    simp [hi, hwi, offn, mid_drop hA1, mid_drop0 hA1, mid_get hA1, mid_get0 hA1, mid_set hA1, mid_set0 hA1, mid_splice hA1, mid_splice0 hA1, spl, hA1, hc0, hc1, hc2, hc3, hc4, hc5, hc6, hc7, hc8, hc9, hc10, hc11, hc12, hc13, hc14, hc15, hc16, hc17, hc18, w0, w1, w2, w3, w4]
    have b0 := mkFold_bound mkExp Exp.tot (xs := x.At.L) (k := κ + 1 + 1 + 1 + 1 + 1) (fun x hx k => by have b := mkExp_bound x k; omega)
    have c0 := s0 x (List.mem_of_getElem? hx0) (κ + 1 + 1 + 1 + 1 + 1) (by omega) (by omega)
    try simp at c0
    have le0 := mkFold_length mkExp x.At.L (κ + 1 + 1 + 1 + 1 + 1)
    generalize hq0 : mkFold mkExp x.At.L (κ + 1 + 1 + 1 + 1 + 1) = q0 at b0 c0 hn le0
    obtain ⟨l0, κ0⟩ := q0
    simp only at b0 c0 hn le0
    refine callM [_] pl129 c0 ?_
    have w5 : IntKind.i64.wrap (κ0 + 1) = κ0 + 1 := by rw [wrap_small] <;> omega
    have w6 : IntKind.i64.wrap (κ0 + 1 + 1) = κ0 + 1 + 1 := by rw [wrap_small] <;> omega
    have w7 : IntKind.i64.wrap (κ0 + 1 + 1 + 1) = κ0 + 1 + 1 + 1 := by rw [wrap_small] <;> omega
    simp [hi, hwi, offn, mid_drop hA1, mid_drop0 hA1, mid_get hA1, mid_get0 hA1, mid_set hA1, mid_set0 hA1, mid_splice hA1, mid_splice0 hA1, spl, hA1, hc0, hc1, hc2, hc3, hc4, hc5, hc6, hc7, hc8, hc9, hc10, hc11, hc12, hc13, hc14, hc15, hc16, hc17, hc18, w0, w1, w2, w3, w4, w5, w6, w7]
    refine callG (markText_f (κ0 + 1 + 1) (by omega) (by omega)) ?_
    simp [hi, hwi, offn, mid_drop hA1, mid_drop0 hA1, mid_get hA1, mid_get0 hA1, mid_set hA1, mid_set0 hA1, mid_splice hA1, mid_splice0 hA1, spl, hA1, hc0, hc1, hc2, hc3, hc4, hc5, hc6, hc7, hc8, hc9, hc10, hc11, hc12, hc13, hc14, hc15, hc16, hc17, hc18, w0, w1, w2, w3, w4, w5, w6, w7]
    have b1 := mkFold_bound mkExp Exp.tot (xs := x.E.L) (k := κ0 + 1 + 1 + 1) (fun x hx k => by have b := mkExp_bound x k; omega)
    have c1 := s1 x (List.mem_of_getElem? hx0) (κ0 + 1 + 1 + 1) (by omega) (by omega)
    try simp at c1
    have le1 := mkFold_length mkExp x.E.L (κ0 + 1 + 1 + 1)
    generalize hq1 : mkFold mkExp x.E.L (κ0 + 1 + 1 + 1) = q1 at b1 c1 hn le1
    obtain ⟨l1, κ1⟩ := q1
    simp only at b1 c1 hn le1
    refine callM [_] pl129 c1 ?_
    have w8 : IntKind.i64.wrap (κ1 + 1) = κ1 + 1 := by rw [wrap_small] <;> omega
    have w9 : IntKind.i64.wrap (κ1 + 1 + 1) = κ1 + 1 + 1 := by rw [wrap_small] <;> omega
    have w10 : IntKind.i64.wrap (κ1 + 1 + 1 + 1) = κ1 + 1 + 1 + 1 := by rw [wrap_small] <;> omega
    simp [hi, hwi, offn, mid_drop hA1, mid_drop0 hA1, mid_get hA1, mid_get0 hA1, mid_set hA1, mid_set0 hA1, mid_splice hA1, mid_splice0 hA1, spl, hA1, hc0, hc1, hc2, hc3, hc4, hc5, hc6, hc7, hc8, hc9, hc10, hc11, hc12, hc13, hc14, hc15, hc16, hc17, hc18, w0, w1, w2, w3, w4, w5, w6, w7, w8, w9, w10]
    refine callG (markText_f (κ1 + 1 + 1) (by omega) (by omega)) ?_
    simp [hi, hwi, offn, mid_drop hA1, mid_drop0 hA1, mid_get hA1, mid_get0 hA1, mid_set hA1, mid_set0 hA1, mid_splice hA1, mid_splice0 hA1, spl, hA1, hc0, hc1, hc2, hc3, hc4, hc5, hc6, hc7, hc8, hc9, hc10, hc11, hc12, hc13, hc14, hc15, hc16, hc17, hc18, w0, w1, w2, w3, w4, w5, w6, w7, w8, w9, w10]
    have b2 := mkFold_bound mkExp Exp.tot (xs := x.Lo.L) (k := κ1 + 1 + 1 + 1) (fun x hx k => by have b := mkExp_bound x k; omega)
    have c2 := s2 x (List.mem_of_getElem? hx0) (κ1 + 1 + 1 + 1) (by omega) (by omega)
    try simp at c2
    have le2 := mkFold_length mkExp x.Lo.L (κ1 + 1 + 1 + 1)
    generalize hq2 : mkFold mkExp x.Lo.L (κ1 + 1 + 1 + 1) = q2 at b2 c2 hn le2
    obtain ⟨l2, κ2⟩ := q2
    simp only at b2 c2 hn le2
    refine callM [_] pl129 c2 ?_
    have w11 : IntKind.i64.wrap (κ2 + 1) = κ2 + 1 := by rw [wrap_small] <;> omega
    have w12 : IntKind.i64.wrap (κ2 + 1 + 1) = κ2 + 1 + 1 := by rw [wrap_small] <;> omega
    have w13 : IntKind.i64.wrap (κ2 + 1 + 1 + 1) = κ2 + 1 + 1 + 1 := by rw [wrap_small] <;> omega
    simp [hi, hwi, offn, mid_drop hA1, mid_drop0 hA1, mid_get hA1, mid_get0 hA1, mid_set hA1, mid_set0 hA1, mid_splice hA1, mid_splice0 hA1, spl, hA1, hc0, hc1, hc2, hc3, hc4, hc5, hc6, hc7, hc8, hc9, hc10, hc11, hc12, hc13, hc14, hc15, hc16, hc17, hc18, w0, w1, w2, w3, w4, w5, w6, w7, w8, w9, w10, w11, w12, w13]
    refine callG (markText_f (κ2 + 1 + 1) (by omega) (by omega)) ?_
    simp [hi, hwi, offn, mid_drop hA1, mid_drop0 hA1, mid_get hA1, mid_get0 hA1, mid_set hA1, mid_set0 hA1, mid_splice hA1, mid_splice0 hA1, spl, hA1, hc0, hc1, hc2, hc3, hc4, hc5, hc6, hc7, hc8, hc9, hc10, hc11, hc12, hc13, hc14, hc15, hc16, hc17, hc18, w0, w1, w2, w3, w4, w5, w6, w7, w8, w9, w10, w11, w12, w13]
    have b3 := mkFold_bound mkExp Exp.tot (xs := x.Hi.L) (k := κ2 + 1 + 1 + 1) (fun x hx k => by have b := mkExp_bound x k; omega)
    have c3 := s3 x (List.mem_of_getElem? hx0) (κ2 + 1 + 1 + 1) (by omega) (by omega)
    try simp at c3
    have le3 := mkFold_length mkExp x.Hi.L (κ2 + 1 + 1 + 1)
    generalize hq3 : mkFold mkExp x.Hi.L (κ2 + 1 + 1 + 1) = q3 at b3 c3 hn le3
    obtain ⟨l3, κ3⟩ := q3
    simp only at b3 c3 hn le3
    refine callM [_] pl129 c3 ?_
    simp [hi, hwi, offn, mid_drop hA1, mid_drop0 hA1, mid_get hA1, mid_get0 hA1, mid_set hA1, mid_set0 hA1, mid_splice hA1, mid_splice0 hA1, spl, hA1, hc0, hc1, hc2, hc3, hc4, hc5, hc6, hc7, hc8, hc9, hc10, hc11, hc12, hc13, hc14, hc15, hc16, hc17, hc18, w0, w1, w2, w3, w4, w5, w6, w7, w8, w9, w10, w11, w12, w13]
    have b4 := mkFold_bound mkStmt Stmt.tot (xs := x.Body) (k := κ3) (fun x hx k => by have b := mkStmt_bound x k; omega)
    have c4 := s4 x (List.mem_of_getElem? hx0) (κ3) (by omega) (by omega)
    try simp at c4
    have le4 := mkFold_length mkStmt x.Body (κ3)
    generalize hq4 : mkFold mkStmt x.Body (κ3) = q4 at b4 c4 hn le4
    obtain ⟨l4, κ4⟩ := q4
    simp only at b4 c4 hn le4
    refine callM [_] pl62 c4 ?_
    simp [hi, hwi, offn, mid_drop hA1, mid_drop0 hA1, mid_get hA1, mid_get0 hA1, mid_set hA1, mid_set0 hA1, mid_splice hA1, mid_splice0 hA1, spl, hA1, hc0, hc1, hc2, hc3, hc4, hc5, hc6, hc7, hc8, hc9, hc10, hc11, hc12, hc13, hc14, hc15, hc16, hc17, hc18, w0, w1, w2, w3, w4, w5, w6, w7, w8, w9, w10, w11, w12, w13]
    refine hn _ ?_ trivial
    simp [le0, le1, le2, le3, le4]
  · intro _ q hx hr
    simp
    exact hx _ _ ⟨rfl, by simp⟩
  · rintro ex en ⟨rfl, rfl⟩
    simp [← hR]
theorem heldStmtS (xs : List Stmt) (hm : xs.length ≤ 4194304) (s0 : ∀ x ∈ xs, ∀ k : Int, 1 ≤ k → k + 20 * ((List.length x.At.L + (List.map Exp.tot x.At.L).sum) : Nat) ≤ 2147483648 → Says prog 130 [.rsl (List.length x.At.L) (Cs (List.flatMap Exp.d ((mkFold mkExp) x.At.L k).1)), .int .i64 k] (.int .i64 ((mkFold mkExp) x.At.L k).2) []) (s1 : ∀ x ∈ xs, ∀ k : Int, 1 ≤ k → k + 20 * ((List.length x.E.L + (List.map Exp.tot x.E.L).sum) : Nat) ≤ 2147483648 → Says prog 130 [.rsl (List.length x.E.L) (Cs (List.flatMap Exp.d ((mkFold mkExp) x.E.L k).1)), .int .i64 k] (.int .i64 ((mkFold mkExp) x.E.L k).2) []) (s2 : ∀ x ∈ xs, ∀ k : Int, 1 ≤ k → k + 20 * ((List.length x.Lo.L + (List.map Exp.tot x.Lo.L).sum) : Nat) ≤ 2147483648 → Says prog 130 [.rsl (List.length x.Lo.L) (Cs (List.flatMap Exp.d ((mkFold mkExp) x.Lo.L k).1)), .int .i64 k] (.int .i64 ((mkFold mkExp) x.Lo.L k).2) []) (s3 : ∀ x ∈ xs, ∀ k : Int, 1 ≤ k → k + 20 * ((List.length x.Hi.L + (List.map Exp.tot x.Hi.L).sum) : Nat) ≤ 2147483648 → Says prog 130 [.rsl (List.length x.Hi.L) (Cs (List.flatMap Exp.d ((mkFold mkExp) x.Hi.L k).1)), .int .i64 k] (.int .i64 ((mkFold mkExp) x.Hi.L k).2) []) (s4 : ∀ x ∈ xs, ∀ k : Int, 1 ≤ k → k + 20 * ((List.length x.Body + (List.map Stmt.tot x.Body).sum) : Nat) ≤ 2147483648 → Says prog 64 [.rsl (List.length x.Body) (Cs (List.flatMap Stmt.d ((mkFold mkStmt) x.Body k).1)), .int .i64 k] (.int .i64 ((mkFold mkStmt) x.Body k).2) []) : ∀ k : Int, 1 ≤ k → k + 20 * ((List.length xs + (List.map Stmt.tot xs).sum) : Nat) ≤ 2147483648 → Says prog 64 [.rsl (List.length xs) (Cs (List.flatMap Stmt.d ((mkFold mkStmt) xs k).1)), .int .i64 k] (.int .i64 ((mkFold mkStmt) xs k).2) [] := by
  intro k k1 kL
  refine Fn_G Go.Proofs.Tryz.func64 ok64 ?_
  generalize hR : ((mkFold mkStmt) xs k).2 = R0
  have hML := mkFold_length mkStmt xs k
  simp [v64, r64]
  refine G_loop (l := l64_0) (b := b64_0) rfl [] (fun i => [.rsl xs.length (Cs (((mkFold mkStmt) xs k).1.flatMap Stmt.d)), .int .i64 ((mkFold mkStmt) (xs.take i) k).2, .int .i64 0, .int .i64 (i : Int), .dead, .dead, .dead, .dead, .dead, .dead, .dead, .dead, .dead, .dead, .dead, .dead, .dead, .dead, .dead, .dead, .dead, .dead, .dead, .dead]) (fun _ => True) xs.length
    (fun ex en => ex = .exit 0 ∧ en = [.rsl xs.length (Cs (((mkFold mkStmt) xs k).1.flatMap Stmt.d)), .int .i64 ((mkFold mkStmt) xs k).2, .int .i64 0, .int .i64 xs.length, .dead, .dead, .dead, .dead, .dead, .dead, .dead, .dead, .dead, .dead, .dead, .dead, .dead, .dead, .dead, .dead, .dead, .dead, .dead, .dead]) ?_ ?_ trivial (by simp [mkFold]) ?_
  · intro i hi _ q hn hx hr
    obtain ⟨x, hx0⟩ : ∃ x, xs[i]? = some x := ⟨_, List.getElem?_eq_getElem hi⟩
    have hsum := sum_take_le (Stmt.tot) xs (i + 1)
    rw [sum_take (Stmt.tot) hx0] at hsum
    have hbd := mkFold_bound mkStmt Stmt.tot (xs := (xs.take i)) (k := k) (fun x hx k => by have b := mkStmt_bound x k; omega)
    have hln : (xs.take i).length = i := by simp; omega
    have hy := mkFold_get mkStmt k hx0
    have hrow := row_drop Stmt.d 19 Stmt.d_len hy
    generalize (mkFold mkStmt) xs k = M at hrow hn ⊢
    rw [mkFold_succ _ k hx0] at hn
    generalize (mkFold mkStmt) (xs.take i) k = P at hn hbd hrow ⊢
    obtain ⟨pa, κ⟩ := P
    simp only at hn hbd hrow ⊢
    have kp : 1 ≤ κ := by omega
    have kq : κ + 20 * (1 + Stmt.tot x : Nat) ≤ 2147483648 + 0 := by omega
    have hwi : IntKind.i64.wrap ((i : Int) + 1) = ((i + 1 : Nat) : Int) := by rw [wrap_small] <;> omega
    rw [mkStmt_eq] at hn hrow
    simp only [mkExp_eq] at hn hrow
    have ht := Stmt.tot_eq x
    have htxAt := Exp.tot_eq x.At
    have htxE := Exp.tot_eq x.E
    have htxLo := Exp.tot_eq x.Lo
    have htxHi := Exp.tot_eq x.Hi
    have w0 : IntKind.i64.wrap (κ + 1) = κ + 1 := by rw [wrap_small] <;> omega
    have w1 : IntKind.i64.wrap (κ + 1 + 1) = κ + 1 + 1 := by rw [wrap_small] <;> omega
    have w2 : IntKind.i64.wrap (κ + 1 + 1 + 1) = κ + 1 + 1 + 1 := by rw [wrap_small] <;> omega
    have w3 : IntKind.i64.wrap (κ + 1 + 1 + 1 + 1) = κ + 1 + 1 + 1 + 1 := by rw [wrap_small] <;> omega
    have w4 : IntKind.i64.wrap (κ + 1 + 1 + 1 + 1 + 1) = κ + 1 + 1 + 1 + 1 + 1 := by rw [wrap_small] <;> omega
    have b0 := mkFold_bound mkExp Exp.tot (xs := x.At.L) (k := κ + 1 + 1 + 1 + 1 + 1) (fun x hx k => by have b := mkExp_bound x k; omega)
    have c0 := s0 x (List.mem_of_getElem? hx0) (κ + 1 + 1 + 1 + 1 + 1) (by omega) (by omega)
    have le0 := mkFold_length mkExp x.At.L (κ + 1 + 1 + 1 + 1 + 1)
    generalize hq0 : mkFold mkExp x.At.L (κ + 1 + 1 + 1 + 1 + 1) = q0 at b0 c0 hn hrow le0
    obtain ⟨l0, κ0⟩ := q0
    simp only at b0 c0 hn hrow le0
    rw [← le0] at c0
    try simp at c0
    have n0 : ¬ (κ0 < 0) := by omega
    have w5 : IntKind.i64.wrap (κ0 + 1) = κ0 + 1 := by rw [wrap_small] <;> omega
    have w6 : IntKind.i64.wrap (κ0 + 1 + 1) = κ0 + 1 + 1 := by rw [wrap_small] <;> omega
    have w7 : IntKind.i64.wrap (κ0 + 1 + 1 + 1) = κ0 + 1 + 1 + 1 := by rw [wrap_small] <;> omega
    have b1 := mkFold_bound mkExp Exp.tot (xs := x.E.L) (k := κ0 + 1 + 1 + 1) (fun x hx k => by have b := mkExp_bound x k; omega)
    have c1 := s1 x (List.mem_of_getElem? hx0) (κ0 + 1 + 1 + 1) (by omega) (by omega)
    have le1 := mkFold_length mkExp x.E.L (κ0 + 1 + 1 + 1)
    generalize hq1 : mkFold mkExp x.E.L (κ0 + 1 + 1 + 1) = q1 at b1 c1 hn hrow le1
    obtain ⟨l1, κ1⟩ := q1
    simp only at b1 c1 hn hrow le1
    rw [← le1] at c1
    try simp at c1
    have n1 : ¬ (κ1 < 0) := by omega
    have w8 : IntKind.i64.wrap (κ1 + 1) = κ1 + 1 := by rw [wrap_small] <;> omega
    have w9 : IntKind.i64.wrap (κ1 + 1 + 1) = κ1 + 1 + 1 := by rw [wrap_small] <;> omega
    have w10 : IntKind.i64.wrap (κ1 + 1 + 1 + 1) = κ1 + 1 + 1 + 1 := by rw [wrap_small] <;> omega
    have b2 := mkFold_bound mkExp Exp.tot (xs := x.Lo.L) (k := κ1 + 1 + 1 + 1) (fun x hx k => by have b := mkExp_bound x k; omega)
    have c2 := s2 x (List.mem_of_getElem? hx0) (κ1 + 1 + 1 + 1) (by omega) (by omega)
    have le2 := mkFold_length mkExp x.Lo.L (κ1 + 1 + 1 + 1)
    generalize hq2 : mkFold mkExp x.Lo.L (κ1 + 1 + 1 + 1) = q2 at b2 c2 hn hrow le2
    obtain ⟨l2, κ2⟩ := q2
    simp only at b2 c2 hn hrow le2
    rw [← le2] at c2
    try simp at c2
    have n2 : ¬ (κ2 < 0) := by omega
    have w11 : IntKind.i64.wrap (κ2 + 1) = κ2 + 1 := by rw [wrap_small] <;> omega
    have w12 : IntKind.i64.wrap (κ2 + 1 + 1) = κ2 + 1 + 1 := by rw [wrap_small] <;> omega
    have w13 : IntKind.i64.wrap (κ2 + 1 + 1 + 1) = κ2 + 1 + 1 + 1 := by rw [wrap_small] <;> omega
    have b3 := mkFold_bound mkExp Exp.tot (xs := x.Hi.L) (k := κ2 + 1 + 1 + 1) (fun x hx k => by have b := mkExp_bound x k; omega)
    have c3 := s3 x (List.mem_of_getElem? hx0) (κ2 + 1 + 1 + 1) (by omega) (by omega)
    have le3 := mkFold_length mkExp x.Hi.L (κ2 + 1 + 1 + 1)
    generalize hq3 : mkFold mkExp x.Hi.L (κ2 + 1 + 1 + 1) = q3 at b3 c3 hn hrow le3
    obtain ⟨l3, κ3⟩ := q3
    simp only at b3 c3 hn hrow le3
    rw [← le3] at c3
    try simp at c3
    have n3 : ¬ (κ3 < 0) := by omega
    have b4 := mkFold_bound mkStmt Stmt.tot (xs := x.Body) (k := κ3) (fun x hx k => by have b := mkStmt_bound x k; omega)
    have c4 := s4 x (List.mem_of_getElem? hx0) (κ3) (by omega) (by omega)
    have le4 := mkFold_length mkStmt x.Body (κ3)
    generalize hq4 : mkFold mkStmt x.Body (κ3) = q4 at b4 c4 hn hrow le4
    obtain ⟨l4, κ4⟩ := q4
    simp only at b4 c4 hn hrow le4
    rw [← le4] at c4
    try simp at c4
    have n4 : ¬ (κ4 < 0) := by omega
    simp [hi, hwi, Cs_drop, hrow, w0, w1, w2, w3, w4, n0, w5, w6, w7, n1, w8, w9, w10, n2, w11, w12, w13, n3, n4]
    refine callD (markText_f (κ + 1) (by omega) (by omega)) ?_
    simp [hi, hwi, Cs_drop, hrow, w0, w1, w2, w3, w4, n0, w5, w6, w7, n1, w8, w9, w10, n2, w11, w12, w13, n3, n4]
    refine callD (markText_f (κ + 1 + 1 + 1 + 1) (by omega) (by omega)) ?_
    simp [hi, hwi, Cs_drop, hrow, w0, w1, w2, w3, w4, n0, w5, w6, w7, n1, w8, w9, w10, n2, w11, w12, w13, n3, n4]
    refine callG c0 ?_
    simp [hi, hwi, Cs_drop, hrow, w0, w1, w2, w3, w4, n0, w5, w6, w7, n1, w8, w9, w10, n2, w11, w12, w13, n3, n4]
    refine callD (markText_f (κ0 + 1 + 1) (by omega) (by omega)) ?_
    simp [hi, hwi, Cs_drop, hrow, w0, w1, w2, w3, w4, n0, w5, w6, w7, n1, w8, w9, w10, n2, w11, w12, w13, n3, n4]
    refine callG c1 ?_
    simp [hi, hwi, Cs_drop, hrow, w0, w1, w2, w3, w4, n0, w5, w6, w7, n1, w8, w9, w10, n2, w11, w12, w13, n3, n4]
    refine callD (markText_f (κ1 + 1 + 1) (by omega) (by omega)) ?_
    simp [hi, hwi, Cs_drop, hrow, w0, w1, w2, w3, w4, n0, w5, w6, w7, n1, w8, w9, w10, n2, w11, w12, w13, n3, n4]
    refine callG c2 ?_
    simp [hi, hwi, Cs_drop, hrow, w0, w1, w2, w3, w4, n0, w5, w6, w7, n1, w8, w9, w10, n2, w11, w12, w13, n3, n4]
    refine callD (markText_f (κ2 + 1 + 1) (by omega) (by omega)) ?_
    simp [hi, hwi, Cs_drop, hrow, w0, w1, w2, w3, w4, n0, w5, w6, w7, n1, w8, w9, w10, n2, w11, w12, w13, n3, n4]
    refine callG c3 ?_
    simp [hi, hwi, Cs_drop, hrow, w0, w1, w2, w3, w4, n0, w5, w6, w7, n1, w8, w9, w10, n2, w11, w12, w13, n3, n4]
    refine callG c4 ?_
    simp [hi, hwi, Cs_drop, hrow, w0, w1, w2, w3, w4, n0, w5, w6, w7, n1, w8, w9, w10, n2, w11, w12, w13, n3, n4]
    refine hn _ ?_ trivial
    simp
  · intro _ q hx hr
    simp
    exact hx _ _ ⟨rfl, by simp⟩
  · rintro ex en ⟨rfl, rfl⟩
    simp [← hR]
theorem markL_Stmt : ∀ x : Stmt, Stmt.tot x ≤ 4194304 → ∀ k : Int, 1 ≤ k → k + 20 * ((List.length x.Body + (List.map Stmt.tot x.Body).sum) : Nat) ≤ 2147483648 → Says prog 62 [.osl 1 74 (List.length x.Body) (Ows ((List.flatMap Stmt.d x.Body))), .int .i64 k] (.int .i64 ((mkFold mkStmt) x.Body k).2) [(1, .osl 1 74 (List.length x.Body) (Ows (List.flatMap Stmt.d ((mkFold mkStmt) x.Body k).1)))] := Stmt.ind fun x ih h => by
  have ht := Stmt.tot_eq x
  exact markStmtS x.Body (by omega) (fun y hy => mark_ExpS y.At.L (by have := mem_sum Stmt.tot hy; have t0 := Stmt.tot_eq y; have t26 := Exp.tot_eq y.At; omega)) (fun y hy => mark_ExpS y.E.L (by have := mem_sum Stmt.tot hy; have t0 := Stmt.tot_eq y; have t26 := Exp.tot_eq y.E; omega)) (fun y hy => mark_ExpS y.Lo.L (by have := mem_sum Stmt.tot hy; have t0 := Stmt.tot_eq y; have t26 := Exp.tot_eq y.Lo; omega)) (fun y hy => mark_ExpS y.Hi.L (by have := mem_sum Stmt.tot hy; have t0 := Stmt.tot_eq y; have t26 := Exp.tot_eq y.Hi; omega)) (fun y hy => ih y hy (by have := mem_sum Stmt.tot hy; omega))
theorem mark_StmtS (xs : List Stmt) (h : (List.length xs + (List.map Stmt.tot xs).sum) ≤ 4194304) : ∀ k : Int, 1 ≤ k → k + 20 * ((List.length xs + (List.map Stmt.tot xs).sum) : Nat) ≤ 2147483648 → Says prog 62 [.osl 1 74 (List.length xs) (Ows ((List.flatMap Stmt.d xs))), .int .i64 k] (.int .i64 ((mkFold mkStmt) xs k).2) [(1, .osl 1 74 (List.length xs) (Ows (List.flatMap Stmt.d ((mkFold mkStmt) xs k).1)))] := markStmtS xs (by omega) (fun y hy => mark_ExpS y.At.L (by have := mem_sum Stmt.tot hy; have t0 := Stmt.tot_eq y; have t26 := Exp.tot_eq y.At; omega)) (fun y hy => mark_ExpS y.E.L (by have := mem_sum Stmt.tot hy; have t0 := Stmt.tot_eq y; have t26 := Exp.tot_eq y.E; omega)) (fun y hy => mark_ExpS y.Lo.L (by have := mem_sum Stmt.tot hy; have t0 := Stmt.tot_eq y; have t26 := Exp.tot_eq y.Lo; omega)) (fun y hy => mark_ExpS y.Hi.L (by have := mem_sum Stmt.tot hy; have t0 := Stmt.tot_eq y; have t26 := Exp.tot_eq y.Hi; omega)) (fun y hy => markL_Stmt y (by have := mem_sum Stmt.tot hy; omega))
theorem heldL_Stmt : ∀ x : Stmt, Stmt.tot x ≤ 4194304 → ∀ k : Int, 1 ≤ k → k + 20 * ((List.length x.Body + (List.map Stmt.tot x.Body).sum) : Nat) ≤ 2147483648 → Says prog 64 [.rsl (List.length x.Body) (Cs (List.flatMap Stmt.d ((mkFold mkStmt) x.Body k).1)), .int .i64 k] (.int .i64 ((mkFold mkStmt) x.Body k).2) [] := Stmt.ind fun x ih h => by
  have ht := Stmt.tot_eq x
  exact heldStmtS x.Body (by omega) (fun y hy => held_ExpS y.At.L (by have := mem_sum Stmt.tot hy; have t0 := Stmt.tot_eq y; have t26 := Exp.tot_eq y.At; omega)) (fun y hy => held_ExpS y.E.L (by have := mem_sum Stmt.tot hy; have t0 := Stmt.tot_eq y; have t26 := Exp.tot_eq y.E; omega)) (fun y hy => held_ExpS y.Lo.L (by have := mem_sum Stmt.tot hy; have t0 := Stmt.tot_eq y; have t26 := Exp.tot_eq y.Lo; omega)) (fun y hy => held_ExpS y.Hi.L (by have := mem_sum Stmt.tot hy; have t0 := Stmt.tot_eq y; have t26 := Exp.tot_eq y.Hi; omega)) (fun y hy => ih y hy (by have := mem_sum Stmt.tot hy; omega))
theorem held_StmtS (xs : List Stmt) (h : (List.length xs + (List.map Stmt.tot xs).sum) ≤ 4194304) : ∀ k : Int, 1 ≤ k → k + 20 * ((List.length xs + (List.map Stmt.tot xs).sum) : Nat) ≤ 2147483648 → Says prog 64 [.rsl (List.length xs) (Cs (List.flatMap Stmt.d ((mkFold mkStmt) xs k).1)), .int .i64 k] (.int .i64 ((mkFold mkStmt) xs k).2) [] := heldStmtS xs (by omega) (fun y hy => held_ExpS y.At.L (by have := mem_sum Stmt.tot hy; have t0 := Stmt.tot_eq y; have t26 := Exp.tot_eq y.At; omega)) (fun y hy => held_ExpS y.E.L (by have := mem_sum Stmt.tot hy; have t0 := Stmt.tot_eq y; have t26 := Exp.tot_eq y.E; omega)) (fun y hy => held_ExpS y.Lo.L (by have := mem_sum Stmt.tot hy; have t0 := Stmt.tot_eq y; have t26 := Exp.tot_eq y.Lo; omega)) (fun y hy => held_ExpS y.Hi.L (by have := mem_sum Stmt.tot hy; have t0 := Stmt.tot_eq y; have t26 := Exp.tot_eq y.Hi; omega)) (fun y hy => heldL_Stmt y (by have := mem_sum Stmt.tot hy; omega))
def mkArr : Arr → Int → Arr × Int
  | ⟨aName, aSize⟩, k => (⟨mtx (k), k + 1⟩, k + 1 + 1)
theorem mkArr_eq (x : Arr) (k : Int) : mkArr x k = (⟨mtx (k), k + 1⟩, k + 1 + 1) := by cases x; rw [mkArr] <;> rfl
theorem mkArr_bound (x : Arr) (k : Int) : k + 2 ≤ (mkArr x k).2 ∧ (mkArr x k).2 ≤ k + 2 + 20 * ((Arr.tot x : Nat) : Int) := by
  rw [mkArr_eq]
  have ht := Arr.tot_eq x
  simp only
  omega
theorem pl61 : plainFn prog 61 = true := by kernel_rfl
theorem markArrS (xs : List Arr) (hm : xs.length ≤ 4194304) : ∀ k : Int, 1 ≤ k → k + 20 * ((List.length xs + (List.map Arr.tot xs).sum) : Nat) ≤ 2147483648 → Says prog 61 [.osl 1 130 (List.length xs) (Ows ((List.flatMap Arr.d xs))), .int .i64 k] (.int .i64 ((mkFold mkArr) xs k).2) [(1, .osl 1 130 (List.length xs) (Ows (List.flatMap Arr.d ((mkFold mkArr) xs k).1)))] := by
  intro k k1 kL
  refine Fn_GM [1] [.osl 1 130 xs.length (Ows (List.flatMap Arr.d ((mkFold mkArr) xs k).1))] Go.Proofs.Tryz.func61 ok61 (by simp) ?_
  generalize hR : ((mkFold mkArr) xs k).2 = R0
  simp [v61, r61]
  refine G_loop (l := l61_0) (b := b61_0) rfl [] (fun i => [.osl 1 130 xs.length (Ows (((mkFold mkArr) (xs.take i) k).1.flatMap Arr.d) ++ Ows ((xs.drop i).flatMap Arr.d)), .int .i64 ((mkFold mkArr) (xs.take i) k).2, .int .i64 0, .int .i64 (i : Int), .dead]) (fun _ => True) xs.length
    (fun ex en => ex = .exit 0 ∧ en = [.osl 1 130 xs.length (Ows (List.flatMap Arr.d ((mkFold mkArr) xs k).1)), .int .i64 ((mkFold mkArr) xs k).2, .int .i64 0, .int .i64 xs.length, .dead]) ?_ ?_ trivial (by simp [mkFold]) ?_
  · intro i hi _ q hn hx hr
    obtain ⟨x, hx0⟩ : ∃ x, xs[i]? = some x := ⟨_, List.getElem?_eq_getElem hi⟩
    have hsum := sum_take_le (Arr.tot) xs (i + 1)
    rw [sum_take (Arr.tot) hx0] at hsum
    have hbd := mkFold_bound mkArr Arr.tot (xs := (xs.take i)) (k := k) (fun x hx k => by have b := mkArr_bound x k; omega)
    have hln : (xs.take i).length = i := by simp; omega
    have hA : (Ows (((mkFold mkArr) (xs.take i) k).1.flatMap Arr.d)).length = i * 2 := by rw [Ows_length, len_flat _ 2 Arr.d_len, mkFold_length]; simp; omega
    rw [mkFold_succ _ k hx0] at hn
    rw [drop_cons hx0]
    generalize (mkFold mkArr) (xs.take i) k = P at hn hbd hA ⊢
    obtain ⟨pa, κ⟩ := P
    simp only at hn hbd hA ⊢
    have kp : 1 ≤ κ := by omega
    have kq : κ + 20 * (1 + Arr.tot x : Nat) ≤ 2147483648 + 0 := by omega
    have hwi : IntKind.i64.wrap ((i : Int) + 1) = ((i + 1 : Nat) : Int) := by rw [wrap_small] <;> omega
    rw [List.flatMap_append, Ows_append] at hn
    generalize hA0 : Ows (pa.flatMap Arr.d) = A at hn hA ⊢
    have hA1 : A.length = i * 2 := hA
    rw [List.flatMap_cons, Ows_append]
    generalize Ows ((xs.drop (i + 1)).flatMap Arr.d) = B at hn ⊢
    have offn : ∀ a b : Nat, i * 2 + a + b = i * 2 + (a + b) := fun a b => Nat.add_assoc _ _ _
    have hc0 : i * 2 + 1 ≤ i * 2 + (B.length + 1 + 1) := by omega
    have hc1 : i * 2 + 2 ≤ i * 2 + (B.length + 1 + 1) := by omega
    rw [mkArr_eq] at hn
    have ht := Arr.tot_eq x
    have w0 : IntKind.i64.wrap (κ + 1) = κ + 1 := by rw [wrap_small] <;> omega
    have w1 : IntKind.i64.wrap (κ + 1 + 1) = κ + 1 + 1 := by rw [wrap_small] <;> omega
    simp [hi, hwi, offn, mid_drop hA1, mid_drop0 hA1, mid_get hA1, mid_get0 hA1, mid_set hA1, mid_set0 hA1, mid_splice hA1, mid_splice0 hA1, spl, hA1, hc0, hc1, w0, w1]
    refine callG (markText_f (κ) (by omega) (by omega)) ?_
    simp [hi, hwi, offn, mid_drop hA1, mid_drop0 hA1, mid_get hA1, mid_get0 hA1, mid_set hA1, mid_set0 hA1, mid_splice hA1, mid_splice0 hA1, spl, hA1, hc0, hc1, w0, w1]
    refine hn _ ?_ trivial
    simp
  · intro _ q hx hr
    simp
    exact hx _ _ ⟨rfl, by simp⟩
  · rintro ex en ⟨rfl, rfl⟩
    simp [← hR]
theorem heldArrS (xs : List Arr) (hm : xs.length ≤ 4194304) : ∀ k : Int, 1 ≤ k → k + 20 * ((List.length xs + (List.map Arr.tot xs).sum) : Nat) ≤ 2147483648 → Says prog 63 [.rsl (List.length xs) (Cs (List.flatMap Arr.d ((mkFold mkArr) xs k).1)), .int .i64 k] (.int .i64 ((mkFold mkArr) xs k).2) [] := by
  intro k k1 kL
  refine Fn_G Go.Proofs.Tryz.func63 ok63 ?_
  generalize hR : ((mkFold mkArr) xs k).2 = R0
  have hML := mkFold_length mkArr xs k
  simp [v63, r63]
  refine G_loop (l := l63_0) (b := b63_0) rfl [] (fun i => [.rsl xs.length (Cs (((mkFold mkArr) xs k).1.flatMap Arr.d)), .int .i64 ((mkFold mkArr) (xs.take i) k).2, .int .i64 0, .int .i64 (i : Int), .dead, .dead, .dead]) (fun _ => True) xs.length
    (fun ex en => ex = .exit 0 ∧ en = [.rsl xs.length (Cs (((mkFold mkArr) xs k).1.flatMap Arr.d)), .int .i64 ((mkFold mkArr) xs k).2, .int .i64 0, .int .i64 xs.length, .dead, .dead, .dead]) ?_ ?_ trivial (by simp [mkFold]) ?_
  · intro i hi _ q hn hx hr
    obtain ⟨x, hx0⟩ : ∃ x, xs[i]? = some x := ⟨_, List.getElem?_eq_getElem hi⟩
    have hsum := sum_take_le (Arr.tot) xs (i + 1)
    rw [sum_take (Arr.tot) hx0] at hsum
    have hbd := mkFold_bound mkArr Arr.tot (xs := (xs.take i)) (k := k) (fun x hx k => by have b := mkArr_bound x k; omega)
    have hln : (xs.take i).length = i := by simp; omega
    have hy := mkFold_get mkArr k hx0
    have hrow := row_drop Arr.d 2 Arr.d_len hy
    generalize (mkFold mkArr) xs k = M at hrow hn ⊢
    rw [mkFold_succ _ k hx0] at hn
    generalize (mkFold mkArr) (xs.take i) k = P at hn hbd hrow ⊢
    obtain ⟨pa, κ⟩ := P
    simp only at hn hbd hrow ⊢
    have kp : 1 ≤ κ := by omega
    have kq : κ + 20 * (1 + Arr.tot x : Nat) ≤ 2147483648 + 0 := by omega
    have hwi : IntKind.i64.wrap ((i : Int) + 1) = ((i + 1 : Nat) : Int) := by rw [wrap_small] <;> omega
    rw [mkArr_eq] at hn hrow
    have ht := Arr.tot_eq x
    have w0 : IntKind.i64.wrap (κ + 1) = κ + 1 := by rw [wrap_small] <;> omega
    have w1 : IntKind.i64.wrap (κ + 1 + 1) = κ + 1 + 1 := by rw [wrap_small] <;> omega
    simp [hi, hwi, Cs_drop, hrow, w0, w1]
    refine callD (markText_f (κ) (by omega) (by omega)) ?_
    simp [hi, hwi, Cs_drop, hrow, w0, w1]
    refine hn _ ?_ trivial
    simp
  · intro _ q hx hr
    simp
    exact hx _ _ ⟨rfl, by simp⟩
  · rintro ex en ⟨rfl, rfl⟩
    simp [← hR]
theorem mark_ArrS (xs : List Arr) (h : (List.length xs + (List.map Arr.tot xs).sum) ≤ 4194304) : ∀ k : Int, 1 ≤ k → k + 20 * ((List.length xs + (List.map Arr.tot xs).sum) : Nat) ≤ 2147483648 → Says prog 61 [.osl 1 130 (List.length xs) (Ows ((List.flatMap Arr.d xs))), .int .i64 k] (.int .i64 ((mkFold mkArr) xs k).2) [(1, .osl 1 130 (List.length xs) (Ows (List.flatMap Arr.d ((mkFold mkArr) xs k).1)))] := markArrS xs (by omega)
theorem held_ArrS (xs : List Arr) (h : (List.length xs + (List.map Arr.tot xs).sum) ≤ 4194304) : ∀ k : Int, 1 ≤ k → k + 20 * ((List.length xs + (List.map Arr.tot xs).sum) : Nat) ≤ 2147483648 → Says prog 63 [.rsl (List.length xs) (Cs (List.flatMap Arr.d ((mkFold mkArr) xs k).1)), .int .i64 k] (.int .i64 ((mkFold mkArr) xs k).2) [] := heldArrS xs (by omega)
def mkProgT (x : Prog) (k : Int) : Prog × Int := (⟨(mkFold mkArr x.Arrs (k)).1, (mkFold mkStmt x.Body ((mkFold mkArr x.Arrs (k)).2)).1⟩, (mkFold mkStmt x.Body ((mkFold mkArr x.Arrs (k)).2)).2)
theorem mkProgT_bound (x : Prog) (k : Int) : k ≤ (mkProgT x k).2 ∧ (mkProgT x k).2 ≤ k + 20 * (Prog.tot x : Nat) := by
  have ht := Prog.tot_eq x
  have b0 := mkFold_bound mkArr Arr.tot (xs := x.Arrs) (k := k) (fun x hx k => by have b := mkArr_bound x k; omega)
  have b1 := mkFold_bound mkStmt Stmt.tot (xs := x.Body) (k := (mkFold mkArr x.Arrs (k)).2) (fun x hx k => by have b := mkStmt_bound x k; omega)
  simp only [mkProgT]
  omega
theorem pl15 : plainFn prog 15 = true := by kernel_rfl
theorem markProg (x : Prog) (sArrs : ∀ k : Int, 1 ≤ k → k + 20 * ((List.length x.Arrs + (List.map Arr.tot x.Arrs).sum) : Nat) ≤ 2147483648 → Says prog 61 [.osl 1 130 (List.length x.Arrs) (Ows ((List.flatMap Arr.d x.Arrs))), .int .i64 k] (.int .i64 ((mkFold mkArr) x.Arrs k).2) [(1, .osl 1 130 (List.length x.Arrs) (Ows (List.flatMap Arr.d ((mkFold mkArr) x.Arrs k).1)))]) (sBody : ∀ k : Int, 1 ≤ k → k + 20 * ((List.length x.Body + (List.map Stmt.tot x.Body).sum) : Nat) ≤ 2147483648 → Says prog 62 [.osl 1 74 (List.length x.Body) (Ows ((List.flatMap Stmt.d x.Body))), .int .i64 k] (.int .i64 ((mkFold mkStmt) x.Body k).2) [(1, .osl 1 74 (List.length x.Body) (Ows (List.flatMap Stmt.d ((mkFold mkStmt) x.Body k).1)))]) : ∀ k : Int, 1 ≤ k → k + 20 * (Prog.tot x : Nat) ≤ 2147483648 → Says prog 15 [.agg [.osl 1 130 (List.length x.Arrs) (Ows (List.flatMap Arr.d x.Arrs)), .osl 2 74 (List.length x.Body) (Ows (List.flatMap Stmt.d x.Body))], .int .i64 k] (.int .i64 (mkProgT x k).2) [(1, .osl 1 130 (List.length (mkProgT x k).1.Arrs) (Ows (List.flatMap Arr.d (mkProgT x k).1.Arrs))), (2, .osl 2 74 (List.length (mkProgT x k).1.Body) (Ows (List.flatMap Stmt.d (mkProgT x k).1.Body)))] := by
  intro k k1 kL
  have ht := Prog.tot_eq x
  refine Fn_GM [1, 2] [.osl 1 130 (List.length (mkProgT x k).1.Arrs) (Ows (List.flatMap Arr.d (mkProgT x k).1.Arrs)), .osl 2 74 (List.length (mkProgT x k).1.Body) (Ows (List.flatMap Stmt.d (mkProgT x k).1.Body))] Go.Proofs.Tryz.func15 ok15 (by simp) ?_
  simp only [mkProgT]
  have b0 := mkFold_bound mkArr Arr.tot (xs := x.Arrs) (k := k) (fun x hx k => by have b := mkArr_bound x k; omega)
  have c0 := sArrs (k) (by omega) (by omega)
  have le0 := mkFold_length mkArr x.Arrs (k)
  generalize hq0 : mkFold mkArr x.Arrs (k) = q0 at b0 c0 le0 ⊢
  obtain ⟨l0, κ0⟩ := q0
  simp only at b0 c0 le0 ⊢
  try simp at c0
  have b1 := mkFold_bound mkStmt Stmt.tot (xs := x.Body) (k := κ0) (fun x hx k => by have b := mkStmt_bound x k; omega)
  have c1 := sBody (κ0) (by omega) (by omega)
  have le1 := mkFold_length mkStmt x.Body (κ0)
  generalize hq1 : mkFold mkStmt x.Body (κ0) = q1 at b1 c1 le1 ⊢
  obtain ⟨l1, κ1⟩ := q1
  simp only at b1 c1 le1 ⊢
  try simp at c1
  simp [v15, r15, le0, le1]
  refine callM [_] pl61 c0 ?_
  simp [le0, le1]
  refine callM [_] pl62 c1 ?_
  simp [le0, le1]
theorem heldProg (x : Prog) (sArrs : ∀ k : Int, 1 ≤ k → k + 20 * ((List.length x.Arrs + (List.map Arr.tot x.Arrs).sum) : Nat) ≤ 2147483648 → Says prog 63 [.rsl (List.length x.Arrs) (Cs (List.flatMap Arr.d ((mkFold mkArr) x.Arrs k).1)), .int .i64 k] (.int .i64 ((mkFold mkArr) x.Arrs k).2) []) (sBody : ∀ k : Int, 1 ≤ k → k + 20 * ((List.length x.Body + (List.map Stmt.tot x.Body).sum) : Nat) ≤ 2147483648 → Says prog 64 [.rsl (List.length x.Body) (Cs (List.flatMap Stmt.d ((mkFold mkStmt) x.Body k).1)), .int .i64 k] (.int .i64 ((mkFold mkStmt) x.Body k).2) []) : ∀ k : Int, 1 ≤ k → k + 20 * (Prog.tot x : Nat) ≤ 2147483648 → Says prog 16 [.agg (Cs (Prog.d (mkProgT x k).1)), .int .i64 k] (.int .i64 (mkProgT x k).2) [] := by
  intro k k1 kL
  have ht := Prog.tot_eq x
  refine Fn_G Go.Proofs.Tryz.func16 ok16 ?_
  simp only [mkProgT]
  have b0 := mkFold_bound mkArr Arr.tot (xs := x.Arrs) (k := k) (fun x hx k => by have b := mkArr_bound x k; omega)
  have c0 := sArrs (k) (by omega) (by omega)
  have le0 := mkFold_length mkArr x.Arrs (k)
  generalize hq0 : mkFold mkArr x.Arrs (k) = q0 at b0 c0 le0 ⊢
  obtain ⟨l0, κ0⟩ := q0
  simp only at b0 c0 le0 ⊢
  try simp at c0
  have n0 : ¬ (κ0 < 0) := by omega
  have b1 := mkFold_bound mkStmt Stmt.tot (xs := x.Body) (k := κ0) (fun x hx k => by have b := mkStmt_bound x k; omega)
  have c1 := sBody (κ0) (by omega) (by omega)
  have le1 := mkFold_length mkStmt x.Body (κ0)
  generalize hq1 : mkFold mkStmt x.Body (κ0) = q1 at b1 c1 le1 ⊢
  obtain ⟨l1, κ1⟩ := q1
  simp only at b1 c1 le1 ⊢
  try simp at c1
  have n1 : ¬ (κ1 < 0) := by omega
  simp [v16, r16, le0, n0, le1, n1]
  refine callG c0 ?_
  simp [le0, n0, le1, n1]
  refine callG c1 ?_
  simp [le0, n0, le1, n1]
theorem mark_Prog (x : Prog) (h : Prog.tot x ≤ 4194304) : ∀ k : Int, 1 ≤ k → k + 20 * (Prog.tot x : Nat) ≤ 2147483648 → Says prog 15 [.agg [.osl 1 130 (List.length x.Arrs) (Ows (List.flatMap Arr.d x.Arrs)), .osl 2 74 (List.length x.Body) (Ows (List.flatMap Stmt.d x.Body))], .int .i64 k] (.int .i64 (mkProgT x k).2) [(1, .osl 1 130 (List.length (mkProgT x k).1.Arrs) (Ows (List.flatMap Arr.d (mkProgT x k).1.Arrs))), (2, .osl 2 74 (List.length (mkProgT x k).1.Body) (Ows (List.flatMap Stmt.d (mkProgT x k).1.Body)))] := by
  have ht := Prog.tot_eq x
  exact markProg x (mark_ArrS x.Arrs (by omega)) (mark_StmtS x.Body (by omega))
theorem held_Prog (x : Prog) (h : Prog.tot x ≤ 4194304) : ∀ k : Int, 1 ≤ k → k + 20 * (Prog.tot x : Nat) ≤ 2147483648 → Says prog 16 [.agg (Cs (Prog.d (mkProgT x k).1)), .int .i64 k] (.int .i64 (mkProgT x k).2) [] := by
  have ht := Prog.tot_eq x
  exact heldProg x (held_ArrS x.Arrs (by omega)) (held_StmtS x.Body (by omega))
end Go.AmC

