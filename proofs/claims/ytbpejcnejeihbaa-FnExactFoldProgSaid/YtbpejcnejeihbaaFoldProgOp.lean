/- Part of a proof: see the last text of this folder. -/
import Derived.Test.YtbpejcnejeihbaaFoldProgIn
set_option linter.unusedSimpArgs false
set_option linter.unusedVariables false
set_option maxRecDepth 20000
set_option maxHeartbeats 4000000
namespace Go.AmC
open Go Go.AM
open Go.Proofs.Try (prog)

/-- A number as a word. -/
def w32 (n : Int) : Int := IntKind.i32.wrap n
theorem w32_range (n : Int) : -2147483648 ≤ w32 n ∧ w32 n ≤ 2147483647 := by
  unfold w32
  simp only [IntKind.wrap, IntKind.bits, IntKind.signed]
  simp
  split <;> omega
theorem w32_64 (n : Int) : IntKind.i64.wrap (w32 n) = w32 n := by have := w32_range n; rw [wrap_small] <;> omega

theorem Wrap_impl (n : Int) : Says prog 88 [.int .i64 n] (.int .i64 (w32 n)) [] := by
  refine Fn_G Go.Proofs.Try.func88 ok88 ?_
  have := w32_64 n
  unfold w32 at this ⊢
  simp [v88, r88, this]
theorem bits_and (n : Int) : bitsX .and .i64 n 4294967295 = n % 4294967296 := by
  have h : ((BitVec.ofInt 64 n &&& BitVec.ofInt 64 4294967295).toNat : Int) = n % 4294967296 := by
    have h1 : (BitVec.ofInt 64 4294967295) = BitVec.ofNat 64 4294967295 := by decide
    rw [h1, BitVec.toNat_and]
    have h2 : (BitVec.ofNat 64 4294967295).toNat = 2 ^ 32 - 1 := by decide
    rw [h2, Nat.and_two_pow_sub_one_eq_mod, BitVec.toNat_ofInt]
    simp
    omega
  unfold bitsX
  show IntKind.i64.wrap ((BitVec.ofInt 64 n &&& BitVec.ofInt 64 4294967295).toNat : Int) = _
  rw [h, wrap_small] <;> omega
theorem Wrap_spec (n : Int) : Says prog 87 [.int .i64 n] (.int .i64 (w32 n)) [] := by
  refine Fn_G Go.Proofs.Try.func87 ok87 ?_
  have hb := bits_and n
  have hv : w32 n = if 2147483648 ≤ n % 4294967296 then n % 4294967296 - 4294967296 else n % 4294967296 := by
    unfold w32
    simp only [IntKind.wrap, IntKind.bits, IntKind.signed]
    first | (simp; done) | (simp; split <;> split <;> omega)
  by_cases c : 2147483648 ≤ n % 4294967296
  · have hw : IntKind.i64.wrap (n % 4294967296 - 4294967296) = n % 4294967296 - 4294967296 := by rw [wrap_small] <;> omega
    rw [hv, if_pos c]
    simp [v87, r87, hb, c, hw]
  · rw [hv, if_neg c]
    simp [v87, r87, hb, c]
def addW (a b : Int) : Int := w32 (w32 a + w32 b)
def subW (a b : Int) : Int := w32 (w32 a - w32 b)
def mulW (a b : Int) : Int := w32 (w32 a * w32 b)
theorem add64 (a b : Int) : IntKind.i64.wrap (w32 a + w32 b) = w32 a + w32 b := by have := w32_range a; have := w32_range b; rw [wrap_small] <;> omega
theorem sub64 (a b : Int) : IntKind.i64.wrap (w32 a - w32 b) = w32 a - w32 b := by have := w32_range a; have := w32_range b; rw [wrap_small] <;> omega
theorem mul64 (a b : Int) : IntKind.i64.wrap (w32 a * w32 b) = w32 a * w32 b := by
  have h1 := w32_range a; have h2 := w32_range b
  have : -4611686018427387904 ≤ w32 a * w32 b ∧ w32 a * w32 b ≤ 4611686018427387904 := by
    have e : (w32 a * w32 b).natAbs = (w32 a).natAbs * (w32 b).natAbs := Int.natAbs_mul _ _
    have e2 : (w32 a).natAbs * (w32 b).natAbs ≤ 2147483648 * 2147483648 := Nat.mul_le_mul (by omega) (by omega)
    omega
  rw [wrap_small] <;> omega
theorem AddW_impl (a b : Int) : Says prog 80 [.int .i64 a, .int .i64 b] (.int .i64 (addW a b)) [] := by
  refine Fn_G Go.Proofs.Try.func80 ok80 ?_
  simp [v80, r80]
  repeat' (first | refine callG (Wrap_impl _) ?_ | refine callD (Wrap_impl _) ?_ | (simp [add64, addW]; done) | simp [add64])
theorem SubW_impl (a b : Int) : Says prog 81 [.int .i64 a, .int .i64 b] (.int .i64 (subW a b)) [] := by
  refine Fn_G Go.Proofs.Try.func81 ok81 ?_
  simp [v81, r81]
  repeat' (first | refine callG (Wrap_impl _) ?_ | refine callD (Wrap_impl _) ?_ | (simp [sub64, subW]; done) | simp [sub64])
theorem MulW_impl (a b : Int) : Says prog 82 [.int .i64 a, .int .i64 b] (.int .i64 (mulW a b)) [] := by
  refine Fn_G Go.Proofs.Try.func82 ok82 ?_
  simp [v82, r82]
  repeat' (first | refine callG (Wrap_impl _) ?_ | refine callD (Wrap_impl _) ?_ | (simp [mul64, mulW]; done) | simp [mul64])
theorem AddW_spec (a b : Int) : Says prog 77 [.int .i64 a, .int .i64 b] (.int .i64 (addW a b)) [] := by
  refine Fn_G Go.Proofs.Try.func77 ok77 ?_
  simp [v77, r77]
  repeat' (first | refine callG (Wrap_spec _) ?_ | refine callD (Wrap_spec _) ?_ | (simp [add64, addW]; done) | simp [add64])
theorem SubW_spec (a b : Int) : Says prog 78 [.int .i64 a, .int .i64 b] (.int .i64 (subW a b)) [] := by
  refine Fn_G Go.Proofs.Try.func78 ok78 ?_
  simp [v78, r78]
  repeat' (first | refine callG (Wrap_spec _) ?_ | refine callD (Wrap_spec _) ?_ | (simp [sub64, subW]; done) | simp [sub64])
theorem MulW_spec (a b : Int) : Says prog 79 [.int .i64 a, .int .i64 b] (.int .i64 (mulW a b)) [] := by
  refine Fn_G Go.Proofs.Try.func79 ok79 ?_
  simp [v79, r79]
  repeat' (first | refine callG (Wrap_spec _) ?_ | refine callD (Wrap_spec _) ?_ | (simp [mul64, mulW]; done) | simp [mul64])

/-- What an operation makes of two. -/
def opE (k a b : Int) : Int := if k = 4 then addW a b else if k = 5 then subW a b else if k = 6 then mulW a b else if k = 7 then (if b < a then b else a) else (if b > a then b else a)
theorem op_impl (k a b : Int) : Says prog 63 [.int .i64 k, .int .i64 a, .int .i64 b] (.int .i64 (opE k a b)) [] := by
  refine Fn_G Go.Proofs.Try.func63 ok63 ?_
  by_cases c4 : k = 4
  · simp [v63, r63, c4, opE]
    refine callG (AddW_impl _ _) ?_
    simp
  by_cases c5 : k = 5
  · simp [v63, r63, c5, opE]
    refine callG (SubW_impl _ _) ?_
    simp
  by_cases c6 : k = 6
  · simp [v63, r63, c6, opE]
    refine callG (MulW_impl _ _) ?_
    simp
  by_cases c7 : k = 7
  · simp [v63, r63, c7, opE]
  simp [v63, r63, c4, c5, c6, c7, opE]
theorem op_spec (k a b : Int) (hk : 4 ≤ k ∧ k ≤ 8) : Says prog 59 [.int .i64 k, .int .i64 a, .int .i64 b] (.int .i64 (opE k a b)) [] := by
  refine Fn_G Go.Proofs.Try.func59 ok59 ?_
  by_cases c4 : k = 4
  · simp [v59, r59, c4, opE]
    refine callG (AddW_spec _ _) ?_
    simp
  by_cases c5 : k = 5
  · simp [v59, r59, c5, opE]
    refine callG (SubW_spec _ _) ?_
    simp
  by_cases c6 : k = 6
  · simp [v59, r59, c6, opE]
    refine callG (MulW_spec _ _) ?_
    simp
  by_cases c7 : k = 7
  · by_cases h : b < a
    · have h' : ¬ a < b := by omega
      simp [v59, r59, c7, opE, h, h']
    · by_cases h2 : a < b
      · simp [v59, r59, c7, opE, h, h2]
      · have : a = b := by omega
        simp [v59, r59, c7, opE, this]
  have c8 : k = 8 := by omega
  by_cases h : a < b
  · have h' : ¬ b < a := by omega
    simp [v59, r59, c8, opE, h, h']
  · by_cases h2 : b < a
    · simp [v59, r59, c8, opE, h, h2]
    · have : a = b := by omega
      simp [v59, r59, c8, opE, this]
end Go.AmC
