/- Data of all kinds: what lies where; rows; sizes. -/
import Derived.Test.YtapdppkplhgnjaaAmData
import Derived.Test.YtapdppkplhgnjaaAmRead
set_option linter.unusedSimpArgs false
set_option linter.unusedVariables false
namespace Go.AM
open Go

def dInt (n : Int) : List D := [.I .i64 n]
def dBool (b : Bool) : List D := [.B b]
def dStr (s : List UInt8) : List D := [.S s]
@[simp] theorem dInt_eq {n : Int} : dInt n = [.I .i64 n] := rfl
@[simp] theorem dBool_eq {b : Bool} : dBool b = [.B b] := rfl
@[simp] theorem dStr_eq {s : List UInt8} : dStr s = [.S s] := rfl

/-- What is left of l behind t. -/
def szR (t : Nat) (l : Int) : Int := if (t : Int) ≤ l then l - t else -1

section
variable {α : Type}
theorem len_flat (f : α → List D) (k : Nat) (hl : ∀ x, (f x).length = k) (xs : List α) : (xs.flatMap f).length = xs.length * k := by
  induction xs with
  | nil => simp
  | cons x xs ih => simp [ih, hl, Nat.add_mul, Nat.add_comm]
theorem row_drop (f : α → List D) (k : Nat) (hl : ∀ x, (f x).length = k) : ∀ {xs : List α} {i : Nat} {x : α}, xs[i]? = some x → (xs.flatMap f).drop (i * k) = f x ++ (xs.drop (i + 1)).flatMap f
  | [], i, x, h => by simp at h
  | y :: ys, 0, x, h => by simp at h; subst h; simp
  | y :: ys, i + 1, x, h => by
    have := row_drop f k hl (xs := ys) (i := i) (x := x) (by simpa using h)
    rw [List.flatMap_cons, Nat.add_mul, Nat.one_mul, List.drop_append, List.drop_eq_nil_of_le (by rw [hl]; omega), hl]
    simpa using this
theorem flat_take (f : α → List D) {xs : List α} {i : Nat} {x : α} (h : xs[i]? = some x) : (xs.take (i + 1)).flatMap f = (xs.take i).flatMap f ++ f x := by
  rw [List.take_add_one, h]; simp
theorem sum_take (t : α → Nat) {xs : List α} {i : Nat} {x : α} (h : xs[i]? = some x) : ((xs.take (i + 1)).map t).sum = ((xs.take i).map t).sum + t x := by
  rw [List.take_add_one, h]; simp
theorem sum_take_le (t : α → Nat) (xs : List α) (i : Nat) : ((xs.take i).map t).sum ≤ (xs.map t).sum := by
  have h : (xs.map t).sum = ((xs.take i).map t).sum + ((xs.drop i).map t).sum := by
    rw [← List.sum_append, ← List.map_append, List.take_append_drop]
  omega
theorem mem_sum (t : α → Nat) {xs : List α} {x : α} (h : x ∈ xs) : t x ≤ (xs.map t).sum := by
  induction xs with
  | nil => simp at h
  | cons y ys ih =>
    rcases List.mem_cons.1 h with rfl | h
    · simp
    · have := ih h; simp; omega
theorem sum_full (t : α → Nat) (xs : List α) : ((xs.take xs.length).map t).sum = (xs.map t).sum := by simp
end
theorem wrap64 {n : Int} (h : -9223372036854775808 ≤ n) (h' : n ≤ 9223372036854775807) : IntKind.i64.wrap n = n := by rw [wrap_small] <;> omega
end Go.AM
