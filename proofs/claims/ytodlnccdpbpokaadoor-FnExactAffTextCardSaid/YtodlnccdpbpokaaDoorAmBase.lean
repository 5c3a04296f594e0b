/- Data of all kinds: what lies where; rows; sizes. -/
import Derived.Test.YtodlnccdpbpokaaDoorAmData
import Derived.Test.YtodlnccdpbpokaaDoorAmRead
set_option linter.unusedSimpArgs false
set_option linter.unusedVariables false
namespace Go.AM
open Go

def dInt (n : Int) : List D := [.I .i64 n]
def dBool (b : Bool) : List D := [.B b]
def dStr (s : List UInt8) : List D := [.S s]
@[simp] theorem dInt_eq {n : Int} : dInt n = [.I .i64 n] := rfl
@[simp] theorem dBool_eq {b : Bool} : dBool b = [.B b] := rfl
@[simp] theorem dStr_eq {s : List UInt8} : dStr s = [.S s] := rfl

/-- A number of 64 bits. -/
def i64R (n : Int) : Prop := -9223372036854775808 ≤ n ∧ n ≤ 9223372036854775807
theorem i64R_wf {n : Int} (h : (Lit.int .i64 n).wf = true) : i64R n := by
  simp [Lit.wf, IntKind.min, IntKind.max, IntKind.signed, IntKind.bits] at h
  exact h

/-- What is left of l behind t. -/
def szR (t : Nat) (l : Int) : Int := if (t : Int) ≤ l then l - t else -1

section
variable {α : Type}
theorem len_flat (f : α → List D) (k : Nat) (hl : ∀ x, (f x).length = k) (xs : List α) : (xs.flatMap f).length = xs.length * k := by
  induction xs with
  | nil => simp
  | cons x xs ih => simp [ih, hl, Nat.add_mul, Nat.add_comm]
theorem row_drop (f : α → List D) (k : Nat) (hl : ∀ x, (f x).length = k) : ∀ {xs : List α} {i : Nat} {x : α}, xs[i]? = some x → (xs.flatMap f).drop (i * k) = f x ++ (xs.drop (i + 1)).flatMap f
  | [], i, x, h => by simp at h
  | y :: ys, 0, x, h => by simp at h; subst h; simp
  | y :: ys, i + 1, x, h => by
    have := row_drop f k hl (xs := ys) (i := i) (x := x) (by simpa using h)
    rw [List.flatMap_cons, Nat.add_mul, Nat.one_mul, List.drop_append, List.drop_eq_nil_of_le (by rw [hl]; omega), hl]
    simpa using this
theorem flat_take (f : α → List D) {xs : List α} {i : Nat} {x : α} (h : xs[i]? = some x) : (xs.take (i + 1)).flatMap f = (xs.take i).flatMap f ++ f x := by
  rw [List.take_add_one, h]; simp
theorem sum_take (t : α → Nat) {xs : List α} {i : Nat} {x : α} (h : xs[i]? = some x) : ((xs.take (i + 1)).map t).sum = ((xs.take i).map t).sum + t x := by
  rw [List.take_add_one, h]; simp
theorem sum_take_le (t : α → Nat) (xs : List α) (i : Nat) : ((xs.take i).map t).sum ≤ (xs.map t).sum := by
  have h : (xs.map t).sum = ((xs.take i).map t).sum + ((xs.drop i).map t).sum := by
    rw [← List.sum_append, ← List.map_append, List.take_append_drop]
  omega
theorem mem_sum (t : α → Nat) {xs : List α} {x : α} (h : x ∈ xs) : t x ≤ (xs.map t).sum := by
  induction xs with
  | nil => simp at h
  | cons y ys ih =>
    rcases List.mem_cons.1 h with rfl | h
    · simp
    · have := ih h; simp; omega
theorem sum_full (t : α → Nat) (xs : List α) : ((xs.take xs.length).map t).sum = (xs.map t).sum := by simp
end
theorem wrap64 {n : Int} (h : -9223372036854775808 ≤ n) (h' : n ≤ 9223372036854775807) : IntKind.i64.wrap n = n := by rw [wrap_small] <;> omega

mutual
theorem noSt_Ow : ∀ (d : D), noSt (Ow d) = true
  | .I k n => by simp [noSt]
  | .B b => by simp [noSt]
  | .S s => by simp [noSt]
  | .L e n cs => by simp [noSt, noSts_Ows cs]
theorem noSts_Ows : ∀ (ds : List D), noSts (Ows ds) = true
  | [] => by simp [noSts]
  | d :: ds => by simp [noSts, noSt_Ow d, noSts_Ows ds]
end
mutual
theorem hr_Ow : ∀ (d : D), hr (Ow d) = false
  | .I k n => by simp [hr]
  | .B b => by simp [hr]
  | .S s => by simp [hr]
  | .L e n cs => by simp [hr, hrs_Ows cs]
theorem hrs_Ows : ∀ (ds : List D), hrs (Ows ds) = false
  | [] => by simp [hrs]
  | d :: ds => by simp [hrs, hr_Ow d, hrs_Ows ds]
end
attribute [simp] noSt_Ow noSts_Ows hr_Ow hrs_Ows
theorem drop_cons {α : Type} {xs : List α} {i : Nat} {x : α} (h : xs[i]? = some x) : xs.drop i = x :: xs.drop (i + 1) := by
  have hi := (List.getElem?_eq_some_iff.1 h).1
  rw [List.drop_eq_getElem_cons hi, (List.getElem?_eq_some_iff.1 h).2]
/-! ### Marking: each cell anew, one number behind the other -/
/-- The figures of a number; none for 0. -/
def decR (n : Nat) : List UInt8 := if n = 0 then [] else decR (n / 10) ++ [UInt8.ofNat (48 + n % 10)]
theorem decR_pos {n : Nat} (h : n ≠ 0) : decR n = decR (n / 10) ++ [UInt8.ofNat (48 + n % 10)] := by rw [decR, if_neg h]
theorem decR_len (n : Nat) : (decR n).length ≤ n := by
  induction n using Nat.strongRecOn with
  | _ n ih =>
    by_cases h : n = 0
    · subst h; rw [decR]; simp
    · rw [decR_pos h]
      have := ih (n / 10) (by omega)
      simp; omega
def mtx (k : Int) : List UInt8 := 109 :: decR k.toNat

section
variable {α : Type}
/-- A row of values, each made anew from a number that goes on. -/
def mkFold (f : α → Int → α × Int) (xs : List α) (k : Int) : List α × Int := xs.foldl (fun p x => (p.1 ++ [(f x p.2).1], (f x p.2).2)) ([], k)
theorem mkFold_succ (f : α → Int → α × Int) {xs : List α} {i : Nat} {x : α} (k : Int) (h : xs[i]? = some x) :
    mkFold f (xs.take (i + 1)) k = ((mkFold f (xs.take i) k).1 ++ [(f x (mkFold f (xs.take i) k).2).1], (f x (mkFold f (xs.take i) k).2).2) := by
  rw [List.take_add_one, h]; simp [mkFold]
theorem mkFold_acc (f : α → Int → α × Int) : ∀ (xs : List α) (a : List α) (k : Int), xs.foldl (fun p x => (p.1 ++ [(f x p.2).1], (f x p.2).2)) (a, k) = (a ++ (mkFold f xs k).1, (mkFold f xs k).2)
  | [], a, k => by simp [mkFold]
  | x :: xs, a, k => by
    rw [List.foldl_cons, mkFold_acc f xs]
    have h2 : mkFold f (x :: xs) k = ([] ++ [(f x k).1] ++ (mkFold f xs (f x k).2).1, (mkFold f xs (f x k).2).2) := by unfold mkFold; rw [List.foldl_cons]; exact mkFold_acc f xs _ _
    rw [h2]; simp
theorem mkFold_append (f : α → Int → α × Int) (xs ys : List α) (k : Int) : mkFold f (xs ++ ys) k = ((mkFold f xs k).1 ++ (mkFold f ys (mkFold f xs k).2).1, (mkFold f ys (mkFold f xs k).2).2) := by
  conv => lhs; unfold mkFold
  rw [List.foldl_append]
  exact mkFold_acc f ys _ _
theorem mkFold_length (f : α → Int → α × Int) : ∀ (xs : List α) (k : Int), (mkFold f xs k).1.length = xs.length
  | [], k => rfl
  | x :: xs, k => by
    have := mkFold_append f [x] xs k
    rw [List.singleton_append] at this
    rw [this, List.length_append, mkFold_length f xs]
    simp [mkFold]; omega
theorem mkFold_get (f : α → Int → α × Int) {xs : List α} {i : Nat} {x : α} (k : Int) (h : xs[i]? = some x) : (mkFold f xs k).1[i]? = some (f x (mkFold f (xs.take i) k).2).1 := by
  have hi : i < xs.length := (List.getElem?_eq_some_iff.1 h).1
  have := mkFold_append f (xs.take (i + 1)) (xs.drop (i + 1)) k
  rw [List.take_append_drop] at this
  rw [this, mkFold_succ f k h]
  have hl := mkFold_length f (xs.take i) k
  rw [List.length_take, Nat.min_eq_left (by omega)] at hl
  simp only
  rw [List.getElem?_append_left (by simp [hl]), List.getElem?_append_right (by omega)]
  simp [hl]
/-- How far the number goes. -/
theorem mkFold_bound (f : α → Int → α × Int) (t : α → Nat) : ∀ {xs : List α} {k : Int}, (∀ x ∈ xs, ∀ k, k ≤ (f x k).2 ∧ (f x k).2 ≤ k + 20 * (1 + t x : Nat)) → k ≤ (mkFold f xs k).2 ∧ (mkFold f xs k).2 ≤ k + 20 * (xs.length + (xs.map t).sum : Nat)
  | [], k, _ => by simp [mkFold]
  | x :: xs, k, h => by
    have := mkFold_append f [x] xs k
    rw [List.singleton_append] at this
    rw [this]
    have h1 := h x (by simp) k
    have h2 := mkFold_bound f t (xs := xs) (k := (f x k).2) (fun y hy => h y (by simp [hy]))
    simp only [mkFold, List.foldl_cons, List.foldl_nil] at h2 ⊢
    simp only [List.length_cons, List.map_cons, List.sum_cons]
    omega
theorem mkFold_one (g : Int → α) : ∀ (xs : List α) (k : Int), (mkFold (fun _ k => (g k, k + 1)) xs k).2 = k + xs.length
  | [], k => by simp [mkFold]
  | x :: xs, k => by
    have := mkFold_append (fun _ k => (g k, k + 1)) [x] xs k
    rw [List.singleton_append] at this
    rw [this]
    simp only [mkFold, List.foldl_cons, List.foldl_nil]
    have := mkFold_one g xs (k + 1)
    simp only [mkFold] at this
    rw [this]; simp; omega
end
/-! Rows with a part in the middle. -/
section
variable {A X : List AV} {n : Nat}
theorem mid_drop (h : A.length = n) (k : Nat) : (A ++ X).drop (n + k) = X.drop k := by rw [List.drop_append, List.drop_eq_nil_of_le (by omega), List.nil_append]; congr 1; omega
theorem mid_drop0 (h : A.length = n) : (A ++ X).drop n = X := by simpa using mid_drop (X := X) h 0
theorem mid_get (h : A.length = n) (k : Nat) : (A ++ X)[n + k]? = X[k]? := by rw [List.getElem?_append_right (by omega)]; congr 1; omega
theorem mid_get0 (h : A.length = n) : (A ++ X)[n]? = X[0]? := by simpa using mid_get (X := X) h 0
theorem mid_set (h : A.length = n) (k : Nat) (v : AV) : (A ++ X).set (n + k) v = A ++ X.set k v := by rw [List.set_append_right _ _ (by omega)]; congr 2; omega
theorem mid_set0 (h : A.length = n) (v : AV) : (A ++ X).set n v = A ++ X.set 0 v := by simpa using mid_set (X := X) h 0 v
def spl (cs : List AV) (off : Nat) (xs : List AV) : List AV := cs.take off ++ xs ++ cs.drop (off + xs.length)
theorem mid_splice (h : A.length = n) (k : Nat) (vs : List AV) : splice (A ++ X) (n + k) vs = A ++ spl X k vs := by
  unfold splice spl
  rw [List.take_append, List.take_of_length_le (by omega), List.append_assoc, List.append_assoc, List.drop_append, List.drop_eq_nil_of_le (by omega), List.nil_append]
  rw [show n + k - A.length = k by omega, show n + k + vs.length - A.length = k + vs.length by omega, List.append_assoc]
theorem mid_splice0 (h : A.length = n) (vs : List AV) : splice (A ++ X) n vs = A ++ spl X 0 vs := by simpa using mid_splice (X := X) h 0 vs
end
end Go.AM
