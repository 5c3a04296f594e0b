/- Part of a proof: see the last text of this folder. -/
import Derived.Test.YtodlnccdpbpokaaDoorAmBase
set_option linter.unusedSimpArgs false
set_option linter.unusedVariables false
namespace Go.AmC
open Go Go.AM
structure Term where
  Name : List UInt8
  N : Int
def Term.d : Term → List D
  | ⟨aName, aN⟩ => [.S aName, .I .i64 aN]
@[simp] theorem Term.d_eq (x : Term) : Term.d x = [.S x.Name, .I .i64 x.N] := by cases x; rw [Term.d]
theorem Term.d_len (x : Term) : (Term.d x).length = 2 := by simp
def Term.tot : Term → Nat
  | ⟨aName, aN⟩ => (List.length aName)
theorem Term.tot_eq (x : Term) : Term.tot x = (List.length x.Name) := by cases x; rw [Term.tot]
def Term.lg : Term → Prop
  | ⟨aName, aN⟩ => (List.length aName ≤ maxLen)
theorem Term.lg_eq (x : Term) : Term.lg x = ((List.length x.Name ≤ maxLen)) := by cases x; rw [Term.lg]
structure Aff where
  C : Int
  T : List Term
def Aff.d : Aff → List D
  | ⟨aC, aT⟩ => [.I .i64 aC, .L 49 (List.length aT) (List.flatMap Term.d aT)]
@[simp] theorem Aff.d_eq (x : Aff) : Aff.d x = [.I .i64 x.C, .L 49 (List.length x.T) (List.flatMap Term.d x.T)] := by cases x; rw [Aff.d]
theorem Aff.d_len (x : Aff) : (Aff.d x).length = 2 := by simp
def Aff.tot : Aff → Nat
  | ⟨aC, aT⟩ => (List.length aT + (List.map Term.tot aT).sum)
theorem Aff.tot_eq (x : Aff) : Aff.tot x = (List.length x.T + (List.map Term.tot x.T).sum) := by cases x; rw [Aff.tot]
def Aff.lg : Aff → Prop
  | ⟨aC, aT⟩ => (List.length aT ≤ maxLen ∧ ∀ y ∈ aT, (Term.lg y))
theorem Aff.lg_eq (x : Aff) : Aff.lg x = ((List.length x.T ≤ maxLen ∧ ∀ y ∈ x.T, (Term.lg y))) := by cases x; rw [Aff.lg]
end Go.AmC
