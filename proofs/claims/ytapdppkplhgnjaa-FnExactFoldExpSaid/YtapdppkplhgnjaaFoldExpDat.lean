/- Part of a proof: see the last text of this folder. -/
import Derived.Test.YtapdppkplhgnjaaAmBase
set_option linter.unusedSimpArgs false
set_option linter.unusedVariables false
namespace Go.AmC
open Go Go.AM
structure Exp where
  K : Int
  N : Int
  S : List UInt8
  L : List Exp
def Exp.d : Exp → List D
  | ⟨aK, aN, aS, aL⟩ => [.I .i64 aK, .I .i64 aN, .S aS, .L 34 (List.length aL) (List.flatMap Exp.d aL)]
@[simp] theorem Exp.d_eq (x : Exp) : Exp.d x = [.I .i64 x.K, .I .i64 x.N, .S x.S, .L 34 (List.length x.L) (List.flatMap Exp.d x.L)] := by cases x; rw [Exp.d]
theorem Exp.d_len (x : Exp) : (Exp.d x).length = 4 := by simp
def Exp.tot : Exp → Nat
  | ⟨aK, aN, aS, aL⟩ => (List.length aS) + (List.length aL + (List.map Exp.tot aL).sum)
theorem Exp.tot_eq (x : Exp) : Exp.tot x = (List.length x.S) + (List.length x.L + (List.map Exp.tot x.L).sum) := by cases x; rw [Exp.tot]
def Exp.lg : Exp → Prop
  | ⟨aK, aN, aS, aL⟩ => (List.length aS ≤ maxLen) ∧ (List.length aL ≤ maxLen ∧ ∀ y ∈ aL, (Exp.lg y))
theorem Exp.lg_eq (x : Exp) : Exp.lg x = ((List.length x.S ≤ maxLen) ∧ (List.length x.L ≤ maxLen ∧ ∀ y ∈ x.L, (Exp.lg y))) := by cases x; rw [Exp.lg]
theorem Exp.ind {P : Exp → Prop} (h : ∀ x : Exp, (∀ y ∈ x.L, P y) → P x) : ∀ x, P x
  | ⟨_, _, _, l⟩ => h _ fun y _ => Exp.ind h y
end Go.AmC
