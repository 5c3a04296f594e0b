/- Part of a proof: see the last text of this folder. -/
import Derived.Test.YtapdppkplhgnjaaAmBase
set_option linter.unusedSimpArgs false
set_option linter.unusedVariables false
namespace Go.AmC
open Go Go.AM
structure Put where
  At : Int
  N : Int
def Put.d : Put → List D
  | ⟨aAt, aN⟩ => [.I .i64 aAt, .I .i64 aN]
@[simp] theorem Put.d_eq (x : Put) : Put.d x = [.I .i64 x.At, .I .i64 x.N] := by cases x; rw [Put.d]
theorem Put.d_len (x : Put) : (Put.d x).length = 2 := by simp
structure Hand where
  Pc : Int
  Stack : List Int
  Regs : List Int
  Shelf : List Put
  Here : Bool
  Done : Bool
def Hand.d : Hand → List D
  | ⟨aPc, aStack, aRegs, aShelf, aHere, aDone⟩ => [.I .i64 aPc, .L 3 (List.length aStack) (List.flatMap dInt aStack), .L 3 (List.length aRegs) (List.flatMap dInt aRegs), .L 124 (List.length aShelf) (List.flatMap Put.d aShelf), .B aHere, .B aDone]
@[simp] theorem Hand.d_eq (x : Hand) : Hand.d x = [.I .i64 x.Pc, .L 3 (List.length x.Stack) (List.flatMap dInt x.Stack), .L 3 (List.length x.Regs) (List.flatMap dInt x.Regs), .L 124 (List.length x.Shelf) (List.flatMap Put.d x.Shelf), .B x.Here, .B x.Done] := by cases x; rw [Hand.d]
theorem Hand.d_len (x : Hand) : (Hand.d x).length = 6 := by simp
def Hand.tot : Hand → Nat
  | ⟨aPc, aStack, aRegs, aShelf, aHere, aDone⟩ => (List.length aStack) + (List.length aRegs) + (List.length aShelf)
theorem Hand.tot_eq (x : Hand) : Hand.tot x = (List.length x.Stack) + (List.length x.Regs) + (List.length x.Shelf) := by cases x; rw [Hand.tot]
def Hand.lg : Hand → Prop
  | ⟨aPc, aStack, aRegs, aShelf, aHere, aDone⟩ => (List.length aStack ≤ maxLen) ∧ (List.length aRegs ≤ maxLen) ∧ (List.length aShelf ≤ maxLen)
theorem Hand.lg_eq (x : Hand) : Hand.lg x = ((List.length x.Stack ≤ maxLen) ∧ (List.length x.Regs ≤ maxLen) ∧ (List.length x.Shelf ≤ maxLen)) := by cases x; rw [Hand.lg]
structure Mach where
  Mem : List Int
  Hands : List Hand
  Out : List Int
  Trap : Bool
def Mach.d : Mach → List D
  | ⟨aMem, aHands, aOut, aTrap⟩ => [.L 3 (List.length aMem) (List.flatMap dInt aMem), .L 87 (List.length aHands) (List.flatMap Hand.d aHands), .L 3 (List.length aOut) (List.flatMap dInt aOut), .B aTrap]
@[simp] theorem Mach.d_eq (x : Mach) : Mach.d x = [.L 3 (List.length x.Mem) (List.flatMap dInt x.Mem), .L 87 (List.length x.Hands) (List.flatMap Hand.d x.Hands), .L 3 (List.length x.Out) (List.flatMap dInt x.Out), .B x.Trap] := by cases x; rw [Mach.d]
theorem Mach.d_len (x : Mach) : (Mach.d x).length = 4 := by simp
def Mach.tot : Mach → Nat
  | ⟨aMem, aHands, aOut, aTrap⟩ => (List.length aMem) + (List.length aHands + (List.map Hand.tot aHands).sum) + (List.length aOut)
theorem Mach.tot_eq (x : Mach) : Mach.tot x = (List.length x.Mem) + (List.length x.Hands + (List.map Hand.tot x.Hands).sum) + (List.length x.Out) := by cases x; rw [Mach.tot]
def Mach.lg : Mach → Prop
  | ⟨aMem, aHands, aOut, aTrap⟩ => (List.length aMem ≤ maxLen) ∧ (List.length aHands ≤ maxLen ∧ ∀ y ∈ aHands, (Hand.lg y)) ∧ (List.length aOut ≤ maxLen)
theorem Mach.lg_eq (x : Mach) : Mach.lg x = ((List.length x.Mem ≤ maxLen) ∧ (List.length x.Hands ≤ maxLen ∧ ∀ y ∈ x.Hands, (Hand.lg y)) ∧ (List.length x.Out ≤ maxLen)) := by cases x; rw [Mach.lg]
end Go.AmC
