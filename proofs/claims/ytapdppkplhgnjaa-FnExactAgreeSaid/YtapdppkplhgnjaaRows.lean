/-
  NARROWER THAN 'FOR EVERY INPUT', by the rows' own cells (each row's printed sentence says how): FnExactNested: loops · FnExactFoldExp: loops · FnExactAgree: loops.
  DERIVED. THE GIVEN ROWS OF THIS SEAT. 5 by the template 'for every input the law returns true; each argument reads behind the call as it read before'; 0 by the template 'total and deterministic' (their statements: YtapdppkplhgnjaaTotals.lean).
  GIVEN WITH THE SEED: the statements are not yours to turn. If you find one false, say at which input.
  Laid BY PROGRAM, IN A SANDBOX (cutbox-rows.mjs): the forced cells as the released guide's own fill.sh prints them over the translation 068b4043fc2ce917… (all of the seat's roots in one cut). By AI agents, Wed Nov 11 2026. No macro, syntax, notation, axiom, sorry.
-/
import Derived.Test.YtapdppkplhgnjaaChecked
import GoSem.Claim
import GoSem.ClaimJoined
import GoSem.ClaimMapViews
import Derived.JoinedTies
import Derived.KernelRfl
namespace Go.Proofs.Ytapdppkplhgnjaa
/- THE CELL 'sum', in the pinned program and in every row, IS THE sha256 OF THE DUMP (.gsa) THAT YtapdppkplhgnjaaProg.lean LOADS. Nothing in Lean hashes anything: it is a label: what it is worth is what the hold of that sum in a sandbox is worth. -/
noncomputable def Try.pinned : Pinned := { name := "ytapdppkplhgnjaa", sum := "068b4043fc2ce917f28b970624f57d89d253a5e5118854ac6945b5fe499f1c21", checked := Try.checked }
namespace Rows
def none {H : Type} : Left H := { results := [], args := [] }

/-- 'laws.FnExactKindText': WHATEVER THE INPUT: true; the input reads as it did. -/
def fnExactKindTextSpec : ChangeSpec := { name := "fnExactKindText", fn := fun _ => fun
  | [d] => { results := [.lit (.bool true)], args := [d] }
  | _ => none }
def fnExactKindTextRow : OpenClaim := { program := "ytapdppkplhgnjaa", sum := "068b4043fc2ce917f28b970624f57d89d253a5e5118854ac6945b5fe499f1c21", func := "loop.example/g00476/laws.FnExactKindText", spec := "fnExactKindText", apart := false }
def FnExactKindTextSaid : Prop := fnExactKindTextRow.holds Try.pinned (OpenSpec.ofChange fnExactKindTextSpec)

/-- ITS FALSE NEIGHBOUR: 'it returns false'. Refute it at one input. -/
def fnExactKindTextWrong : ChangeSpec := { name := "fnExactKindText", fn := fun _ => fun
  | [d] => { results := [.lit (.bool false)], args := [d] }
  | _ => none }
def FnExactKindTextWrongFalsely : Prop := fnExactKindTextRow.holds Try.pinned (OpenSpec.ofChange fnExactKindTextWrong)

/-- 'laws.FnExactNested': WHATEVER THE INPUT: true; the input reads as it did. -/
def fnExactNestedSpec : ChangeSpec := { name := "fnExactNested", fn := fun _ => fun
  | [d] => { results := [.lit (.bool true)], args := [d] }
  | _ => none }
def fnExactNestedRow : OpenClaim := { program := "ytapdppkplhgnjaa", sum := "068b4043fc2ce917f28b970624f57d89d253a5e5118854ac6945b5fe499f1c21", func := "loop.example/g00476/laws.FnExactNested", spec := "fnExactNested", recurses := true, loops := true, apart := false }
def FnExactNestedSaid : Prop := fnExactNestedRow.holds Try.pinned (OpenSpec.ofChange fnExactNestedSpec)

/-- ITS FALSE NEIGHBOUR: 'it returns false'. Refute it at one input. -/
def fnExactNestedWrong : ChangeSpec := { name := "fnExactNested", fn := fun _ => fun
  | [d] => { results := [.lit (.bool false)], args := [d] }
  | _ => none }
def FnExactNestedWrongFalsely : Prop := fnExactNestedRow.holds Try.pinned (OpenSpec.ofChange fnExactNestedWrong)

/-- 'laws.FnExactAllDone': WHATEVER THE INPUT: true; the input reads as it did. -/
def fnExactAllDoneSpec : ChangeSpec := { name := "fnExactAllDone", fn := fun _ => fun
  | [d] => { results := [.lit (.bool true)], args := [d] }
  | _ => none }
def fnExactAllDoneRow : OpenClaim := { program := "ytapdppkplhgnjaa", sum := "068b4043fc2ce917f28b970624f57d89d253a5e5118854ac6945b5fe499f1c21", func := "loop.example/g00476/laws.FnExactAllDone", spec := "fnExactAllDone", apart := false }
def FnExactAllDoneSaid : Prop := fnExactAllDoneRow.holds Try.pinned (OpenSpec.ofChange fnExactAllDoneSpec)

/-- ITS FALSE NEIGHBOUR: 'it returns false'. Refute it at one input. -/
def fnExactAllDoneWrong : ChangeSpec := { name := "fnExactAllDone", fn := fun _ => fun
  | [d] => { results := [.lit (.bool false)], args := [d] }
  | _ => none }
def FnExactAllDoneWrongFalsely : Prop := fnExactAllDoneRow.holds Try.pinned (OpenSpec.ofChange fnExactAllDoneWrong)

/-- 'laws.FnExactFoldExp': WHATEVER THE INPUT: true; the input reads as it did. -/
def fnExactFoldExpSpec : ChangeSpec := { name := "fnExactFoldExp", fn := fun _ => fun
  | [d] => { results := [.lit (.bool true)], args := [d] }
  | _ => none }
def fnExactFoldExpRow : OpenClaim := { program := "ytapdppkplhgnjaa", sum := "068b4043fc2ce917f28b970624f57d89d253a5e5118854ac6945b5fe499f1c21", func := "loop.example/g00476/laws.FnExactFoldExp", spec := "fnExactFoldExp", recurses := true, loops := true, apart := false }
def FnExactFoldExpSaid : Prop := fnExactFoldExpRow.holds Try.pinned (OpenSpec.ofChange fnExactFoldExpSpec)

/-- ITS FALSE NEIGHBOUR: 'it returns false'. Refute it at one input. -/
def fnExactFoldExpWrong : ChangeSpec := { name := "fnExactFoldExp", fn := fun _ => fun
  | [d] => { results := [.lit (.bool false)], args := [d] }
  | _ => none }
def FnExactFoldExpWrongFalsely : Prop := fnExactFoldExpRow.holds Try.pinned (OpenSpec.ofChange fnExactFoldExpWrong)

/-- 'laws.FnExactAgree': WHATEVER THE INPUT: true; the input reads as it did. -/
def fnExactAgreeSpec : ChangeSpec := { name := "fnExactAgree", fn := fun _ => fun
  | [d1, d2, d3] => { results := [.lit (.bool true)], args := [d1, d2, d3] }
  | _ => none }
def fnExactAgreeRow : OpenClaim := { program := "ytapdppkplhgnjaa", sum := "068b4043fc2ce917f28b970624f57d89d253a5e5118854ac6945b5fe499f1c21", func := "loop.example/g00476/laws.FnExactAgree", spec := "fnExactAgree", unfollowed := true, recurses := true, loops := true, apart := false }
def FnExactAgreeSaid : Prop := fnExactAgreeRow.holds Try.pinned (OpenSpec.ofChange fnExactAgreeSpec)

/-- ITS FALSE NEIGHBOUR: 'it returns false'. Refute it at one input. -/
def fnExactAgreeWrong : ChangeSpec := { name := "fnExactAgree", fn := fun _ => fun
  | [d1, d2, d3] => { results := [.lit (.bool false)], args := [d1, d2, d3] }
  | _ => none }
def FnExactAgreeWrongFalsely : Prop := fnExactAgreeRow.holds Try.pinned (OpenSpec.ofChange fnExactAgreeWrong)

/- THE SECOND FORM. 'bulk': how many values and letters a reading holds, each counted each time it is reached (what is shared counts as often as it is met; a slice's spare places count too). A statement '..UptoSaid' is the law's where the arguments, and the package variables that the reading takes, are together of bulk at most 1048576: NARROWER than '..Said'. Prove '..Said' where nothing that the law and all that it calls make is longer than what came in: it says more and counts as full. Else prove '..UptoSaid'. A law counts once. -/
mutual
def uptoBulk {H : Type} : DataW H → Nat
  | .lit (.string bytes) => bytes.length + 1
  | .lit _ => 1
  | .nil => 1
  | .ptr d => uptoBulk d + 1
  | .slice elems spare => uptoBulkAll elems + uptoBulkAll spare + 1
  | .agg parts => uptoBulkAll parts + 1
  | .iface _ d => uptoBulk d + 1
  | .map entries => uptoBulkEntries entries + 1
  | .held _ => 1
def uptoBulkAll {H : Type} : List (DataW H) → Nat
  | [] => 0
  | d :: r => uptoBulk d + uptoBulkAll r
def uptoBulkEntries {H : Type} : List (Lit × DataW H) → Nat
  | [] => 0
  | x :: r => uptoBulkEntry x + uptoBulkEntries r
def uptoBulkEntry {H : Type} : Lit × DataW H → Nat
  | (.string bytes, d) => bytes.length + uptoBulk d + 1
  | (_, d) => uptoBulk d + 1
 end
def uptoSmall : (H : Type) → List (DataW H) → Bool := fun _ ds => decide (uptoBulkAll ds ≤ 1048576)
def OpenSpec.upto (s : _root_.Go.ChangeSpec) : _root_.Go.OpenSpec := { _root_.Go.OpenSpec.ofChange s with cond := some uptoSmall }

/-- 'laws.FnExactKindText', WHERE WHAT IT READS IS OF BULK AT MOST 1048576: true; the input reads as it did. -/
def fnExactKindTextUptoRow : OpenClaim := { program := "ytapdppkplhgnjaa", sum := "068b4043fc2ce917f28b970624f57d89d253a5e5118854ac6945b5fe499f1c21", func := "loop.example/g00476/laws.FnExactKindText", spec := "fnExactKindText", apart := false, narrowed := true }
def FnExactKindTextUptoSaid : Prop := fnExactKindTextUptoRow.holds Try.pinned (OpenSpec.upto fnExactKindTextSpec)

/-- 'laws.FnExactNested', WHERE WHAT IT READS IS OF BULK AT MOST 1048576: true; the input reads as it did. -/
def fnExactNestedUptoRow : OpenClaim := { program := "ytapdppkplhgnjaa", sum := "068b4043fc2ce917f28b970624f57d89d253a5e5118854ac6945b5fe499f1c21", func := "loop.example/g00476/laws.FnExactNested", spec := "fnExactNested", recurses := true, loops := true, apart := false, narrowed := true }
def FnExactNestedUptoSaid : Prop := fnExactNestedUptoRow.holds Try.pinned (OpenSpec.upto fnExactNestedSpec)

/-- 'laws.FnExactAllDone', WHERE WHAT IT READS IS OF BULK AT MOST 1048576: true; the input reads as it did. -/
def fnExactAllDoneUptoRow : OpenClaim := { program := "ytapdppkplhgnjaa", sum := "068b4043fc2ce917f28b970624f57d89d253a5e5118854ac6945b5fe499f1c21", func := "loop.example/g00476/laws.FnExactAllDone", spec := "fnExactAllDone", apart := false, narrowed := true }
def FnExactAllDoneUptoSaid : Prop := fnExactAllDoneUptoRow.holds Try.pinned (OpenSpec.upto fnExactAllDoneSpec)

/-- 'laws.FnExactFoldExp', WHERE WHAT IT READS IS OF BULK AT MOST 1048576: true; the input reads as it did. -/
def fnExactFoldExpUptoRow : OpenClaim := { program := "ytapdppkplhgnjaa", sum := "068b4043fc2ce917f28b970624f57d89d253a5e5118854ac6945b5fe499f1c21", func := "loop.example/g00476/laws.FnExactFoldExp", spec := "fnExactFoldExp", recurses := true, loops := true, apart := false, narrowed := true }
def FnExactFoldExpUptoSaid : Prop := fnExactFoldExpUptoRow.holds Try.pinned (OpenSpec.upto fnExactFoldExpSpec)

/-- 'laws.FnExactAgree', WHERE WHAT IT READS IS OF BULK AT MOST 1048576: true; the input reads as it did. -/
def fnExactAgreeUptoRow : OpenClaim := { program := "ytapdppkplhgnjaa", sum := "068b4043fc2ce917f28b970624f57d89d253a5e5118854ac6945b5fe499f1c21", func := "loop.example/g00476/laws.FnExactAgree", spec := "fnExactAgree", unfollowed := true, recurses := true, loops := true, apart := false, narrowed := true }
def FnExactAgreeUptoSaid : Prop := fnExactAgreeUptoRow.holds Try.pinned (OpenSpec.upto fnExactAgreeSpec)

end Rows
end Go.Proofs.Ytapdppkplhgnjaa
