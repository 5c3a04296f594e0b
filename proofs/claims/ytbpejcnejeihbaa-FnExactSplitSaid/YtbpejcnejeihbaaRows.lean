/-
  NARROWER THAN 'FOR EVERY INPUT', by the rows' own cells (each row's printed sentence says how): FnExactFoldStmt: loops · FnExactFoldProg: loops · FnExactCanSplit: loops · FnExactAlike: loops · FnExactSplit: loops.
  DERIVED. THE GIVEN ROWS OF THIS SEAT. 5 by the template 'for every input the law returns true; each argument reads behind the call as it read before'; 0 by the template 'total and deterministic' (their statements: YtbpejcnejeihbaaTotals.lean).
  GIVEN WITH THE SEED: the statements are not yours to turn. If you find one false, say at which input.
  Laid BY PROGRAM, IN A SANDBOX (cutbox-rows.mjs): the forced cells as the released guide's own fill.sh prints them over the translation 946de852436470b9… (all of the seat's roots in one cut). By AI agents, Wed Nov 11 2026. No macro, syntax, notation, axiom, sorry.
-/
import Derived.Test.YtbpejcnejeihbaaChecked
import GoSem.Claim
import GoSem.ClaimJoined
import GoSem.ClaimMapViews
import Derived.JoinedTies
import Derived.KernelRfl
namespace Go.Proofs.Ytbpejcnejeihbaa
/- THE CELL 'sum', in the pinned program and in every row, IS THE sha256 OF THE DUMP (.gsa) THAT YtbpejcnejeihbaaProg.lean LOADS. Nothing in Lean hashes anything: it is a label: what it is worth is what the hold of that sum in a sandbox is worth. -/
noncomputable def Try.pinned : Pinned := { name := "ytbpejcnejeihbaa", sum := "946de852436470b9a60bd15af8bfe250841a67ae26e1fb5c23d0a93ae5d97bb9", checked := Try.checked }
namespace Rows
def none {H : Type} : Left H := { results := [], args := [] }

/-- 'laws.FnExactFoldStmt': WHATEVER THE INPUT: true; the input reads as it did. -/
def fnExactFoldStmtSpec : ChangeSpec := { name := "fnExactFoldStmt", fn := fun _ => fun
  | [d] => { results := [.lit (.bool true)], args := [d] }
  | _ => none }
def fnExactFoldStmtRow : OpenClaim := { program := "ytbpejcnejeihbaa", sum := "946de852436470b9a60bd15af8bfe250841a67ae26e1fb5c23d0a93ae5d97bb9", func := "loop.example/g00476/laws.FnExactFoldStmt", spec := "fnExactFoldStmt", recurses := true, loops := true, apart := false }
def FnExactFoldStmtSaid : Prop := fnExactFoldStmtRow.holds Try.pinned (OpenSpec.ofChange fnExactFoldStmtSpec)

/-- ITS FALSE NEIGHBOUR: 'it returns false'. Refute it at one input. -/
def fnExactFoldStmtWrong : ChangeSpec := { name := "fnExactFoldStmt", fn := fun _ => fun
  | [d] => { results := [.lit (.bool false)], args := [d] }
  | _ => none }
def FnExactFoldStmtWrongFalsely : Prop := fnExactFoldStmtRow.holds Try.pinned (OpenSpec.ofChange fnExactFoldStmtWrong)

/-- 'laws.FnExactFoldProg': WHATEVER THE INPUT: true; the input reads as it did. -/
def fnExactFoldProgSpec : ChangeSpec := { name := "fnExactFoldProg", fn := fun _ => fun
  | [d] => { results := [.lit (.bool true)], args := [d] }
  | _ => none }
def fnExactFoldProgRow : OpenClaim := { program := "ytbpejcnejeihbaa", sum := "946de852436470b9a60bd15af8bfe250841a67ae26e1fb5c23d0a93ae5d97bb9", func := "loop.example/g00476/laws.FnExactFoldProg", spec := "fnExactFoldProg", recurses := true, loops := true, apart := false }
def FnExactFoldProgSaid : Prop := fnExactFoldProgRow.holds Try.pinned (OpenSpec.ofChange fnExactFoldProgSpec)

/-- ITS FALSE NEIGHBOUR: 'it returns false'. Refute it at one input. -/
def fnExactFoldProgWrong : ChangeSpec := { name := "fnExactFoldProg", fn := fun _ => fun
  | [d] => { results := [.lit (.bool false)], args := [d] }
  | _ => none }
def FnExactFoldProgWrongFalsely : Prop := fnExactFoldProgRow.holds Try.pinned (OpenSpec.ofChange fnExactFoldProgWrong)

/-- 'laws.FnExactCanSplit': WHATEVER THE INPUT: true; the input reads as it did. -/
def fnExactCanSplitSpec : ChangeSpec := { name := "fnExactCanSplit", fn := fun _ => fun
  | [d1, d2] => { results := [.lit (.bool true)], args := [d1, d2] }
  | _ => none }
def fnExactCanSplitRow : OpenClaim := { program := "ytbpejcnejeihbaa", sum := "946de852436470b9a60bd15af8bfe250841a67ae26e1fb5c23d0a93ae5d97bb9", func := "loop.example/g00476/laws.FnExactCanSplit", spec := "fnExactCanSplit", unfollowed := true, recurses := true, loops := true, apart := false }
def FnExactCanSplitSaid : Prop := fnExactCanSplitRow.holds Try.pinned (OpenSpec.ofChange fnExactCanSplitSpec)

/-- ITS FALSE NEIGHBOUR: 'it returns false'. Refute it at one input. -/
def fnExactCanSplitWrong : ChangeSpec := { name := "fnExactCanSplit", fn := fun _ => fun
  | [d1, d2] => { results := [.lit (.bool false)], args := [d1, d2] }
  | _ => none }
def FnExactCanSplitWrongFalsely : Prop := fnExactCanSplitRow.holds Try.pinned (OpenSpec.ofChange fnExactCanSplitWrong)

/-- 'laws.FnExactAlike': WHATEVER THE INPUT: true; the input reads as it did. -/
def fnExactAlikeSpec : ChangeSpec := { name := "fnExactAlike", fn := fun _ => fun
  | [d1, d2] => { results := [.lit (.bool true)], args := [d1, d2] }
  | _ => none }
def fnExactAlikeRow : OpenClaim := { program := "ytbpejcnejeihbaa", sum := "946de852436470b9a60bd15af8bfe250841a67ae26e1fb5c23d0a93ae5d97bb9", func := "loop.example/g00476/laws.FnExactAlike", spec := "fnExactAlike", unfollowed := true, recurses := true, loops := true, apart := false }
def FnExactAlikeSaid : Prop := fnExactAlikeRow.holds Try.pinned (OpenSpec.ofChange fnExactAlikeSpec)

/-- ITS FALSE NEIGHBOUR: 'it returns false'. Refute it at one input. -/
def fnExactAlikeWrong : ChangeSpec := { name := "fnExactAlike", fn := fun _ => fun
  | [d1, d2] => { results := [.lit (.bool false)], args := [d1, d2] }
  | _ => none }
def FnExactAlikeWrongFalsely : Prop := fnExactAlikeRow.holds Try.pinned (OpenSpec.ofChange fnExactAlikeWrong)

/-- 'laws.FnExactSplit': WHATEVER THE INPUT: true; the input reads as it did. -/
def fnExactSplitSpec : ChangeSpec := { name := "fnExactSplit", fn := fun _ => fun
  | [d1, d2] => { results := [.lit (.bool true)], args := [d1, d2] }
  | _ => none }
def fnExactSplitRow : OpenClaim := { program := "ytbpejcnejeihbaa", sum := "946de852436470b9a60bd15af8bfe250841a67ae26e1fb5c23d0a93ae5d97bb9", func := "loop.example/g00476/laws.FnExactSplit", spec := "fnExactSplit", unfollowed := true, recurses := true, loops := true, apart := false }
def FnExactSplitSaid : Prop := fnExactSplitRow.holds Try.pinned (OpenSpec.ofChange fnExactSplitSpec)

/-- ITS FALSE NEIGHBOUR: 'it returns false'. Refute it at one input. -/
def fnExactSplitWrong : ChangeSpec := { name := "fnExactSplit", fn := fun _ => fun
  | [d1, d2] => { results := [.lit (.bool false)], args := [d1, d2] }
  | _ => none }
def FnExactSplitWrongFalsely : Prop := fnExactSplitRow.holds Try.pinned (OpenSpec.ofChange fnExactSplitWrong)

/- THE SECOND FORM. 'bulk': how many values and letters a reading holds, each counted each time it is reached (what is shared counts as often as it is met; a slice's spare places count too). A statement '..UptoSaid' is the law's where the arguments, and the package variables that the reading takes, are together of bulk at most 1048576: NARROWER than '..Said'. Prove '..Said' where nothing that the law and all that it calls make is longer than what came in: it says more and counts as full. Else prove '..UptoSaid'. A law counts once. -/
mutual
def uptoBulk {H : Type} : DataW H → Nat
  | .lit (.string bytes) => bytes.length + 1
  | .lit _ => 1
  | .nil => 1
  | .ptr d => uptoBulk d + 1
  | .slice elems spare => uptoBulkAll elems + uptoBulkAll spare + 1
  | .agg parts => uptoBulkAll parts + 1
  | .iface _ d => uptoBulk d + 1
  | .map entries => uptoBulkEntries entries + 1
  | .held _ => 1
def uptoBulkAll {H : Type} : List (DataW H) → Nat
  | [] => 0
  | d :: r => uptoBulk d + uptoBulkAll r
def uptoBulkEntries {H : Type} : List (Lit × DataW H) → Nat
  | [] => 0
  | x :: r => uptoBulkEntry x + uptoBulkEntries r
def uptoBulkEntry {H : Type} : Lit × DataW H → Nat
  | (.string bytes, d) => bytes.length + uptoBulk d + 1
  | (_, d) => uptoBulk d + 1
 end
def uptoSmall : (H : Type) → List (DataW H) → Bool := fun _ ds => decide (uptoBulkAll ds ≤ 1048576)
def OpenSpec.upto (s : _root_.Go.ChangeSpec) : _root_.Go.OpenSpec := { _root_.Go.OpenSpec.ofChange s with cond := some uptoSmall }

/-- 'laws.FnExactFoldStmt', WHERE WHAT IT READS IS OF BULK AT MOST 1048576: true; the input reads as it did. -/
def fnExactFoldStmtUptoRow : OpenClaim := { program := "ytbpejcnejeihbaa", sum := "946de852436470b9a60bd15af8bfe250841a67ae26e1fb5c23d0a93ae5d97bb9", func := "loop.example/g00476/laws.FnExactFoldStmt", spec := "fnExactFoldStmt", recurses := true, loops := true, apart := false, narrowed := true }
def FnExactFoldStmtUptoSaid : Prop := fnExactFoldStmtUptoRow.holds Try.pinned (OpenSpec.upto fnExactFoldStmtSpec)

/-- 'laws.FnExactFoldProg', WHERE WHAT IT READS IS OF BULK AT MOST 1048576: true; the input reads as it did. -/
def fnExactFoldProgUptoRow : OpenClaim := { program := "ytbpejcnejeihbaa", sum := "946de852436470b9a60bd15af8bfe250841a67ae26e1fb5c23d0a93ae5d97bb9", func := "loop.example/g00476/laws.FnExactFoldProg", spec := "fnExactFoldProg", recurses := true, loops := true, apart := false, narrowed := true }
def FnExactFoldProgUptoSaid : Prop := fnExactFoldProgUptoRow.holds Try.pinned (OpenSpec.upto fnExactFoldProgSpec)

/-- 'laws.FnExactCanSplit', WHERE WHAT IT READS IS OF BULK AT MOST 1048576: true; the input reads as it did. -/
def fnExactCanSplitUptoRow : OpenClaim := { program := "ytbpejcnejeihbaa", sum := "946de852436470b9a60bd15af8bfe250841a67ae26e1fb5c23d0a93ae5d97bb9", func := "loop.example/g00476/laws.FnExactCanSplit", spec := "fnExactCanSplit", unfollowed := true, recurses := true, loops := true, apart := false, narrowed := true }
def FnExactCanSplitUptoSaid : Prop := fnExactCanSplitUptoRow.holds Try.pinned (OpenSpec.upto fnExactCanSplitSpec)

/-- 'laws.FnExactAlike', WHERE WHAT IT READS IS OF BULK AT MOST 1048576: true; the input reads as it did. -/
def fnExactAlikeUptoRow : OpenClaim := { program := "ytbpejcnejeihbaa", sum := "946de852436470b9a60bd15af8bfe250841a67ae26e1fb5c23d0a93ae5d97bb9", func := "loop.example/g00476/laws.FnExactAlike", spec := "fnExactAlike", unfollowed := true, recurses := true, loops := true, apart := false, narrowed := true }
def FnExactAlikeUptoSaid : Prop := fnExactAlikeUptoRow.holds Try.pinned (OpenSpec.upto fnExactAlikeSpec)

/-- 'laws.FnExactSplit', WHERE WHAT IT READS IS OF BULK AT MOST 1048576: true; the input reads as it did. -/
def fnExactSplitUptoRow : OpenClaim := { program := "ytbpejcnejeihbaa", sum := "946de852436470b9a60bd15af8bfe250841a67ae26e1fb5c23d0a93ae5d97bb9", func := "loop.example/g00476/laws.FnExactSplit", spec := "fnExactSplit", unfollowed := true, recurses := true, loops := true, apart := false, narrowed := true }
def FnExactSplitUptoSaid : Prop := fnExactSplitUptoRow.holds Try.pinned (OpenSpec.upto fnExactSplitSpec)

end Rows
end Go.Proofs.Ytbpejcnejeihbaa
