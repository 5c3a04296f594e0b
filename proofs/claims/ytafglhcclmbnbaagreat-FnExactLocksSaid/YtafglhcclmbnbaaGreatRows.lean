/-
  NARROWER THAN 'FOR EVERY INPUT', by the rows' own cells (each row's printed sentence says how): FnExactSplitAt: loops · FnExactLocks: loops · FnExactFair: loops · FnExactPicks: loops · FnExactFuse: loops · FnExactFuseAll: loops · FnExactSwapAll: loops.
  DERIVED. THE GIVEN ROWS OF THIS SEAT. 7 by the template 'for every input the law returns true; each argument reads behind the call as it read before'; 0 by the template 'total and deterministic' (their statements: YtafglhcclmbnbaaGreatTotals.lean).
  GIVEN WITH THE SEED: the statements are not yours to turn. If you find one false, say at which input.
  Laid BY PROGRAM, IN A SANDBOX (cutbox-rows.mjs): the forced cells as the released guide's own fill.sh prints them over the translation 181b51d925c28532… (all of the seat's roots in one cut). By AI agents, Wed Nov 11 2026. No macro, syntax, notation, axiom, sorry.
-/
import Derived.Test.YtafglhcclmbnbaaGreatChecked
import GoSem.Claim
import GoSem.ClaimJoined
import GoSem.ClaimMapViews
import Derived.JoinedTies
import Derived.KernelRfl
namespace Go.Proofs.YtafglhcclmbnbaaGreat
/- THE CELL 'sum', in the pinned program and in every row, IS THE sha256 OF THE DUMP (.gsa) THAT YtafglhcclmbnbaaGreatProg.lean LOADS. Nothing in Lean hashes anything: it is a label: what it is worth is what the hold of that sum in a sandbox is worth. -/
noncomputable def Tryz.pinned : Pinned := { name := "ytafglhcclmbnbaagreat", sum := "181b51d925c28532feeefaf6392772b7463bf9fd2fcee0f7be9c75aeecdf8f4a", checked := Tryz.checked }
namespace Rows
def none {H : Type} : Left H := { results := [], args := [] }

/-- 'laws.FnExactSplitAt': WHATEVER THE INPUT: true; the input reads as it did. -/
def fnExactSplitAtSpec : ChangeSpec := { name := "fnExactSplitAt", fn := fun _ => fun
  | [d1, d2, d3] => { results := [.lit (.bool true)], args := [d1, d2, d3] }
  | _ => none }
def fnExactSplitAtRow : OpenClaim := { program := "ytafglhcclmbnbaagreat", sum := "181b51d925c28532feeefaf6392772b7463bf9fd2fcee0f7be9c75aeecdf8f4a", func := "loop.example/g00476/laws.FnExactSplitAt", spec := "fnExactSplitAt", inPlace := ["slices.overlaps[loop.example/g00476/impl.Stmt]"], unfollowed := true, recurses := true, loops := true, apart := false }
def FnExactSplitAtSaid : Prop := fnExactSplitAtRow.holds Tryz.pinned (OpenSpec.ofChange fnExactSplitAtSpec)

/-- ITS FALSE NEIGHBOUR: 'it returns false'. Refute it at one input. -/
def fnExactSplitAtWrong : ChangeSpec := { name := "fnExactSplitAt", fn := fun _ => fun
  | [d1, d2, d3] => { results := [.lit (.bool false)], args := [d1, d2, d3] }
  | _ => none }
def FnExactSplitAtWrongFalsely : Prop := fnExactSplitAtRow.holds Tryz.pinned (OpenSpec.ofChange fnExactSplitAtWrong)

/-- 'laws.FnExactLocks': WHATEVER THE INPUT: true; the input reads as it did. -/
def fnExactLocksSpec : ChangeSpec := { name := "fnExactLocks", fn := fun _ => fun
  | [d1, d2, d3] => { results := [.lit (.bool true)], args := [d1, d2, d3] }
  | _ => none }
def fnExactLocksRow : OpenClaim := { program := "ytafglhcclmbnbaagreat", sum := "181b51d925c28532feeefaf6392772b7463bf9fd2fcee0f7be9c75aeecdf8f4a", func := "loop.example/g00476/laws.FnExactLocks", spec := "fnExactLocks", unfollowed := true, recurses := true, loops := true, apart := false }
def FnExactLocksSaid : Prop := fnExactLocksRow.holds Tryz.pinned (OpenSpec.ofChange fnExactLocksSpec)

/-- ITS FALSE NEIGHBOUR: 'it returns false'. Refute it at one input. -/
def fnExactLocksWrong : ChangeSpec := { name := "fnExactLocks", fn := fun _ => fun
  | [d1, d2, d3] => { results := [.lit (.bool false)], args := [d1, d2, d3] }
  | _ => none }
def FnExactLocksWrongFalsely : Prop := fnExactLocksRow.holds Tryz.pinned (OpenSpec.ofChange fnExactLocksWrong)

/-- 'laws.FnExactFair': WHATEVER THE INPUT: true; the input reads as it did. -/
def fnExactFairSpec : ChangeSpec := { name := "fnExactFair", fn := fun _ => fun
  | [d1, d2, d3, d4] => { results := [.lit (.bool true)], args := [d1, d2, d3, d4] }
  | _ => none }
def fnExactFairRow : OpenClaim := { program := "ytafglhcclmbnbaagreat", sum := "181b51d925c28532feeefaf6392772b7463bf9fd2fcee0f7be9c75aeecdf8f4a", func := "loop.example/g00476/laws.FnExactFair", spec := "fnExactFair", unfollowed := true, recurses := true, loops := true, apart := false }
def FnExactFairSaid : Prop := fnExactFairRow.holds Tryz.pinned (OpenSpec.ofChange fnExactFairSpec)

/-- ITS FALSE NEIGHBOUR: 'it returns false'. Refute it at one input. -/
def fnExactFairWrong : ChangeSpec := { name := "fnExactFair", fn := fun _ => fun
  | [d1, d2, d3, d4] => { results := [.lit (.bool false)], args := [d1, d2, d3, d4] }
  | _ => none }
def FnExactFairWrongFalsely : Prop := fnExactFairRow.holds Tryz.pinned (OpenSpec.ofChange fnExactFairWrong)

/-- 'laws.FnExactPicks': WHATEVER THE INPUT: true; the input reads as it did. -/
def fnExactPicksSpec : ChangeSpec := { name := "fnExactPicks", fn := fun _ => fun
  | [d1, d2, d3, d4] => { results := [.lit (.bool true)], args := [d1, d2, d3, d4] }
  | _ => none }
def fnExactPicksRow : OpenClaim := { program := "ytafglhcclmbnbaagreat", sum := "181b51d925c28532feeefaf6392772b7463bf9fd2fcee0f7be9c75aeecdf8f4a", func := "loop.example/g00476/laws.FnExactPicks", spec := "fnExactPicks", unfollowed := true, recurses := true, loops := true, apart := false }
def FnExactPicksSaid : Prop := fnExactPicksRow.holds Tryz.pinned (OpenSpec.ofChange fnExactPicksSpec)

/-- ITS FALSE NEIGHBOUR: 'it returns false'. Refute it at one input. -/
def fnExactPicksWrong : ChangeSpec := { name := "fnExactPicks", fn := fun _ => fun
  | [d1, d2, d3, d4] => { results := [.lit (.bool false)], args := [d1, d2, d3, d4] }
  | _ => none }
def FnExactPicksWrongFalsely : Prop := fnExactPicksRow.holds Tryz.pinned (OpenSpec.ofChange fnExactPicksWrong)

/-- 'laws.FnExactFuse': WHATEVER THE INPUT: true; the input reads as it did. -/
def fnExactFuseSpec : ChangeSpec := { name := "fnExactFuse", fn := fun _ => fun
  | [d1, d2, d3] => { results := [.lit (.bool true)], args := [d1, d2, d3] }
  | _ => none }
def fnExactFuseRow : OpenClaim := { program := "ytafglhcclmbnbaagreat", sum := "181b51d925c28532feeefaf6392772b7463bf9fd2fcee0f7be9c75aeecdf8f4a", func := "loop.example/g00476/laws.FnExactFuse", spec := "fnExactFuse", unfollowed := true, recurses := true, loops := true, apart := false }
def FnExactFuseSaid : Prop := fnExactFuseRow.holds Tryz.pinned (OpenSpec.ofChange fnExactFuseSpec)

/-- ITS FALSE NEIGHBOUR: 'it returns false'. Refute it at one input. -/
def fnExactFuseWrong : ChangeSpec := { name := "fnExactFuse", fn := fun _ => fun
  | [d1, d2, d3] => { results := [.lit (.bool false)], args := [d1, d2, d3] }
  | _ => none }
def FnExactFuseWrongFalsely : Prop := fnExactFuseRow.holds Tryz.pinned (OpenSpec.ofChange fnExactFuseWrong)

/-- 'laws.FnExactFuseAll': WHATEVER THE INPUT: true; the input reads as it did. -/
def fnExactFuseAllSpec : ChangeSpec := { name := "fnExactFuseAll", fn := fun _ => fun
  | [d] => { results := [.lit (.bool true)], args := [d] }
  | _ => none }
def fnExactFuseAllRow : OpenClaim := { program := "ytafglhcclmbnbaagreat", sum := "181b51d925c28532feeefaf6392772b7463bf9fd2fcee0f7be9c75aeecdf8f4a", func := "loop.example/g00476/laws.FnExactFuseAll", spec := "fnExactFuseAll", unfollowed := true, recurses := true, loops := true, apart := false }
def FnExactFuseAllSaid : Prop := fnExactFuseAllRow.holds Tryz.pinned (OpenSpec.ofChange fnExactFuseAllSpec)

/-- ITS FALSE NEIGHBOUR: 'it returns false'. Refute it at one input. -/
def fnExactFuseAllWrong : ChangeSpec := { name := "fnExactFuseAll", fn := fun _ => fun
  | [d] => { results := [.lit (.bool false)], args := [d] }
  | _ => none }
def FnExactFuseAllWrongFalsely : Prop := fnExactFuseAllRow.holds Tryz.pinned (OpenSpec.ofChange fnExactFuseAllWrong)

/-- 'laws.FnExactSwapAll': WHATEVER THE INPUT: true; the input reads as it did. -/
def fnExactSwapAllSpec : ChangeSpec := { name := "fnExactSwapAll", fn := fun _ => fun
  | [d] => { results := [.lit (.bool true)], args := [d] }
  | _ => none }
def fnExactSwapAllRow : OpenClaim := { program := "ytafglhcclmbnbaagreat", sum := "181b51d925c28532feeefaf6392772b7463bf9fd2fcee0f7be9c75aeecdf8f4a", func := "loop.example/g00476/laws.FnExactSwapAll", spec := "fnExactSwapAll", unfollowed := true, recurses := true, loops := true, apart := false }
def FnExactSwapAllSaid : Prop := fnExactSwapAllRow.holds Tryz.pinned (OpenSpec.ofChange fnExactSwapAllSpec)

/-- ITS FALSE NEIGHBOUR: 'it returns false'. Refute it at one input. -/
def fnExactSwapAllWrong : ChangeSpec := { name := "fnExactSwapAll", fn := fun _ => fun
  | [d] => { results := [.lit (.bool false)], args := [d] }
  | _ => none }
def FnExactSwapAllWrongFalsely : Prop := fnExactSwapAllRow.holds Tryz.pinned (OpenSpec.ofChange fnExactSwapAllWrong)

/- THE SECOND FORM. 'bulk': how many values and letters a reading holds, each counted each time it is reached (what is shared counts as often as it is met; a slice's spare places count too). A statement '..UptoSaid' is the law's where the arguments, and the package variables that the reading takes, are together of bulk at most 1048576: NARROWER than '..Said'. Prove '..Said' where nothing that the law and all that it calls make is longer than what came in: it says more and counts as full. Else prove '..UptoSaid'. A law counts once. -/
mutual
def uptoBulk {H : Type} : DataW H → Nat
  | .lit (.string bytes) => bytes.length + 1
  | .lit _ => 1
  | .nil => 1
  | .ptr d => uptoBulk d + 1
  | .slice elems spare => uptoBulkAll elems + uptoBulkAll spare + 1
  | .agg parts => uptoBulkAll parts + 1
  | .iface _ d => uptoBulk d + 1
  | .map entries => uptoBulkEntries entries + 1
  | .held _ => 1
def uptoBulkAll {H : Type} : List (DataW H) → Nat
  | [] => 0
  | d :: r => uptoBulk d + uptoBulkAll r
def uptoBulkEntries {H : Type} : List (Lit × DataW H) → Nat
  | [] => 0
  | x :: r => uptoBulkEntry x + uptoBulkEntries r
def uptoBulkEntry {H : Type} : Lit × DataW H → Nat
  | (.string bytes, d) => bytes.length + uptoBulk d + 1
  | (_, d) => uptoBulk d + 1
 end
def uptoSmall : (H : Type) → List (DataW H) → Bool := fun _ ds => decide (uptoBulkAll ds ≤ 1048576)
def OpenSpec.upto (s : _root_.Go.ChangeSpec) : _root_.Go.OpenSpec := { _root_.Go.OpenSpec.ofChange s with cond := some uptoSmall }

/-- 'laws.FnExactSplitAt', WHERE WHAT IT READS IS OF BULK AT MOST 1048576: true; the input reads as it did. -/
def fnExactSplitAtUptoRow : OpenClaim := { program := "ytafglhcclmbnbaagreat", sum := "181b51d925c28532feeefaf6392772b7463bf9fd2fcee0f7be9c75aeecdf8f4a", func := "loop.example/g00476/laws.FnExactSplitAt", spec := "fnExactSplitAt", inPlace := ["slices.overlaps[loop.example/g00476/impl.Stmt]"], unfollowed := true, recurses := true, loops := true, apart := false, narrowed := true }
def FnExactSplitAtUptoSaid : Prop := fnExactSplitAtUptoRow.holds Tryz.pinned (OpenSpec.upto fnExactSplitAtSpec)

/-- 'laws.FnExactLocks', WHERE WHAT IT READS IS OF BULK AT MOST 1048576: true; the input reads as it did. -/
def fnExactLocksUptoRow : OpenClaim := { program := "ytafglhcclmbnbaagreat", sum := "181b51d925c28532feeefaf6392772b7463bf9fd2fcee0f7be9c75aeecdf8f4a", func := "loop.example/g00476/laws.FnExactLocks", spec := "fnExactLocks", unfollowed := true, recurses := true, loops := true, apart := false, narrowed := true }
def FnExactLocksUptoSaid : Prop := fnExactLocksUptoRow.holds Tryz.pinned (OpenSpec.upto fnExactLocksSpec)

/-- 'laws.FnExactFair', WHERE WHAT IT READS IS OF BULK AT MOST 1048576: true; the input reads as it did. -/
def fnExactFairUptoRow : OpenClaim := { program := "ytafglhcclmbnbaagreat", sum := "181b51d925c28532feeefaf6392772b7463bf9fd2fcee0f7be9c75aeecdf8f4a", func := "loop.example/g00476/laws.FnExactFair", spec := "fnExactFair", unfollowed := true, recurses := true, loops := true, apart := false, narrowed := true }
def FnExactFairUptoSaid : Prop := fnExactFairUptoRow.holds Tryz.pinned (OpenSpec.upto fnExactFairSpec)

/-- 'laws.FnExactPicks', WHERE WHAT IT READS IS OF BULK AT MOST 1048576: true; the input reads as it did. -/
def fnExactPicksUptoRow : OpenClaim := { program := "ytafglhcclmbnbaagreat", sum := "181b51d925c28532feeefaf6392772b7463bf9fd2fcee0f7be9c75aeecdf8f4a", func := "loop.example/g00476/laws.FnExactPicks", spec := "fnExactPicks", unfollowed := true, recurses := true, loops := true, apart := false, narrowed := true }
def FnExactPicksUptoSaid : Prop := fnExactPicksUptoRow.holds Tryz.pinned (OpenSpec.upto fnExactPicksSpec)

/-- 'laws.FnExactFuse', WHERE WHAT IT READS IS OF BULK AT MOST 1048576: true; the input reads as it did. -/
def fnExactFuseUptoRow : OpenClaim := { program := "ytafglhcclmbnbaagreat", sum := "181b51d925c28532feeefaf6392772b7463bf9fd2fcee0f7be9c75aeecdf8f4a", func := "loop.example/g00476/laws.FnExactFuse", spec := "fnExactFuse", unfollowed := true, recurses := true, loops := true, apart := false, narrowed := true }
def FnExactFuseUptoSaid : Prop := fnExactFuseUptoRow.holds Tryz.pinned (OpenSpec.upto fnExactFuseSpec)

/-- 'laws.FnExactFuseAll', WHERE WHAT IT READS IS OF BULK AT MOST 1048576: true; the input reads as it did. -/
def fnExactFuseAllUptoRow : OpenClaim := { program := "ytafglhcclmbnbaagreat", sum := "181b51d925c28532feeefaf6392772b7463bf9fd2fcee0f7be9c75aeecdf8f4a", func := "loop.example/g00476/laws.FnExactFuseAll", spec := "fnExactFuseAll", unfollowed := true, recurses := true, loops := true, apart := false, narrowed := true }
def FnExactFuseAllUptoSaid : Prop := fnExactFuseAllUptoRow.holds Tryz.pinned (OpenSpec.upto fnExactFuseAllSpec)

/-- 'laws.FnExactSwapAll', WHERE WHAT IT READS IS OF BULK AT MOST 1048576: true; the input reads as it did. -/
def fnExactSwapAllUptoRow : OpenClaim := { program := "ytafglhcclmbnbaagreat", sum := "181b51d925c28532feeefaf6392772b7463bf9fd2fcee0f7be9c75aeecdf8f4a", func := "loop.example/g00476/laws.FnExactSwapAll", spec := "fnExactSwapAll", unfollowed := true, recurses := true, loops := true, apart := false, narrowed := true }
def FnExactSwapAllUptoSaid : Prop := fnExactSwapAllUptoRow.holds Tryz.pinned (OpenSpec.upto fnExactSwapAllSpec)

end Rows
end Go.Proofs.YtafglhcclmbnbaaGreat
