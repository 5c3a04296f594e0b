/-
  DERIVED. GIVEN WITH THE SEED: THE CARDS: each row of YtodlnccdpbpokaaDoorRows.lean that lists a variable, with what it lists TIED to the program's text (the seventh form; the later family's looks); each row that meets fmt, with fmt's text TOLD by the authors' own Lean function (tested against real Go, not proved from fmt's source: count such statements apart). THE CARD IS WHAT COUNTS. Prove the row's statement (the work); the ties are given (YtodlnccdpbpokaaDoorTie.lean); close each card by the builder's one call (the guide's Derived/Test/ToyasCard.lean, 'card_holds'). Laid BY PROGRAM, IN A SANDBOX (cutbox-door.mjs). By AI agents, Wed Nov 11 2026. No macro, syntax, notation, axiom, sorry.
-/
import Derived.Test.YtodlnccdpbpokaaDoorRows
import GoSem.ClaimSeven
namespace Go.Proofs.YtodlnccdpbpokaaDoor
namespace Rows

/-- THE TIED CARD OF 'laws.FnExactPlanText'. -/
def fnExactPlanTextCard : Claim7 := { stood := { row := fnExactPlanTextRow, standIns := [], harness := (true, "3c95ef153fbb362a2cc81d0fc5686ba83a3d8b140169cee89a1337b3cc05e9ca"), looks := false }, kinds := [], alts := [], laidByText := true, laidKinds := [.data, .data, .data], laidTests := true, laidLooks := .later }
def FnExactPlanTextCardSaid : Prop := Claim7.holds Tryd.pinned (.plain (OpenSpec.ofChange fnExactPlanTextSpec)) fnExactPlanTextCard

/-- THE TIED CARD OF 'laws.FnExactAffText'. -/
def fnExactAffTextCard : Claim7 := { stood := { row := fnExactAffTextRow, standIns := [], harness := (true, "3c95ef153fbb362a2cc81d0fc5686ba83a3d8b140169cee89a1337b3cc05e9ca"), looks := false }, kinds := [], alts := [], laidByText := true, laidKinds := [.data, .data, .data], laidTests := true, laidLooks := .later }
def FnExactAffTextCardSaid : Prop := Claim7.holds Tryd.pinned (.plain (OpenSpec.ofChange fnExactAffTextSpec)) fnExactAffTextCard

/-- THE SECOND FORM's CARD OF 'laws.FnExactPlanText'. -/
def fnExactPlanTextUptoCard : Claim7 := { stood := { row := fnExactPlanTextUptoRow, standIns := [], harness := (true, "3c95ef153fbb362a2cc81d0fc5686ba83a3d8b140169cee89a1337b3cc05e9ca"), looks := false }, kinds := [], alts := [], laidByText := true, laidKinds := [.data, .data, .data], laidTests := true, laidLooks := .later }
def FnExactPlanTextUptoCardSaid : Prop := Claim7.holds Tryd.pinned (.plain (OpenSpec.upto fnExactPlanTextSpec)) fnExactPlanTextUptoCard

/-- THE SECOND FORM's CARD OF 'laws.FnExactAffText'. -/
def fnExactAffTextUptoCard : Claim7 := { stood := { row := fnExactAffTextUptoRow, standIns := [], harness := (true, "3c95ef153fbb362a2cc81d0fc5686ba83a3d8b140169cee89a1337b3cc05e9ca"), looks := false }, kinds := [], alts := [], laidByText := true, laidKinds := [.data, .data, .data], laidTests := true, laidLooks := .later }
def FnExactAffTextUptoCardSaid : Prop := Claim7.holds Tryd.pinned (.plain (OpenSpec.upto fnExactAffTextSpec)) fnExactAffTextUptoCard
end Rows
end Go.Proofs.YtodlnccdpbpokaaDoor
