/- FnExactAffText (the tied card) of the seat: for every input the law returns true and leaves its arguments as they were. No condition. -/
import Derived.Test.YtodlnccdpbpokaaDoorRows
import Derived.Test.YtodlnccdpbpokaaDoorCards
import Derived.Test.YtodlnccdpbpokaaDoorTie
import Derived.ProofKit
import Derived.LaidMore
import Derived.OpenShut
import Derived.Stop.Joined
import Derived.Stop.LaidErr
import Derived.SevenTiedAt
import Derived.Lib.LaidTab
import Derived.Test.YtodlnccdpbpokaaDoorAffTextAffText
import Derived.Test.YtodlnccdpbpokaaDoorAffTextRd
import Derived.Test.YtodlnccdpbpokaaDoorAmBridge
import Derived.JoinedOf
import Derived.WalkKit
namespace Go.Proofs.YtodlnccdpbpokaaDoor.fnExactAffText
open Go.ChangeShapes Go.WideShapes Go.ChangeAt Go.RowKit
open Go.AM (Rd_length agg_of_rd law_of_says hr_Cs)
set_option linter.unusedVariables false
set_option linter.unusedSimpArgs false

theorem own : ownKnob Tryd.prog.godebug = none := by kernel_rfl

theorem door_met (os : Os) (args : Array Value) : laidMetH Tryd.prog Rows.fnExactAffTextRow.laid ((World.doorLaid Tryd.prog 400 os).forCall (fun _ _ => 0) ⟨#[], args, []⟩).memory :=
  laidMetH_of_parts3 (fuel := 8) (laidMet_of_run' 8 (by kernel_rfl) (by kernel_rfl)) (by kernel_rfl) (by kernel_rfl)
theorem of_laid {W : World} (h : laidMetH Tryd.prog Rows.fnExactAffTextRow.laid W) : Go.AM.Tabs Tryd.prog W (fun b => b < W.heap.size) := by
  rw [MakeChecks.laidMetH_plain _ _ _ (by kernel_rfl)] at h
  have e : (Rows.laid_internal_strconv_uint64pow10 : DataW Unit) = Lib.tabData .u64 Lib.pow10Tab := by kernel_rfl
  have h2 : laidMet Tryd.prog [("math/bits.deBruijn32tab", Rows.laid_math_bits_deBruijn32tab), ("math/bits.deBruijn64tab", Rows.laid_math_bits_deBruijn64tab), ("internal/strconv.uint64pow10", Rows.laid_internal_strconv_uint64pow10)] W := h
  rw [e] at h2
  exact Go.AM.tabs_of (Lib.tabIs_of_head (g := 1) (t := 86) (e := 79) (n := 20) (by kernel_rfl) (by kernel_rfl) Tryd.underlying86 Tryd.underlying79 (by kernel_rfl) (by kernel_rfl) (laidMet.tail (laidMet.tail h2)))

set_option maxRecDepth 100000 in
theorem lifted (os : Os) (started : os.Started) (H : Type) (enc : TypeId × Value → H) :
    ReturnsInHanded {} Tryd.checked os 4 .any (fun w args => (Rows.fnExactAffTextSpec.pre enc Tryd.prog Tryd.f4 [] false w args ∧ laidMetH Tryd.prog Rows.fnExactAffTextRow.laid w) ∧ sizedMet enc Tryd.prog Tryd.f4 (OpenSpec.ofChange Rows.fnExactAffTextSpec) false w args) (Rows.fnExactAffTextSpec.post enc Tryd.prog Tryd.f4 false true false false) := by
  refine returnsInHanded_of_change_and (C := Tryd.checked) (X := fun w _ => laidMetH Tryd.prog Rows.fnExactAffTextRow.laid w) (fun _ _ _ hh h => h.of_heap hh) own started (by kernel_rfl) Tryd.func4
    (ChangeSpec.witness_shaped (enc := enc) (C := Tryd.checked) (os := os) (X := fun w _ => laidMetH Tryd.prog Rows.fnExactAffTextRow.laid w) false (World.doorLaid Tryd.prog 400 os) #[.agg #[.int .i64 0, .slice none 0 0]] 8 rfl (World.shaped_of_RefB (by kernel_rfl) (by kernel_rfl)) (by kernel_rfl) (by kernel_rfl) (by kernel_rfl) (door_met os _)) ?_
  intro W base args ds gs before hval hW _ _ hL _
  have hW' := hW
  obtain ⟨p, q, hA0, hV, rfl, hfz, hnd⟩ := hW
  have hA : DataW.TrodAll enc Tryd.prog W 0 (fun _ => true) true Tryd.f4.params.toList args.toList ds p := hA0
  rw [Tryd.params4] at hA
  obtain ⟨v0, vs0, d0, ds0, p0, q0, e0, rfl, rfl, ⟨n0, h0⟩, r0⟩ := trodAll_cons hA
  obtain ⟨en, rfl, rfl⟩ := trodAll_nil r0
  have hargs : args.toList = [v0] := by rw [e0, en]
  obtain rfl : args = #[v0] := by apply Array.ext'; simpa using hargs
  obtain ⟨x0, hx0, hr0⟩ := AmC.read_Aff _ _ _ h0
  exact law_of_says (tb := 4) (avs := [.agg (Go.AM.Cs (AmC.Aff.d x0))]) (by kernel_rfl) (by kernel_rfl) (by kernel_rfl) (by rw [Tryd.params4]; intro t ht; simp at ht; subst ht; exact of_decide_eq_true (by kernel_rfl)) rfl (by kernel_rfl) Tryd.underlying4 hW' rfl (of_laid hL)
    (show Go.AM.CR Tryd.prog W (fun b => b < W.heap.size) (fun _ => undef) [] [.agg (Go.AM.Cs (AmC.Aff.d x0))] [v0] (fun _ => 0) from by simpa using Go.AM.CR_cons (agg_of_rd hr0 (by simp [AmC.Aff.d_len]) (fun b h => h)) (Go.AM.CR_nil)) (by simp [Go.AM.hrs, Go.AM.hr, hr_Cs]) (AmC.law_AffText x0 hx0)

theorem over : Rows.fnExactAffTextRow.holds Tryd.pinned (OpenSpec.ofChange Rows.fnExactAffTextSpec) :=
  OpenClaim.holds_of_wide 4 Tryd.f4 rfl rfl rfl rfl rfl rfl rfl ⟨rfl, rfl, rfl, rfl, rfl⟩ rfl rfl rfl rfl rfl (by kernel_rfl) Tryd.func4 (by kernel_rfl)
    (of_decide_eq_true (by kernel_rfl)) (by unfold Func.isWrapper; first | (rw [if_pos (by decide +kernel)]; kernel_rfl) | (rw [if_neg (by decide +kernel)]; exact ⟨rfl, rfl⟩))
    (fun os started H enc _ => lifted os started H enc)

end Go.Proofs.YtodlnccdpbpokaaDoor.fnExactAffText
namespace Go.Proofs.YtodlnccdpbpokaaDoor
theorem fnExactAffTextProved : Rows.FnExactAffTextCardSaid :=
  Claim7.holds_tied_plain_at .later [] [.data, .data, .data] true (true, "3c95ef153fbb362a2cc81d0fc5686ba83a3d8b140169cee89a1337b3cc05e9ca") false
    fnExactAffText.over (fun _ h => by cases h) (by kernel_rfl) (fun _ h => by cases h) fnExactAffText_row_tie rfl ⟨rfl, rfl⟩ (by kernel_rfl) rfl
    (fun f fn hf hfn => by
      obtain rfl : f = 4 := Option.some.inj ((show Tryd.prog.funcNamed "loop.example/g00476/laws.FnExactAffText" = some 4 by kernel_rfl).symm.trans hf) |>.symm
      obtain rfl : fn = Tryd.f4 := (Option.some.inj (Tryd.func4.symm.trans hfn)).symm
      exact ⟨by kernel_rfl, fun j t ht => by
        rw [Tryd.params4] at ht
        have hm : t ∈ [33] := by simpa using Array.mem_of_getElem? ht
        have hall : ([33].all fun u => !Tryd.prog.wantsStandIn u) = true := by kernel_rfl
        exact (show Tryd.prog.wantsStandIn t = false by simpa using List.all_eq_true.1 hall t hm)⟩)
    (by kernel_rfl)
#print axioms fnExactAffTextProved
end Go.Proofs.YtodlnccdpbpokaaDoor
