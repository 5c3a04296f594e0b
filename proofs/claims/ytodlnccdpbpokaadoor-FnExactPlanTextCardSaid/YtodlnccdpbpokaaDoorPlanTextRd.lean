/- Part of a proof: see the last text of this folder. -/
import Derived.Test.YtodlnccdpbpokaaDoorPlanTextC0
import Derived.Test.YtodlnccdpbpokaaDoorPlanTextDat
set_option linter.unusedSimpArgs false
set_option linter.unusedVariables false
set_option maxRecDepth 20000
set_option maxHeartbeats 4000000
namespace Go.AmC
open Go Go.AM
open Go.Proofs.Tryd (prog)
section
variable {H : Type} {enc : TypeId × Value → H} {w : World} {spare : Nat → Bool} {held : Bool}
/-- A field. -/
theorem fld {n : Nat} {t : TypeId} {cs : List Value} {xs : List (DataW H × List MemPlace)} {i k : Nat} (hl : xs.length = k) (hi : i < k) (h : DataW.trod enc prog w 0 spare held n t cs = xs[i]?) : ∃ x, DataW.trod enc prog w 0 spare held n t cs = some x :=
  ⟨_, h.trans (List.getElem?_eq_getElem (by omega))⟩
theorem cof3 : prog.cellsOf 3 = 1 := by kernel_rfl
theorem cof22 : prog.cellsOf 22 = 1 := by kernel_rfl
theorem cof24 : prog.cellsOf 24 = 2 := by kernel_rfl
theorem read_Plan : ∀ (fuel : Nat) (cs : List Value) (z : DataW H × List MemPlace), DataW.trod enc prog w 0 spare held fuel 24 cs = some z → ∃ y : Plan, Plan.lg y ∧ Rd prog w (Plan.d y) cs := by
  intro fuel
  intro cs z h
  obtain ⟨xs, n, rfl, _, hlen, hxs, hf⟩ := DataW.trod_struct Go.Proofs.Tryd.underlying24 h
  replace hxs : xs.length = 2 := hxs
  rw [cof24] at hlen
  obtain ⟨_, f0⟩ := fld hxs (i := 0) (by omega) (hf 0 _ rfl)
  replace f0 : DataW.trod enc prog w 0 spare held n 3 ((cs.drop 0).take (prog.cellsOf 3)) = some _ := f0
  rw [cof3] at f0
  obtain ⟨_, f1⟩ := fld hxs (i := 1) (by omega) (hf 1 _ rfl)
  replace f1 : DataW.trod enc prog w 0 spare held n 22 ((cs.drop 1).take (prog.cellsOf 22)) = some _ := f1
  rw [cof22] at f1
  obtain ⟨a0, e0, _, _⟩ := DataW.trod_int Go.Proofs.Tryd.underlying3 f0
  obtain ⟨a1, l1, o1, r1⟩ := Rd_slice dInt (fun y => i64R y) 1 3 3 (fun _ => by simp) Go.Proofs.Tryd.underlying22 cof3 f1 (fun m hm cs z hz => by obtain ⟨a, e, _, q⟩ := DataW.trod_int Go.Proofs.Tryd.underlying3 hz; exact ⟨a, i64R_wf q, by rw [e]; exact Rd_int⟩)
  refine ⟨⟨a0, a1⟩, by rw [Plan.lg_eq]; exact ⟨l1, o1⟩, ?_⟩
  have h0 : Rd prog w ([.I .i64 a0] ++ ([.L 3 (List.length a1) (List.flatMap dInt a1)] ++ [])) (cs.drop 0) :=
    Rd_seg (s := 1) (by rw [e0]; exact Rd_int) (Rd_seg (s := 1) (r1) (Rd_end hlen))
  simpa using h0
end
end Go.AmC
