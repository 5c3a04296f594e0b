/- Part of a proof: see the last text of this folder. -/
import Derived.Test.YtodlnccdpbpokaaDoorAffTextC0
import Derived.Test.YtodlnccdpbpokaaDoorAffTextDat
set_option linter.unusedSimpArgs false
set_option linter.unusedVariables false
set_option maxRecDepth 20000
set_option maxHeartbeats 4000000
namespace Go.AmC
open Go Go.AM
open Go.Proofs.Tryd (prog)
section
variable {H : Type} {enc : TypeId × Value → H} {w : World} {spare : Nat → Bool} {held : Bool}
/-- A field. -/
theorem fld {n : Nat} {t : TypeId} {cs : List Value} {xs : List (DataW H × List MemPlace)} {i k : Nat} (hl : xs.length = k) (hi : i < k) (h : DataW.trod enc prog w 0 spare held n t cs = xs[i]?) : ∃ x, DataW.trod enc prog w 0 spare held n t cs = some x :=
  ⟨_, h.trans (List.getElem?_eq_getElem (by omega))⟩
theorem cof9 : prog.cellsOf 9 = 1 := by kernel_rfl
theorem cof3 : prog.cellsOf 3 = 1 := by kernel_rfl
theorem cof56 : prog.cellsOf 56 = 2 := by kernel_rfl
theorem read_Term : ∀ (fuel : Nat) (cs : List Value) (z : DataW H × List MemPlace), DataW.trod enc prog w 0 spare held fuel 56 cs = some z → ∃ y : Term, Term.lg y ∧ Rd prog w (Term.d y) cs := by
  intro fuel
  intro cs z h
  obtain ⟨xs, n, rfl, _, hlen, hxs, hf⟩ := DataW.trod_struct Go.Proofs.Tryd.underlying56 h
  replace hxs : xs.length = 2 := hxs
  rw [cof56] at hlen
  obtain ⟨_, f0⟩ := fld hxs (i := 0) (by omega) (hf 0 _ rfl)
  replace f0 : DataW.trod enc prog w 0 spare held n 9 ((cs.drop 0).take (prog.cellsOf 9)) = some _ := f0
  rw [cof9] at f0
  obtain ⟨_, f1⟩ := fld hxs (i := 1) (by omega) (hf 1 _ rfl)
  replace f1 : DataW.trod enc prog w 0 spare held n 3 ((cs.drop 1).take (prog.cellsOf 3)) = some _ := f1
  rw [cof3] at f1
  obtain ⟨a0, e0, _, l0⟩ := DataW.trod_string Go.Proofs.Tryd.underlying9 f0
  obtain ⟨a1, e1, _, _⟩ := DataW.trod_int Go.Proofs.Tryd.underlying3 f1
  refine ⟨⟨a0.data.toList, a1⟩, by rw [Term.lg_eq]; exact by simpa using l0, ?_⟩
  have h0 : Rd prog w ([.S a0.data.toList] ++ ([.I .i64 a1] ++ [])) (cs.drop 0) :=
    Rd_seg (s := 1) (by rw [e0]; exact Rd_str) (Rd_seg (s := 1) (by rw [e1]; exact Rd_int) (Rd_end hlen))
  simpa using h0
theorem cof31 : prog.cellsOf 31 = 1 := by kernel_rfl
theorem cof33 : prog.cellsOf 33 = 2 := by kernel_rfl
theorem read_Aff : ∀ (fuel : Nat) (cs : List Value) (z : DataW H × List MemPlace), DataW.trod enc prog w 0 spare held fuel 33 cs = some z → ∃ y : Aff, Aff.lg y ∧ Rd prog w (Aff.d y) cs := by
  intro fuel
  intro cs z h
  obtain ⟨xs, n, rfl, _, hlen, hxs, hf⟩ := DataW.trod_struct Go.Proofs.Tryd.underlying33 h
  replace hxs : xs.length = 2 := hxs
  rw [cof33] at hlen
  obtain ⟨_, f0⟩ := fld hxs (i := 0) (by omega) (hf 0 _ rfl)
  replace f0 : DataW.trod enc prog w 0 spare held n 3 ((cs.drop 0).take (prog.cellsOf 3)) = some _ := f0
  rw [cof3] at f0
  obtain ⟨_, f1⟩ := fld hxs (i := 1) (by omega) (hf 1 _ rfl)
  replace f1 : DataW.trod enc prog w 0 spare held n 31 ((cs.drop 1).take (prog.cellsOf 31)) = some _ := f1
  rw [cof31] at f1
  obtain ⟨a0, e0, _, _⟩ := DataW.trod_int Go.Proofs.Tryd.underlying3 f0
  obtain ⟨a1, l1, o1, r1⟩ := Rd_slice Term.d (fun y => (Term.lg y)) 2 56 49 Term.d_len Go.Proofs.Tryd.underlying31 cof56 f1 (fun m hm cs z hz => read_Term m cs z hz)
  refine ⟨⟨a0, a1⟩, by rw [Aff.lg_eq]; exact ⟨l1, o1⟩, ?_⟩
  have h0 : Rd prog w ([.I .i64 a0] ++ ([.L 49 (List.length a1) (List.flatMap Term.d a1)] ++ [])) (cs.drop 0) :=
    Rd_seg (s := 1) (by rw [e0]; exact Rd_int) (Rd_seg (s := 1) (r1) (Rd_end hlen))
  simpa using h0
end
end Go.AmC
