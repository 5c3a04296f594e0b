/- Part of a proof: see the last text of this folder. -/
import Derived.Test.YtbpejcnejeihbaaSplitC1
import Derived.Test.YtbpejcnejeihbaaSplitDat
set_option linter.unusedSimpArgs false
set_option linter.unusedVariables false
set_option maxRecDepth 20000
set_option maxHeartbeats 4000000
namespace Go.AmC
open Go Go.AM
open Go.Proofs.Try (prog)
section
variable {H : Type} {enc : TypeId × Value → H} {w : World} {spare : Nat → Bool} {held : Bool}
/-- A field. -/
theorem fld {n : Nat} {t : TypeId} {cs : List Value} {xs : List (DataW H × List MemPlace)} {i k : Nat} (hl : xs.length = k) (hi : i < k) (h : DataW.trod enc prog w 0 spare held n t cs = xs[i]?) : ∃ x, DataW.trod enc prog w 0 spare held n t cs = some x :=
  ⟨_, h.trans (List.getElem?_eq_getElem (by omega))⟩
theorem cof3 : prog.cellsOf 3 = 1 := by kernel_rfl
theorem cof9 : prog.cellsOf 9 = 1 := by kernel_rfl
theorem cof22 : prog.cellsOf 22 = 1 := by kernel_rfl
theorem cof24 : prog.cellsOf 24 = 4 := by kernel_rfl
theorem read_Exp : ∀ (fuel : Nat) (cs : List Value) (z : DataW H × List MemPlace), DataW.trod enc prog w 0 spare held fuel 24 cs = some z → ∃ y : Exp, Exp.lg y ∧ Rd prog w (Exp.d y) cs := by
  intro fuel
  induction fuel using Nat.strongRecOn with
  | _ fuel ih =>
    intro cs z h
    obtain ⟨xs, n, rfl, _, hlen, hxs, hf⟩ := DataW.trod_struct Go.Proofs.Try.underlying24 h
    replace hxs : xs.length = 4 := hxs
    rw [cof24] at hlen
    obtain ⟨_, f0⟩ := fld hxs (i := 0) (by omega) (hf 0 _ rfl)
    replace f0 : DataW.trod enc prog w 0 spare held n 3 ((cs.drop 0).take (prog.cellsOf 3)) = some _ := f0
    rw [cof3] at f0
    obtain ⟨_, f1⟩ := fld hxs (i := 1) (by omega) (hf 1 _ rfl)
    replace f1 : DataW.trod enc prog w 0 spare held n 3 ((cs.drop 1).take (prog.cellsOf 3)) = some _ := f1
    rw [cof3] at f1
    obtain ⟨_, f2⟩ := fld hxs (i := 2) (by omega) (hf 2 _ rfl)
    replace f2 : DataW.trod enc prog w 0 spare held n 9 ((cs.drop 2).take (prog.cellsOf 9)) = some _ := f2
    rw [cof9] at f2
    obtain ⟨_, f3⟩ := fld hxs (i := 3) (by omega) (hf 3 _ rfl)
    replace f3 : DataW.trod enc prog w 0 spare held n 22 ((cs.drop 3).take (prog.cellsOf 22)) = some _ := f3
    rw [cof22] at f3
    obtain ⟨a0, e0, _, _⟩ := DataW.trod_int Go.Proofs.Try.underlying3 f0
    obtain ⟨a1, e1, _, _⟩ := DataW.trod_int Go.Proofs.Try.underlying3 f1
    obtain ⟨a2, e2, _, l2⟩ := DataW.trod_string Go.Proofs.Try.underlying9 f2
    obtain ⟨a3, l3, o3, r3⟩ := Rd_slice Exp.d (fun y => (Exp.lg y)) 4 24 31 Exp.d_len Go.Proofs.Try.underlying22 cof24 f3 (fun m hm cs z hz => ih m (by omega) cs z hz)
    refine ⟨⟨a0, a1, a2.data.toList, a3⟩, by rw [Exp.lg_eq]; exact ⟨by simpa using l2, ⟨l3, o3⟩⟩, ?_⟩
    have h0 : Rd prog w ([.I .i64 a0] ++ ([.I .i64 a1] ++ ([.S a2.data.toList] ++ ([.L 31 (List.length a3) (List.flatMap Exp.d a3)] ++ [])))) (cs.drop 0) :=
      Rd_seg (s := 1) (by rw [e0]; exact Rd_int) (Rd_seg (s := 1) (by rw [e1]; exact Rd_int) (Rd_seg (s := 1) (by rw [e2]; exact Rd_str) (Rd_seg (s := 1) (r3) (Rd_end hlen))))
    simpa using h0
theorem cof25 : prog.cellsOf 25 = 1 := by kernel_rfl
theorem cof27 : prog.cellsOf 27 = 19 := by kernel_rfl
theorem read_Stmt : ∀ (fuel : Nat) (cs : List Value) (z : DataW H × List MemPlace), DataW.trod enc prog w 0 spare held fuel 27 cs = some z → ∃ y : Stmt, Stmt.lg y ∧ Rd prog w (Stmt.d y) cs := by
  intro fuel
  induction fuel using Nat.strongRecOn with
  | _ fuel ih =>
    intro cs z h
    obtain ⟨xs, n, rfl, _, hlen, hxs, hf⟩ := DataW.trod_struct Go.Proofs.Try.underlying27 h
    replace hxs : xs.length = 7 := hxs
    rw [cof27] at hlen
    obtain ⟨_, f0⟩ := fld hxs (i := 0) (by omega) (hf 0 _ rfl)
    replace f0 : DataW.trod enc prog w 0 spare held n 3 ((cs.drop 0).take (prog.cellsOf 3)) = some _ := f0
    rw [cof3] at f0
    obtain ⟨_, f1⟩ := fld hxs (i := 1) (by omega) (hf 1 _ rfl)
    replace f1 : DataW.trod enc prog w 0 spare held n 9 ((cs.drop 1).take (prog.cellsOf 9)) = some _ := f1
    rw [cof9] at f1
    obtain ⟨_, f2⟩ := fld hxs (i := 2) (by omega) (hf 2 _ rfl)
    replace f2 : DataW.trod enc prog w 0 spare held n 24 ((cs.drop 2).take (prog.cellsOf 24)) = some _ := f2
    rw [cof24] at f2
    obtain ⟨_, f3⟩ := fld hxs (i := 3) (by omega) (hf 3 _ rfl)
    replace f3 : DataW.trod enc prog w 0 spare held n 24 ((cs.drop 6).take (prog.cellsOf 24)) = some _ := f3
    rw [cof24] at f3
    obtain ⟨_, f4⟩ := fld hxs (i := 4) (by omega) (hf 4 _ rfl)
    replace f4 : DataW.trod enc prog w 0 spare held n 24 ((cs.drop 10).take (prog.cellsOf 24)) = some _ := f4
    rw [cof24] at f4
    obtain ⟨_, f5⟩ := fld hxs (i := 5) (by omega) (hf 5 _ rfl)
    replace f5 : DataW.trod enc prog w 0 spare held n 24 ((cs.drop 14).take (prog.cellsOf 24)) = some _ := f5
    rw [cof24] at f5
    obtain ⟨_, f6⟩ := fld hxs (i := 6) (by omega) (hf 6 _ rfl)
    replace f6 : DataW.trod enc prog w 0 spare held n 25 ((cs.drop 18).take (prog.cellsOf 25)) = some _ := f6
    rw [cof25] at f6
    obtain ⟨a0, e0, _, _⟩ := DataW.trod_int Go.Proofs.Try.underlying3 f0
    obtain ⟨a1, e1, _, l1⟩ := DataW.trod_string Go.Proofs.Try.underlying9 f1
    obtain ⟨a2, l2, r2⟩ := read_Exp _ _ _ f2
    obtain ⟨a3, l3, r3⟩ := read_Exp _ _ _ f3
    obtain ⟨a4, l4, r4⟩ := read_Exp _ _ _ f4
    obtain ⟨a5, l5, r5⟩ := read_Exp _ _ _ f5
    obtain ⟨a6, l6, o6, r6⟩ := Rd_slice Stmt.d (fun y => (Stmt.lg y)) 19 27 34 Stmt.d_len Go.Proofs.Try.underlying25 cof27 f6 (fun m hm cs z hz => ih m (by omega) cs z hz)
    refine ⟨⟨a0, a1.data.toList, a2, a3, a4, a5, a6⟩, by rw [Stmt.lg_eq]; exact ⟨by simpa using l1, l2, l3, l4, l5, ⟨l6, o6⟩⟩, ?_⟩
    have h0 : Rd prog w ([.I .i64 a0] ++ ([.S a1.data.toList] ++ (Exp.d a2 ++ (Exp.d a3 ++ (Exp.d a4 ++ (Exp.d a5 ++ ([.L 34 (List.length a6) (List.flatMap Stmt.d a6)] ++ []))))))) (cs.drop 0) :=
      Rd_seg (s := 1) (by rw [e0]; exact Rd_int) (Rd_seg (s := 1) (by rw [e1]; exact Rd_str) (Rd_seg (s := 4) (r2) (Rd_seg (s := 4) (r3) (Rd_seg (s := 4) (r4) (Rd_seg (s := 4) (r5) (Rd_seg (s := 1) (r6) (Rd_end hlen)))))))
    simpa using h0
theorem cof87 : prog.cellsOf 87 = 2 := by kernel_rfl
theorem read_Arr : ∀ (fuel : Nat) (cs : List Value) (z : DataW H × List MemPlace), DataW.trod enc prog w 0 spare held fuel 87 cs = some z → ∃ y : Arr, Arr.lg y ∧ Rd prog w (Arr.d y) cs := by
  intro fuel
  intro cs z h
  obtain ⟨xs, n, rfl, _, hlen, hxs, hf⟩ := DataW.trod_struct Go.Proofs.Try.underlying87 h
  replace hxs : xs.length = 2 := hxs
  rw [cof87] at hlen
  obtain ⟨_, f0⟩ := fld hxs (i := 0) (by omega) (hf 0 _ rfl)
  replace f0 : DataW.trod enc prog w 0 spare held n 9 ((cs.drop 0).take (prog.cellsOf 9)) = some _ := f0
  rw [cof9] at f0
  obtain ⟨_, f1⟩ := fld hxs (i := 1) (by omega) (hf 1 _ rfl)
  replace f1 : DataW.trod enc prog w 0 spare held n 3 ((cs.drop 1).take (prog.cellsOf 3)) = some _ := f1
  rw [cof3] at f1
  obtain ⟨a0, e0, _, l0⟩ := DataW.trod_string Go.Proofs.Try.underlying9 f0
  obtain ⟨a1, e1, _, _⟩ := DataW.trod_int Go.Proofs.Try.underlying3 f1
  refine ⟨⟨a0.data.toList, a1⟩, by rw [Arr.lg_eq]; exact by simpa using l0, ?_⟩
  have h0 : Rd prog w ([.S a0.data.toList] ++ ([.I .i64 a1] ++ [])) (cs.drop 0) :=
    Rd_seg (s := 1) (by rw [e0]; exact Rd_str) (Rd_seg (s := 1) (by rw [e1]; exact Rd_int) (Rd_end hlen))
  simpa using h0
theorem cof40 : prog.cellsOf 40 = 1 := by kernel_rfl
theorem cof42 : prog.cellsOf 42 = 2 := by kernel_rfl
theorem read_Prog : ∀ (fuel : Nat) (cs : List Value) (z : DataW H × List MemPlace), DataW.trod enc prog w 0 spare held fuel 42 cs = some z → ∃ y : Prog, Prog.lg y ∧ Rd prog w (Prog.d y) cs := by
  intro fuel
  intro cs z h
  obtain ⟨xs, n, rfl, _, hlen, hxs, hf⟩ := DataW.trod_struct Go.Proofs.Try.underlying42 h
  replace hxs : xs.length = 2 := hxs
  rw [cof42] at hlen
  obtain ⟨_, f0⟩ := fld hxs (i := 0) (by omega) (hf 0 _ rfl)
  replace f0 : DataW.trod enc prog w 0 spare held n 40 ((cs.drop 0).take (prog.cellsOf 40)) = some _ := f0
  rw [cof40] at f0
  obtain ⟨_, f1⟩ := fld hxs (i := 1) (by omega) (hf 1 _ rfl)
  replace f1 : DataW.trod enc prog w 0 spare held n 25 ((cs.drop 1).take (prog.cellsOf 25)) = some _ := f1
  rw [cof25] at f1
  obtain ⟨a0, l0, o0, r0⟩ := Rd_slice Arr.d (fun y => (Arr.lg y)) 2 87 88 Arr.d_len Go.Proofs.Try.underlying40 cof87 f0 (fun m hm cs z hz => read_Arr m cs z hz)
  obtain ⟨a1, l1, o1, r1⟩ := Rd_slice Stmt.d (fun y => (Stmt.lg y)) 19 27 34 Stmt.d_len Go.Proofs.Try.underlying25 cof27 f1 (fun m hm cs z hz => read_Stmt m cs z hz)
  refine ⟨⟨a0, a1⟩, by rw [Prog.lg_eq]; exact ⟨⟨l0, o0⟩, ⟨l1, o1⟩⟩, ?_⟩
  have h0 : Rd prog w ([.L 88 (List.length a0) (List.flatMap Arr.d a0)] ++ ([.L 34 (List.length a1) (List.flatMap Stmt.d a1)] ++ [])) (cs.drop 0) :=
    Rd_seg (s := 1) (r0) (Rd_seg (s := 1) (r1) (Rd_end hlen))
  simpa using h0
end
end Go.AmC
