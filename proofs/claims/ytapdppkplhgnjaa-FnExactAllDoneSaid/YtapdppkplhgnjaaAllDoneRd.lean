/- Part of a proof: see the last text of this folder. -/
import Derived.Test.YtapdppkplhgnjaaAllDoneC0
import Derived.Test.YtapdppkplhgnjaaAllDoneDat
set_option linter.unusedSimpArgs false
set_option linter.unusedVariables false
set_option maxRecDepth 20000
set_option maxHeartbeats 4000000
namespace Go.AmC
open Go Go.AM
open Go.Proofs.Try (prog)
section
variable {H : Type} {enc : TypeId × Value → H} {w : World} {spare : Nat → Bool} {held : Bool}
/-- A field. -/
theorem fld {n : Nat} {t : TypeId} {cs : List Value} {xs : List (DataW H × List MemPlace)} {i k : Nat} (hl : xs.length = k) (hi : i < k) (h : DataW.trod enc prog w 0 spare held n t cs = xs[i]?) : ∃ x, DataW.trod enc prog w 0 spare held n t cs = some x :=
  ⟨_, h.trans (List.getElem?_eq_getElem (by omega))⟩
theorem cof3 : prog.cellsOf 3 = 1 := by kernel_rfl
theorem cof126 : prog.cellsOf 126 = 2 := by kernel_rfl
theorem read_Put : ∀ (fuel : Nat) (cs : List Value) (z : DataW H × List MemPlace), DataW.trod enc prog w 0 spare held fuel 126 cs = some z → ∃ y : Put, Rd prog w (Put.d y) cs := by
  intro fuel
  intro cs z h
  obtain ⟨xs, n, rfl, _, hlen, hxs, hf⟩ := DataW.trod_struct Go.Proofs.Try.underlying126 h
  replace hxs : xs.length = 2 := hxs
  rw [cof126] at hlen
  obtain ⟨_, f0⟩ := fld hxs (i := 0) (by omega) (hf 0 _ rfl)
  replace f0 : DataW.trod enc prog w 0 spare held n 3 ((cs.drop 0).take (prog.cellsOf 3)) = some _ := f0
  rw [cof3] at f0
  obtain ⟨_, f1⟩ := fld hxs (i := 1) (by omega) (hf 1 _ rfl)
  replace f1 : DataW.trod enc prog w 0 spare held n 3 ((cs.drop 1).take (prog.cellsOf 3)) = some _ := f1
  rw [cof3] at f1
  obtain ⟨a0, e0, _, _⟩ := DataW.trod_int Go.Proofs.Try.underlying3 f0
  obtain ⟨a1, e1, _, _⟩ := DataW.trod_int Go.Proofs.Try.underlying3 f1
  refine ⟨⟨a0, a1⟩, ?_⟩
  have h0 : Rd prog w ([.I .i64 a0] ++ ([.I .i64 a1] ++ [])) (cs.drop 0) :=
    Rd_seg (s := 1) (by rw [e0]; exact Rd_int) (Rd_seg (s := 1) (by rw [e1]; exact Rd_int) (Rd_end hlen))
  simpa using h0
theorem cof41 : prog.cellsOf 41 = 1 := by kernel_rfl
theorem cof105 : prog.cellsOf 105 = 1 := by kernel_rfl
theorem cof4 : prog.cellsOf 4 = 1 := by kernel_rfl
theorem cof107 : prog.cellsOf 107 = 6 := by kernel_rfl
theorem read_Hand : ∀ (fuel : Nat) (cs : List Value) (z : DataW H × List MemPlace), DataW.trod enc prog w 0 spare held fuel 107 cs = some z → ∃ y : Hand, Hand.lg y ∧ Rd prog w (Hand.d y) cs := by
  intro fuel
  intro cs z h
  obtain ⟨xs, n, rfl, _, hlen, hxs, hf⟩ := DataW.trod_struct Go.Proofs.Try.underlying107 h
  replace hxs : xs.length = 6 := hxs
  rw [cof107] at hlen
  obtain ⟨_, f0⟩ := fld hxs (i := 0) (by omega) (hf 0 _ rfl)
  replace f0 : DataW.trod enc prog w 0 spare held n 3 ((cs.drop 0).take (prog.cellsOf 3)) = some _ := f0
  rw [cof3] at f0
  obtain ⟨_, f1⟩ := fld hxs (i := 1) (by omega) (hf 1 _ rfl)
  replace f1 : DataW.trod enc prog w 0 spare held n 41 ((cs.drop 1).take (prog.cellsOf 41)) = some _ := f1
  rw [cof41] at f1
  obtain ⟨_, f2⟩ := fld hxs (i := 2) (by omega) (hf 2 _ rfl)
  replace f2 : DataW.trod enc prog w 0 spare held n 41 ((cs.drop 2).take (prog.cellsOf 41)) = some _ := f2
  rw [cof41] at f2
  obtain ⟨_, f3⟩ := fld hxs (i := 3) (by omega) (hf 3 _ rfl)
  replace f3 : DataW.trod enc prog w 0 spare held n 105 ((cs.drop 3).take (prog.cellsOf 105)) = some _ := f3
  rw [cof105] at f3
  obtain ⟨_, f4⟩ := fld hxs (i := 4) (by omega) (hf 4 _ rfl)
  replace f4 : DataW.trod enc prog w 0 spare held n 4 ((cs.drop 4).take (prog.cellsOf 4)) = some _ := f4
  rw [cof4] at f4
  obtain ⟨_, f5⟩ := fld hxs (i := 5) (by omega) (hf 5 _ rfl)
  replace f5 : DataW.trod enc prog w 0 spare held n 4 ((cs.drop 5).take (prog.cellsOf 4)) = some _ := f5
  rw [cof4] at f5
  obtain ⟨a0, e0, _, _⟩ := DataW.trod_int Go.Proofs.Try.underlying3 f0
  obtain ⟨a1, l1, o1, r1⟩ := Rd_slice dInt (fun _ => True) 1 3 3 (fun _ => by simp) Go.Proofs.Try.underlying41 cof3 f1 (fun m hm cs z hz => by obtain ⟨a, e, _, _⟩ := DataW.trod_int Go.Proofs.Try.underlying3 hz; exact ⟨a, trivial, by rw [e]; exact Rd_int⟩)
  obtain ⟨a2, l2, o2, r2⟩ := Rd_slice dInt (fun _ => True) 1 3 3 (fun _ => by simp) Go.Proofs.Try.underlying41 cof3 f2 (fun m hm cs z hz => by obtain ⟨a, e, _, _⟩ := DataW.trod_int Go.Proofs.Try.underlying3 hz; exact ⟨a, trivial, by rw [e]; exact Rd_int⟩)
  obtain ⟨a3, l3, o3, r3⟩ := Rd_slice Put.d (fun _ => True) 2 126 124 Put.d_len Go.Proofs.Try.underlying105 cof126 f3 (fun m hm cs z hz => by obtain ⟨y, hy⟩ := read_Put m cs z hz; exact ⟨y, trivial, hy⟩)
  obtain ⟨a4, e4, _⟩ := DataW.trod_bool Go.Proofs.Try.underlying4 f4
  obtain ⟨a5, e5, _⟩ := DataW.trod_bool Go.Proofs.Try.underlying4 f5
  refine ⟨⟨a0, a1, a2, a3, a4, a5⟩, by rw [Hand.lg_eq]; exact ⟨l1, l2, l3⟩, ?_⟩
  have h0 : Rd prog w ([.I .i64 a0] ++ ([.L 3 (List.length a1) (List.flatMap dInt a1)] ++ ([.L 3 (List.length a2) (List.flatMap dInt a2)] ++ ([.L 124 (List.length a3) (List.flatMap Put.d a3)] ++ ([.B a4] ++ ([.B a5] ++ [])))))) (cs.drop 0) :=
    Rd_seg (s := 1) (by rw [e0]; exact Rd_int) (Rd_seg (s := 1) (r1) (Rd_seg (s := 1) (r2) (Rd_seg (s := 1) (r3) (Rd_seg (s := 1) (by rw [e4]; exact Rd_bool) (Rd_seg (s := 1) (by rw [e5]; exact Rd_bool) (Rd_end hlen))))))
  simpa using h0
theorem cof42 : prog.cellsOf 42 = 1 := by kernel_rfl
theorem cof44 : prog.cellsOf 44 = 4 := by kernel_rfl
theorem read_Mach : ∀ (fuel : Nat) (cs : List Value) (z : DataW H × List MemPlace), DataW.trod enc prog w 0 spare held fuel 44 cs = some z → ∃ y : Mach, Mach.lg y ∧ Rd prog w (Mach.d y) cs := by
  intro fuel
  intro cs z h
  obtain ⟨xs, n, rfl, _, hlen, hxs, hf⟩ := DataW.trod_struct Go.Proofs.Try.underlying44 h
  replace hxs : xs.length = 4 := hxs
  rw [cof44] at hlen
  obtain ⟨_, f0⟩ := fld hxs (i := 0) (by omega) (hf 0 _ rfl)
  replace f0 : DataW.trod enc prog w 0 spare held n 41 ((cs.drop 0).take (prog.cellsOf 41)) = some _ := f0
  rw [cof41] at f0
  obtain ⟨_, f1⟩ := fld hxs (i := 1) (by omega) (hf 1 _ rfl)
  replace f1 : DataW.trod enc prog w 0 spare held n 42 ((cs.drop 1).take (prog.cellsOf 42)) = some _ := f1
  rw [cof42] at f1
  obtain ⟨_, f2⟩ := fld hxs (i := 2) (by omega) (hf 2 _ rfl)
  replace f2 : DataW.trod enc prog w 0 spare held n 41 ((cs.drop 2).take (prog.cellsOf 41)) = some _ := f2
  rw [cof41] at f2
  obtain ⟨_, f3⟩ := fld hxs (i := 3) (by omega) (hf 3 _ rfl)
  replace f3 : DataW.trod enc prog w 0 spare held n 4 ((cs.drop 3).take (prog.cellsOf 4)) = some _ := f3
  rw [cof4] at f3
  obtain ⟨a0, l0, o0, r0⟩ := Rd_slice dInt (fun _ => True) 1 3 3 (fun _ => by simp) Go.Proofs.Try.underlying41 cof3 f0 (fun m hm cs z hz => by obtain ⟨a, e, _, _⟩ := DataW.trod_int Go.Proofs.Try.underlying3 hz; exact ⟨a, trivial, by rw [e]; exact Rd_int⟩)
  obtain ⟨a1, l1, o1, r1⟩ := Rd_slice Hand.d (fun y => (Hand.lg y)) 6 107 87 Hand.d_len Go.Proofs.Try.underlying42 cof107 f1 (fun m hm cs z hz => read_Hand m cs z hz)
  obtain ⟨a2, l2, o2, r2⟩ := Rd_slice dInt (fun _ => True) 1 3 3 (fun _ => by simp) Go.Proofs.Try.underlying41 cof3 f2 (fun m hm cs z hz => by obtain ⟨a, e, _, _⟩ := DataW.trod_int Go.Proofs.Try.underlying3 hz; exact ⟨a, trivial, by rw [e]; exact Rd_int⟩)
  obtain ⟨a3, e3, _⟩ := DataW.trod_bool Go.Proofs.Try.underlying4 f3
  refine ⟨⟨a0, a1, a2, a3⟩, by rw [Mach.lg_eq]; exact ⟨l0, ⟨l1, o1⟩, l2⟩, ?_⟩
  have h0 : Rd prog w ([.L 3 (List.length a0) (List.flatMap dInt a0)] ++ ([.L 87 (List.length a1) (List.flatMap Hand.d a1)] ++ ([.L 3 (List.length a2) (List.flatMap dInt a2)] ++ ([.B a3] ++ [])))) (cs.drop 0) :=
    Rd_seg (s := 1) (r0) (Rd_seg (s := 1) (r1) (Rd_seg (s := 1) (r2) (Rd_seg (s := 1) (by rw [e3]; exact Rd_bool) (Rd_end hlen))))
  simpa using h0
end
end Go.AmC
