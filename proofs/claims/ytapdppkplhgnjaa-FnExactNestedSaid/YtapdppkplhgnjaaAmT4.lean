/- Part of a proof: see the last text of this folder. -/
import Derived.Test.YtapdppkplhgnjaaAmT3
import Derived.Test.YtapdppkplhgnjaaAmRead
set_option linter.unusedSimpArgs false
set_option linter.unusedVariables false
set_option maxRecDepth 20000
set_option maxHeartbeats 8000000
namespace Go.AmC
open Go Go.AM
open Go.Proofs.Try (prog)

section
variable {H : Type} {enc : TypeId × Value → H} {w : World} {spare : Nat → Bool} {held : Bool}

theorem cof26 : prog.cellsOf 26 = 4 := by kernel_rfl
theorem cof29 : prog.cellsOf 29 = 19 := by kernel_rfl
theorem cof3 : prog.cellsOf 3 = 1 := by kernel_rfl
theorem cof9 : prog.cellsOf 9 = 1 := by kernel_rfl
theorem cof24 : prog.cellsOf 24 = 1 := by kernel_rfl
theorem cof27 : prog.cellsOf 27 = 1 := by kernel_rfl

/-- A field. -/
theorem fld {n : Nat} {t : TypeId} {cs : List Value} {xs : List (DataW H × List MemPlace)} {i k : Nat} (hl : xs.length = k) (hi : i < k) (h : DataW.trod enc prog w 0 spare held n t cs = xs[i]?) : ∃ x, DataW.trod enc prog w 0 spare held n t cs = some x :=
  ⟨_, h.trans (List.getElem?_eq_getElem (by omega))⟩

theorem read_Exp : ∀ (fuel : Nat) (cs : List Value) (x : DataW H × List MemPlace), DataW.trod enc prog w 0 spare held fuel 26 cs = some x → ∃ y : Exp, y.lg ∧ Rd prog w y.d cs := by
  intro fuel
  induction fuel using Nat.strongRecOn with
  | _ fuel ih =>
    intro cs x h
    obtain ⟨xs, n, rfl, _, hlen, hxs, hf⟩ := DataW.trod_struct Go.Proofs.Try.underlying26 h
    replace hxs : xs.length = 4 := hxs
    rw [cof26] at hlen
    obtain ⟨_, f0⟩ := fld hxs (i := 0) (by omega) (hf 0 _ rfl)
    obtain ⟨_, f1⟩ := fld hxs (i := 1) (by omega) (hf 1 _ rfl)
    obtain ⟨_, f2⟩ := fld hxs (i := 2) (by omega) (hf 2 _ rfl)
    obtain ⟨_, f3⟩ := fld hxs (i := 3) (by omega) (hf 3 _ rfl)
    replace f0 : DataW.trod enc prog w 0 spare held n 3 ((cs.drop 0).take (prog.cellsOf 3)) = some _ := f0
    rw [cof3] at f0
    replace f1 : DataW.trod enc prog w 0 spare held n 3 ((cs.drop 1).take (prog.cellsOf 3)) = some _ := f1
    rw [cof3] at f1
    replace f2 : DataW.trod enc prog w 0 spare held n 9 ((cs.drop 2).take (prog.cellsOf 9)) = some _ := f2
    rw [cof9] at f2
    replace f3 : DataW.trod enc prog w 0 spare held n 24 ((cs.drop 3).take (prog.cellsOf 24)) = some _ := f3
    rw [cof24] at f3
    obtain ⟨a0, e0, _, _⟩ := DataW.trod_int Go.Proofs.Try.underlying3 f0
    obtain ⟨a1, e1, _, _⟩ := DataW.trod_int Go.Proofs.Try.underlying3 f1
    obtain ⟨a2, e2, _, l2⟩ := DataW.trod_string Go.Proofs.Try.underlying9 f2
    obtain ⟨a3, l3, o3, r3⟩ := Rd_slice Exp.d Exp.lg 4 26 34 Exp.d_len Go.Proofs.Try.underlying24 cof26 f3 (fun m hm cs x hx => ih m (by omega) cs x hx)
    refine ⟨.mk a0 a1 a2.data.toList a3, ?_, ?_⟩
    · simp only [Exp.lg]
      exact ⟨by simpa using l2, l3, lgExps_of o3⟩
    · have : (Exp.mk a0 a1 a2.data.toList a3).d = [.I .i64 a0] ++ ([.I .i64 a1] ++ ([.S a2.data.toList] ++ ([.L 34 a3.length (a3.flatMap Exp.d)] ++ []))) := by simp [Exp.d, dExps_flat]
      rw [this]
      have h0 : Rd prog w ([.I .i64 a0] ++ ([.I .i64 a1] ++ ([.S a2.data.toList] ++ ([.L 34 a3.length (a3.flatMap Exp.d)] ++ [])))) (cs.drop 0) :=
        Rd_seg (s := 1) (by rw [e0]; exact Rd_int) (Rd_seg (s := 1) (by rw [e1]; exact Rd_int) (Rd_seg (s := 1) (by rw [e2]; exact Rd_str) (Rd_seg (s := 1) r3 (Rd_end hlen))))
      simpa using h0
theorem read_Stmt : ∀ (fuel : Nat) (cs : List Value) (x : DataW H × List MemPlace), DataW.trod enc prog w 0 spare held fuel 29 cs = some x → ∃ y : Stmt, y.lg ∧ Rd prog w y.d cs := by
  intro fuel
  induction fuel using Nat.strongRecOn with
  | _ fuel ih =>
    intro cs x h
    obtain ⟨xs, n, rfl, _, hlen, hxs, hf⟩ := DataW.trod_struct Go.Proofs.Try.underlying29 h
    replace hxs : xs.length = 7 := hxs
    rw [cof29] at hlen
    obtain ⟨_, f0⟩ := fld hxs (i := 0) (by omega) (hf 0 _ rfl)
    replace f0 : DataW.trod enc prog w 0 spare held n 3 ((cs.drop 0).take (prog.cellsOf 3)) = some _ := f0
    rw [cof3] at f0
    obtain ⟨_, f1⟩ := fld hxs (i := 1) (by omega) (hf 1 _ rfl)
    replace f1 : DataW.trod enc prog w 0 spare held n 9 ((cs.drop 1).take (prog.cellsOf 9)) = some _ := f1
    rw [cof9] at f1
    obtain ⟨_, f2⟩ := fld hxs (i := 2) (by omega) (hf 2 _ rfl)
    replace f2 : DataW.trod enc prog w 0 spare held n 26 ((cs.drop 2).take (prog.cellsOf 26)) = some _ := f2
    rw [cof26] at f2
    obtain ⟨_, f3⟩ := fld hxs (i := 3) (by omega) (hf 3 _ rfl)
    replace f3 : DataW.trod enc prog w 0 spare held n 26 ((cs.drop 6).take (prog.cellsOf 26)) = some _ := f3
    rw [cof26] at f3
    obtain ⟨_, f4⟩ := fld hxs (i := 4) (by omega) (hf 4 _ rfl)
    replace f4 : DataW.trod enc prog w 0 spare held n 26 ((cs.drop 10).take (prog.cellsOf 26)) = some _ := f4
    rw [cof26] at f4
    obtain ⟨_, f5⟩ := fld hxs (i := 5) (by omega) (hf 5 _ rfl)
    replace f5 : DataW.trod enc prog w 0 spare held n 26 ((cs.drop 14).take (prog.cellsOf 26)) = some _ := f5
    rw [cof26] at f5
    obtain ⟨_, f6⟩ := fld hxs (i := 6) (by omega) (hf 6 _ rfl)
    replace f6 : DataW.trod enc prog w 0 spare held n 27 ((cs.drop 18).take (prog.cellsOf 27)) = some _ := f6
    rw [cof27] at f6
    obtain ⟨a0, e0, _, _⟩ := DataW.trod_int Go.Proofs.Try.underlying3 f0
    obtain ⟨a1, e1, _, l1⟩ := DataW.trod_string Go.Proofs.Try.underlying9 f1
    obtain ⟨a2, l2, r2⟩ := read_Exp _ _ _ f2
    obtain ⟨a3, l3, r3⟩ := read_Exp _ _ _ f3
    obtain ⟨a4, l4, r4⟩ := read_Exp _ _ _ f4
    obtain ⟨a5, l5, r5⟩ := read_Exp _ _ _ f5
    obtain ⟨a6, l6, o6, r6⟩ := Rd_slice Stmt.d Stmt.lg 19 29 37 Stmt.d_len Go.Proofs.Try.underlying27 cof29 f6 (fun m hm cs x hx => ih m (by omega) cs x hx)
    refine ⟨.mk a0 a1.data.toList a2 a3 a4 a5 a6, ?_, ?_⟩
    · simp only [Stmt.lg]
      exact ⟨by simpa using l1, l2, l3, l4, l5, l6, lgStmts_of o6⟩
    · have : (Stmt.mk a0 a1.data.toList a2 a3 a4 a5 a6).d = [.I .i64 a0] ++ ([.S a1.data.toList] ++ (a2.d ++ (a3.d ++ (a4.d ++ (a5.d ++ ([.L 37 a6.length (a6.flatMap Stmt.d)] ++ [])))))) := by simp [Stmt.d, dStmts_flat]
      rw [this]
      have h0 : Rd prog w ([.I .i64 a0] ++ ([.S a1.data.toList] ++ (a2.d ++ (a3.d ++ (a4.d ++ (a5.d ++ ([.L 37 a6.length (a6.flatMap Stmt.d)] ++ []))))))) (cs.drop 0) :=
        Rd_seg (s := 1) (by rw [e0]; exact Rd_int) (Rd_seg (s := 1) (by rw [e1]; exact Rd_str) (Rd_seg (s := 4) r2 (Rd_seg (s := 4) r3 (Rd_seg (s := 4) r4 (Rd_seg (s := 4) r5 (Rd_seg (s := 1) r6 (Rd_end hlen)))))))
      simpa using h0
end
end Go.AmC
