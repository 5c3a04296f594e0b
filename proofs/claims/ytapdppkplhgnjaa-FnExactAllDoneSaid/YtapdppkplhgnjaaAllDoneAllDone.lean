/- Part of a proof: see the last text of this folder. -/
import Derived.Test.YtapdppkplhgnjaaAllDoneCl
set_option linter.unusedSimpArgs false
set_option linter.unusedVariables false
set_option maxRecDepth 20000
set_option maxHeartbeats 4000000
namespace Go.AmC
open Go Go.AM
open Go.Proofs.Try (prog)

/-! ### All done -/
def doneAll (m : Mach) : Bool := m.Hands.all fun h => h.Done && !m.Trap
def allDone (m : Mach) : Bool := decide (0 < m.Hands.length) && doneAll m
def ungood (m : Mach) (h : Hand) : Bool := !h.Done && !m.Trap

theorem done_spec (m : Mach) (hm : m.Hands.length ≤ 1048576) : Says prog 16 [.agg (Cs m.d)] (.bool (decide (0 < m.Hands.length) && !(m.Hands.any (ungood m)))) [] := by
  refine Fn_G Go.Proofs.Try.func16 ok16 ?_
  generalize hR : (decide (0 < m.Hands.length) && !(m.Hands.any (ungood m))) = R0
  simp [v16, r16]
  generalize hc : [AV.rsl m.Mem.length (Cs (List.flatMap dInt m.Mem)), AV.rsl m.Hands.length (Cs (List.flatMap Hand.d m.Hands)), AV.rsl m.Out.length (Cs (List.flatMap dInt m.Out)), AV.bool m.Trap] = cs
  refine G_loop (l := l16_0) (b := b16_0) rfl [] (fun i => [.agg cs, .bx 0 49 cs, .bool false, .int .i64 (i : Int), .dead, .dead]) (fun i => (m.Hands.take i).any (ungood m) = false) m.Hands.length
    (fun ex e => (m.Hands.any (ungood m) = false ∧ ex = .exit 0 ∧ e = [.agg cs, .bx 0 49 cs, .bool false, .int .i64 m.Hands.length, .dead, .dead]) ∨ (m.Hands.any (ungood m) = true ∧ ex = .ret ∧ ∃ a, e = [.agg cs, .bx 0 49 cs, .bool false, a, .dead, .dead])) ?_ ?_ rfl (by simp) ?_
  · subst hc
    intro i hi hI q hn hx hr
    obtain ⟨x, hx0⟩ : ∃ x, m.Hands[i]? = some x := ⟨_, List.getElem?_eq_getElem hi⟩
    have hrow := row_drop Hand.d 6 Hand.d_len hx0
    have hw : IntKind.i64.wrap ((i : Int) + 1) = ((i + 1 : Nat) : Int) := by rw [wrap_small] <;> omega
    by_cases c : x.Done = false ∧ m.Trap = false
    · simp [hi, Cs_drop, hrow, hw, c.1, c.2]
      refine hr _ (.inr ⟨List.any_eq_true.2 ⟨x, List.mem_of_getElem? hx0, by simp [ungood, c.1, c.2]⟩, rfl, .int .i64 (i : Int), by rw [c.2]⟩)
    · have hI2 : (m.Hands.take (i + 1)).any (ungood m) = false := by
        rw [List.take_add_one, hx0]; simp [hI, ungood]
        revert c; cases x.Done <;> cases m.Trap <;> simp
      have : x.Done = true ∨ (x.Done = false ∧ m.Trap = true) := by revert c; cases x.Done <;> cases m.Trap <;> simp
      rcases this with c | ⟨c, c2⟩
      · simp [hi, Cs_drop, hrow, hw, c]
        refine hn _ ?_ hI2; simp
      · simp [hi, Cs_drop, hrow, hw, c, c2]
        refine hn _ ?_ hI2; simp [c2]
  · subst hc
    intro hI q hx hr
    simp at hI
    simp
    exact hx _ _ (.inl ⟨by simpa using hI, rfl, by simp⟩)
  · subst hc
    rintro ex e (⟨h1, rfl, rfl⟩ | ⟨h1, rfl, a, rfl⟩)
    · simp [← hR, h1]
    · simp [← hR, h1]
theorem done_impl (m : Mach) (hm : m.Hands.length ≤ 1048576) : Says prog 18 [.agg (Cs m.d)] (.bool (decide (0 < m.Hands.length) && !(m.Hands.any (ungood m)))) [] := by
  refine Fn_G Go.Proofs.Try.func18 ok18 ?_
  by_cases hz : m.Hands = []
  · simp [v18, r18, hz]
  have hz' : ¬ m.Hands.length = 0 := by simpa using hz
  generalize hR : (decide (0 < m.Hands.length) && !(m.Hands.any (ungood m))) = R0
  simp [v18, r18, hz]
  generalize hc : [AV.rsl m.Mem.length (Cs (List.flatMap dInt m.Mem)), AV.rsl m.Hands.length (Cs (List.flatMap Hand.d m.Hands)), AV.rsl m.Out.length (Cs (List.flatMap dInt m.Out)), AV.bool m.Trap] = cs
  refine G_loop (l := l18_0) (b := b18_0) rfl [8] (fun i => [.agg cs, .bx 0 49 cs, .bool false, .dead, .rsl m.Hands.length (Cs (m.Hands.flatMap Hand.d)), .int .i64 m.Hands.length, .int .i64 (i : Int), .dead, .dead, .dead]) (fun i => (m.Hands.take i).any (ungood m) = false) m.Hands.length
    (fun ex e => (m.Hands.any (ungood m) = false ∧ ex = .exit 0 ∧ e = [.agg cs, .bx 0 49 cs, .bool false, .dead, .rsl m.Hands.length (Cs (m.Hands.flatMap Hand.d)), .int .i64 m.Hands.length, .int .i64 m.Hands.length, .dead, .dead, .dead]) ∨ (m.Hands.any (ungood m) = true ∧ ex = .ret ∧ ∃ a b, hasRef b = false ∧ e = [.agg cs, .bx 0 49 cs, .bool false, .dead, .rsl m.Hands.length (Cs (m.Hands.flatMap Hand.d)), .int .i64 m.Hands.length, a, .dead, b, .dead])) ?_ ?_ rfl (by simp) ?_
  · subst hc
    intro i hi hI q hn hx hr
    obtain ⟨x, hx0⟩ : ∃ x, m.Hands[i]? = some x := ⟨_, List.getElem?_eq_getElem hi⟩
    have hrow := row_drop Hand.d 6 Hand.d_len hx0
    have hw : IntKind.i64.wrap ((i : Int) + 1) = ((i + 1 : Nat) : Int) := by rw [wrap_small] <;> omega
    by_cases c : x.Done = false ∧ m.Trap = false
    · simp [hi, Cs_drop, hrow, hw, c.1, c.2, splice]
      refine hr _ (.inr ⟨List.any_eq_true.2 ⟨x, List.mem_of_getElem? hx0, by simp [ungood, c.1, c.2]⟩, rfl, .int .i64 (i : Int), _, ?_, by rw [c.2]⟩)
      simp
    · have hI2 : (m.Hands.take (i + 1)).any (ungood m) = false := by
        rw [List.take_add_one, hx0]; simp [hI, ungood]
        revert c; cases x.Done <;> cases m.Trap <;> simp
      have : x.Done = true ∨ (x.Done = false ∧ m.Trap = true) := by revert c; cases x.Done <;> cases m.Trap <;> simp
      rcases this with c | ⟨c, c2⟩
      · simp [hi, Cs_drop, hrow, hw, c, splice]
        refine hn _ ?_ hI2; simp
      · simp [hi, Cs_drop, hrow, hw, c, c2, splice]
        refine hn _ ?_ hI2; simp [c2]
  · subst hc
    intro hI q hx hr
    simp at hI
    simp
    exact hx _ _ (.inl ⟨by simpa using hI, rfl, by simp⟩)
  · subst hc
    have hpos : 0 < m.Hands.length := by omega
    rintro ex e (⟨h1, rfl, rfl⟩ | ⟨h1, rfl, a, b, hb, rfl⟩)
    · simp [← hR, h1, hpos]
    · simp [← hR, h1, hpos]

theorem law_AllDone (m : Mach) (h1 : Mach.lg m) : Says prog 5 [.agg (Cs (Mach.d m))] (.bool true) [] := by
  refine Fn_G Go.Proofs.Try.func5 ok5 ?_
  have z1 := sz_Mach m h1 ((1048576 : Int)) (by omega) (by omega)
  by_cases c1 : ((Mach.tot m : Nat) : Int) ≤ (1048576 : Int)
  · have e1 : szR (Mach.tot m) ((1048576 : Int)) = (1048576 : Int) - (Mach.tot m : Nat) := by unfold szR; rw [if_pos c1]
    have d1 : ¬ ((1048576 : Int) - (Mach.tot m : Nat) < 0) := by omega
    rw [e1] at z1
    have b1 : Mach.tot m ≤ 1048576 := by omega
    have t1 := to_Mach m b1
    have q1 := eq_Mach m h1
    have f1 := done_spec m (by have := m.tot_eq; omega)
    have f2 := done_impl m (by have := m.tot_eq; omega)
    try simp at z1
    try simp at t1
    try simp at q1
    try simp at f1
    try simp at f2
    simp [v5, r5]
    repeat' (first | refine callG (by assumption) ?_ | refine callD (by assumption) ?_ | (simp [d1]; done) | simp [d1])
  · have e1 : szR (Mach.tot m) ((1048576 : Int)) = -1 := by unfold szR; rw [if_neg c1]
    rw [e1] at z1
    try simp at z1
    simp [v5, r5]
    repeat' (first | refine callG (by assumption) ?_ | (simp []; done) | simp [])
end Go.AmC
