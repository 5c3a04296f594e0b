/- One operation of any kind; what a call says; the slots behind it. -/
import Derived.Test.YtodlnccdpbpokaaDoorAmStore
set_option linter.unusedSimpArgs false
set_option linter.unusedVariables false
set_option linter.unusedSectionVars false
namespace Go.AM
open Go
section
variable {P : Program} {w : World} {Φ : Nat → Prop} {σ : Nat → Value} {ρ : List Value}
variable {e : Env} {f : Cnt} {ν : List Nat} {a : Act} {o : Oper}

/-- One operation. -/
theorem op_step (h : CR P w Φ σ ρ e ρ f) (hl : LK ν ρ e a.tmps) (hi : Inv P w Φ f) {s : SOp} {v : AV} {e' : Env} (hok : okOp P ν o.op s = true) (hx : opx e s = some (v, e')) :
    ∃ r cv w', (execOp a.eval o).run P w = .ok r w' ∧ (r = .value cv ∨ (r = .skip ∧ cv = unk ∧ v = .dead)) ∧ StepR P w w' Φ σ ρ f v cv e' := by
  have pure : (e' = e ∧ PureRes P w Φ σ ρ a o v) → ∃ r cv w', (execOp a.eval o).run P w = .ok r w' ∧ (r = .value cv ∨ (r = .skip ∧ cv = unk ∧ v = .dead)) ∧ StepR P w w' Φ σ ρ f v cv e' := by
    rintro ⟨rfl, cv, hy, hv⟩
    exact ⟨_, cv, w, hy, .inl rfl, stepR_same h hl hi hv⟩
  have mem : (∃ cv w', (execOp a.eval o).run P w = .ok (.value cv) w' ∧ StepR P w w' Φ σ ρ f v cv e') → ∃ r cv w', (execOp a.eval o).run P w = .ok r w' ∧ (r = .value cv ∨ (r = .skip ∧ cv = unk ∧ v = .dead)) ∧ StepR P w w' Φ σ ρ f v cv e' := by
    rintro ⟨cv, w', h1, h2⟩
    exact ⟨_, cv, w', h1, .inl rfl, h2⟩
  cases s with
  | mv x => exact pure (p_mv h hl hok hx)
  | asg x => exact mem (s_asg h hl hi hok hx)
  | pick c x y => exact pure (p_pick h hl hok hx)
  | mk t z => exact mem (s_mk h hl hi hok hx)
  | box t sz x => exact mem (s_box h hl hi hok hx)
  | build z ps => exact pure (p_build h hl hok hx)
  | bsl t n z ps => exact mem (s_bsl h hl hi hok hx)
  | load sz ag x => exact pure (p_load h hl hok hi.sep hx)
  | store sz st x y =>
    obtain ⟨w', h1, h2, h3⟩ := s_store h hl hi hok hx
    exact ⟨_, unk, w', h1, .inr ⟨rfl, rfl, h3⟩, h2⟩
  | bin op x y => exact pure (p_bin h hl hok hx)
  | beq ne x y => exact pure (p_beq h hl hok hx)
  | not x => exact pure (p_not h hl hok hx)
  | neg x => exact pure (p_neg h hl hok hx)
  | conv k x => exact pure (p_conv h hl hok hx)
  | mkf g ys => exact pure (p_mkf h hl hok hx)
  | mksl t z l c => exact mem (s_mksl h hl hi hok hx)
  | slice st sz x lo hi' => exact pure (p_slice h hl hok hx)
  | faddr off x => exact pure (p_faddr h hl hok hx)
  | iaddr sz x i => exact pure (p_iaddr h hl hok hi.sep hx)
  | idx x i => exact pure (p_idx h hl hok hx)
  | len st x => exact pure (p_len h hl hok hi.sep hx)
  | minmax mx x y => exact pure (p_minmax h hl hok hx)
  | append t sz x y => exact mem (s_append h hl hi hok hx)
  | ext j ix => exact pure (p_ext h hl hok hx)
  | mvt j => exact pure (p_mvt h hl hok hx)
  | aidx sz ag n x i => exact pure (p_aidx h hl hok hx)
  | cut sz x hi' => exact mem (s_cut h hl hi hok hx)
  | sbeq ne ks x y => exact pure (p_sbeq h hl hok hx)
  | isnil ne x => exact pure (p_isnil h hl hok hi.sep hx)
  | b2s x => exact pure (p_b2s h hl hok hi.sep hx)

/-- What a call of a function says. 'outs': what was given for the call's time, given back: its stamp, what it is now. -/
def Says (P : Program) (g : Nat) (args : List AV) (res : AV) (outs : List (Nat × AV)) : Prop :=
  ∀ (w : World) (Φ : Nat → Prop) (σ : Nat → Value) (cargs : Array Value) (fa : Cnt), CR P w Φ σ [] args cargs.toList fa → hrs args = false → Inv P w Φ fa →
    Calls P g cargs w fun en w' => ∃ (cv : Value) (Φ' : Nat → Prop) (f1 f2 : Cnt), en = .returned cv ∧ Ext w w' fa ∧ (∀ b, Φ b → Φ' b) ∧ (∀ b, Φ' b → Φ b ∨ 1 ≤ fa b ∨ w.heap.size ≤ b) ∧
      VR P w' Φ' σ [] res cv f1 ∧ hr res = false ∧ CR P w' Φ' σ [] (outs.map (·.2)) (outs.map fun p => σ p.1) f2 ∧ hrs (outs.map (·.2)) = false ∧
      Inv P w' Φ' (fun b => f1 b + f2 b) ∧ (∀ b, 1 ≤ f1 b + f2 b → 1 ≤ fa b ∨ w.heap.size ≤ b)

/-! ### References and what is known of the slots -/

theorem rowOf_set {ρ : List Value} {d r : Nat} {x : Value} (h : r ≠ d) : rowOf (ρ.set d x) r = rowOf ρ r := by
  simp [rowOf, List.getElem?_set_ne (Ne.symm h)]
theorem rowOf_unk {ρ : List Value} {d : Nat} (h : ρ[d]? = some unk) : rowOf ρ d = [unk] := by
  simp [rowOf, h, cellsV]

/-- A slot of which nothing was known gets a value. -/
theorem VR_known {d : Nat} {x : Value} (hd : ρ[d]? = some unk) (v : AV) (cv : Value) (g : Cnt) (h : VR P w Φ σ ρ v cv g) : VR P w Φ σ (ρ.set d x) v cv g := by
  have hne : ∀ {r p bo row}, walk w none (rowOf ρ r) p = some (bo, row) → ((∃ (o : Nat) (v : Value), row[o]? = some v ∧ v ≠ unk) ∨ ∃ b, bo = some b) → r ≠ d := by
    rintro r p bo row hw hor rfl
    rw [rowOf_unk hd] at hw
    cases p with
    | nil =>
      simp [walk] at hw; obtain ⟨rfl, rfl⟩ := hw
      rcases hor with ⟨o, v, h1, h2⟩ | ⟨b, h⟩
      · cases o with
        | zero => simp at h1; exact h2 h1.symm
        | succ o => simp at h1
      · simp at h
    | cons o p =>
      simp only [walk] at hw
      cases o with
      | zero => simp [hblk] at hw
      | succ o => simp at hw
  refine stab2 w Φ (ρ.set d x) (fun _ _ => rfl) (fun _ h => h) ?_ ?_ ?_ v cv g (fun _ _ => rfl) h
  · intro r p o cv f h
    simp only [VR] at h ⊢
    obtain ⟨⟨bo, row, a, n, c, hw, h1, h2⟩, hz⟩ := h
    have := hne hw (.inl ⟨_, _, h1, by rw [h2]; simp⟩)
    exact ⟨⟨bo, row, a, n, c, by rw [rowOf_set this]; exact hw, h1, h2⟩, hz⟩
  · intro r p o cv f h
    simp only [VR] at h ⊢
    obtain ⟨⟨b0, row, hw, h1⟩, hz⟩ := h
    have := hne hw (.inr ⟨b0, rfl⟩)
    exact ⟨⟨b0, row, by rw [rowOf_set this]; exact hw, h1⟩, hz⟩
  · intro r p o cv f h
    simp only [VR] at h ⊢
    obtain ⟨⟨bo, row, g, fs, cs, hw, h1, h2⟩, hz⟩ := h
    have := hne hw (.inl ⟨_, _, h1, by rw [h2]; simp⟩)
    exact ⟨⟨bo, row, g, fs, cs, by rw [rowOf_set this]; exact hw, h1, h2⟩, hz⟩

theorem CR_known {d : Nat} {x : Value} (hd : ρ[d]? = some unk) : ∀ (cs : List AV) (vs : List Value) (g : Cnt), CR P w Φ σ ρ cs vs g → CR P w Φ σ (ρ.set d x) cs vs g
  | [], vs, g, h => by simpa only [CR] using h
  | c :: cs, vs, g, h => by
    simp only [CR] at h ⊢
    obtain ⟨v, vs', f1, f2, e, h1, h2, hb⟩ := h
    exact ⟨v, vs', f1, f2, e, VR_known hd _ _ _ h1, CR_known hd _ _ _ h2, hb⟩

/-- A row with one cell put anew. -/
theorem CR_set {cs : List AV} {vs : List Value} {f1 f2 : Cnt} {i : Nat} {c : AV} {cv : Value} (h : CR P w Φ σ ρ cs vs f2) (hv : VR P w Φ σ ρ c cv f1) (hi : i < cs.length) :
    ∃ f', CR P w Φ σ ρ (cs.set i c) (vs.set i cv) f' ∧ ∀ b, f' b ≤ f1 b + f2 b := by
  obtain ⟨v, g1, g2, hv1, hv2, hf, hset⟩ := CR_get i h (List.getElem?_eq_getElem hi)
  exact ⟨_, hset c cv f1 hv, fun b => by show f1 b + g2 b ≤ f1 b + f2 b; have := hf b; omega⟩
end
end Go.AM
