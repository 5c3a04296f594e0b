/- The slots: what is handed out of them, what is taken. -/
import Derived.Test.YtodlnccdpbpokaaDoorAmFocus
set_option linter.unusedSimpArgs false
set_option linter.unusedVariables false
namespace Go.AM
open Go
section
variable {P : Program} {w : World} {Φ : Nat → Prop} {σ : Nat → Value} {ρ : List Value}

theorem Zf {f : Cnt} (h : ∀ b, f b = 0) : f = fun _ => 0 := funext h

theorem CR_one {v : AV} {cv : Value} {f : Cnt} (h : VR P w Φ σ ρ v cv f) : CR P w Φ σ ρ [v] [cv] f := by
  have := CR_cons h CR_nil
  simpa using this
theorem CR_one_inv {v : AV} {cv : Value} {f : Cnt} (h : CR P w Φ σ ρ [v] [cv] f) : VR P w Φ σ ρ v cv f := by
  simp only [CR] at h
  obtain ⟨v', vs', f1, f2, e, h1, ⟨rfl, hz⟩, hf⟩ := h
  obtain ⟨rfl, _⟩ := List.cons.inj e
  have : f = f1 := funext fun b => by rw [hf b, hz b]; omega
  rw [this]; exact h1

theorem slice_cellsV {cv : Value} {a : Option Addr} {n c : Nat} (h : cv = .slice a n c) : cellsV cv = [cv] := by subst h; rfl
theorem ptr_cellsV {cv : Value} {a : Option Addr} (h : cv = .pointer a) : cellsV cv = [cv] := by subst h; rfl

/-- A value's cells. -/
theorem cells_rel {v : AV} {cv : Value} {f : Cnt} (hd : v ≠ .dead) (hg : v ≠ .gone) (h : VR P w Φ σ ρ v cv f) : CR P w Φ σ ρ (cellsOf v) (cellsV cv) f := by
  cases v with
  | dead => exact absurd rfl hd
  | gone => exact absurd rfl hg
  | agg cs => simp only [VR] at h; obtain ⟨arr, rfl, h⟩ := h; exact h
  | tup sh cs => simp only [VR] at h; obtain ⟨arr, rfl, _, h⟩ := h; exact h
  | int k n => have h0 := h; simp only [VR] at h; rw [h.1] at *; exact CR_one h0
  | bool t => have h0 := h; simp only [VR] at h; rw [h.1] at *; exact CR_one h0
  | str s => have h0 := h; simp only [VR] at h; rw [h.1] at *; exact CR_one h0
  | nilf => have h0 := h; simp only [VR] at h; rw [h.1] at *; exact CR_one h0
  | nsl t => have h0 := h; simp only [VR] at h; obtain ⟨⟨a, c, rfl, _⟩, _⟩ := h; exact CR_one h0
  | fn g cs => have h0 := h; simp only [VR] at h; obtain ⟨vs, rfl, _⟩ := h; exact CR_one h0
  | rsl n cs => have h0 := h; simp only [VR] at h; obtain ⟨⟨a, c, rfl, _⟩, _⟩ := h; exact CR_one h0
  | rp cs => have h0 := h; simp only [VR] at h; obtain ⟨⟨a, rfl, _⟩, _⟩ := h; exact CR_one h0
  | osl s t n cs =>
    have h0 := h; simp only [VR] at h; obtain ⟨_, _, xs, f1, ho, _⟩ := h
    obtain ⟨a, c, rfl, _⟩ := ownsRow_slice ho; exact CR_one h0
  | bx s t cs => have h0 := h; simp only [VR] at h; obtain ⟨_, _, b0, arr, f1, rfl, _⟩ := h; exact CR_one h0
  | ps r p o => have h0 := h; simp only [VR] at h; obtain ⟨⟨bo, row, a, n, c, _, _, rfl⟩, _⟩ := h; exact CR_one h0
  | pp r p o => have h0 := h; simp only [VR] at h; obtain ⟨⟨b0, row, _, rfl⟩, _⟩ := h; exact CR_one h0
  | pf r p o => have h0 := h; simp only [VR] at h; obtain ⟨⟨bo, row, g, fs, cs, _, _, rfl⟩, _⟩ := h; exact CR_one h0

/-- Other cells put in, the value's own form kept. -/
theorem withCells_rel {w' : World} {Φ' : Nat → Prop} {ρ' : List Value} {v : AV} {cv : Value} {f : Cnt} (h : VR P w Φ σ ρ v cv f) (hd : v ≠ .dead) (hg : v ≠ .gone) {cs : List AV} {g : Cnt} (hl : cs.length = (cellsOf v).length)
    (hc : CR P w' Φ' σ ρ' cs (cellsV cv) g) : VR P w' Φ' σ ρ' (withCells v cs) cv g := by
  have one : ∀ c1 : AV, withCells v cs = cs.headD .dead → cellsV cv = [cv] → cs.length = 1 → VR P w' Φ' σ ρ' (withCells v cs) cv g := by
    intro c1 e1 e2 e3
    rw [e1]
    match cs, e3 with
    | [c], _ => rw [e2] at hc; exact CR_one_inv hc
  have hcr := CR_length (cells_rel hd hg h)
  cases v with
  | dead => exact absurd rfl hd
  | gone => exact absurd rfl hg
  | agg cs0 => simp only [VR] at h ⊢; obtain ⟨arr, rfl, h⟩ := h; simp only [withCells, VR]; exact ⟨arr, rfl, hc⟩
  | tup sh cs0 => simp only [VR] at h ⊢; obtain ⟨arr, rfl, hs, h⟩ := h; simp only [withCells, VR]; exact ⟨arr, rfl, hs, hc⟩
  | _ => 
    refine one .dead rfl ?_ hl
    have h1 : (cellsV cv).length = 1 := by rw [← hcr]; rfl
    cases cv <;> first | rfl | skip
    all_goals (exfalso; simp only [VR] at h)
    all_goals first
      | (have := h.1; cases this; done)
      | (obtain ⟨vs, e, _⟩ := h; cases e; done)
      | (obtain ⟨⟨a, c, e, _⟩, _⟩ := h; cases e; done)
      | (obtain ⟨⟨a, e, _⟩, _⟩ := h; cases e; done)
      | (obtain ⟨_, _, xs, f1, ho, _⟩ := h; obtain ⟨a, c, e, _⟩ := ownsRow_slice ho; cases e; done)
      | (obtain ⟨_, _, b0, arr, f1, e, _⟩ := h; cases e; done)
      | (obtain ⟨⟨bo, row, a, n, c, _, _, e⟩, _⟩ := h; cases e; done)
      | (obtain ⟨⟨b0, row, _, e⟩, _⟩ := h; cases e; done)
      | (obtain ⟨⟨bo, row, g, fs, cs, _, _, e⟩, _⟩ := h; cases e; done)

theorem rowE_some {e : Env} {r : Nat} {p : List Nat} {row : List AV} (h : rowE e r p = some row) :
    ∃ v, e[r]? = some v ∧ v ≠ .dead ∧ v ≠ .gone ∧ rowAt (cellsOf v) p = some row := by
  unfold rowE at h
  split at h
  · cases h
  · cases h
  · rename_i v h1 h2 hv; exact ⟨v, hv, h1, h2, h⟩
  · cases h

/-- A place of the slots. -/
theorem env_focus {e : Env} {f : Cnt} {r : Nat} {p : List Nat} {row : List AV} (h : CR P w Φ σ ρ e ρ f) (hsep : ∀ b, f b ≤ 1) (hrow : rowE e r p = some row) :
    ∃ (bo : Option Nat) (cvs : List Value) (f1 f2 : Cnt), walk w none (rowOf ρ r) p = some (bo, cvs) ∧ CR P w Φ σ ρ row (cvs.take row.length) f1 ∧ (∀ b, f b = f1 b + f2 b) ∧
      (∀ row' f1', row'.length = row.length → (p ≠ [] → hrs row' = false) → CR P w Φ σ ρ row' (cvs.take row.length) f1' →
        CR P w Φ σ ρ (setRowE e r p row') ρ (fun b => f1' b + f2 b)) ∧
      (p ≠ [] → ∃ b t arr, bo = some b ∧ w.heap[b]? = some (.cells arr t (0, 0)) ∧ cvs = arr.toList ∧ 1 ≤ f2 b ∧ hrs row = false) := by
  obtain ⟨v, hv, hd, hg, hra⟩ := rowE_some hrow
  obtain ⟨cv, g1, g2, hcv, hvr, hf, hset, hset2⟩ := CR_get2 r h hv
  have hc := cells_rel hd hg hvr
  have hl := CR_length hc
  have hc' : CR P w Φ σ ρ (cellsOf v) ((cellsV cv).take (cellsOf v).length) g1 := by rw [hl, List.take_length]; exact hc
  obtain ⟨bo, cvs, f1, f2, hw, hr1, hff, hnil, hu1, hu2⟩ := focus p (cellsOf v) (cellsV cv) g1 none row hc' (fun b => by have := hsep b; have := hf b; omega) hra
  have hro : rowOf ρ r = cellsV cv := by simp [rowOf, hcv]
  refine ⟨bo, cvs, f1, fun x => f2 x + g2 x, by rw [hro]; exact hw, hr1, fun b => by show f b = f1 b + (f2 b + g2 b); rw [hf b, hff b]; omega, ?_, ?_⟩
  · intro row' f1' hlen hh hcr
    have k := hu1 row' f1' hlen hh hcr
    rw [hl, List.take_length] at k
    have k2 := withCells_rel (v := v) hvr hd hg (setRow_length p hra hlen) k
    have k3 := hset _ cv _ k2
    rw [set_same (α := Value) hcv] at k3
    simp only [setRowE, hv]
    refine Eq.mp (congrArg (fun F => CR P w Φ σ ρ _ _ F) (funext fun x => ?_)) k3
    show f1' x + f2 x + g2 x = f1' x + (f2 x + g2 x)
    omega
  · intro hp
    obtain ⟨b, t, arr, h1, h2, h3, h4, h5, _⟩ := hu2 hp
    exact ⟨b, t, arr, h1, h2, h3, by show 1 ≤ f2 b + g2 b; omega, h5⟩

/-- A way through blocks that stay. -/
theorem walk_keep {w' : World} : ∀ (p : List Nat) (cs : List AV) (vs : List Value) (f : Cnt) (bo : Option Nat) (row : List AV), CR P w Φ σ ρ cs (vs.take cs.length) f → rowAt cs p = some row → (∀ b, 1 ≤ f b → w'.heap[b]? = w.heap[b]?) → walk w' bo vs p = walk w bo vs p
  | [], cs, vs, f, bo, row, _, _, _ => by simp [walk]
  | o :: p, cs, vs, f, bo, row, h, hp, hk => by
    simp only [rowAt] at hp
    cases hv : cs[o]? with
    | none => simp [hv] at hp
    | some v =>
      cases hi : inner v with
      | none => simp [hv, hi] at hp
      | some ics =>
        simp only [hv, hi] at hp
        obtain ⟨cv, g1, g2, hcv, hvr, hg, _, _⟩ := CR_get2 o h hv
        obtain ⟨hcv0, holt⟩ := get_take_lt hcv
        obtain ⟨b, t, arr, h1, hbk, hheap, hcr, hcnt, hhr, hupd⟩ := inner_rel hi hvr
        have hb : w'.heap[b]? = some (.cells arr t (0, 0)) := by
          rw [hk b (by have := hg b; have := hcnt b; simp at *; omega)]; exact hheap
        simp only [walk, hcv0, hbk, brow, hheap, hb]
        exact walk_keep p ics arr.toList h1 (some b) row hcr hp (fun x hx => hk x (by have := hg x; have := hcnt x; omega))
theorem live_walk {w' : World} {e : Env} {f : Cnt} {r : Nat} {p : List Nat} {row : List AV} (h : CR P w Φ σ ρ e ρ f) (hrow : rowE e r p = some row) (hk : ∀ b, 1 ≤ f b → w'.heap[b]? = w.heap[b]?) : walk w' none (rowOf ρ r) p = walk w none (rowOf ρ r) p := by
  obtain ⟨v, hv, hd, hg, hra⟩ := rowE_some hrow
  obtain ⟨cv, g1, g2, hcv, hvr, hf, _, _⟩ := CR_get2 r h hv
  have hc := cells_rel hd hg hvr
  have hl := CR_length hc
  have hro : rowOf ρ r = cellsV cv := by simp [rowOf, hcv]
  rw [hro]
  exact walk_keep p (cellsOf v) (cellsV cv) g1 none row (by rw [hl, List.take_length]; exact hc) hra (fun b hb => hk b (by have := hf b; omega))

/-- A place of the slots, turned in memory: no references about. -/
theorem env_update {e : Env} {f : Cnt} {r : Nat} {p : List Nat} {row : List AV} (h : CR P w Φ σ ρ e ρ f) (hsep : ∀ b, f b ≤ 1) (hrow : rowE e r p = some row) (hp : p ≠ []) :
    ∃ (b t : Nat) (arr : Array Value) (f1 f2 : Cnt) (u : AV), e[r]? = some u ∧ walk w none (rowOf ρ r) p = some (some b, arr.toList) ∧ w.heap[b]? = some (.cells arr t (0, 0)) ∧ CR P w Φ σ ρ row (arr.toList.take row.length) f1 ∧ hrs row = false ∧
      (∀ b, f b = f1 b + f2 b) ∧ 1 ≤ f2 b ∧
      ∀ (w' : World) (Φ' : Nat → Prop) (row' : List AV) (arr' : Array Value) (f1' : Cnt), hrs (cellsOf u) = false →
          w'.heap[b]? = some (.cells arr' t (0, 0)) → arr'.size = arr.size → (∀ x, x ≠ b → 1 ≤ f2 x → w'.heap[x]? = w.heap[x]?) →
          (∀ x, Φ x → w'.heap[x]? = w.heap[x]?) → (∀ x, Φ x → Φ' x) →
          row'.length = row.length → hrs row' = false → CR P w' Φ' σ ρ row' (arr'.toList.take row.length) f1' →
          (∀ (v : AV) cv g, v ∈ e → (∀ x, 1 ≤ g x → w'.heap[x]? = w.heap[x]?) → VR P w Φ σ ρ v cv g → VR P w' Φ' σ ρ v cv g) →
          CR P w' Φ' σ ρ (setRowE e r p row') ρ (fun x => f1' x + f2 x) := by
  obtain ⟨v, hv, hd, hg, hra⟩ := rowE_some hrow
  have get3 : ∀ {cs : List AV} {vs : List Value} {f : Cnt} (i : Nat) {c : AV}, CR P w Φ σ ρ cs vs f → cs[i]? = some c →
    ∃ (v : Value) (f1 f2 : Cnt), vs[i]? = some v ∧ VR P w Φ σ ρ c v f1 ∧ (∀ b, f b = f1 b + f2 b) ∧
      ∀ (w' : World) (Φ' : Nat → Prop), (∀ b, 1 ≤ f2 b → w'.heap[b]? = w.heap[b]?) →
        (∀ (v : AV) cv g, v ∈ cs → (∀ x, 1 ≤ g x → w'.heap[x]? = w.heap[x]?) → VR P w Φ σ ρ v cv g → VR P w' Φ' σ ρ v cv g) →
        ∀ c' v' f', VR P w' Φ' σ ρ c' v' f' → CR P w' Φ' σ ρ (cs.set i c') (vs.set i v') (fun b => f' b + f2 b) := by
    have all : ∀ (w' : World) (Φ' : Nat → Prop) {cs : List AV} {vs : List Value} {f : Cnt}, (∀ b, 1 ≤ f b → w'.heap[b]? = w.heap[b]?) →
        (∀ (v : AV) cv g, v ∈ cs → (∀ x, 1 ≤ g x → w'.heap[x]? = w.heap[x]?) → VR P w Φ σ ρ v cv g → VR P w' Φ' σ ρ v cv g) → CR P w Φ σ ρ cs vs f → CR P w' Φ' σ ρ cs vs f := by
      intro w' Φ' cs
      induction cs with
      | nil => intro vs f _ _ h; simpa only [CR] using h
      | cons c cs ih =>
        intro vs f hf hk h
        simp only [CR] at h ⊢
        obtain ⟨v, vs', f1, f2, e, h1, h2, hb⟩ := h
        exact ⟨v, vs', f1, f2, e, hk c v f1 (by simp) (fun x hx => hf x (by have := hb x; omega)) h1,
          ih (fun x hx => hf x (by have := hb x; omega)) (fun v cv g hm => hk v cv g (by simp [hm])) h2, hb⟩
    intro cs
    induction cs with
    | nil => intro vs f i c _ hi; simp at hi
    | cons c0 cs ih =>
      intro vs f i c h hi
      simp only [CR] at h
      obtain ⟨v0, vs', f1, f2, rfl, h1, h2, hf⟩ := h
      cases i with
      | zero =>
        simp at hi; subst hi
        refine ⟨v0, f1, f2, rfl, h1, hf, fun w' Φ' hk hall c' v' f' h' => ?_⟩
        simp only [List.set_cons_zero]
        exact CR_cons h' (all w' Φ' hk (fun v cv g hm => hall v cv g (by simp [hm])) h2)
      | succ i =>
        simp at hi
        obtain ⟨v, g1, g2, hv, hc, hg, hset⟩ := ih i h2 hi
        refine ⟨v, g1, fun b => f1 b + g2 b, by simpa using hv, hc, fun b => by show f b = g1 b + (f1 b + g2 b); have := hf b; have := hg b; omega, fun w' Φ' hk hall c' v' f' h' => ?_⟩
        simp only [List.set_cons_succ]
        have := CR_cons (hall c0 v0 f1 (by simp) (fun x hx => hk x (by show 1 ≤ f1 x + g2 x; omega)) h1)
          (hset w' Φ' (fun x hx => hk x (by show 1 ≤ f1 x + g2 x; omega)) (fun v cv g hm => hall v cv g (by simp [hm])) c' v' f' h')
        have e : (fun b => f1 b + (f' b + g2 b)) = (fun b => f' b + (f1 b + g2 b)) := funext fun b => by omega
        rw [e] at this; exact this
  obtain ⟨cv, g1, g2, hcv, hvr, hf, hset⟩ := get3 r h hv
  have hc := cells_rel hd hg hvr
  have hl := CR_length hc
  have hc' : CR P w Φ σ ρ (cellsOf v) ((cellsV cv).take (cellsOf v).length) g1 := by rw [hl, List.take_length]; exact hc
  obtain ⟨bo, cvs, f1, f2, hw, hr1, hff, hnil, hu1, hu2⟩ := focus p (cellsOf v) (cellsV cv) g1 none row hc' (fun b => by have := hsep b; have := hf b; omega) hra
  have hro : rowOf ρ r = cellsV cv := by simp [rowOf, hcv]
  obtain ⟨b, t, arr, rfl, h2, rfl, h4, h5, hup⟩ := hu2 hp
  refine ⟨b, t, arr, f1, fun x => f2 x + g2 x, v, hv, by rw [hro]; exact hw, h2, hr1, h5, fun b => by show f b = f1 b + (f2 b + g2 b); rw [hf b, hff b]; omega, by show 1 ≤ f2 b + g2 b; omega, ?_⟩
  intro w' Φ' row' arr' f1' hcs hheap hsz hoth hΦ hsub hlen hrow' hcr hall
  have k := hup w' Φ' ρ row' arr' f1' hcs hheap hsz (fun x hx h2 => hoth x hx (by show 1 ≤ f2 x + g2 x; omega)) hΦ hsub hlen hrow' hcr
  rw [hl, List.take_length] at k
  have k2 := withCells_rel (v := v) hvr hd hg (setRow_length p hra hlen) k
  have k3 := hset w' Φ' (fun x hx => hoth x (by intro e; subst e; have := hsep x; have := hf x; have := hff x; omega) (by show 1 ≤ f2 x + g2 x; omega)) hall _ cv _ k2
  rw [set_same (α := Value) hcv] at k3
  simp only [setRowE, hv]
  refine Eq.mp (congrArg (fun F => CR P w' Φ' σ ρ _ _ F) (funext fun x => ?_)) k3
  show f1' x + f2 x + g2 x = f1' x + (f2 x + g2 x)
  omega
end
end Go.AM
