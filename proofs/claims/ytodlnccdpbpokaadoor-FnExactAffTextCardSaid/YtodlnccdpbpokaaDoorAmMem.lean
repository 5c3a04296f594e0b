/- Operations that take what is owned, or make memory. -/
import Derived.Test.YtodlnccdpbpokaaDoorAmPure
import Derived.Lib.LaidTab
import Derived.Lib.ItoaNum
set_option linter.unusedSimpArgs false
set_option linter.unusedVariables false
set_option linter.unusedSectionVars false
namespace Go.AM
open Go

/-- From w to w' nothing is written but what 'f' counts, and new blocks. -/
structure Ext (w w' : World) (f : Cnt) : Prop where
  os : w'.os = w.os
  tape : w'.tape = w.tape
  output : w'.output = w.output
  size : w.heap.size ≤ w'.heap.size
  block : ∀ b, b < w.heap.size → f b = 0 → w'.heap[b]? = w.heap[b]?

theorem Ext.refl (w : World) (f : Cnt) : Ext w w f := ⟨rfl, rfl, rfl, Nat.le_refl _, fun _ _ _ => rfl⟩

section
variable {P : Program} {w : World} {Φ : Nat → Prop} {σ : Nat → Value} {ρ : List Value}

theorem walk_ext {w' : World} (hx : ∀ b, b < w.heap.size → w'.heap[b]? = w.heap[b]?) : ∀ (p : List Nat) (bo : Option Nat) (vs : List Value) (r : Option Nat × List Value), walk w bo vs p = some r → walk w' bo vs p = some r
  | [], bo, vs, r, h => by simpa [walk] using h
  | o :: p, bo, vs, r, h => by
    simp only [walk] at h ⊢
    cases h1 : vs[o]? with
    | none => simp [h1] at h
    | some u =>
      cases h2 : hblk u with
      | none => simp [h1, h2] at h
      | some b1 =>
        cases h3 : brow w b1 with
        | none => simp [h1, h2, h3] at h
        | some r1 =>
          simp only [h1, h2, h3] at h
          have h4 : brow w' b1 = some r1 := by
            unfold brow at h3 ⊢
            split at h3
            · rename_i arr t fr hb
              have : b1 < w.heap.size := (Array.getElem?_eq_some_iff.1 hb).1
              rw [hx b1 this, hb]; simpa using h3
            · cases h3
          simp only [h2, h4]
          exact walk_ext hx p _ _ _ h

theorem VR_ext2 {w' : World} (hx : ∀ b, b < w.heap.size → w'.heap[b]? = w.heap[b]?) (hΦ : ∀ b, Φ b → b < w.heap.size) (v : AV) (cv : Value) (f : Cnt) (hf : ∀ b, 1 ≤ f b → b < w.heap.size) (h : VR P w Φ σ ρ v cv f) : VR P w' Φ σ ρ v cv f :=
  stab2 w' Φ ρ (fun b hb => hx b (hΦ b hb)) (fun _ h => h)
    (fun r p o cv f h => by
      simp only [VR] at h ⊢
      obtain ⟨⟨bo, row, a, n, c, hw, h1, h2⟩, hz⟩ := h
      exact ⟨⟨bo, row, a, n, c, walk_ext hx _ _ _ _ hw, h1, h2⟩, hz⟩)
    (fun r p o cv f h => by
      simp only [VR] at h ⊢
      obtain ⟨⟨b0, row, hw, h1⟩, hz⟩ := h
      exact ⟨⟨b0, row, walk_ext hx _ _ _ _ hw, h1⟩, hz⟩)
    (fun r p o cv f h => by
      simp only [VR] at h ⊢
      obtain ⟨⟨bo, row, g, fs, cs, hw, h1, h2⟩, hz⟩ := h
      exact ⟨⟨bo, row, g, fs, cs, walk_ext hx _ _ _ _ hw, h1, h2⟩, hz⟩)
    v cv f (fun b hb => hx b (hf b hb)) h

theorem CR_ext2 {w' : World} (hx : ∀ b, b < w.heap.size → w'.heap[b]? = w.heap[b]?) (hΦ : ∀ b, Φ b → b < w.heap.size) : ∀ (cs : List AV) (vs : List Value) (f : Cnt), (∀ b, 1 ≤ f b → b < w.heap.size) → CR P w Φ σ ρ cs vs f → CR P w' Φ σ ρ cs vs f
  | [], vs, f, _, h => by simpa only [CR] using h
  | c :: cs, vs, f, hf, h => by
    simp only [CR] at h ⊢
    obtain ⟨v, vs', f1, f2, e, h1, h2, hb⟩ := h
    exact ⟨v, vs', f1, f2, e, VR_ext2 hx hΦ _ _ _ (fun b hb1 => hf b (by have := hb b; omega)) h1, CR_ext2 hx hΦ _ _ _ (fun b hb1 => hf b (by have := hb b; omega)) h2, hb⟩

theorem alloc_old (w : World) (o : Obj) : ∀ b, b < w.heap.size → (w.alloc o).heap[b]? = w.heap[b]? := fun b hb => heap_alloc_old w o b hb
theorem Ext.alloc (w : World) (o : Obj) (f : Cnt) : Ext w (w.alloc o) f := ⟨rfl, rfl, rfl, by simp, fun b hb _ => alloc_old w o b hb⟩

theorem okCon_hr {v : Value} {av : AV} (h : okCon v av = true) : hr av = false := by
  cases v <;> cases av <;> simp [okCon] at h <;> try rfl
  obtain ⟨_, rfl⟩ := h
  rfl
theorem okCons_hr : ∀ {vs : List Value} {as : List AV}, okCons vs as = true → hrs as = false
  | [], [], _ => rfl
  | v :: vs, a :: as, h => by
    simp only [okCons, Bool.and_eq_true] at h
    simp only [hrs, Bool.or_eq_false_iff]
    exact ⟨okCon_hr h.1, okCons_hr h.2⟩
  | [], _ :: _, h => by simp [okCons] at h
  | _ :: _, [], h => by simp [okCons] at h

/-- The library's tables that contracts read. -/
def tabList : List (String × Array Value) := [("internal/strconv.uint64pow10", (Lib.pow10Tab.map fun z => Value.int .u64 z).toArray)]
/-- Those tables that the program has are there, frozen. -/
def Tabs (P : Program) (w : World) (Φ : Nat → Prop) : Prop := ∀ p ∈ tabList, ∀ g, P.globalNamed p.1 = some g → Φ g ∧ w.var? P p.1 = some p.2
theorem tabs_keep {P : Program} {w w' : World} {Φ Φ' : Nat → Prop} (h : Tabs P w Φ) (hk : ∀ b, Φ b → w'.heap[b]? = w.heap[b]?) (hs : ∀ b, Φ b → Φ' b) : Tabs P w' Φ' := by
  intro p hp g hg
  obtain ⟨h1, h2⟩ := h p hp g hg
  refine ⟨hs g h1, ?_⟩
  unfold World.var? at h2 ⊢
  rw [hg] at h2 ⊢
  simp only [Option.bind_some] at h2 ⊢
  rw [hk g h1]
  exact h2
theorem tabs_none {P : Program} {w : World} {Φ : Nat → Prop} (h : P.globalNamed "internal/strconv.uint64pow10" = none) : Tabs P w Φ := by
  intro p hp g hg
  simp only [tabList, List.mem_singleton] at hp
  subst hp
  rw [h] at hg
  cases hg

/-- The world and the counts as they must be. -/
structure Inv (P : Program) (w : World) (Φ : Nat → Prop) (f : Cnt) : Prop where
  sep : ∀ b, f b ≤ 1
  lt : ∀ b, 1 ≤ f b → b < w.heap.size
  fz : ∀ b, Φ b → b < w.heap.size
  apart : ∀ b, Φ b → f b = 0
  tab : Tabs P w Φ

/-- What an operation leaves. -/
structure StepR (P : Program) (w w' : World) (Φ : Nat → Prop) (σ : Nat → Value) (ρ : List Value) (f : Cnt) (v : AV) (cv : Value) (e' : Env) : Prop where
  ext : Ext w w' f
  rel : ∃ f1 f2 : Cnt, VR P w' Φ σ ρ v cv f1 ∧ CR P w' Φ σ ρ e' ρ f2 ∧ (∀ b, f1 b + f2 b ≤ 1) ∧ (∀ b, 1 ≤ f1 b + f2 b → (1 ≤ f b ∨ w.heap.size ≤ b) ∧ b < w'.heap.size)

section
variable {e : Env} {f : Cnt} {ν : List Nat} {a : Act} {o : Oper} (h : CR P w Φ σ ρ e ρ f) (hl : LK ν ρ e a.tmps) (hi : Inv P w Φ f)
include h hl hi

theorem stepR_same {v : AV} {cv : Value} (hv : ∀ g : Cnt, (∀ b, g b = 0) → VR P w Φ σ ρ v cv g) : StepR P w w Φ σ ρ f v cv e :=
  ⟨Ext.refl _ _, fun _ => 0, f, hv _ (fun _ => rfl), h, fun b => by simpa using hi.sep b, fun b hb => by simp only [Nat.zero_add] at hb; exact ⟨.inl hb, hi.lt b hb⟩⟩

/-- After something was taken, a new block. -/
theorem stepR_alloc {v : AV} {e' : Env} {f1 f2 : Cnt} (obj : Obj) {cv : Value} (he : CR P w Φ σ ρ e' ρ f2) (hf : ∀ b, f b = f1 b + f2 b)
    (hv : VR P (w.alloc obj) Φ σ ρ v cv (fun b => (if b = w.heap.size then 1 else 0) + f1 b)) : StepR P w (w.alloc obj) Φ σ ρ f v cv e' := by
  refine ⟨Ext.alloc _ _ _, _, f2, hv, CR_ext2 (alloc_old w obj) hi.fz _ _ _ (fun b hb => hi.lt b (by have := hf b; omega)) he, fun b => ?_, fun b hb => ?_⟩
  · show (if b = w.heap.size then 1 else 0) + f1 b + f2 b ≤ 1
    have := hi.sep b
    have := hf b
    split
    · rename_i hb
      have : ¬ 1 ≤ f b := fun h1 => by have := hi.lt b h1; omega
      omega
    · omega
  · have hb' : 1 ≤ (if b = w.heap.size then 1 else 0) + f1 b + f2 b := hb
    have hs : (w.alloc obj).heap.size = w.heap.size + 1 := by simp
    split at hb'
    · rename_i e1; subst e1; exact ⟨.inr (Nat.le_refl _), by rw [hs]; omega⟩
    · have h1 : 1 ≤ f b := by have := hf b; omega
      exact ⟨.inl h1, by have := hi.lt b h1; rw [hs]; omega⟩

/-- The cells taken, in the world with a new block. -/
theorem taken_alloc {cs : List AV} {vs : List Value} {f1 f2 : Cnt} (obj : Obj) (hf : ∀ b, f b = f1 b + f2 b) (hc : CR P w Φ σ ρ cs vs f1) : CR P (w.alloc obj) Φ σ ρ cs vs f1 :=
  CR_ext2 (alloc_old w obj) hi.fz _ _ _ (fun b hb => hi.lt b (by have := hf b; omega)) hc

omit h hl hi in
/-- Its cells, as Go has them. -/
theorem cells_eq {v : AV} {cv : Value} {g : Cnt} (hv : VR P w Φ σ ρ v cv g) (hd : v ≠ .dead) (hg : v ≠ .gone) (ht : ∀ sh cs, v ≠ .tup sh cs) : cv.cells.toList = cellsV cv := by
  cases cv with
  | tuple vs =>
    exfalso
    cases v <;> simp only [VR] at hv
    all_goals first
      | exact hd rfl
      | exact hg rfl
      | exact ht _ _ rfl
      | (have := hv.1; cases this; done)
      | (obtain ⟨vs, e, _⟩ := hv; cases e; done)
      | (obtain ⟨⟨a, c, e, _⟩, _⟩ := hv; cases e; done)
      | (obtain ⟨⟨a, e, _⟩, _⟩ := hv; cases e; done)
      | (obtain ⟨_, _, xs, f1, ho, _⟩ := hv; obtain ⟨a, c, e, _⟩ := ownsRow_slice ho; cases e; done)
      | (obtain ⟨_, _, b0, arr, f1, e, _⟩ := hv; cases e; done)
      | (obtain ⟨⟨bo, row, a, n, c, _, _, e⟩, _⟩ := hv; cases e; done)
      | (obtain ⟨⟨b0, row, _, e⟩, _⟩ := hv; cases e; done)
      | (obtain ⟨⟨bo, row, g, fs, cs, _, _, e⟩, _⟩ := hv; cases e; done)
  | _ => rfl

omit h hl hi in
theorem ev_notup {y : Opd} {v : AV} (hv : ev e y = some v) (hy : ∀ sh cs, y ≠ .con (.tup sh cs)) : ∀ sh cs, v ≠ .tup sh cs := by
  intro sh cs hh
  subst hh
  cases y with
  | con av => simp [ev] at hv; exact hy _ _ (by rw [hv])
  | slot j =>
    simp only [ev] at hv
    split at hv
    · rename_i u hu
      simp at hv
      cases u <;> simp [lzv, lz1] at hv
      rename_i g0 cs0; cases cs0 <;> simp [lz1] at hv
    · cases hv

theorem s_mk {t : Nat} {z : List AV} {v : AV} {e' : Env} (hok : okOp P ν o.op (.mk t z) = true) (hx : opx e (.mk t z) = some (v, e')) :
    ∃ cv w', (execOp a.eval o).run P w = .ok (.value cv) w' ∧ StepR P w w' Φ σ ρ f v cv e' := by
  simp only [opx, Option.some.injEq, Prod.mk.injEq] at hx
  obtain ⟨rfl, rfl⟩ := hx
  simp only [okOp] at hok
  split at hok
  · rename_i t' ho
    simp only [Bool.and_eq_true, beq_iff_eq] at hok
    obtain ⟨rfl, hz⟩ := hok
    unfold zeroOk at hz
    split at hz
    · rename_i zv hzv
      obtain ⟨inf, hinf, hzz⟩ := Option.bind_eq_some_iff.1 hzv
      refine ⟨.pointer (some ⟨w.heap.size, 0, none⟩), w.alloc (.cells zv.cells t), ?_, ?_⟩
      · simp [execOp, ho, Instr.alloc, zeroValue, typeInfo, hinf, hzz, newVar, newRow]
      · refine stepR_alloc h hl hi (f1 := fun _ => 0) _ h (fun b => by simp) ?_
        simp only [VR]
        exact ⟨fun h => absurd rfl h, okCons_hr hz, _, zv.cells, fun _ => 0, rfl, heap_alloc_new w _, okCons_rel hz, fun b => rfl⟩
    · cases hz
  · cases hok

theorem s_box {t sz : Nat} {y : Opd} {v : AV} {e' : Env} (hok : okOp P ν o.op (.box t sz y) = true) (hx : opx e (.box t sz y) = some (v, e')) :
    ∃ cv w', (execOp a.eval o).run P w = .ok (.value cv) w' ∧ StepR P w w' Φ σ ρ f v cv e' := by
  simp only [opx] at hx
  simp only [okOp] at hok
  split at hok
  · rename_i t' x ho
    simp only [Bool.and_eq_true, beq_iff_eq] at hok
    obtain ⟨rfl, hx1⟩ := hok
    cases hv : ev e y with
    | none => simp [hv] at hx
    | some u =>
      simp only [hv] at hx
      split at hx
      · rename_i hlen
        cases ht : takeCs e (cellsOf u) with
        | none => simp [ht] at hx
        | some z =>
          obtain ⟨cs, e1⟩ := z
          simp [ht] at hx
          obtain ⟨rfl, rfl⟩ := hx
          have c1 := ev_rel h hl hx1 hv (fun _ => 0) (fun _ => rfl)
          have hd : u ≠ .dead := by rintro rfl; simp [cellsOf, takeCs, takeC] at ht
          have hg : u ≠ .gone := by rintro rfl; simp [cellsOf, takeCs, takeC] at ht
          have htup : ∀ sh cs, u ≠ .tup sh cs := ev_notup hv (by rintro sh cs rfl; cases x <;> simp [okX] at hx1; rename_i u; cases u <;> simp [okCon] at hx1)
          have hc := cells_rel hd hg c1
          rw [← cells_eq c1 hd hg htup] at hc
          obtain ⟨f1, f2, hcs, he, hf, _⟩ := takeCs_rel h hi.sep hc (fun _ => rfl) ht
          have hhr := takeCs_hr ht hcs
          refine ⟨.pointer (some ⟨w.heap.size, 0, none⟩), w.alloc (.cells (a.eval x).cells t), ?_, ?_⟩
          · simp [execOp, ho, Instr.box, newVar, newRow]
          · refine stepR_alloc h hl hi _ he hf ?_
            simp only [VR]
            exact ⟨fun h => absurd rfl h, hhr, _, _, f1, rfl, heap_alloc_new w _, taken_alloc h hl hi _ hf hcs, fun b => rfl⟩
      · cases hx
  · cases hok

theorem s_asg {y : Opd} {v : AV} {e' : Env} (hok : okOp P ν o.op (.asg y) = true) (hx : opx e (.asg y) = some (v, e')) :
    ∃ cv w', (execOp a.eval o).run P w = .ok (.value cv) w' ∧ StepR P w w' Φ σ ρ f v cv e' := by
  simp only [opx] at hx
  have key : ∀ x : Operand, okX ν x y = true → StepR P w w Φ σ ρ f v (a.eval x) e' := by
    intro x hx1
    cases hv : ev e y with
    | none => simp [hv] at hx
    | some u =>
      simp only [hv] at hx
      have c1 := ev_rel h hl hx1 hv (fun _ => 0) (fun _ => rfl)
      have fin : ∀ {f1 f2 : Cnt}, VR P w Φ σ ρ v (a.eval x) f1 → CR P w Φ σ ρ e' ρ f2 → (∀ b, f b = f1 b + f2 b) → StepR P w w Φ σ ρ f v (a.eval x) e' := fun h1 h2 h3 =>
        ⟨Ext.refl _ _, _, _, h1, h2, fun b => by have := hi.sep b; have := h3 b; omega, fun b hb => by have := h3 b; exact ⟨.inl (by omega), hi.lt b (by omega)⟩⟩
      have one : takeC e u = some (v, e') → StepR P w w Φ σ ρ f v (a.eval x) e' := fun ht => by
        obtain ⟨f1, f2, h1, h2, h3, _⟩ := takeC_rel h hi.sep c1 ht
        exact fin h1 h2 (fun b => by simpa using h3 b)
      cases u with
      | agg cs =>
        simp only [takeV] at hx
        cases ht : takeCs e cs with
        | none => simp [ht] at hx
        | some z =>
          obtain ⟨cs1, e1⟩ := z
          simp [ht] at hx
          obtain ⟨rfl, rfl⟩ := hx
          simp only [VR] at c1
          obtain ⟨arr, e1, hc⟩ := c1
          obtain ⟨f1, f2, hcs, he, hf, _⟩ := takeCs_rel h hi.sep hc (fun _ => rfl) ht
          refine fin (f1 := f1) ?_ he hf
          simp only [VR]
          exact ⟨arr, e1, hcs⟩
      | tup sh cs => simp [takeV] at hx
      | _ => exact one (by simpa only [takeV] using hx)
  simp only [okOp] at hok
  split at hok
  · rename_i x ho
    exact ⟨a.eval x, w, by simp [execOp, ho], key x hok⟩
  · rename_i x ho
    exact ⟨a.eval x, w, by simp [execOp, ho], key x hok⟩
  · cases hok

omit h hl hi in
theorem elem_parts {t : TypeId} {el : TypeId} (h1 : elemP P t = some el) : P.underlying t = some (.slice el) := by
  unfold elemP at h1
  split at h1
  · rename_i e hu; rw [hu, Option.some.inj h1]
  · cases h1
omit h hl hi in
theorem elemOk_parts {el sz : Nat} (h1 : elemOk P el sz = true) : ∃ i z, P.info? el = some i ∧ i.size = sz ∧ 0 < sz ∧ i.bytes ≤ 32768 ∧ i.zero = some z ∧ z.cells.size = sz ∧ P.cellsOf el = sz := by
  unfold elemOk at h1
  split at h1
  · rename_i i hi
    simp only [Bool.and_eq_true, beq_iff_eq, decide_eq_true_eq] at h1
    obtain ⟨⟨⟨rfl, h2⟩, h3⟩, h4⟩ := h1
    split at h4
    · rename_i z hz
      simp at h4
      exact ⟨i, z, hi, rfl, h2, h3, hz, h4, by simp [Program.cellsOf, hi]⟩
    · cases h4
  · cases h1

omit h hl hi in
theorem CR_rep {zs : List AV} {vs : List Value} (hz : CR P w Φ σ ρ zs vs (fun _ => 0)) : ∀ n, CR P w Φ σ ρ (List.replicate n zs).flatten (List.replicate n vs).flatten (fun _ => 0)
  | 0 => by simpa using CR_nil
  | n + 1 => by
    have := CR_append hz (CR_rep hz n)
    simpa [List.replicate_succ] using this
omit h hl hi in
theorem hrs_rep {zs : List AV} (hz : hrs zs = false) : ∀ n, hrs (List.replicate n zs).flatten = false
  | 0 => rfl
  | n + 1 => by simp [List.replicate_succ, hrs_append, hz, hrs_rep hz n]

omit h hl hi in
theorem madeCells_rep (z : Array Value) (n : Nat) (hz : 0 < z.size) : (madeCells z (n * z.size)).toList = (List.replicate n z.toList).flatten := by
  apply List.ext_getElem?
  intro j
  have hl : ((List.replicate n z.toList).flatten).length = n * z.size := by simp
  by_cases hj : j < n * z.size
  · have e1 : (madeCells z (n * z.size)).toList[j]? = some (z[j % z.size]!) := by simp [madeCells, hj]
    rw [e1]
    have : ∀ n j, j < n * z.size → ((List.replicate n z.toList).flatten)[j]? = some (z[j % z.size]!) := by
      intro n
      induction n with
      | zero => intro j hj; omega
      | succ n ih =>
        intro j hj
        simp only [List.replicate_succ, List.flatten_cons]
        by_cases h1 : j < z.size
        · rw [List.getElem?_append_left (by simpa using h1), Nat.mod_eq_of_lt h1]
          simp [h1]
        · rw [List.getElem?_append_right (by simpa using h1)]
          simp only [Array.length_toList]
          rw [ih (j - z.size) (by rw [Nat.succ_mul] at hj; omega), ← Nat.mod_eq_sub_mod (by omega)]
    exact (this n j hj).symm
  · rw [List.getElem?_eq_none (by simp [madeCells]; omega), List.getElem?_eq_none (by omega)]

theorem s_mksl {el : Nat} {z : List AV} {l c : Opd} {v : AV} {e' : Env} (hok : okOp P ν o.op (.mksl el z l c) = true) (hx : opx e (.mksl el z l c) = some (v, e')) :
    ∃ cv w', (execOp a.eval o).run P w = .ok (.value cv) w' ∧ StepR P w w' Φ σ ρ f v cv e' := by
  simp only [opx] at hx
  simp only [okOp] at hok
  split at hok
  · rename_i t l' c' ho
    simp only [Bool.and_eq_true, beq_iff_eq] at hok
    obtain ⟨⟨⟨⟨h1, h2⟩, h3⟩, h4⟩, h5⟩ := hok
    have hu := elem_parts h1
    obtain ⟨inf, zv, hinf, hs, hs0, hby, hzz, hzs, hco⟩ := elemOk_parts h2
    split at hx
    · rename_i k n k' n' hv1 hv2
      split at hx
      · rename_i hb
        simp at hx
        obtain ⟨rfl, rfl⟩ := hx
        have e1 := VR_int (ev_rel h hl h4 hv1 (fun _ => 0) (fun _ => rfl))
        have e2 := VR_int (ev_rel h hl h5 hv2 (fun _ => 0) (fun _ => rfl))
        obtain ⟨hn0, rfl, hnb⟩ := hb
        obtain ⟨m, rfl⟩ : ∃ m : Nat, n = m := ⟨n.toNat, by omega⟩
        have hm : m ≤ 4294967296 := by unfold bnd at hnb; omega
        have hmul : inf.bytes * m ≤ 281474976710656 := by
          have := Nat.mul_le_mul hby hm
          omega
        obtain ⟨w', hr, hown, hgr⟩ := run_make_full (P := P) w 0 t el inf zv inf.size hu hinf hzz rfl k k' m hmul (by simp only [maxLen]; omega) (Nat.zero_le _)
        unfold zeroOk at h3
        rw [hinf] at h3
        simp only [Option.bind_some, hzz] at h3
        refine ⟨_, w', by simp [execOp, ho, e1, e2, hr]; rfl, ?_⟩
        have hblk : ∀ b, b < w.heap.size → w'.heap[b]? = w.heap[b]? := fun b hb => hgr.block b hb (by simp)
        have hb0 : own1 (Value.slice (some ⟨w.heap.size, 0, none⟩) m m) = fun b => if b = w.heap.size then 1 else 0 := by
          funext b; simp [own1, Value.ownBlock, eq_comm]
        refine ⟨⟨hgr.os, hgr.tape, hgr.output, hgr.size, fun b hb _ => hblk b hb⟩, fun b => (if b = w.heap.size then 1 else 0), f, ?_, CR_ext2 hblk hi.fz _ _ _ (fun b hb => hi.lt b hb) h, fun b => ?_, fun b hb => ?_⟩
        · simp only [VR]
          refine ⟨fun h => absurd rfl h, hrs_rep (okCons_hr h3) _, _, fun _ => 0, by rw [hco, ← hs]; exact hown, ?_, fun b => by rw [hb0]; simp⟩
          rw [hs, ← hzs, madeCells_rep _ _ (by omega)]
          simpa using CR_rep (okCons_rel h3) m
        · have := hi.sep b
          dsimp only
          split
          · rename_i hb; have : ¬ 1 ≤ f b := fun h1 => by have := hi.lt b h1; omega
            omega
          · omega
        · have hlt : w.heap.size < w'.heap.size := by
            have := hown.lt _ (rfl : (Value.slice (some ⟨w.heap.size, 0, none⟩) m m).ownBlock = some w.heap.size)
            exact this.2
          dsimp only at hb
          split at hb
          · rename_i e; exact ⟨.inr (by omega), by omega⟩
          · have h1 : 1 ≤ f b := by omega
            exact ⟨.inl h1, by have := hi.lt b h1; omega⟩
      · cases hx
    · cases hx
  · cases hok

omit h hl hi in
theorem foldl_splice : ∀ (xs : List Value) (off k : Nat) (arr : Array Value), off + k + xs.length ≤ arr.size →
    ((xs.zipIdx k).foldl (fun cs (c : Value × Nat) => cs.setIfInBounds (off + c.2) c.1) arr).toList = arr.toList.take (off + k) ++ xs ++ arr.toList.drop (off + k + xs.length)
  | [], off, k, arr, _ => by simp
  | x :: xs, off, k, arr, hb => by
    simp only [List.zipIdx_cons, List.foldl_cons]
    simp only [List.length_cons] at hb
    rw [foldl_splice xs off (k + 1) (arr.setIfInBounds (off + k) x) (by simp; omega)]
    have hlt : off + k < arr.toList.length := by simp; omega
    simp only [Array.toList_setIfInBounds, List.length_cons]
    rw [List.take_set, List.drop_set, if_pos (by omega)]
    have : (arr.toList.take (off + (k + 1))).set (off + k) x = arr.toList.take (off + k) ++ [x] := by
      rw [show off + (k + 1) = (off + k) + 1 by omega, List.take_succ_eq_append_getElem hlt, List.set_append_right _ _ (by simp; omega)]
      have : off + k - (arr.toList.take (off + k)).length = 0 := by simp; omega
      rw [this]; rfl
    rw [this]
    simp [Nat.add_assoc, Nat.add_comm 1]

omit h hl hi in
theorem splice_len {cs xs : List AV} {off : Nat} (hb : off + xs.length ≤ cs.length) : (splice cs off xs).length = cs.length := by
  simp [splice]; omega
omit h hl hi in
theorem CR_splice {cs xs : List AV} {vs us : List Value} {off : Nat} (hb : off + xs.length ≤ cs.length) (hc : CR P w Φ σ ρ cs vs (fun _ => 0)) (hx : CR P w Φ σ ρ xs us (fun _ => 0)) :
    CR P w Φ σ ρ (splice cs off xs) (vs.take off ++ us ++ vs.drop (off + us.length)) (fun _ => 0) := by
  obtain ⟨f1, f2, h1, h2, hf⟩ := CR_take_drop off hc
  obtain ⟨g1, g2, k1, k2, hg⟩ := CR_take_drop (off + xs.length) hc
  have z1 : f1 = fun _ => 0 := funext fun b => by have : 0 = f1 b + f2 b := hf b; omega
  have z2 : g2 = fun _ => 0 := funext fun b => by have : 0 = g1 b + g2 b := hg b; omega
  subst z1; subst z2
  have hl := CR_length hx
  rw [hl] at k2
  have := CR_append (CR_append h1 hx) k2
  simpa [splice, hl] using this

omit hi in
theorem fill_rel {places : Nat → Option (Nat × Nat)} : ∀ {cs cs' : List AV} {vs : List Value} {xs : List (Nat × Operand)} {ys : List (Nat × Nat × Opd)}, okParts ν places xs ys = true → fillP e cs ys = some cs' → CR P w Φ σ ρ cs vs (fun _ => 0) →
    (∃ vs', Instr.fill places vs.toArray (xs.map fun p => (p.1, a.eval p.2)) = some vs'.toArray ∧ CR P w Φ σ ρ cs' vs' (fun _ => 0) ∧ cs'.length = cs.length)
  | cs, cs', vs, [], [], _, hf, hc => by
    simp [fillP] at hf; subst hf
    exact ⟨vs, by simp [Instr.fill], hc, rfl⟩
  | cs, cs', vs, (i, x) :: xs, (off, sz, y) :: ys, hok, hf, hc => by
    simp only [okParts, Bool.and_eq_true, beq_iff_eq] at hok
    obtain ⟨⟨hp, hx1⟩, hrest⟩ := hok
    simp only [fillP] at hf
    split at hf
    · cases hf
    · cases hf
    · rename_i u hd hg hv
      split at hf
      · rename_i hb
        have c1 := ev_rel h hl hx1 hv (fun _ => 0) (fun _ => rfl)
        have htup : ∀ sh cs, u ≠ .tup sh cs := ev_notup hv (by rintro sh cs rfl; cases x <;> simp [okX] at hx1; rename_i u; cases u <;> simp [okCon] at hx1)
        have hcu := cells_rel hd hg c1
        rw [← cells_eq c1 hd hg htup] at hcu
        have hlen := CR_length hcu
        have hvl := CR_length hc
        have hcs := CR_splice (off := off) (by omega) hc hcu
        obtain ⟨vs', h1, h2, h3⟩ := fill_rel hrest hf hcs
        refine ⟨vs', ?_, h2, h3.trans (splice_len (by omega))⟩
        have hsz : (a.eval x).cells.size = sz := by rw [← Array.length_toList]; omega
        have hfold := foldl_splice (a.eval x).cells.toList off 0 vs.toArray (by simp; omega)
        simp only [List.map_cons, Instr.fill, hp]
        rw [if_neg (by simp; omega)]
        rw [← h1]
        congr 1
        apply Array.ext'
        rw [← Array.foldl_toList, Array.toList_zipIdx, hfold]
        simp
      · cases hf
    · cases hf
  | _, _, _, [], _ :: _, hok, _, _ => by simp [okParts] at hok
  | _, _, _, _ :: _, [], hok, _, _ => by simp [okParts] at hok

omit h hl hi in
theorem run_mapM_list {α β : Type} (g : α → Sem β) (k : α → β) : ∀ (l : List α), (∀ x ∈ l, (g x).run P w = .ok (k x) w) → (l.mapM g).run P w = .ok (l.map k) w
  | [], _ => by simp
  | x :: l, hx => by
    rw [List.mapM_cons, Sem.run_bind, hx x (by simp)]
    simp only [Result.andThen_ok]
    rw [Sem.run_bind, run_mapM_list g k l (fun y hy => hx y (by simp [hy]))]
    simp
omit h hl hi in
theorem mapM_places {P : Program} : ∀ {l : List Field} {pl : List (Nat × Nat)}, l.mapM (fun f => (szOf P f.type).map fun s => (f.offset, s)) = some pl →
    pl = l.map (fun f => (f.offset, (szOf P f.type).getD 0)) ∧ ∀ f ∈ l, ∃ s, szOf P f.type = some s
  | [], pl, h => by simp at h; subst h; simp
  | x :: l, pl, h => by
    rw [List.mapM_cons] at h
    cases hs : szOf P x.type with
    | none => simp [hs] at h
    | some s =>
      cases hm : l.mapM (fun f => (szOf P f.type).map fun s => (f.offset, s)) with
      | none => simp [hs, hm] at h
      | some pl1 =>
        simp [hs, hm] at h; subst h
        obtain ⟨e1, e2⟩ := mapM_places hm
        refine ⟨by simp [hs, e1], fun f hf => ?_⟩
        rcases List.mem_cons.1 hf with rfl | hf
        · exact ⟨s, hs⟩
        · exact e2 f hf
omit h hl hi in
theorem run_build {t : TypeId} {pl : List (Nat × Nat)} (hpl : fieldPlaces P t = some pl) {inf : TypeInfo} (hinf : P.info? t = some inf) {z : Value} (hz : inf.zero = some z) {parts : Array (Nat × Value)} {cells : Array Value}
    (hf : Instr.fill (pl[·]?) z.cells parts.toList = some cells) : (Instr.build t parts).run P w = .ok (.agg cells) w := by
  unfold fieldPlaces at hpl
  split at hpl
  · rename_i fs hu
    obtain ⟨e1, e2⟩ := mapM_places hpl
    have hm : (fs.mapM fun f => (do pure (f.offset, ← sizeOf f.type) : Sem (Nat × Nat))).run P w = .ok pl.toArray w := by
      rw [Array.mapM_eq_mapM_toList, Sem.run_map, run_mapM_list _ (fun f => (f.offset, (szOf P f.type).getD 0)) fs.toList]
      · simp [e1]
      · intro x hx
        obtain ⟨s, hs⟩ := e2 x hx
        simp only [szOf, Option.map_eq_some_iff] at hs
        obtain ⟨i, hi, rfl⟩ := hs
        simp [sizeOf, typeInfo, hi, szOf]
    unfold Instr.build
    have hzv : (zeroValue t).run P w = .ok z w := by simp [zeroValue, typeInfo, hinf, hz]
    rw [Sem.run_bind, hzv]
    simp only [Result.andThen_ok]
    rw [Sem.run_bind, run_underlying hu]
    simp only [Result.andThen_ok]
    rw [Sem.run_bind, hm]
    simp only [Result.andThen_ok]
    have : (fun x : Nat => pl.toArray[x]?) = (fun x : Nat => pl[x]?) := by funext x; simp
    rw [this, hf]
    rfl
  · rename_i n el hu
    simp only [szOf, Option.map_map, Option.map_eq_some_iff] at hpl
    obtain ⟨i, hi, rfl⟩ := hpl
    unfold Instr.build
    have hzv : (zeroValue t).run P w = .ok z w := by simp [zeroValue, typeInfo, hinf, hz]
    rw [Sem.run_bind, hzv]
    simp only [Result.andThen_ok]
    rw [Sem.run_bind, run_underlying hu]
    simp only [Result.andThen_ok]
    have hsz : (sizeOf el).run P w = .ok i.size w := by simp [sizeOf, typeInfo, hi]
    rw [Sem.run_bind, hsz]
    simp only [Result.andThen_ok]
    have hfill : ∀ (ps : List (Nat × Value)) (zc cells : Array Value), Instr.fill (((List.range n).map fun j => (j * i.size, i.size))[·]?) zc ps = some cells → Instr.fill (fun j => some (j * i.size, i.size)) zc ps = some cells := by
      intro ps
      induction ps with
      | nil => intro zc cells h; simpa [Instr.fill] using h
      | cons q ps ih =>
        intro zc cells h
        obtain ⟨j, v⟩ := q
        simp only [Instr.fill] at h ⊢
        by_cases hj : j < n
        · have e1 : ((List.range n).map fun j => (j * i.size, i.size))[j]? = some (j * i.size, i.size) := by simp [hj]
          rw [e1] at h
          simp only at h ⊢
          split at h
          · cases h
          · rename_i hc; rw [if_neg hc]; exact ih _ _ h
        · have e1 : ((List.range n).map fun j => (j * i.size, i.size))[j]? = none := by simp; omega
          rw [e1] at h; cases h
    have := hfill _ _ _ hf
    simp only [this]
    rfl
  · cases hpl

omit hi in
theorem p_build {z : List AV} {ps : List (Nat × Nat × Opd)} {v : AV} {e' : Env} (hok : okOp P ν o.op (.build z ps) = true) (hx : opx e (.build z ps) = some (v, e')) : e' = e ∧ PureRes P w Φ σ ρ a o v := by
  simp only [opx] at hx
  simp only [okOp] at hok
  split at hok
  · rename_i t ps' ho
    simp only [Bool.and_eq_true] at hok
    obtain ⟨hz, hp⟩ := hok
    split at hp
    · rename_i pl hpl
      cases hf : fillP e z ps with
      | none => simp [hf] at hx
      | some cs =>
        simp [hf] at hx
        obtain ⟨rfl, rfl⟩ := hx
        unfold zeroOk at hz
        split at hz
        · rename_i zv hzv
          obtain ⟨inf, hinf, hzz⟩ := Option.bind_eq_some_iff.1 hzv
          obtain ⟨vs', h1, h2, _⟩ := fill_rel h hl hp hf (okCons_rel hz)
          refine ⟨rfl, .agg vs'.toArray, ?_, fun g hg => ?_⟩
          · have hr := run_build (P := P) (w := w) hpl hinf hzz (parts := ps'.map fun p => (p.1, a.eval p.2)) (by simpa using h1)
            simp only [Yields, execOp, ho]
            rw [Sem.run_bind, hr]
            rfl
          · simp only [VR]
            exact ⟨_, rfl, by rw [Zf hg]; simpa using h2⟩
        · cases hz
    · cases hp
  · cases hok

theorem s_bsl {el n : Nat} {z : List AV} {ps : List (Nat × Nat × Opd)} {v : AV} {e' : Env} (hok : okOp P ν o.op (.bsl el n z ps) = true) (hx : opx e (.bsl el n z ps) = some (v, e')) :
    ∃ cv w', (execOp a.eval o).run P w = .ok (.value cv) w' ∧ StepR P w w' Φ σ ρ f v cv e' := by
  simp only [opx] at hx
  simp only [okOp] at hok
  split at hok
  · rename_i t n' ps' ho
    simp only [Bool.and_eq_true, beq_iff_eq, decide_eq_true_eq] at hok
    obtain ⟨⟨⟨⟨⟨rfl, h1⟩, h2⟩, h3⟩, h4⟩, h5⟩ := hok
    have hu := elem_parts h1
    obtain ⟨inf, zv, hinf, hs, hs0, hby, hzz, hzs, hco⟩ := elemOk_parts h2
    unfold zeroOk at h3
    rw [hinf] at h3
    simp only [Option.bind_some, hzz] at h3
    split at hx
    · rename_i cs hf
      split at hx
      · rename_i cs' e1 ht
        simp at hx
        obtain ⟨rfl, rfl⟩ := hx
        obtain ⟨vs', k1, k2, k3⟩ := fill_rel h hl h5 hf (CR_rep (okCons_rel h3) n)
        obtain ⟨f1, f2, hcs, he, hff, _⟩ := takeCs_rel h hi.sep k2 (fun _ => rfl) ht
        have hhr := takeCs_hr ht hcs
        have hzl : z.length = zv.cells.toList.length := CR_length (okCons_rel h3 (P := P) (w := w) (Φ := Φ) (σ := σ) (ρ := ρ))
        have hvl : vs'.length = n * z.length := by
          rw [← CR_length k2, k3]; simp
        refine ⟨.slice (some ⟨w.heap.size, 0, none⟩) n n, w.alloc (.cells vs'.toArray el), ?_, ?_⟩
        · have hcells : ((Array.range (n * inf.size)).map (zv.cells[· % zv.cells.size]!)) = (List.replicate n zv.cells.toList).flatten.toArray := by
            apply Array.ext'
            have := madeCells_rep zv.cells n (by omega)
            rw [hs, ← hzs]
            simpa [madeCells] using this
          have hnz : ¬ n * inf.size > 2 ^ 24 := by rw [hs]; omega
          have hbs : (Instr.buildSlice t n (ps'.map fun p => (p.1, a.eval p.2))).run P w = .ok (.slice (some ⟨w.heap.size, 0, none⟩) n n) (w.alloc (.cells vs'.toArray el)) := by
            unfold Instr.buildSlice
            rw [Sem.run_bind, run_underlying hu]
            simp only [Result.andThen_ok]
            rw [Sem.run_bind, show (sizeOf el).run P w = .ok inf.size w by simp [sizeOf, typeInfo, hinf]]
            simp only [Result.andThen_ok]
            rw [if_neg hnz]
            have hzv : (zeroValue el).run P w = .ok zv w := by simp [zeroValue, typeInfo, hinf, hzz]
            by_cases hn0 : n * inf.size = 0
            · have hn : n = 0 := by
                rcases Nat.mul_eq_zero.1 hn0 with h | h
                · exact h
                · omega
              subst hn
              simp only [List.replicate_zero, List.flatten_nil] at k1
              simp [hs, k1, newRow, Array.range_zero']
            · rw [if_neg hn0, Sem.run_bind]
              simp only [Sem.run_bind, hzv, Result.andThen_ok, Sem.run_pure]
              rw [hcells, hs]
              have : Instr.fill (fun i => some (i * z.length, z.length)) (List.replicate n zv.cells.toList).flatten.toArray (ps'.map fun p => (p.1, a.eval p.2)).toList = some vs'.toArray := by simpa using k1
              rw [this]
              simp [newRow]
          simp only [execOp, ho]
          rw [Sem.run_bind, hbs]
          rfl
        · refine stepR_alloc h hl hi _ he hff ?_
          simp only [VR]
          refine ⟨fun h => absurd rfl h, hhr, vs', f1, ?_, taken_alloc h hl hi _ hff hcs, fun b => by simp [own1, Value.ownBlock, eq_comm]⟩
          have := World.ownsRow_lit (base := 0) (e := el) (size := z.length) w vs'.toArray n (Nat.zero_le _) (by simp only [maxLen]; have := Nat.le_mul_of_pos_right n hs0; omega) (by simpa using hvl)
          rw [hco]; simpa using this
      · cases hx
    · cases hx
  · cases hok
end
end
end Go.AM
