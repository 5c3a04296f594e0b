/- Regions that draw their order. -/
import Derived.Test.YtodlnccdpbpokaaDoorAmCode
import Derived.Orders
set_option linter.unusedSimpArgs false
set_option linter.unusedVariables false
set_option linter.unusedSectionVars false
namespace Go.AM
open Go

def isDead : AV → Bool
  | .dead => true
  | _ => false
theorem isDead_iff {v : AV} : isDead v = true ↔ v = .dead := by cases v <;> simp [isDead]

/-- e' knows all that e knows. -/
def Le (e e' : Env) : Prop := ∀ (i : Nat) (v : AV), e[i]? = some v → v ≠ AV.dead → e'[i]? = some v

theorem lzv_dead {j : Nat} : lzv j .dead = .dead := rfl
theorem ev_mono {e e' : Env} (h : Le e e') {x : Opd} {v : AV} (hx : ev e x = some v) (hv : v ≠ .dead) : ev e' x = some v := by
  cases x with
  | con u => simpa [ev] using hx
  | slot j =>
    simp only [ev] at hx ⊢
    split at hx
    · rename_i u hu
      simp at hx
      have : u ≠ .dead := by rintro rfl; exact hv (by rw [← hx]; rfl)
      rw [h j u hu this]
      simpa using hx
    · cases hx
theorem rowE_mono {e e' : Env} (h : Le e e') {r : Nat} {p : List Nat} {row : List AV} (hx : rowE e r p = some row) : rowE e' r p = some row := by
  unfold rowE at hx ⊢
  split at hx
  · cases hx
  · cases hx
  · rename_i v h1 h2 hv
    rw [h r v hv h1]
    split
    · rename_i h3; cases h3; exact (h1 rfl).elim
    · rename_i h3; cases h3; exact (h2 rfl).elim
    · rename_i v' _ _ h3; cases h3; exact hx
    · rename_i h3; cases h3
  · cases hx
theorem lenX_mono {e e' : Env} (h : Le e e') {st : Bool} {v : AV} {n : Nat} (hx : lenX e st v = some n) : lenX e' st v = some n := by
  unfold lenX at hx ⊢
  split at hx
  · exact hx
  · exact hx
  · exact hx
  · split at hx
    · rename_i row hr
      rw [rowE_mono h hr]; exact hx
    · cases hx
  · cases hx
theorem evs_mono {e e' : Env} (h : Le e e') : ∀ {xs : List Opd} {vs : List AV}, evs e xs = some vs → (∀ v ∈ vs, v ≠ .dead) → evs e' xs = some vs
  | [], vs, hx, _ => by simpa [evs] using hx
  | x :: xs, vs, hx, hv => by
    simp only [evs] at hx ⊢
    split at hx
    · rename_i v h1
      split at hx
      · rename_i vs' h2
        simp at hx; subst hx
        rw [ev_mono h h1 (hv _ (by simp)), evs_mono h h2 (fun v hm => hv v (by simp [hm]))]
      · cases hx
    · cases hx
theorem fillP_mono {e e' : Env} (h : Le e e') : ∀ {ps : List (Nat × Nat × Opd)} {cs cs' : List AV}, fillP e cs ps = some cs' → fillP e' cs ps = some cs'
  | [], cs, cs', hx => by simpa [fillP] using hx
  | (off, sz, x) :: ps, cs, cs', hx => by
    simp only [fillP] at hx ⊢
    split at hx
    · cases hx
    · cases hx
    · rename_i v h1 h2 hv
      have hd : v ≠ .dead := fun hd => h1 hd
      rw [ev_mono h hv hd]
      split
      · rename_i h3; cases h3; exact (h1 rfl).elim
      · rename_i h3; cases h3; exact (h2 rfl).elim
      · rename_i v' _ _ h3; cases h3
        split at hx
        · rename_i hc; rw [if_pos hc]; exact fillP_mono h hx
        · cases hx
      · rename_i h3; cases h3
    · cases hx
theorem optI_mono {e e' : Env} (h : Le e e') {d : Nat} {x : Option Opd} {i : Int} (hx : optI e d x = some i) : optI e' d x = some i := by
  cases x with
  | none => simpa [optI] using hx
  | some x =>
    simp only [optI] at hx ⊢
    split at hx
    · rename_i h1; rw [ev_mono h h1 (by simp)]; exact hx
    · cases hx

/-- It looks, and changes nothing. -/
def pureOp : SOp → Bool
  | .mv _ => true
  | .pick _ _ _ => true
  | .mk _ _ => true
  | .build _ _ => true
  | .load _ _ _ => true
  | .bin _ _ _ => true
  | .beq _ _ _ => true
  | .not _ => true
  | .neg _ => true
  | .conv _ _ => true
  | .mkf _ _ => true
  | .slice _ _ _ _ _ => true
  | .faddr _ _ => true
  | .iaddr _ _ _ => true
  | .idx _ _ => true
  | .len _ _ => true
  | .minmax _ _ _ => true
  | .ext _ _ => true
  | .mvt _ => true
  | .aidx _ _ _ _ _ => true
  | .b2s _ => true
  | .isnil _ _ => true
  | .sbeq _ _ _ _ => true
  | _ => false

theorem opx_mono {e e' : Env} (h : Le e e') {s : SOp} (hp : pureOp s = true) {v : AV} {e1 : Env} (hx : opx e s = some (v, e1)) (hv : v ≠ .dead) : opx e' s = some (v, e') := by
  cases s with
  | mv x =>
    simp only [opx] at hx ⊢
    split at hx
    · rename_i u hu
      simp at hx; obtain ⟨rfl, rfl⟩ := hx
      rw [ev_mono h hu hv]
    · cases hx
  | pick c a b =>
    simp only [opx] at hx ⊢
    split at hx
    · rename_i t hc
      rw [ev_mono h hc (by simp)]
      split at hx
      · rename_i u hu
        simp at hx; obtain ⟨rfl, rfl⟩ := hx
        simp only [ev_mono h hu hv]
      · cases hx
    · cases hx
  | mk t z => simp [opx] at hx ⊢; exact hx.1
  | build z ps =>
    simp only [opx] at hx ⊢
    split at hx
    · rename_i cs hc
      simp at hx; obtain ⟨rfl, rfl⟩ := hx
      rw [fillP_mono h hc]
    · cases hx
  | load sz ag x =>
    simp only [opx] at hx ⊢
    split at hx
    · rename_i cs hc
      rw [ev_mono h hc (by simp)]
      simp only
      split at hx
      · rename_i h1; rw [if_pos h1]
        split at hx
        · rename_i h2; simp at hx; obtain ⟨rfl, rfl⟩ := hx; simp only [h2]
        · cases hx
      · cases hx
    · rename_i r p o hc
      rw [ev_mono h hc (by simp)]
      simp only
      split at hx
      · rename_i row hr
        rw [rowE_mono h hr]
        simp only
        split at hx
        · rename_i h1; rw [if_pos h1]
          split at hx
          · rename_i h2; simp at hx; obtain ⟨rfl, rfl⟩ := hx; simp only [h2]
          · cases hx
        · cases hx
      · cases hx
    · cases hx
  | bin op x y =>
    simp only [opx] at hx ⊢
    split at hx
    · rename_i a b ha hb
      split at hx
      · rename_i u hu
        simp at hx; obtain ⟨rfl, rfl⟩ := hx
        have h1 : a ≠ .dead := by rintro rfl; simp [binX] at hu
        have h2 : b ≠ .dead := by rintro rfl; cases a <;> simp [binX] at hu
        rw [ev_mono h ha h1, ev_mono h hb h2]
        simp only [hu]
      · cases hx
    · cases hx
  | beq ne x y =>
    simp only [opx] at hx ⊢
    split at hx
    · rename_i a b ha hb
      rw [ev_mono h ha (by simp), ev_mono h hb (by simp)]
      simp at hx ⊢; exact hx.1
    · cases hx
  | not x =>
    simp only [opx] at hx ⊢
    split at hx
    · rename_i b hb; rw [ev_mono h hb (by simp)]; simp at hx ⊢; exact hx.1
    · cases hx
  | neg x =>
    simp only [opx] at hx ⊢
    split at hx
    · rename_i b hb; rw [ev_mono h hb (by simp)]; simp at hx ⊢; exact hx.1
    · cases hx
  | conv k x =>
    simp only [opx] at hx ⊢
    split at hx
    · rename_i b hb; rw [ev_mono h hb (by simp)]; simp at hx ⊢; exact hx.1
    · cases hx
  | mkf f caps =>
    simp only [opx] at hx ⊢
    split at hx
    · rename_i vs hvs
      split at hx
      · rename_i hc
        rw [evs_mono h hvs (fun v hm => by
          have := List.all_eq_true.1 hc v hm
          rintro rfl; simp [capOk, isRef1, isFz] at this)]
        simp [hc] at hx ⊢; exact hx.1
      · cases hx
    · cases hx
  | slice st sz x lo hi =>
    simp only [opx] at hx ⊢
    split at hx
    · rename_i n cs hc
      rw [ev_mono h hc (by simp)]
      simp only
      split at hx
      · rename_i l hh h1 h2
        rw [optI_mono h h1, optI_mono h h2]
        simp only
        split at hx
        · rename_i h3; rw [if_pos h3]; simp at hx ⊢; exact hx.1
        · cases hx
      · cases hx
    · rename_i s hc
      rw [ev_mono h hc (by simp)]
      simp only
      split at hx
      · rename_i l hh h1 h2
        rw [optI_mono h h1, optI_mono h h2]
        simp only
        split at hx
        · rename_i h3; rw [if_pos h3]; simp at hx ⊢; exact hx.1
        · cases hx
      · cases hx
    · cases hx
  | faddr off x =>
    simp only [opx] at hx ⊢
    split at hx
    · rename_i cs hc
      rw [ev_mono h hc (by simp)]
      simp only
      split at hx
      · rename_i h1; rw [if_pos h1]; simp at hx ⊢; exact hx.1
      · cases hx
    · rename_i r p o hc
      rw [ev_mono h hc (by simp)]
      simp at hx ⊢; exact hx.1
    · cases hx
  | iaddr sz x i =>
    simp only [opx] at hx ⊢
    split at hx
    · rename_i n cs _ i' hc hi
      rw [ev_mono h hc (by simp), ev_mono h hi (by simp)]
      simp only
      split at hx
      · rename_i h1; rw [if_pos h1]; simp at hx ⊢; exact hx.1
      · cases hx
    · rename_i r p o _ i' hc hi
      rw [ev_mono h hc (by simp), ev_mono h hi (by simp)]
      simp only
      split at hx
      · rename_i row hr
        rw [rowE_mono h hr]
        simp only
        split at hx
        · rename_i h2
          split at hx
          · rename_i h1; simp only [h2, if_pos h1]; simp at hx ⊢; exact hx.1
          · cases hx
        · cases hx
      · cases hx
    · cases hx
  | idx x i =>
    simp only [opx] at hx ⊢
    split at hx
    · rename_i s _ i' hc hi
      rw [ev_mono h hc (by simp), ev_mono h hi (by simp)]
      simp only
      split at hx
      · rename_i h1; rw [if_pos h1]; simp at hx ⊢; exact hx.1
      · cases hx
    · cases hx
  | len st x =>
    simp only [opx] at hx ⊢
    split at hx
    · rename_i u hu
      split at hx
      · rename_i n hn
        have : u ≠ .dead := by rintro rfl; cases st <;> simp [lenX] at hn
        rw [ev_mono h hu this]
        simp only [lenX_mono h hn]
        simp at hx ⊢; exact hx.1
      · cases hx
    · cases hx
  | minmax mx x y =>
    simp only [opx] at hx ⊢
    split at hx
    · rename_i k a k' b h1 h2
      rw [ev_mono h h1 (by simp), ev_mono h h2 (by simp)]
      simp only
      split at hx
      · rename_i h3; rw [if_pos h3]; simp at hx ⊢; exact hx.1
      · cases hx
    · cases hx
  | mvt j =>
    simp only [opx] at hx ⊢
    split at hx
    · rename_i sh cs hj
      rw [h j _ hj (by simp)]
      simp at hx ⊢; exact hx.1
    · cases hx
  | ext j ix =>
    simp only [opx] at hx ⊢
    split at hx
    · rename_i sh cs hj
      rw [h j _ hj (by simp)]
      simp only
      split at hx
      · rename_i h1
        split at hx
        · rename_i c hc; simp at hx ⊢; exact hx.1
        · cases hx
      · rename_i n h1
        split at hx
        · rename_i hc; rw [if_pos hc]; simp at hx ⊢; exact hx.1
        · cases hx
      · cases hx
    · cases hx
  | aidx sz ag n x i =>
    simp only [opx] at hx ⊢
    split at hx
    · rename_i cs k i h1 h2
      rw [ev_mono h h1 (by simp), ev_mono h h2 (by simp)]
      simp only
      split at hx
      · rename_i h3
        rw [if_pos h3]
        split at hx
        · rename_i u hu; simp at hx ⊢; exact hx.1
        · cases hx
      · cases hx
    · cases hx
  | sbeq ne ks x y =>
    simp only [opx] at hx ⊢
    split at hx
    · rename_i cs ds h1 h2
      rw [ev_mono h h1 (by simp), ev_mono h h2 (by simp)]
      split at hx
      · rename_i b hb
        simp only [hb]
        simp at hx ⊢; exact hx.1
      · cases hx
    · cases hx
  | isnil ne x =>
    simp only [opx] at hx ⊢
    split at hx
    · rename_i u hu
      split at hx
      · rename_i b hn
        have : u ≠ .dead := by rintro rfl; simp [nilX, lenX] at hn
        rw [ev_mono h hu this]
        have hn' : nilX e' u = some b := by
          revert hn
          cases u <;> simp only [nilX] <;> first | exact id | (split <;> rename_i hm <;> first | (intro hn; rw [lenX_mono h hm]; exact hn) | (intro hn; cases hn))
        simp only [hn']
        simp at hx ⊢; exact hx.1
      · cases hx
    · cases hx
  | b2s x =>
    simp only [opx] at hx ⊢
    split at hx
    · rename_i n cs h1
      rw [ev_mono h h1 (by simp)]
      simp only
      split at hx
      · rename_i l hl
        split at hx
        · rename_i h3; rw [if_pos h3]; simp at hx ⊢; exact hx.1
        · cases hx
      · cases hx
    · rename_i r p o h1
      rw [ev_mono h h1 (by simp)]
      simp only
      split at hx
      · rename_i row hrow
        rw [rowE_mono h hrow]
        simp only
        split at hx
        · rename_i et st n cs hro
          split at hx
          · rename_i l hl
            split at hx
            · rename_i h3; simp only [hl, if_pos h3]; simp at hx ⊢; exact hx.1
            · cases hx
          · cases hx
        · cases hx
      · cases hx
    · cases hx
  | _ => simp [pureOp] at hp

theorem snapC_mono {e e' : Env} (h : Le e e') {c : AV} {r : AV × Bool} (hx : snapC e c = some r) : snapC e' c = some r := by
  cases c with
  | ps r p o =>
    simp only [snapC] at hx ⊢
    split at hx
    · rename_i row hr; rw [rowE_mono h hr]; exact hx
    · cases hx
  | pp r p o =>
    simp only [snapC] at hx ⊢
    split at hx
    · cases hx
    · rename_i hp
      rw [if_neg hp]
      split at hx
      · rename_i row hr; rw [rowE_mono h hr]; exact hx
      · cases hx
  | osl s t n cs => cases n <;> cases cs <;> exact hx
  | _ => exact hx
theorem snapCs_mono {e e' : Env} (h : Le e e') : ∀ {cs : List AV} {r : List AV × Bool}, snapCs e cs = some r → snapCs e' cs = some r
  | [], r, hx => hx
  | c :: cs, r, hx => by
    simp only [snapCs] at hx ⊢
    split at hx
    · rename_i c' b h1
      rw [snapC_mono h h1]
      split at hx
      · rename_i h2; rw [snapCs_mono h h2]; exact hx
      · cases hx
    · cases hx
theorem snapV_mono {e e' : Env} (h : Le e e') {c : AV} {r : AV × Bool} (hx : snapV e c = some r) : snapV e' c = some r := by
  cases c with
  | agg cs =>
    simp only [snapV] at hx ⊢
    split at hx
    · rename_i h1; rw [snapCs_mono h h1]; exact hx
    · cases hx
  | pf r p o =>
    simp only [snapV] at hx ⊢
    split at hx
    · rename_i hpo
      rw [if_pos hpo]
      split at hx
      · rename_i g caps hr
        rw [h _ _ hr (by simp)]
        simp only
        split at hx
        · rename_i hc
          rw [if_pos hc]
          split at hx
          · rename_i h1; rw [snapCs_mono h h1]; exact hx
          · cases hx
        · cases hx
      · cases hx
    · cases hx
  | _ => simp only [snapV] at hx ⊢; exact snapC_mono h hx
theorem prepX_mono {e e' : Env} (h : Le e e') : ∀ {xs : List Opd} {r : List AV × Bool}, prepX e xs = some r → prepX e' xs = some r
  | [], r, hx => hx
  | x :: xs, r, hx => by
    simp only [prepX] at hx ⊢
    split at hx
    · rename_i v hv
      split at hx
      · rename_i v' b h1
        have : v ≠ .dead := by rintro rfl; simp [snapV, snapC, isFz] at h1
        rw [ev_mono h hv this]
        simp only [snapV_mono h h1]
        split at hx
        · rename_i h2; rw [prepX_mono h h2]; exact hx
        · cases hx
      · cases hx
    · cases hx

theorem calleeC_mono {e e' : Env} (h : Le e e') {x : Opd} {r : Nat × List AV} (hx : calleeC e x = some r) : calleeC e' x = some r := by
  unfold calleeC at hx ⊢
  split at hx
  · rename_i g hv
    rw [ev_mono h hv (by simp)]; exact hx
  · rename_i r p o hv
    rw [ev_mono h hv (by simp)]
    simp only
    split at hx
    · rename_i hpo
      rw [if_pos hpo]
      split at hx
      · rename_i g caps hr
        rw [h _ _ hr (by simp)]
        exact hx
      · cases hx
    · cases hx
  · cases hx

/-- What is the same in both, what changed in neither. -/
def Frm (e e1 e' e1' : Env) : Prop := ∀ i : Nat, (e1[i]? = e[i]? ∧ e1'[i]? = e'[i]?) ∨ (e1[i]? = e1'[i]? ∧ e[i]? = e'[i]?)
theorem Frm.trans {e e1 e2 e' e1' e2' : Env} (h : Frm e e1 e' e1') (h' : Frm e1 e2 e1' e2') : Frm e e2 e' e2' := fun i => by
  rcases h i with ⟨a, b⟩ | ⟨a, b⟩ <;> rcases h' i with ⟨c, d⟩ | ⟨c, d⟩
  · exact .inl ⟨c.trans a, d.trans b⟩
  · exact .inr ⟨c, by rw [← a, d, b]⟩
  · exact .inr ⟨by rw [c, d, a], b⟩
  · exact .inr ⟨c, b⟩
theorem setRowE_frm {e e' : Env} (h : Le e e') {r : Nat} {p : List Nat} {row row2 : List AV} (hr : rowE e r p = some row) : Le (setRowE e r p row2) (setRowE e' r p row2) ∧ Frm e (setRowE e r p row2) e' (setRowE e' r p row2) := by
  obtain ⟨v, hv, hd, hg, _⟩ := rowE_some hr
  have hv' := h r v hv hd
  have e1 : setRowE e r p row2 = e.set r (withCells v (setRow (cellsOf v) p row2)) := by unfold setRowE; rw [hv]
  have e2 : setRowE e' r p row2 = e'.set r (withCells v (setRow (cellsOf v) p row2)) := by unfold setRowE; rw [hv']
  have l1 := (List.getElem?_eq_some_iff.1 hv).1
  have l2 := (List.getElem?_eq_some_iff.1 hv').1
  rw [e1, e2]
  refine ⟨fun i u hi hu => ?_, fun i => ?_⟩
  · by_cases hir : r = i
    · subst hir
      rw [List.getElem?_set_self l1] at hi
      rw [List.getElem?_set_self l2]; exact hi
    · rw [List.getElem?_set_ne hir] at hi ⊢
      exact h i u hi hu
  · by_cases hir : r = i
    · subst hir
      exact .inr ⟨by rw [List.getElem?_set_self l1, List.getElem?_set_self l2], by rw [hv, hv']⟩
    · exact .inl ⟨by rw [List.getElem?_set_ne hir], by rw [List.getElem?_set_ne hir]⟩
theorem takeC_frm {e e' e1 : Env} (h : Le e e') {c c' : AV} (hx : takeC e c = some (c', e1)) : ∃ e1', takeC e' c = some (c', e1') ∧ Le e1 e1' ∧ Frm e e1 e' e1' := by
  have same : takeC e c = some (c', e) → takeC e' c = some (c', e') → e1 = e → ∃ e1', takeC e' c = some (c', e1') ∧ Le e1 e1' ∧ Frm e e1 e' e1' := by
    rintro _ h2 rfl
    exact ⟨e', h2, h, fun i => .inl ⟨rfl, rfl⟩⟩
  cases c with
  | ps r p o =>
    simp only [takeC] at hx ⊢
    split at hx
    · rename_i row hrow
      split at hx
      · rename_i s t n cs hro
        simp only [Option.some.injEq, Prod.mk.injEq] at hx
        obtain ⟨rfl, rfl⟩ := hx
        obtain ⟨k1, k2⟩ := setRowE_frm (row2 := row.set o .gone) h hrow
        exact ⟨_, by rw [rowE_mono h hrow]; simp only [hro], k1, k2⟩
      · cases hx
    · cases hx
  | pp r p o =>
    simp only [takeC] at hx ⊢
    split at hx
    · rename_i ho
      split at hx
      · rename_i k hk
        split at hx
        · rename_i row hrow
          split at hx
          · rename_i s t cs hro
            simp only [Option.some.injEq, Prod.mk.injEq] at hx
            obtain ⟨rfl, rfl⟩ := hx
            obtain ⟨k1, k2⟩ := setRowE_frm (row2 := row.set k .gone) h hrow
            exact ⟨_, by simp only [if_pos ho, rowE_mono h hrow, hro], k1, k2⟩
          · cases hx
        · cases hx
      · cases hx
    · cases hx
  | int k n => simp [takeC] at hx; exact same (by simp [takeC, hx.1]) (by simp [takeC, hx.1]) hx.2.symm
  | bool b => simp [takeC] at hx; exact same (by simp [takeC, hx.1]) (by simp [takeC, hx.1]) hx.2.symm
  | str s => simp [takeC] at hx; exact same (by simp [takeC, hx.1]) (by simp [takeC, hx.1]) hx.2.symm
  | nilf => simp [takeC] at hx; exact same (by simp [takeC, hx.1]) (by simp [takeC, hx.1]) hx.2.symm
  | nsl t => simp [takeC] at hx; exact same (by simp [takeC, hx.1]) (by simp [takeC, hx.1]) hx.2.symm
  | rsl n cs => simp [takeC] at hx; exact same (by simp [takeC, hx.1]) (by simp [takeC, hx.1]) hx.2.symm
  | rp cs => simp [takeC] at hx; exact same (by simp [takeC, hx.1]) (by simp [takeC, hx.1]) hx.2.symm
  | fn g cs => cases cs with
    | nil => simp [takeC] at hx; exact same (by simp [takeC, hx.1]) (by simp [takeC, hx.1]) hx.2.symm
    | cons c cs => simp [takeC] at hx
  | osl s t n cs => cases n with
    | zero => cases cs with
      | nil => simp [takeC] at hx; obtain ⟨rfl, rfl⟩ := hx; exact same (by simp [takeC]) (by simp [takeC]) rfl
      | cons c cs => simp [takeC] at hx
    | succ n => simp [takeC] at hx
  | _ => simp [takeC] at hx
theorem takeCs_frm : ∀ {cs cs' : List AV} {e e' e1 : Env}, Le e e' → takeCs e cs = some (cs', e1) → ∃ e1', takeCs e' cs = some (cs', e1') ∧ Le e1 e1' ∧ Frm e e1 e' e1'
  | [], cs', e, e', e1, h, hx => by
    simp [takeCs] at hx
    obtain ⟨rfl, rfl⟩ := hx
    exact ⟨e', by simp [takeCs], h, fun i => .inl ⟨rfl, rfl⟩⟩
  | c :: cs, cs', e, e', e1, h, hx => by
    simp only [takeCs] at hx ⊢
    split at hx
    · rename_i c1 e2 h1
      split at hx
      · rename_i cs1 e3 h2
        simp only [Option.some.injEq, Prod.mk.injEq] at hx
        obtain ⟨rfl, rfl⟩ := hx
        obtain ⟨a1, a2, a3, a4⟩ := takeC_frm h h1
        obtain ⟨b1, b2, b3, b4⟩ := takeCs_frm a3 h2
        exact ⟨b1, by rw [a2]; simp only [b2], b3, a4.trans b4⟩
      · cases hx
    · cases hx
theorem bsl_frm {e e' e1 : Env} (h : Le e e') {t n : Nat} {z : List AV} {ps : List (Nat × Nat × Opd)} {v : AV} (hx : opx e (.bsl t n z ps) = some (v, e1)) : ∃ e1', opx e' (.bsl t n z ps) = some (v, e1') ∧ Frm e e1 e' e1' ∧ e1'.length = e'.length := by
  have len : ∀ {cs cs' : List AV} {e e1 : Env}, takeCs e cs = some (cs', e1) → e1.length = e.length := by
    intro cs
    induction cs with
    | nil => intro cs' e e1 h; simp [takeCs] at h; rw [h.2]
    | cons c cs ih =>
      intro cs' e e1 h
      simp only [takeCs] at h
      split at h
      · rename_i c1 e2 h1
        split at h
        · rename_i h2
          simp only [Option.some.injEq, Prod.mk.injEq] at h
          obtain ⟨_, rfl⟩ := h
          rw [ih h2]
          have s1 : ∀ r p row, (setRowE e r p row).length = e.length := by intro r p row; unfold setRowE; split <;> simp
          cases c with
          | ps r p o =>
            simp only [takeC] at h1
            split at h1
            · split at h1
              · simp only [Option.some.injEq, Prod.mk.injEq] at h1; rw [← h1.2]; exact s1 _ _ _
              · cases h1
            · cases h1
          | pp r p o =>
            simp only [takeC] at h1
            split at h1
            · split at h1
              · split at h1
                · split at h1
                  · simp only [Option.some.injEq, Prod.mk.injEq] at h1; rw [← h1.2]; exact s1 _ _ _
                  · cases h1
                · cases h1
              · cases h1
            · cases h1
          | fn g cs => cases cs <;> simp [takeC] at h1; rw [h1.2]
          | osl s t n cs => cases n <;> cases cs <;> simp [takeC] at h1; rw [h1.2]
          | _ => simp [takeC] at h1 <;> rw [h1.2]
        · cases h
      · cases h
  simp only [opx] at hx ⊢
  split at hx
  · rename_i cs hf
    split at hx
    · rename_i cs' e2 ht
      simp only [Option.some.injEq, Prod.mk.injEq] at hx
      obtain ⟨rfl, rfl⟩ := hx
      obtain ⟨a1, a2, a3, a4⟩ := takeCs_frm h ht
      exact ⟨a1, by rw [fillP_mono h hf]; simp only [a2], a4, len a2⟩
    · cases hx
  · cases hx

theorem takeC_len {c c' : AV} {e e1 : Env} (h1 : takeC e c = some (c', e1)) : e1.length = e.length := by
  have s1 : ∀ r p row, (setRowE e r p row).length = e.length := by intro r p row; unfold setRowE; split <;> simp
  cases c with
  | ps r p o =>
    simp only [takeC] at h1
    split at h1
    · split at h1
      · simp only [Option.some.injEq, Prod.mk.injEq] at h1; rw [← h1.2]; exact s1 _ _ _
      · cases h1
    · cases h1
  | pp r p o =>
    simp only [takeC] at h1
    split at h1
    · split at h1
      · split at h1
        · split at h1
          · simp only [Option.some.injEq, Prod.mk.injEq] at h1; rw [← h1.2]; exact s1 _ _ _
          · cases h1
        · cases h1
      · cases h1
    · cases h1
  | fn g cs => cases cs <;> simp [takeC] at h1; rw [h1.2]
  | osl s t n cs => cases n <;> cases cs <;> simp [takeC] at h1; rw [h1.2]
  | _ => simp [takeC] at h1 <;> rw [h1.2]
theorem takeCs_len : ∀ {cs cs' : List AV} {e e1 : Env}, takeCs e cs = some (cs', e1) → e1.length = e.length
  | [], cs', e, e1, h => by simp [takeCs] at h; rw [h.2]
  | c :: cs, cs', e, e1, h => by
    simp only [takeCs] at h
    split at h
    · rename_i c1 e2 h1
      split at h
      · rename_i h2
        simp only [Option.some.injEq, Prod.mk.injEq] at h
        obtain ⟨_, rfl⟩ := h
        rw [takeCs_len h2, takeC_len h1]
      · cases h
    · cases h
theorem elems_frm {e e' e1 : Env} (h : Le e e') {el sz : Nat} {x : AV} {m : Nat} {new : List AV} (hx : elemsX e el sz x = some (m, new, e1)) : ∃ e1', elemsX e' el sz x = some (m, new, e1') ∧ Le e1 e1' ∧ Frm e e1 e' e1' ∧ e1'.length = e'.length := by
  cases x <;> simp only [elemsX] at hx ⊢ <;> try (cases hx; done)
  · simp only [Option.some.injEq, Prod.mk.injEq] at hx
    obtain ⟨rfl, rfl, rfl⟩ := hx
    exact ⟨e', rfl, h, fun i => .inl ⟨rfl, rfl⟩, rfl⟩
  · split at hx
    · rename_i hl
      simp only [Option.some.injEq, Prod.mk.injEq] at hx
      obtain ⟨rfl, rfl, rfl⟩ := hx
      exact ⟨e', by rw [if_pos hl], h, fun i => .inl ⟨rfl, rfl⟩, rfl⟩
    · cases hx
  · rename_i t n cs
    cases n with
    | succ n => simp at hx
    | zero => cases cs with
      | cons c cs => simp at hx
      | nil =>
        simp only [Option.some.injEq, Prod.mk.injEq] at hx
        obtain ⟨rfl, rfl, rfl⟩ := hx
        exact ⟨e', rfl, h, fun i => .inl ⟨rfl, rfl⟩, rfl⟩
  · rename_i r p o
    split at hx
    · rename_i row hrow
      rw [rowE_mono h hrow]
      split at hx
      · rename_i t n cs hro
        split at hx
        · rename_i ht
          split at hx
          · rename_i cs' e2 htk
            simp only [Option.some.injEq, Prod.mk.injEq] at hx
            obtain ⟨rfl, rfl, rfl⟩ := hx
            obtain ⟨a1, a2, a3, a4⟩ := takeCs_frm h htk
            exact ⟨a1, by simp only [hro, if_pos ht, a2], a3, a4, takeCs_len a2⟩
          · cases hx
        · cases hx
      · cases hx
    · cases hx
theorem app_frm {e e' e1 : Env} (h : Le e e') {t sz : Nat} {s x : Opd} {v : AV} (hx : appX e t sz s x = some (v, e1)) : ∃ e1', appX e' t sz s x = some (v, e1') ∧ Frm e e1 e' e1' ∧ e1'.length = e'.length := by
  unfold appX at hx ⊢
  split at hx
  · rename_i sv xv h1 h2
    split at hx
    · rename_i m new ea hel
      split at hx
      · rename_i t' n cs eb htk
        split at hx
        · rename_i hc
          simp only [Option.some.injEq, Prod.mk.injEq] at hx
          obtain ⟨rfl, rfl⟩ := hx
          have hs : sv ≠ .dead := by rintro rfl; simp [takeC] at htk
          have hxv : xv ≠ .dead := by rintro rfl; simp [elemsX] at hel
          obtain ⟨a1, a2, a3, a4, a5⟩ := elems_frm h hel
          obtain ⟨b1, b2, b3, b4⟩ := takeC_frm a3 htk
          exact ⟨b1, by rw [ev_mono h h1 hs, ev_mono h h2 hxv]; simp only [a2, b2, if_pos hc], a4.trans b4, by rw [takeC_len b2, a5]⟩
        · cases hx
      · cases hx
    · cases hx
  · cases hx
/-- What refers to slots of e alone, refers to them in whatever begins like e. -/
theorem live_more {e0 e2 : Env} (h : ∀ i, i < e0.length → e2[i]? = e0[i]?) {u : AV} (hl : liveV e0 u = true) : liveV e2 u = true := by
  have row : ∀ r p, (rowE e0 r p).isSome = true → (rowE e2 r p).isSome = true := by
    intro r p hs
    have hr : r < e0.length := by
      apply Decidable.byContradiction
      intro hn
      unfold rowE at hs
      rw [List.getElem?_eq_none (by omega)] at hs
      simp at hs
    unfold rowE at hs ⊢
    rw [h r hr]; exact hs
  have cell : ∀ c, liveC e0 c = true → liveC e2 c = true := by
    intro c hc
    cases c with
    | ps r p o => exact row r p hc
    | pp r p o => exact row r p hc
    | pf r p o => exact row r p hc
    | _ => exact hc
  cases u with
  | agg cs => simp only [liveV, List.all_eq_true] at hl ⊢; exact fun c hc => cell c (hl c hc)
  | tup sh cs => simp only [liveV, List.all_eq_true] at hl ⊢; exact fun c hc => cell c (hl c hc)
  | ps r p o => exact cell (.ps r p o) hl
  | pp r p o => exact cell (.pp r p o) hl
  | pf r p o => exact cell (.pf r p o) hl
  | _ => exact hl

/-! ### The walk -/

def dropS (x : Opd) (e : Env) : Env := match x with
  | .slot j => e.set j .dead
  | .con _ => e

/-- Values, those hidden that are not to be seen. -/
def maskP (p : Nat → Bool) : Nat → List AV → List AV
  | _, [] => []
  | k, v :: vs => (if p k then v else .dead) :: maskP p (k + 1) vs

def OpV (P : Program) (so : SOpr) (e : Env) (K : AV → Prop) : Prop :=
  match so.k with
  | .op s => pureOp s = true ∧ match opx e s with
    | some (v, _) => isDead v = false ∧ K v
    | none => False
  | .call g args fr => match prepX e args with
    | some (avs, live) => ∃ res, Says P g avs res [] ∧ (live = true → noFrz res = true) ∧
        match (if fr then frz res else some res) with
        | some v => isDead v = false ∧ K v
        | none => False
    | none => False
  | .callv x args => match calleeC e x, prepX e args with
    | some (g, caps), some (avs, live) => plainFn P g = true ∧ ∃ res, Says P g (avs ++ caps) res [] ∧ (live = true → noFrz res = true) ∧ isDead res = false ∧ K res
    | _, _ => False
  | .callm _ _ => False

/-- Slots are given up. -/
def killS : Env → List Nat → Env
  | e, [] => e
  | e, d :: ds => killS (e.set d .dead) ds
theorem killS_get : ∀ (ds : List Nat) (e : Env) (i : Nat), (killS e ds)[i]? = if i ∈ ds ∧ i < e.length then some .dead else e[i]?
  | [], e, i => by rw [killS, if_neg (by simp)]
  | d :: ds, e, i => by
    rw [killS, killS_get ds _ i, List.length_set]
    by_cases h : d = i
    · subst h
      by_cases hl : d < e.length
      · rw [List.getElem?_set_self hl]; simp [hl]
      · rw [List.getElem?_eq_none (by simp; omega), if_neg (by omega), if_neg (by omega), List.getElem?_eq_none (by omega)]
    · rw [List.getElem?_set_ne h]
      by_cases h2 : i ∈ ds ∧ i < e.length
      · rw [if_pos h2, if_pos ⟨List.mem_cons_of_mem _ h2.1, h2.2⟩]
      · rw [if_neg h2, if_neg (fun h3 => h2 ⟨(List.mem_cons.1 h3.1).resolve_left (fun h4 => h h4.symm), h3.2⟩)]
theorem killS_out {ds : List Nat} {e e' : Env} (h : killS e ds = killS e' ds) {i : Nat} (hi : i ∉ ds) : e[i]? = e'[i]? := by
  have h1 := congrArg (fun l => l[i]?) h
  simp only [killS_get] at h1
  rwa [if_neg (fun h2 => hi h2.1), if_neg (fun h2 => hi h2.1)] at h1
/-- An operation that takes what lies in slots of the region, that nobody else looks at. -/
def OpC (so : SOpr) (e : Env) (ds : List Nat) (K : AV → Prop) : Prop :=
  match so.k with
  | .op (.bsl t n z ps) => match opx e (.bsl t n z ps) with
    | some (v, e1) => isDead v = false ∧ killS e1 ds = killS e ds ∧ K v
    | none => False
  | .op (.append t sz s x) => match appX e t sz s x with
    | some (v, e1) => isDead v = false ∧ killS e1 ds = killS e ds ∧ K v
    | none => False
  | _ => False
def isApp (so : SOpr) : Bool := match so.k with
  | .op (.append _ _ _ _) => true
  | _ => false
/-- Where something is appended, all references of the region go to variables. -/
def addL (e : Env) (so : SOpr) (Q : List AV → Prop) : List AV → Prop := fun vs => (isApp so = true → (e ++ vs).all (liveV e) = true) ∧ Q vs
theorem addL_no {e : Env} {so : SOpr} {Q : List AV → Prop} (h : isApp so = false) : addL e so Q = Q := by
  funext vs
  simp [addL, h]
/-- What operation k looks at: what it waits for, but nothing that another one takes. -/
def seeM (cons : List (Nat × Nat)) (S : List (List Nat)) (k : Nat) (see : List Nat) (i : Nat) : Bool := see.contains i && !(cons.any fun c => c.2 == i && c.1 != k && !(S.getD c.1 []).contains k)
def consAt (cons : List (Nat × Nat)) (k : Nat) : Option (List Nat) := match (cons.filter fun c => c.1 == k).map (·.2) with
  | [] => none
  | js => some js

/-- The part whose operations come in any order: each sees what it must wait for. -/
def DRun (P : Program) (e : Env) (cons : List (Nat × Nat)) (S : List (List Nat)) : List SOpr → List (List Nat) → List AV → (List AV → Prop) → Prop
  | [], _, acc, Q => Q acc
  | so :: rest, sees, acc, Q => so.dst = none ∧ match consAt cons acc.length with
    | some js => match so.guard with
      | none => OpC so (e ++ maskP (seeM cons S acc.length (sees.headD [])) 0 acc) (js.map (e.length + ·)) fun v => DRun P e cons S rest sees.tail (acc ++ [v]) (addL e so Q)
      | some (s, b) => match wantX b (e ++ maskP (seeM cons S acc.length (sees.headD [])) 0 acc)[s]? with
        | some true => OpC so (e ++ maskP (seeM cons S acc.length (sees.headD [])) 0 acc) (js.map (e.length + ·)) fun v => DRun P e cons S rest sees.tail (acc ++ [v]) (addL e so Q)
        | some false => DRun P e cons S rest sees.tail (acc ++ [skV so.k]) Q
        | none => False
    | none => match so.guard with
      | none => OpV P so (e ++ maskP (seeM cons S acc.length (sees.headD [])) 0 acc) fun v => DRun P e cons S rest sees.tail (acc ++ [v]) Q
      | some (s, b) => match wantX b (e ++ maskP (seeM cons S acc.length (sees.headD [])) 0 acc)[s]? with
        | some true => OpV P so (e ++ maskP (seeM cons S acc.length (sees.headD [])) 0 acc) fun v => DRun P e cons S rest sees.tail (acc ++ [v]) Q
        | some false => DRun P e cons S rest sees.tail (acc ++ [skV so.k]) Q
        | none => False

/-- What was shown of one of them. -/
def DVal (P : Program) (e : Env) (cons : List (Nat × Nat)) (S : List (List Nat)) (so : SOpr) (see : List Nat) (vs : List AV) (k : Nat) : Prop :=
  so.dst = none ∧ match consAt cons k with
  | some js => match so.guard with
    | none => (isApp so = true → (e ++ vs).all (liveV e) = true) ∧ OpC so (e ++ maskP (seeM cons S k see) 0 (vs.take k)) (js.map (e.length + ·)) fun v => vs[k]? = some v
    | some (s, b) => match wantX b (e ++ maskP (seeM cons S k see) 0 (vs.take k))[s]? with
      | some true => (isApp so = true → (e ++ vs).all (liveV e) = true) ∧ OpC so (e ++ maskP (seeM cons S k see) 0 (vs.take k)) (js.map (e.length + ·)) fun v => vs[k]? = some v
      | some false => vs[k]? = some (skV so.k)
      | none => False
  | none => match so.guard with
    | none => OpV P so (e ++ maskP (seeM cons S k see) 0 (vs.take k)) fun v => vs[k]? = some v
    | some (s, b) => match wantX b (e ++ maskP (seeM cons S k see) 0 (vs.take k))[s]? with
      | some true => OpV P so (e ++ maskP (seeM cons S k see) 0 (vs.take k)) fun v => vs[k]? = some v
      | some false => vs[k]? = some (skV so.k)
      | none => False

theorem OpC_ex {so : SOpr} {e : Env} {d : List Nat} {K : AV → Prop} (h : OpC so e d K) : ∃ v, OpC so e d (fun u => u = v) ∧ K v := by
  unfold OpC at h
  split at h
  · rename_i t n z ps hk
    split at h
    · rename_i v e1 hx
      exact ⟨v, by unfold OpC; rw [hk]; simp only [hx]; exact ⟨h.1, h.2.1, trivial⟩, h.2.2⟩
    · cases h
  · rename_i t sz s x hk
    split at h
    · rename_i v e1 hx
      exact ⟨v, by unfold OpC; rw [hk]; simp only [hx]; exact ⟨h.1, h.2.1, trivial⟩, h.2.2⟩
    · cases h
  · cases h
theorem OpC_imp {so : SOpr} {e : Env} {d : List Nat} {K K' : AV → Prop} (hK : ∀ v, K v → K' v) (h : OpC so e d K) : OpC so e d K' := by
  unfold OpC at h ⊢
  split at h
  · split at h
    · exact ⟨h.1, h.2.1, hK _ h.2.2⟩
    · cases h
  · split at h
    · exact ⟨h.1, h.2.1, hK _ h.2.2⟩
    · cases h
  · cases h

theorem OpV_ex {P : Program} {so : SOpr} {e : Env} {K : AV → Prop} (h : OpV P so e K) : ∃ v, OpV P so e (fun u => u = v) ∧ K v := by
  unfold OpV at h
  split at h
  · rename_i s hk
    obtain ⟨h1, h⟩ := h
    split at h
    · rename_i v e' hx
      exact ⟨v, by unfold OpV; rw [hk]; simp only [hx]; exact ⟨h1, h.1, trivial⟩, h.2⟩
    · cases h
  · rename_i g args fr hk
    split at h
    · rename_i avs live hp
      obtain ⟨res, h1, h2, h⟩ := h
      split at h
      · rename_i v hv
        exact ⟨v, by unfold OpV; rw [hk]; simp only [hp]; exact ⟨res, h1, h2, by rw [hv]; exact ⟨h.1, rfl⟩⟩, h.2⟩
      · cases h
    · cases h
  · rename_i x args hk
    split at h
    · rename_i g caps avs live hc hp
      obtain ⟨hpl, res, h1, h2, h3, h⟩ := h
      exact ⟨res, by unfold OpV; rw [hk]; simp only [hc, hp]; exact ⟨hpl, res, h1, h2, h3, rfl⟩, h⟩
    · cases h
  · cases h
theorem OpV_imp {P : Program} {so : SOpr} {e : Env} {K K' : AV → Prop} (hK : ∀ v, K v → K' v) (h : OpV P so e K) : OpV P so e K' := by
  unfold OpV at h ⊢
  split at h
  · rename_i s hk
    obtain ⟨h1, h⟩ := h
    refine ⟨h1, ?_⟩
    split at h
    · exact ⟨h.1, hK _ h.2⟩
    · cases h
  · rename_i g args fr hk
    split at h
    · obtain ⟨res, h1, h2, h⟩ := h
      refine ⟨res, h1, h2, ?_⟩
      split at h
      · exact ⟨h.1, hK _ h.2⟩
      · cases h
    · cases h
  · split at h
    · obtain ⟨hpl, res, h1, h2, h3, h⟩ := h
      exact ⟨hpl, res, h1, h2, h3, hK _ h⟩
    · cases h
  · cases h

theorem DRun_vals {P : Program} {e : Env} {cons : List (Nat × Nat)} {S : List (List Nat)} : ∀ {sos : List SOpr} {sees : List (List Nat)} {acc : List AV} {Q : List AV → Prop}, DRun P e cons S sos sees acc Q →
    ∃ vs, vs.length = acc.length + sos.length ∧ (∃ ws, vs = acc ++ ws) ∧ Q vs ∧ ∀ (k : Nat) (so : SOpr), sos[k]? = some so → DVal P e cons S so (sees.getD k []) vs (acc.length + k)
  | [], sees, acc, Q, h => ⟨acc, by simp, ⟨[], by simp⟩, h, fun k so hk => by simp at hk⟩
  | so :: rest, sees, acc, Q, h => by
    simp only [DRun] at h
    obtain ⟨hdst, h⟩ := h
    have hd : sees.headD [] = sees.getD 0 [] := by cases sees <;> rfl
    have ht : ∀ k, sees.tail.getD k [] = sees.getD (k + 1) [] := fun k => by cases sees <;> simp
    have go : ∀ (v : AV) (Q' L : List AV → Prop), (∀ vs, Q' vs → L vs ∧ Q vs) → DRun P e cons S rest sees.tail (acc ++ [v]) Q' → (∀ vs : List AV, vs.take acc.length = acc → vs[acc.length]? = some v → L vs → DVal P e cons S so (sees.getD 0 []) vs acc.length) →
        ∃ vs, vs.length = acc.length + (so :: rest).length ∧ (∃ ws, vs = acc ++ ws) ∧ Q vs ∧ ∀ (k : Nat) (so' : SOpr), (so :: rest)[k]? = some so' → DVal P e cons S so' (sees.getD k []) vs (acc.length + k) := by
      intro v Q' L hQ' hr hv
      obtain ⟨vs, h1, ⟨ws, rfl⟩, h3, h4⟩ := DRun_vals hr
      refine ⟨_, by rw [h1]; simp; omega, ⟨[v] ++ ws, by simp⟩, (hQ' _ h3).2, fun k so' hk => ?_⟩
      cases k with
      | zero =>
        simp at hk; subst hk
        exact hv _ (by simp) (by simp) (hQ' _ h3).1
      | succ k =>
        have := h4 k so' (by simpa using hk)
        rw [ht] at this
        simpa [Nat.add_assoc, Nat.add_comm 1 k] using this
    rw [hd] at h
    split at h
    · rename_i j hj
      split at h
      · rename_i hg
        obtain ⟨v, h1, h2⟩ := OpC_ex h
        refine go v (addL e so Q) (fun vs => isApp so = true → (e ++ vs).all (liveV e) = true) (fun _ h => h) h2 fun vs ht hv hlv => ⟨hdst, ?_⟩
        rw [hj, hg]
        simp only [ht]
        exact ⟨hlv, OpC_imp (fun u hu => by rw [hu]; exact hv) h1⟩
      · rename_i s b hg
        split at h
        · rename_i hb
          obtain ⟨v, h1, h2⟩ := OpC_ex h
          refine go v (addL e so Q) (fun vs => isApp so = true → (e ++ vs).all (liveV e) = true) (fun _ h => h) h2 fun vs ht hv hlv => ⟨hdst, ?_⟩
          rw [hj, hg]
          simp only [ht, hb]
          exact ⟨hlv, OpC_imp (fun u hu => by rw [hu]; exact hv) h1⟩
        · rename_i hb
          refine go (skV so.k) Q (fun _ => True) (fun _ h => ⟨trivial, h⟩) h fun vs ht hv _ => ⟨hdst, ?_⟩
          rw [hj, hg]
          simp only [ht, hb]
          exact hv
        · cases h
    · rename_i hj
      split at h
      · rename_i hg
        obtain ⟨v, h1, h2⟩ := OpV_ex h
        refine go v Q (fun _ => True) (fun _ h => ⟨trivial, h⟩) h2 fun vs ht hv _ => ⟨hdst, ?_⟩
        rw [hj, hg]
        simp only [ht]
        exact OpV_imp (fun u hu => by rw [hu]; exact hv) h1
      · rename_i s b hg
        split at h
        · rename_i hb
          obtain ⟨v, h1, h2⟩ := OpV_ex h
          refine go v Q (fun _ => True) (fun _ h => ⟨trivial, h⟩) h2 fun vs ht hv _ => ⟨hdst, ?_⟩
          rw [hj, hg]
          simp only [ht, hb]
          exact OpV_imp (fun u hu => by rw [hu]; exact hv) h1
        · rename_i hb
          refine go (skV so.k) Q (fun _ => True) (fun _ h => ⟨trivial, h⟩) h fun vs ht hv _ => ⟨hdst, ?_⟩
          rw [hj, hg]
          simp only [ht, hb]
          exact hv
        · cases h

theorem maskP_get {p : Nat → Bool} : ∀ {vs : List AV} {k i : Nat}, (maskP p k vs)[i]? = (vs[i]?).map fun v => if p (k + i) then v else .dead
  | [], k, i => by simp [maskP]
  | v :: vs, k, 0 => by simp [maskP]
  | v :: vs, k, i + 1 => by simp [maskP, maskP_get, Nat.add_assoc, Nat.add_comm 1 i]
theorem maskP_length {p : Nat → Bool} : ∀ {vs : List AV} {k : Nat}, (maskP p k vs).length = vs.length
  | [], k => rfl
  | v :: vs, k => by simp [maskP, maskP_length]

/-- The slots when those of the first t have come up that p names. -/
def envP (e : Env) (p : Nat → Bool) (vs : List AV) (r : Nat) : Env := e ++ maskP p 0 vs ++ List.replicate r .dead

theorem envP_length {e : Env} {p : Nat → Bool} {vs : List AV} {r : Nat} : (envP e p vs r).length = e.length + (vs.length + r) := by simp [envP, maskP_length, Nat.add_assoc]
theorem envP_get {e : Env} {p : Nat → Bool} {vs : List AV} {r i : Nat} : (envP e p vs r)[e.length + i]? = if i < vs.length then (vs[i]?).map (fun v => if p i then v else .dead) else if i < vs.length + r then some .dead else none := by
  unfold envP
  rw [List.append_assoc, List.getElem?_append_right (by omega)]
  simp only [Nat.add_sub_cancel_left]
  split
  · rename_i h
    rw [List.getElem?_append_left (by simpa [maskP_length] using h), maskP_get]; simp
  · rename_i h
    rw [List.getElem?_append_right (by simp [maskP_length]; omega), maskP_length, List.getElem?_replicate]
    split <;> split <;> first | rfl | omega
theorem envP_low {e : Env} {p : Nat → Bool} {vs : List AV} {r i : Nat} (h : i < e.length) : (envP e p vs r)[i]? = e[i]? := by
  unfold envP
  rw [List.append_assoc, List.getElem?_append_left h]

theorem envP_Le {e : Env} {p q : Nat → Bool} {vs : List AV} {r k : Nat} (h : ∀ i, i < k → q i = true → p i = true) : Le (e ++ maskP q 0 (vs.take k)) (envP e p vs r) := by
  intro i v hi hv
  by_cases hlt : i < e.length
  · rw [List.getElem?_append_left hlt] at hi
    rw [envP_low hlt, hi]
  · obtain ⟨j, rfl⟩ : ∃ j, i = e.length + j := ⟨i - e.length, by omega⟩
    rw [List.getElem?_append_right (by omega)] at hi
    simp only [Nat.add_sub_cancel_left, maskP_get, Nat.zero_add] at hi
    rw [envP_get]
    rw [List.getElem?_take] at hi
    by_cases hjk : j < k
    · rw [if_pos hjk] at hi
      cases hu : vs[j]? with
      | none => simp [hu] at hi
      | some u =>
        have hjl := (List.getElem?_eq_some_iff.1 hu).1
        rw [if_pos hjl]
        by_cases hq : q j = true
        · rw [hu] at hi
          simp only [hq, if_true, Option.map_some] at hi
          simpa [h j hjk hq] using hi
        · rw [hu] at hi
          simp [hq] at hi
          exact absurd hi.symm hv
    · rw [if_neg hjk] at hi
      simp at hi

theorem envP_set {e : Env} {p : Nat → Bool} {vs : List AV} {r k : Nat} {v : AV} (hk : vs[k]? = some v) (q : Nat → Bool) (hq : ∀ i, q i = (p i || i == k)) : (envP e p vs r).set (e.length + k) v = envP e q vs r := by
  have hkl := (List.getElem?_eq_some_iff.1 hk).1
  apply List.ext_getElem?
  intro i
  by_cases hlt : i < e.length
  · rw [List.getElem?_set_ne (by omega), envP_low hlt, envP_low hlt]
  · obtain ⟨j, rfl⟩ : ∃ j, i = e.length + j := ⟨i - e.length, by omega⟩
    by_cases hjk : k = j
    · subst hjk
      rw [List.getElem?_set_self (by rw [envP_length]; omega), envP_get, if_pos hkl, hk]
      simp [hq]
    · rw [List.getElem?_set_ne (by omega), envP_get, envP_get]
      have : q j = p j := by rw [hq]; simp [show (j == k) = false by simp; omega]
      rw [this]

/-! ### Every order -/

/-- What each operation must wait for: 'sees' says no more than the graph does; from number t on, each waits for all before it. -/
def okSeeAt (ops : Array Oper) (sees : List (List Nat)) (t k : Nat) : Bool :=
  match ops[k]? with
  | some o => o.after.toList.all (fun d => !Region.binds .any d || decide (d.on < k)) &&
      (sees.getD k []).all (fun x => decide (x < k) && o.after.toList.any fun d => Region.binds .any d && (d.on == x || (sees.getD d.on []).contains x)) &&
      (decide (k < t) || (List.range k).all fun x => (sees.getD k []).contains x)
  | none => false
def okSee (ops : Array Oper) (sees : List (List Nat)) (t : Nat) : Bool := (List.range ops.size).all (okSeeAt ops sees t)

structure SeeOk (ops : Array Oper) (sees : List (List Nat)) (t k : Nat) (o : Oper) : Prop where
  back : ∀ d ∈ o.after, Region.binds .any d = true → d.on < k
  lt : ∀ x ∈ sees.getD k [], x < k
  why : ∀ x ∈ sees.getD k [], ∃ d ∈ o.after, Region.binds .any d = true ∧ (d.on = x ∨ x ∈ sees.getD d.on [])
  all : t ≤ k → ∀ x, x < k → x ∈ sees.getD k []

theorem okSee_spec {ops : Array Oper} {sees : List (List Nat)} {t k : Nat} {o : Oper} (h : okSee ops sees t = true) (hk : ops[k]? = some o) : SeeOk ops sees t k o := by
  have hlt := (Array.getElem?_eq_some_iff.1 hk).1
  have h := List.all_eq_true.1 h k (List.mem_range.2 hlt)
  unfold okSeeAt at h
  rw [hk] at h
  simp only [Bool.and_eq_true, List.all_eq_true, Bool.or_eq_true, decide_eq_true_eq, List.any_eq_true, Bool.not_eq_true', beq_iff_eq, List.contains_iff_mem, List.mem_range, Array.mem_toList_iff] at h
  obtain ⟨⟨h1, h2⟩, h3⟩ := h
  refine ⟨fun d hd hb => (h1 d hd).resolve_left (by simp [hb]), fun x hx => (h2 x hx).1, fun x hx => ?_, fun ht x hx => ?_⟩
  · obtain ⟨d, hd, hb, hor⟩ := (h2 x hx).2
    exact ⟨d, hd, hb, hor⟩
  · rcases h3 with h | h
    · omega
    · exact h x hx

theorem see_listed {ops : Array Oper} {sees : List (List Nat)} {t k : Nat} {listed : Array Bool} (hs : okSee ops sees t = true) (hc : ∀ y, y < ops.size → listed.getD y false = true → ∀ x ∈ sees.getD y [], listed.getD x false = true) (hsz : listed.size = ops.size)
    (hr : k ∈ Region.ready .any ops listed) : ∀ x ∈ sees.getD k [], listed.getD x false = true := by
  obtain ⟨_, o, ho, hall⟩ := mem_ready.1 hr
  intro x hx
  obtain ⟨d, hd, hb, hor⟩ := (okSee_spec hs ho).why x hx
  have hl := hall d hd hb
  rcases hor with rfl | hor
  · exact hl
  · refine hc d.on ?_ hl x hor
    by_cases h : d.on < ops.size
    · exact h
    · rw [Array.getD_eq_getD_getElem?, Array.getElem?_eq_none (by omega)] at hl
      simp at hl

section
variable {P : Program} {C : Cx} {V D : List Nat} {n : Nat} {ops : Array Oper} {sees : List (List Nat)} {t : Nat} {QQ : Exit → Act → World → Prop} {Q : Env → Prop} {sos : List SOpr}

theorem okOprs_at : ∀ {os : List Oper} {sos : List SOpr} {k i : Nat} {o : Oper}, okOprs P V D n ops k os sos = true → os[i]? = some o → ∃ so, sos[i]? = some so ∧ okOpr P V D n (k + i) ops o so = true
  | [], sos, k, i, o, h, hi => by simp at hi
  | o' :: os, [], k, i, o, h, hi => by simp [okOprs] at h
  | o' :: os, so :: sos, k, 0, o, h, hi => by
    simp only [okOprs, Bool.and_eq_true] at h
    simp at hi; subst hi
    exact ⟨so, rfl, h.1⟩
  | o' :: os, so :: sos, k, i + 1, o, h, hi => by
    simp only [okOprs, Bool.and_eq_true] at h
    obtain ⟨so', h1, h2⟩ := okOprs_at h.2 (by simpa using hi)
    exact ⟨so', by simpa using h1, by rwa [show k + (i + 1) = k + 1 + i by omega]⟩
theorem okOprs_length : ∀ {os : List Oper} {sos : List SOpr} {k : Nat}, okOprs P V D n ops k os sos = true → os.length = sos.length
  | [], [], k, h => rfl
  | [], _ :: _, k, h => by simp [okOprs] at h
  | _ :: _, [], k, h => by simp [okOprs] at h
  | o' :: os, so :: sos, k, h => by
    simp only [okOprs, Bool.and_eq_true] at h
    simp [okOprs_length h.2]

theorem getD_tf {listed : Array Bool} {j : Nat} (h : j < listed.size) : listed.getD j true = listed.getD j false := by
  simp [Array.getD_eq_getD_getElem?, Array.getElem?_eq_getElem h]

/-- From number i on: one after the other. -/
theorem draw_tail (hν : (V ++ D).Nodup) (hok : okOprs P V D n ops 0 ops.toList sos = true) (hs : okSee ops sees t = true)
    (hQ : ∀ e ρ tmps w Φ f, St P C (V ++ D) n e ρ tmps w Φ f → Q e → QQ .normal ⟨tmps, []⟩ w) :
    ∀ (fuel i : Nat) (listed : Array Bool) (e : Env) (ρ : List Value) (tmps : Array Value) (w : World) (Φ : Nat → Prop) (f : Cnt), listed.size = ops.size → (∀ j, j < ops.size → (listed.getD j false = true ↔ j < i)) → t ≤ i → i ≤ ops.size → ops.size ≤ fuel + i →
      St P C (V ++ D) n e ρ tmps w Φ f → e.length = V.length + ops.size → (∀ j, i ≤ j → j < ops.size → ρ[V.length + j]? = some unk) → SRun P V.length i (sos.drop i) e Q → wpAny P .any ops QQ fuel listed ⟨tmps, []⟩ w := by
  intro fuel
  have hl := okOprs_length hok
  have hend : ∀ (i : Nat) (listed : Array Bool) (e : Env) (ρ : List Value) (tmps : Array Value) (w : World) (Φ : Nat → Prop) (f : Cnt), i = ops.size → St P C (V ++ D) n e ρ tmps w Φ f → SRun P V.length i (sos.drop i) e Q → QQ .normal ⟨tmps, []⟩ w := by
    intro i listed e ρ tmps w Φ f hi hst h
    rw [List.drop_eq_nil_of_le (by rw [← hl, hi]; simp)] at h
    exact hQ _ _ _ _ _ _ hst (by simpa only [SRun] using h)
  have hrd : ∀ (i j : Nat) (listed : Array Bool), listed.size = ops.size → (∀ j, j < ops.size → (listed.getD j false = true ↔ j < i)) → t ≤ i → j ∈ Region.ready .any ops listed → j = i := by
    intro i j listed hsz hl hti hj
    have hsee := see_listed hs (fun y hy hly x hx => by
      have := (okSee_spec hs (Array.getElem?_eq_getElem hy)).lt x hx
      have h2 := (hl y hy).1 hly
      exact (hl x (by omega)).2 (by omega)) hsz hj
    obtain ⟨h0, o, ho, _⟩ := mem_ready.1 hj
    have hjs := (Array.getElem?_eq_some_iff.1 ho).1
    rw [getD_tf (by omega)] at h0
    have hge : ¬ j < i := fun h => by rw [(hl j hjs).2 h] at h0; cases h0
    by_cases hji : i < j
    · have := hsee i ((okSee_spec hs ho).all (by omega) i hji)
      have := (hl i (by omega)).1 this
      omega
    · omega
  induction fuel with
  | zero =>
    intro i listed e ρ tmps w Φ f hsz hlst hti his hf hst hlen hund h
    have hi : i = ops.size := by omega
    refine ⟨?_, hend i listed e ρ tmps w Φ f hi hst h⟩
    cases hr : Region.ready .any ops listed with
    | nil => rfl
    | cons j _ =>
      have hj : j ∈ Region.ready .any ops listed := by rw [hr]; simp
      have := hrd i j listed hsz hlst hti hj
      obtain ⟨_, o, ho, _⟩ := mem_ready.1 hj
      have := (Array.getElem?_eq_some_iff.1 ho).1
      omega
  | succ fuel ih =>
    intro i listed e ρ tmps w Φ f hsz hlst hti his hf hst hlen hund h
    refine ⟨fun hr => ?_, fun j hj => ?_⟩
    · by_cases hi : i = ops.size
      · exact hend i listed e ρ tmps w Φ f hi hst h
      · exfalso
        have hilt : i < ops.size := by omega
        have : i ∈ Region.ready .any ops listed := mem_ready.2 ⟨by
          rw [getD_tf (by omega)]
          cases hb : listed.getD i false with
          | false => rfl
          | true => have := (hlst i hilt).1 hb; omega, _, Array.getElem?_eq_getElem hilt, fun d hd hb => by
          have := (okSee_spec hs (Array.getElem?_eq_getElem hilt)).back d hd hb
          exact (hlst d.on (by omega)).2 this⟩
        rw [hr] at this; cases this
    · obtain rfl := hrd i j listed hsz hlst hti hj
      obtain ⟨_, o, ho, _⟩ := mem_ready.1 hj
      have hjs := (Array.getElem?_eq_some_iff.1 ho).1
      obtain ⟨so, hso, hokr⟩ := okOprs_at hok (i := j) (by simpa using ho)
      rw [Nat.zero_add] at hokr
      have hdrop : sos.drop j = so :: sos.drop (j + 1) := by
        rw [List.drop_eq_getElem_cons (List.getElem?_eq_some_iff.1 hso).1, (List.getElem?_eq_some_iff.1 hso).2]
      rw [hdrop] at h
      have hρl : e.length = ρ.length := CR_length hst.rel
      have := opr_step (QQ := QQ) (ops := ops) (K := wpAny P .any ops QQ fuel (listed.setIfInBounds j true)) hν hokr hst (hund j (Nat.le_refl _) hjs) (SRun_cons h) (fun e2 ρ2 tmps2 w2 Φ2 g hst2 hl2 hu2 hrun =>
        ih (j + 1) _ e2 ρ2 tmps2 w2 Φ2 g (by simpa using hsz) (fun x hx => by
          by_cases hxj : j = x
          · subst hxj; simp [hsz, hjs]
          · rw [getD_set_ne false hxj, hlst x hx]; omega) (by omega) (by omega) (by omega) hst2 (by rw [CR_length hst2.rel, hl2, ← hρl]; exact hlen) (fun x hx hxs => by
          rw [hu2 _ (by omega) (by omega)]; exact hund x (by omega) hxs) hrun)
      unfold wpOp
      rw [ho]
      simp only
      split
      · rename_i hw; rw [if_pos hw] at this; exact .inl this
      · rename_i hw; rw [if_neg hw] at this; exact this

def cntU (listed : Array Bool) : Nat → Nat
  | 0 => 0
  | t + 1 => cntU listed t + if listed.getD t false then 0 else 1
theorem cntU_ge {listed : Array Bool} {k : Nat} : ∀ {t : Nat}, t ≤ k → cntU (listed.setIfInBounds k true) t = cntU listed t
  | 0, _ => rfl
  | t + 1, h => by
    simp only [cntU]
    rw [cntU_ge (by omega), getD_set_ne false (by omega)]
theorem cntU_set {listed : Array Bool} {k : Nat} (hk : listed.getD k false = false) (hs : k < listed.size) : ∀ {t : Nat}, k < t → cntU (listed.setIfInBounds k true) t + 1 = cntU listed t
  | 0, h => by omega
  | t + 1, h => by
    simp only [cntU]
    by_cases hkt : k = t
    · subst hkt
      rw [cntU_ge (Nat.le_refl _), hk]
      simp [hs]
    · have := cntU_set hk hs (t := t) (by omega)
      rw [getD_set_ne false hkt]
      omega
theorem cntU_pos {listed : Array Bool} {k : Nat} (hk : listed.getD k false = false) : ∀ {t : Nat}, k < t → 1 ≤ cntU listed t
  | 0, h => by omega
  | t + 1, h => by
    simp only [cntU]
    by_cases hkt : k = t
    · subst hkt; rw [hk]; simp
    · have := cntU_pos hk (t := t) (by omega)
      omega

theorem OprW_of_DVal {e : Env} {cons : List (Nat × Nat)} {S : List (List Nat)} {so : SOpr} {see : List Nat} {vs : List AV} {k r : Nat} {p : Nat → Bool} (h : DVal P e cons S so see vs k) (hk : k < vs.length) (hp : p k = false) (hsee : ∀ i, i < k → seeM cons S k see i = true → p i = true) :
    OprW P e.length k so (envP e p vs r) fun e2 => ∃ v, vs[k]? = some v ∧ match consAt cons k with
      | some js => ∀ i, i ∉ js.map (e.length + ·) → e2[i]? = ((envP e p vs r).set (e.length + k) v)[i]?
      | none => e2 = (envP e p vs r).set (e.length + k) v := by
  have hle : Le (e ++ maskP (seeM cons S k see) 0 (vs.take k)) (envP e p vs r) := envP_Le fun i hi hq => hsee i hi hq
  obtain ⟨hd, h⟩ := h
  split at h
  · rename_i js hj
    have hopc : ∀ (hlv : isApp so = true → (e ++ vs).all (liveV e) = true) (h : OpC so (e ++ maskP (seeM cons S k see) 0 (vs.take k)) (js.map (e.length + ·)) fun v => vs[k]? = some v), OpW P e.length k so (envP e p vs r) fun e2 => ∃ v, vs[k]? = some v ∧ ∀ i, i ∉ js.map (e.length + ·) → e2[i]? = ((envP e p vs r).set (e.length + k) v)[i]? := by
      intro hlv h
      unfold OpC at h
      unfold OpW
      split at h
      · rename_i t n z ps hs
        split at h
        · rename_i v e1 hx
          obtain ⟨h1, h2, h3⟩ := h
          obtain ⟨e1', k1, k2, k3⟩ := bsl_frm hle hx
          simp only [hs, k1, hd, putV]
          refine ⟨v, h3, fun i hij => ?_⟩
          by_cases hik : e.length + k = i
          · subst hik
            by_cases hl : e.length + k < (envP e p vs r).length
            · rw [List.getElem?_set_self (by rw [k3]; exact hl), List.getElem?_set_self hl]
            · rw [List.getElem?_eq_none (by simp [k3]; omega), List.getElem?_eq_none (by simp; omega)]
          · rw [List.getElem?_set_ne hik, List.getElem?_set_ne hik]
            have hsame := killS_out h2 hij
            rcases k2 i with ⟨_, b⟩ | ⟨a, b⟩
            · exact b
            · rw [← a, hsame, b]
        · cases h
      · rename_i t sz s x hs
        split at h
        · rename_i v e1 hx
          obtain ⟨h1, h2, h3⟩ := h
          obtain ⟨e1', k1, k2, k3⟩ := app_frm hle hx
          have hlv' := hlv (by simp [isApp, hs])
          simp only [hs, opx, k1, hd, putV]
          have same : ∀ i, i ∉ js.map (e.length + ·) → e1'[i]? = (envP e p vs r)[i]? := by
            intro i hij
            have hsame := killS_out h2 hij
            rcases k2 i with ⟨_, b⟩ | ⟨a, b⟩
            · exact b
            · rw [← a, hsame, b]
          refine ⟨v, h3, ?_⟩
          have low : ∀ i, i < e.length → e1'[i]? = e[i]? := fun i hi => by rw [same i (by simp only [List.mem_map, not_exists, not_and]; intro x _; omega), envP_low hi]
          have live : ∀ (i : Nat) (u : AV), (envP e p vs r)[i]? = some u → liveV e1' u = true := by
            intro i u hu
            refine live_more low ?_
            rw [List.all_eq_true] at hlv'
            by_cases hi : i < e.length
            · rw [envP_low hi] at hu
              exact hlv' u (List.mem_append_left _ (List.mem_of_getElem? hu))
            · obtain ⟨i2, rfl⟩ : ∃ i2, i = e.length + i2 := ⟨i - e.length, by omega⟩
              rw [envP_get] at hu
              split at hu
              · cases hv : vs[i2]? with
                | none => simp [hv] at hu
                | some w =>
                  simp only [hv, Option.map_some, Option.some.injEq] at hu
                  subst hu
                  split
                  · exact hlv' w (List.mem_append_right _ (List.mem_of_getElem? hv))
                  · rfl
              · split at hu
                · obtain rfl := Option.some.inj hu; rfl
                · cases hu
          intro i hij
          by_cases hik : e.length + k = i
          · subst hik
            by_cases hl : e.length + k < (envP e p vs r).length
            · rw [List.getElem?_set_self (by simp [killL, k3]; exact hl), List.getElem?_set_self hl]
            · rw [List.getElem?_eq_none (by simp [killL, k3]; omega), List.getElem?_eq_none (by simp; omega)]
          · rw [List.getElem?_set_ne hik, List.getElem?_set_ne hik]
            simp only [killL, List.getElem?_map]
            rw [same i hij]
            cases hu : (envP e p vs r)[i]? with
            | none => rfl
            | some u => simp only [Option.map_some, live i u hu, if_true]
        · cases h
      · cases h
    unfold OprW
    split at h
    · rename_i hg; rw [hg]; exact hopc h.1 h.2
    · rename_i s b hg
      rw [hg]
      have hle2 : ∀ c, wantX b (e ++ maskP (seeM cons S k see) 0 (vs.take k))[s]? = some c → wantX b (envP e p vs r)[s]? = some c := by
        intro c hc
        rcases wantX_some hc with ⟨b', he, hb⟩ | ⟨he, hb⟩
        · rw [hle s _ he (by simp)]; simp [wantX, hb]
        · rw [hle s _ he (by simp)]; simp [wantX, hb]
      split at h
      · rename_i hb
        simp only [hle2 _ hb]
        exact hopc h.1 h.2
      · rename_i hb
        simp only [hle2 _ hb]
        exact ⟨skV so.k, h, fun i _ => by rw [skE_eq]⟩
      · cases h
  rename_i hj
  have hop : ∀ (h : OpV P so (e ++ maskP (seeM cons S k see) 0 (vs.take k)) fun v => vs[k]? = some v), OpW P e.length k so (envP e p vs r) fun e2 => ∃ v, vs[k]? = some v ∧ e2 = (envP e p vs r).set (e.length + k) v := by
    intro h
    unfold OpV at h
    unfold OpW
    split at h
    · rename_i s hs
      obtain ⟨h1, h⟩ := h
      split at h
      · rename_i v e' hx
        have hv : v ≠ .dead := by rintro rfl; simp [isDead] at h
        simp only [hs, opx_mono hle h1 hx hv, hd, putV]
        exact ⟨v, h.2, rfl⟩
      · cases h
    · rename_i g args fr hs
      split at h
      · rename_i avs live hpx
        simp only [hs, prepX_mono hle hpx]
        obtain ⟨res, h1, h2, h⟩ := h
        refine ⟨res, h1, h2, ?_⟩
        split at h
        · rename_i v hv
          simp only [hv, hd, putV]
          exact ⟨v, h.2, rfl⟩
        · cases h
      · cases h
    · rename_i x args hs
      split at h
      · rename_i g caps avs live hcal hpx
        simp only [hs, calleeC_mono hle hcal, prepX_mono hle hpx]
        obtain ⟨hpl, res, h1, h2, h3, h⟩ := h
        refine ⟨hpl, res, h1, h2, ?_⟩
        simp only [hd, putV]
        exact ⟨res, h, rfl⟩
      · cases h
    · cases h
  unfold OprW
  split at h
  · rename_i hg; rw [hg]; exact hop h
  · rename_i s b hg
    rw [hg]
    have hle2 : ∀ c, wantX b (e ++ maskP (seeM cons S k see) 0 (vs.take k))[s]? = some c → wantX b (envP e p vs r)[s]? = some c := by
      intro c hc
      rcases wantX_some hc with ⟨b', he, hb⟩ | ⟨he, hb⟩
      · rw [hle s _ he (by simp)]; simp [wantX, hb]
      · rw [hle s _ he (by simp)]; simp [wantX, hb]
    split at h
    · rename_i hb
      simp only [hle2 _ hb]
      exact hop h
    · rename_i hb
      simp only [hle2 _ hb]
      exact ⟨skV so.k, h, skE_eq⟩
    · cases h

def okConsB (cons : List (Nat × Nat)) (sees : List (List Nat)) (t : Nat) : Bool := cons.all fun c => ((sees.getD c.1 []).contains c.2 || decide (t ≤ c.2)) && decide (c.1 < t)
theorem okConsB_spec {cons : List (Nat × Nat)} {sees : List (List Nat)} {t : Nat} (h : okConsB cons sees t = true) : ∀ c ∈ cons, (c.2 ∈ sees.getD c.1 [] ∨ t ≤ c.2) ∧ c.1 < t := by
  simp only [okConsB, List.all_eq_true, Bool.and_eq_true, List.contains_iff_mem, decide_eq_true_eq, Bool.or_eq_true] at h
  exact h
theorem consAt_mem {cons : List (Nat × Nat)} {k : Nat} {js : List Nat} (h : consAt cons k = some js) {j : Nat} : j ∈ js ↔ (k, j) ∈ cons := by
  unfold consAt at h
  split at h
  · cases h
  · rename_i hne
    cases h
    simp only [List.mem_map, List.mem_filter, beq_iff_eq]
    constructor
    · rintro ⟨⟨a, b⟩, ⟨h1, h2⟩, h3⟩
      simp only at h2 h3
      subst h2 h3; exact h1
    · intro h; exact ⟨_, ⟨h, rfl⟩, rfl⟩
theorem consAt_none {cons : List (Nat × Nat)} {k : Nat} (h : consAt cons k = none) : ∀ c ∈ cons, c.1 ≠ k := by
  unfold consAt at h
  split at h
  · rename_i he
    intro c hc hck
    have : c.2 ∈ (cons.filter fun c => c.1 == k).map (·.2) := List.mem_map.2 ⟨c, List.mem_filter.2 ⟨hc, by simpa using hck⟩, rfl⟩
    rw [he] at this
    cases this
  · cases h
/-- Listed, and not taken yet. -/
def vis (cons : List (Nat × Nat)) (listed : Array Bool) (i : Nat) : Bool := listed.getD i false && !(cons.any fun c => c.2 == i && listed.getD c.1 false)
def visE (cons : List (Nat × Nat)) (i : Nat) : Bool := !(cons.any fun c => c.2 == i)
theorem St_drop {x : Opd} {e : Env} {ρ : List Value} {tmps : Array Value} {w : World} {Φ : Nat → Prop} {f : Cnt} (h : St P C V n e ρ tmps w Φ f) : ∃ f', St P C V n (dropS x e) ρ tmps w Φ f' := by
  cases x with
  | con v => exact ⟨f, h⟩
  | slot j =>
    simp only [dropS]
    cases hj : e[j]? with
    | none =>
      rw [List.set_eq_of_length_le (by simpa using hj)]
      exact ⟨f, h⟩
    | some u =>
      obtain ⟨cv, f1, f2, hv, _, hf, hset⟩ := CR_get j h.rel hj
      have := hset .dead cv (fun _ => 0) (by simp [VR])
      rw [set_same hv] at this
      refine ⟨_, this, h.lk, h.inv.le (fun b => ?_), h.ext, h.sub, h.new, fun b hb => h.own b ?_, h.size⟩
      · show 0 + f2 b ≤ f b
        have := hf b; omega
      · have hb' : 1 ≤ 0 + f2 b := hb
        have := hf b; omega

theorem St_killS : ∀ (ds : List Nat) {e : Env} {ρ : List Value} {tmps : Array Value} {w : World} {Φ : Nat → Prop} {f : Cnt} {N : Nat}, St P C V N e ρ tmps w Φ f → ∃ f', St P C V N (killS e ds) ρ tmps w Φ f'
  | [], _, _, _, _, _, f, _, h => ⟨f, h⟩
  | d :: ds, _, _, _, _, _, _, _, h => by
    obtain ⟨f', h'⟩ := St_drop (x := .slot d) h
    exact St_killS ds h'

/-- The first t in any order, then the rest. -/
theorem draw_head {e : Env} {cons : List (Nat × Nat)} {vs : List AV} (hν : (V ++ D).Nodup) (hok : okOprs P V D n ops 0 ops.toList sos = true) (hs : okSee ops sees t = true) (hco : okConsB cons sees t = true) (hm : e.length = V.length) (ht : t ≤ ops.size) (hvs : vs.length = t)
    (hQ : ∀ e ρ tmps w Φ f, St P C (V ++ D) n e ρ tmps w Φ f → Q e → QQ .normal ⟨tmps, []⟩ w)
    (hv : ∀ k so, k < t → sos[k]? = some so → DVal P e cons sees so (sees.getD k []) vs k) (htail : SRun P V.length t (sos.drop t) (e ++ maskP (visE cons) 0 vs ++ List.replicate (ops.size - t) .dead) Q) :
    ∀ (fuel : Nat) (listed : Array Bool) (ρ : List Value) (tmps : Array Value) (w : World) (Φ : Nat → Prop) (f : Cnt), listed.size = ops.size → (∀ j, t ≤ j → j < ops.size → listed.getD j false = false) → cntU listed t + (ops.size - t) ≤ fuel →
      (∀ y, y < ops.size → listed.getD y false = true → ∀ x ∈ sees.getD y [], listed.getD x false = true) →
      St P C (V ++ D) n (envP e (vis cons listed) vs (ops.size - t)) ρ tmps w Φ f → (∀ j, j < ops.size → listed.getD j false = false → ρ[V.length + j]? = some unk) → wpAny P .any ops QQ fuel listed ⟨tmps, []⟩ w := by
  have hl := okOprs_length hok
  have full : ∀ (fuel : Nat) (listed : Array Bool) (ρ : List Value) (tmps : Array Value) (w : World) (Φ : Nat → Prop) (f : Cnt), listed.size = ops.size → (∀ j, t ≤ j → j < ops.size → listed.getD j false = false) → ops.size - t ≤ fuel →
      (∀ j, j < t → listed.getD j false = true) → St P C (V ++ D) n (envP e (vis cons listed) vs (ops.size - t)) ρ tmps w Φ f → (∀ j, j < ops.size → listed.getD j false = false → ρ[V.length + j]? = some unk) → wpAny P .any ops QQ fuel listed ⟨tmps, []⟩ w := by
    intro fuel listed ρ tmps w Φ f hsz htl hfu hall hst hund
    have he : envP e (vis cons listed) vs (ops.size - t) = e ++ maskP (visE cons) 0 vs ++ List.replicate (ops.size - t) .dead := by
      have : maskP (vis cons listed) 0 vs = maskP (visE cons) 0 vs := by
        apply List.ext_getElem?
        intro i
        rw [maskP_get, maskP_get]
        cases hi : vs[i]? with
        | none => rfl
        | some v =>
          have hil := (List.getElem?_eq_some_iff.1 hi).1
          have : vis cons listed (0 + i) = visE cons (0 + i) := by
            simp only [vis, visE, Nat.zero_add, hall i (by omega), Bool.true_and]
            congr 1
            rw [Bool.eq_iff_iff]
            simp only [List.any_eq_true, Bool.and_eq_true]
            exact ⟨fun ⟨c, h1, h2, _⟩ => ⟨c, h1, h2⟩, fun ⟨c, h1, h2⟩ => ⟨c, h1, h2, hall c.1 ((okConsB_spec hco) c h1).2⟩⟩
          simp only [Option.map_some, this]
      rw [envP, this]
    rw [he] at hst
    refine draw_tail hν hok hs hQ fuel t listed _ ρ tmps w Φ f hsz (fun j hj => ⟨fun h => ?_, fun h => hall j h⟩) (Nat.le_refl _) ht (by omega) hst (by simp [hm, hvs, maskP_length]; omega) (fun j hj hjs => hund j hjs (htl j hj hjs)) htail
    by_cases hjt : j < t
    · exact hjt
    · rw [htl j (by omega) hj] at h; cases h
  intro fuel
  induction fuel with
  | zero =>
    intro listed ρ tmps w Φ f hsz htl hfu hcl hst hund
    refine full 0 listed ρ tmps w Φ f hsz htl (by omega) (fun j hj => ?_) hst hund
    cases hb : listed.getD j false with
    | true => rfl
    | false => have := cntU_pos hb hj; omega
  | succ fuel ih =>
    intro listed ρ tmps w Φ f hsz htl hfu hcl hst hund
    by_cases hall : ∀ j, j < t → listed.getD j false = true
    · exact full (fuel + 1) listed ρ tmps w Φ f hsz htl (by omega) hall hst hund
    · refine ⟨fun hr => ?_, fun k hk => ?_⟩
      · -- some operation can come up
        exfalso
        apply hall
        intro j
        induction j using Nat.strongRecOn with
        | _ j ihj =>
          intro hjt
          cases hb : listed.getD j false with
          | true => rfl
          | false =>
            exfalso
            have hjs : j < ops.size := by omega
            have : j ∈ Region.ready .any ops listed := mem_ready.2 ⟨by rw [getD_tf (by omega)]; exact hb, _, Array.getElem?_eq_getElem hjs, fun d hd hbd => by
              have := (okSee_spec hs (Array.getElem?_eq_getElem hjs)).back d hd hbd
              exact ihj d.on this (by omega)⟩
            rw [hr] at this; cases this
      · have hsee := see_listed hs hcl hsz hk
        obtain ⟨h0, o, ho, _⟩ := mem_ready.1 hk
        have hks := (Array.getElem?_eq_some_iff.1 ho).1
        rw [getD_tf (by omega)] at h0
        have hkt : k < t := by
          by_cases h : k < t
          · exact h
          · exfalso
            apply hall
            intro j hj
            exact hsee j ((okSee_spec hs ho).all (by omega) j (by omega))
        obtain ⟨so, hso, hokr⟩ := okOprs_at hok (i := k) (by simpa using ho)
        rw [Nat.zero_add] at hokr
        have hc1 := okConsB_spec hco
        have hvk0 : vis cons listed k = false := by simp [vis, h0]
        have hw := OprW_of_DVal (r := ops.size - t) (p := vis cons listed) (hv k so hkt hso) (by omega) hvk0 (fun i _ hi => by
          simp only [seeM, Bool.and_eq_true, List.contains_iff_mem, Bool.not_eq_true', List.any_eq_false, bne_iff_ne, beq_iff_eq] at hi
          simp only [vis, Bool.and_eq_true, Bool.not_eq_true', List.any_eq_false, beq_iff_eq]
          refine ⟨hsee i hi.1, fun c hc hcc => ?_⟩
          have hck : c.1 ≠ k := fun h => by rw [h, h0] at hcc; cases hcc.2
          have h9 : c.1 < ops.size := by have := (hc1 c hc).2; omega
          by_cases hck2 : k ∈ sees.getD c.1 []
          · have := hcl c.1 h9 hcc.2 k hck2
            rw [h0] at this; cases this
          · exact hi.2 c hc ⟨⟨hcc.1, hck⟩, by simpa using hck2⟩)
        rw [hm] at hw
        have hself : ∀ c ∈ cons, c.2 = k → (listed.setIfInBounds k true).getD c.1 false = true → False := fun c hc hck hl => by
          have hcs := (hc1 c hc).1.resolve_right (by omega)
          by_cases hck1 : k = c.1
          · have hlt := (okSee_spec hs ho).lt c.2 (by rw [hck1]; exact hcs)
            omega
          · rw [getD_set_ne false hck1] at hl
            have h9 : c.1 < ops.size := by
              by_cases h : c.1 < ops.size
              · exact h
              · rw [Array.getD_eq_getD_getElem?, Array.getElem?_eq_none (by omega)] at hl; simp at hl
            have := hcl c.1 h9 hl c.2 hcs
            rw [hck, h0] at this; cases this
        have hk1 : vis cons (listed.setIfInBounds k true) k = true := by
          have : (listed.setIfInBounds k true).getD k false = true := by simp [hsz, hks]
          simp only [vis, this, Bool.true_and, Bool.not_eq_true', List.any_eq_false, Bool.and_eq_true, beq_iff_eq]
          exact fun c hc hcc => hself c hc hcc.1 hcc.2
        have := opr_step (QQ := QQ) (ops := ops) (K := wpAny P .any ops QQ fuel (listed.setIfInBounds k true)) hν hokr hst (hund k hks h0) hw (fun e2 ρ2 tmps2 w2 Φ2 g hst2 hl2 hu2 hrun => by
          obtain ⟨v, hvk, hrun⟩ := hrun
          have hset := envP_set (e := e) (p := vis cons listed) (r := ops.size - t) hvk (fun i => vis cons listed i || i == k) (fun i => rfl)
          rw [hm] at hset
          obtain ⟨g, hst2⟩ : ∃ g, St P C (V ++ D) n (envP e (vis cons (listed.setIfInBounds k true)) vs (ops.size - t)) ρ2 tmps2 w2 Φ2 g := by
            cases hj : consAt cons k with
            | none =>
              rw [hj] at hrun
              simp only at hrun
              subst hrun
              rw [hset] at hst2
              refine ⟨g, ?_⟩
              have : (fun i => vis cons listed i || i == k) = vis cons (listed.setIfInBounds k true) := funext fun i => by
                by_cases hik : k = i
                · subst hik; rw [hk1]; simp
                · have e0 : (i == k) = false := by simp; omega
                  simp only [vis, e0, Bool.or_false, getD_set_ne false hik]
                  congr 2
                  rw [Bool.eq_iff_iff]
                  simp only [List.any_eq_true, Bool.and_eq_true]
                  have hne : ∀ c ∈ cons, k ≠ c.1 := fun c hc h => consAt_none hj c hc h.symm
                  exact ⟨fun ⟨c, h1, h2, h3⟩ => ⟨c, h1, h2, by rw [getD_set_ne false (hne c h1)]; exact h3⟩, fun ⟨c, h1, h2, h3⟩ => ⟨c, h1, h2, by rw [getD_set_ne false (hne c h1)] at h3; exact h3⟩⟩
              rw [this] at hst2; exact hst2
            | some js =>
              rw [hj] at hrun
              simp only at hrun
              obtain ⟨g', hst3⟩ := St_killS (js.map (V.length + ·)) hst2
              refine ⟨g', ?_⟩
              have hlen : e2.length = e.length + (vs.length + (ops.size - t)) := by rw [CR_length hst2.rel, hl2, ← CR_length hst.rel, envP_length]
              have e1 : killS e2 (js.map (V.length + ·)) = envP e (vis cons (listed.setIfInBounds k true)) vs (ops.size - t) := by
                apply List.ext_getElem?
                intro i
                rw [killS_get, hlen]
                by_cases hin : i ∈ js.map (V.length + ·)
                · obtain ⟨q, hqj, rfl⟩ := List.mem_map.1 hin
                  have hkq := (consAt_mem hj).1 hqj
                  rw [← hm, envP_get]
                  by_cases hq : q < vs.length
                  · rw [if_pos ⟨by rw [hm]; exact hin, by omega⟩, if_pos hq]
                    have : vis cons (listed.setIfInBounds k true) q = false := by
                      simp only [vis, Bool.and_eq_false_iff, Bool.not_eq_false', List.any_eq_true, Bool.and_eq_true, beq_iff_eq]
                      exact .inr ⟨_, hkq, rfl, by simp [hsz, hks]⟩
                    rw [this]
                    obtain ⟨u, hu⟩ : ∃ u, vs[q]? = some u := ⟨_, List.getElem?_eq_getElem hq⟩
                    simp [hu]
                  · rw [if_neg hq]
                    by_cases hq2 : q < vs.length + (ops.size - t)
                    · rw [if_pos ⟨by rw [hm]; exact hin, by omega⟩, if_pos hq2]
                    · rw [if_neg (by omega), if_neg hq2, List.getElem?_eq_none (by omega)]
                · rw [if_neg (fun h => hin h.1), hrun i hin, hset]
                  by_cases hil : i < e.length
                  · rw [envP_low hil, envP_low hil]
                  · obtain ⟨q, rfl⟩ : ∃ q, i = e.length + q := ⟨i - e.length, by omega⟩
                    rw [envP_get, envP_get]
                    have : (vis cons listed q || q == k) = vis cons (listed.setIfInBounds k true) q := by
                      by_cases hik : k = q
                      · subst hik; rw [hk1]; simp
                      · have e0 : (q == k) = false := by simp; omega
                        simp only [vis, e0, Bool.or_false, getD_set_ne false hik]
                        congr 2
                        rw [Bool.eq_iff_iff]
                        simp only [List.any_eq_true, Bool.and_eq_true, beq_iff_eq]
                        have hne : ∀ c ∈ cons, c.2 = q → k ≠ c.1 := fun c hc h h2 => by
                          refine hin (List.mem_map.2 ⟨q, (consAt_mem hj).2 ?_, by omega⟩)
                          obtain ⟨c1, c2⟩ := c
                          simp only at h h2
                          subst h h2; exact hc
                        exact ⟨fun ⟨c, h1, h2, h3⟩ => ⟨c, h1, h2, by rw [getD_set_ne false (hne c h1 h2)]; exact h3⟩, fun ⟨c, h1, h2, h3⟩ => ⟨c, h1, h2, by rw [getD_set_ne false (hne c h1 h2)] at h3; exact h3⟩⟩
                    rw [this]
              rw [e1] at hst3; exact hst3
          refine ih _ ρ2 tmps2 w2 Φ2 g (by simpa using hsz) (fun j hj hjs => by rw [getD_set_ne false (by omega)]; exact htl j hj hjs) (by have := cntU_set h0 (by omega) hkt; omega) (fun y hy hly x hx => ?_) hst2 (fun j hj hjl => ?_)
          · by_cases hky : k = y
            · subst hky
              exact getD_set_true (hsee x hx)
            · rw [getD_set_ne false hky] at hly
              exact getD_set_true (hcl y hy hly x hx)
          · by_cases hkj : k = j
            · subst hkj; simp [hsz, hks] at hjl
            · rw [getD_set_ne false hkj] at hjl
              rw [hu2 _ (by omega) (by omega)]
              exact hund j hj hjl)
        unfold wpOp
        rw [ho]
        simp only
        split
        · rename_i hw; rw [if_pos hw] at this; exact .inl this
        · rename_i hw; rw [if_neg hw] at this; exact this
end

/-! ### The same with all that is known beforehand worked out -/
def maskB : List Bool → List AV → List AV
  | _, [] => []
  | b :: bs, v :: vs => (if b then v else .dead) :: maskB bs vs
  | [], _ :: vs => .dead :: maskB [] vs
def DRunB (P : Program) (e : Env) : List SOpr → List (List Bool × Option (List Nat)) → List AV → (List AV → Prop) → Prop
  | [], _, acc, Q => Q acc
  | so :: rest, (bs, some js) :: info, acc, Q => so.dst = none ∧ match so.guard with
    | none => OpC so (e ++ maskB bs acc) (js.map (e.length + ·)) fun v => DRunB P e rest info (acc ++ [v]) (addL e so Q)
    | some (s, b) => match wantX b (e ++ maskB bs acc)[s]? with
      | some true => OpC so (e ++ maskB bs acc) (js.map (e.length + ·)) fun v => DRunB P e rest info (acc ++ [v]) (addL e so Q)
      | some false => DRunB P e rest info (acc ++ [skV so.k]) Q
      | none => False
  | so :: rest, (bs, none) :: info, acc, Q => so.dst = none ∧ match so.guard with
    | none => OpV P so (e ++ maskB bs acc) fun v => DRunB P e rest info (acc ++ [v]) Q
    | some (s, b) => match wantX b (e ++ maskB bs acc)[s]? with
      | some true => OpV P so (e ++ maskB bs acc) fun v => DRunB P e rest info (acc ++ [v]) Q
      | some false => DRunB P e rest info (acc ++ [skV so.k]) Q
      | none => False
  | _ :: _, [], _, _ => False
def okInfo (cons : List (Nat × Nat)) (sees : List (List Nat)) (t : Nat) (info : List (List Bool × Option (List Nat))) (fin : List Bool) : Bool :=
  ((List.range t).all fun k => info[k]? == some ((List.range k).map (seeM cons sees k (sees.getD k [])), consAt cons k)) && fin == (List.range t).map (visE cons)
theorem maskB_P {p : Nat → Bool} : ∀ {vs : List AV} {k n : Nat}, vs.length = n → maskB ((List.range' k n).map p) vs = maskP p k vs
  | [], k, n, h => by cases n <;> simp [maskB, maskP]
  | v :: vs, k, n, h => by
    cases n with
    | zero => simp at h
    | succ n =>
      rw [List.range'_succ, List.map_cons]
      simp only [maskB, maskP]
      rw [maskB_P (by simpa using h)]
theorem DRunB_DRun {P : Program} {e : Env} {cons : List (Nat × Nat)} {S : List (List Nat)} : ∀ {sos : List SOpr} {info : List (List Bool × Option (List Nat))} {sees : List (List Nat)} {acc : List AV} {Q : List AV → Prop},
    (∀ i, i < sos.length → info[i]? = some ((List.range (acc.length + i)).map (seeM cons S (acc.length + i) (sees.getD i [])), consAt cons (acc.length + i))) → DRunB P e sos info acc Q → DRun P e cons S sos sees acc Q
  | [], info, sees, acc, Q, _, h => by simpa only [DRun, DRunB] using h
  | so :: rest, [], sees, acc, Q, _, h => by simp only [DRunB] at h
  | so :: rest, (bs, c) :: info, sees, acc, Q, hi, h => by
    have h0 := hi 0 (by simp)
    simp only [List.getElem?_cons_zero, Option.some.injEq, Prod.mk.injEq, Nat.add_zero] at h0
    obtain ⟨h1, h2⟩ := h0
    have hd : sees.headD [] = sees.getD 0 [] := by cases sees <;> rfl
    have ht : ∀ k, sees.tail.getD k [] = sees.getD (k + 1) [] := fun k => by cases sees <;> simp
    have hm : maskB bs acc = maskP (seeM cons S acc.length (sees.headD [])) 0 acc := by
      rw [h1, hd, List.range_eq_range']
      exact maskB_P rfl
    have next : ∀ {Q : List AV → Prop} v, DRunB P e rest info (acc ++ [v]) Q → DRun P e cons S rest sees.tail (acc ++ [v]) Q := fun v hv => DRunB_DRun (fun i hil => by
      have := hi (i + 1) (by simpa using hil)
      simp only [List.getElem?_cons_succ] at this
      rw [this, ht]
      simp [Nat.add_assoc, Nat.add_comm 1 i]) hv
    simp only [DRun]
    cases c with
    | some j =>
      simp only [DRunB] at h
      rw [← h2, ← hm]
      refine ⟨h.1, ?_⟩
      have h := h.2
      simp only
      split at h
      · exact OpC_imp next h
      · split at h
        · exact OpC_imp next h
        · exact next _ h
        · cases h
    | none =>
      simp only [DRunB] at h
      rw [← h2, ← hm]
      refine ⟨h.1, ?_⟩
      have h := h.2
      simp only
      split at h
      · exact OpV_imp next h
      · split at h
        · exact OpV_imp next h
        · exact next _ h
        · cases h
end Go.AM
