/- Part of a proof: see the last text of this folder. -/
import Derived.Test.YtafglhcclmbnbaaGreatAmCode
import Derived.Orders
import Derived.LoopN
import Derived.ChangeArms
import Derived.ProofKit
import Derived.ChangeStays
import Derived.OpenShut
import Derived.Below
import Derived.Sort.Grow
import Derived.Deep.Draws
import Derived.Lib.Join
/- Regions that draw their order. -/
set_option linter.unusedSimpArgs false
set_option linter.unusedVariables false
set_option linter.unusedSectionVars false
namespace Go.AM
open Go
def isDead : AV → Bool
  | .dead => true
  | _ => false
theorem isDead_iff {v : AV} : isDead v = true ↔ v = .dead := by cases v <;> simp [isDead]
def Le (e e' : Env) : Prop := ∀ (i : Nat) (v : AV), e[i]? = some v → v ≠ AV.dead → e'[i]? = some v
theorem lzv_dead {j : Nat} : lzv j .dead = .dead := rfl
theorem ev_mono {e e' : Env} (h : Le e e') {x : Opd} {v : AV} (hx : ev e x = some v) (hv : v ≠ .dead) : ev e' x = some v := by
  cases x with
  | con u => simpa [ev] using hx
  | slot j =>
    simp only [ev] at hx ⊢
    split at hx
    · rename_i u hu
      simp at hx
      have : u ≠ .dead := by rintro rfl; exact hv (by rw [← hx]; rfl)
      rw [h j u hu this]
      simpa using hx
    · cases hx
theorem rowE_mono {e e' : Env} (h : Le e e') {r : Nat} {p : List Nat} {row : List AV} (hx : rowE e r p = some row) : rowE e' r p = some row := by
  unfold rowE at hx ⊢
  split at hx
  · cases hx
  · cases hx
  · rename_i v h1 h2 hv
    rw [h r v hv h1]
    split
    · rename_i h3; cases h3; exact (h1 rfl).elim
    · rename_i h3; cases h3; exact (h2 rfl).elim
    · rename_i v' _ _ h3; cases h3; exact hx
    · rename_i h3; cases h3
  · cases hx
theorem lenX_mono {e e' : Env} (h : Le e e') {st : Bool} {v : AV} {n : Nat} (hx : lenX e st v = some n) : lenX e' st v = some n := by
  unfold lenX at hx ⊢
  split at hx
  · exact hx
  · exact hx
  · exact hx
  · split at hx
    · rename_i row hr
      rw [rowE_mono h hr]; exact hx
    · cases hx
  · cases hx
theorem evs_mono {e e' : Env} (h : Le e e') : ∀ {xs : List Opd} {vs : List AV}, evs e xs = some vs → (∀ v ∈ vs, v ≠ .dead) → evs e' xs = some vs
  | [], vs, hx, _ => by simpa [evs] using hx
  | x :: xs, vs, hx, hv => by
    simp only [evs] at hx ⊢
    split at hx
    · rename_i v h1
      split at hx
      · rename_i vs' h2
        simp at hx; subst hx
        rw [ev_mono h h1 (hv _ (by simp)), evs_mono h h2 (fun v hm => hv v (by simp [hm]))]
      · cases hx
    · cases hx
theorem fillP_mono {e e' : Env} (h : Le e e') : ∀ {ps : List (Nat × Nat × Opd)} {cs cs' : List AV}, fillP e cs ps = some cs' → fillP e' cs ps = some cs'
  | [], cs, cs', hx => by simpa [fillP] using hx
  | (off, sz, x) :: ps, cs, cs', hx => by
    simp only [fillP] at hx ⊢
    split at hx
    · cases hx
    · cases hx
    · rename_i v h1 h2 hv
      have hd : v ≠ .dead := fun hd => h1 hd
      rw [ev_mono h hv hd]
      split
      · rename_i h3; cases h3; exact (h1 rfl).elim
      · rename_i h3; cases h3; exact (h2 rfl).elim
      · rename_i v' _ _ h3; cases h3
        split at hx
        · rename_i hc; rw [if_pos hc]; exact fillP_mono h hx
        · cases hx
      · rename_i h3; cases h3
    · cases hx
theorem optI_mono {e e' : Env} (h : Le e e') {d : Nat} {x : Option Opd} {i : Int} (hx : optI e d x = some i) : optI e' d x = some i := by
  cases x with
  | none => simpa [optI] using hx
  | some x =>
    simp only [optI] at hx ⊢
    split at hx
    · rename_i h1; rw [ev_mono h h1 (by simp)]; exact hx
    · cases hx
def pureOp : SOp → Bool
  | .mv _ => true
  | .pick _ _ _ => true
  | .mk _ _ => true
  | .build _ _ => true
  | .load _ _ _ => true
  | .bin _ _ _ => true
  | .beq _ _ _ => true
  | .not _ => true
  | .neg _ => true
  | .conv _ _ => true
  | .mkf _ _ => true
  | .slice _ _ _ _ _ => true
  | .faddr _ _ => true
  | .iaddr _ _ _ => true
  | .idx _ _ => true
  | .len _ _ => true
  | .minmax _ _ _ => true
  | .ext _ _ => true
  | .mvt _ => true
  | .aidx _ _ _ _ _ => true
  | .b2s _ => true
  | .isnil _ _ => true
  | .sbeq _ _ _ _ => true
  | _ => false
theorem opx_mono {e e' : Env} (h : Le e e') {s : SOp} (hp : pureOp s = true) {v : AV} {e1 : Env} (hx : opx e s = some (v, e1)) (hv : v ≠ .dead) : opx e' s = some (v, e') := by
  cases s with
  | mv x =>
    simp only [opx] at hx ⊢
    split at hx
    · rename_i u hu
      simp at hx; obtain ⟨rfl, rfl⟩ := hx
      rw [ev_mono h hu hv]
    · cases hx
  | pick c a b =>
    simp only [opx] at hx ⊢
    split at hx
    · rename_i t hc
      rw [ev_mono h hc (by simp)]
      split at hx
      · rename_i u hu
        simp at hx; obtain ⟨rfl, rfl⟩ := hx
        simp only [ev_mono h hu hv]
      · cases hx
    · cases hx
  | mk t z => simp [opx] at hx ⊢; exact hx.1
  | build z ps =>
    simp only [opx] at hx ⊢
    split at hx
    · rename_i cs hc
      simp at hx; obtain ⟨rfl, rfl⟩ := hx
      rw [fillP_mono h hc]
    · cases hx
  | load sz ag x =>
    simp only [opx] at hx ⊢
    split at hx
    · rename_i cs hc
      rw [ev_mono h hc (by simp)]
      simp only
      split at hx
      · rename_i h1; rw [if_pos h1]
        split at hx
        · rename_i h2; simp at hx; obtain ⟨rfl, rfl⟩ := hx; simp only [h2]
        · cases hx
      · cases hx
    · rename_i r p o hc
      rw [ev_mono h hc (by simp)]
      simp only
      split at hx
      · rename_i row hr
        rw [rowE_mono h hr]
        simp only
        split at hx
        · rename_i h1; rw [if_pos h1]
          split at hx
          · rename_i h2; simp at hx; obtain ⟨rfl, rfl⟩ := hx; simp only [h2]
          · cases hx
        · cases hx
      · cases hx
    · cases hx
  | bin op x y =>
    simp only [opx] at hx ⊢
    split at hx
    · rename_i a b ha hb
      split at hx
      · rename_i u hu
        simp at hx; obtain ⟨rfl, rfl⟩ := hx
        have h1 : a ≠ .dead := by rintro rfl; simp [binX] at hu
        have h2 : b ≠ .dead := by rintro rfl; cases a <;> simp [binX] at hu
        rw [ev_mono h ha h1, ev_mono h hb h2]
        simp only [hu]
      · cases hx
    · cases hx
  | beq ne x y =>
    simp only [opx] at hx ⊢
    split at hx
    · rename_i a b ha hb
      rw [ev_mono h ha (by simp), ev_mono h hb (by simp)]
      simp at hx ⊢; exact hx.1
    · cases hx
  | not x =>
    simp only [opx] at hx ⊢
    split at hx
    · rename_i b hb; rw [ev_mono h hb (by simp)]; simp at hx ⊢; exact hx.1
    · cases hx
  | neg x =>
    simp only [opx] at hx ⊢
    split at hx
    · rename_i b hb; rw [ev_mono h hb (by simp)]; simp at hx ⊢; exact hx.1
    · cases hx
  | conv k x =>
    simp only [opx] at hx ⊢
    split at hx
    · rename_i b hb; rw [ev_mono h hb (by simp)]; simp at hx ⊢; exact hx.1
    · cases hx
  | mkf f caps =>
    simp only [opx] at hx ⊢
    split at hx
    · rename_i vs hvs
      split at hx
      · rename_i hc
        rw [evs_mono h hvs (fun v hm => by
          have := List.all_eq_true.1 hc v hm
          rintro rfl; simp [capOk, isRef1, isFz] at this)]
        simp [hc] at hx ⊢; exact hx.1
      · cases hx
    · cases hx
  | slice st sz x lo hi =>
    simp only [opx] at hx ⊢
    split at hx
    · rename_i n cs hc
      rw [ev_mono h hc (by simp)]
      simp only
      split at hx
      · rename_i l hh h1 h2
        rw [optI_mono h h1, optI_mono h h2]
        simp only
        split at hx
        · rename_i h3; rw [if_pos h3]; simp at hx ⊢; exact hx.1
        · cases hx
      · cases hx
    · rename_i r p o hc
      rw [ev_mono h hc (by simp)]
      simp only
      split at hx
      · rename_i row hrow
        rw [rowE_mono h hrow]
        split at hx
        · rename_i s0 t n cs hro
          simp only [hro]
          split at hx
          · rename_i l hh h1 h2
            rw [optI_mono h h1, optI_mono h h2]
            simp only
            split at hx
            · rename_i h3; rw [if_pos h3]; simp at hx ⊢; exact hx.1
            · cases hx
          · cases hx
        · cases hx
      · cases hx
    · rename_i s hc
      rw [ev_mono h hc (by simp)]
      simp only
      split at hx
      · rename_i l hh h1 h2
        rw [optI_mono h h1, optI_mono h h2]
        simp only
        split at hx
        · rename_i h3; rw [if_pos h3]; simp at hx ⊢; exact hx.1
        · cases hx
      · cases hx
    · cases hx
  | faddr off x =>
    simp only [opx] at hx ⊢
    split at hx
    · rename_i cs hc
      rw [ev_mono h hc (by simp)]
      simp only
      split at hx
      · rename_i h1; rw [if_pos h1]; simp at hx ⊢; exact hx.1
      · cases hx
    · rename_i r p o hc
      rw [ev_mono h hc (by simp)]
      simp at hx ⊢; exact hx.1
    · cases hx
  | iaddr sz x i =>
    simp only [opx] at hx ⊢
    split at hx
    · rename_i n cs _ i' hc hi
      rw [ev_mono h hc (by simp), ev_mono h hi (by simp)]
      simp only
      split at hx
      · rename_i h1; rw [if_pos h1]; simp at hx ⊢; exact hx.1
      · cases hx
    · rename_i r p o _ i' hc hi
      rw [ev_mono h hc (by simp), ev_mono h hi (by simp)]
      simp only
      split at hx
      · rename_i row hr
        rw [rowE_mono h hr]
        simp only
        split at hx
        · rename_i h2
          split at hx
          · rename_i h1; simp only [h2, if_pos h1]; simp at hx ⊢; exact hx.1
          · cases hx
        · cases hx
      · cases hx
    · cases hx
  | idx x i =>
    simp only [opx] at hx ⊢
    split at hx
    · rename_i s _ i' hc hi
      rw [ev_mono h hc (by simp), ev_mono h hi (by simp)]
      simp only
      split at hx
      · rename_i h1; rw [if_pos h1]; simp at hx ⊢; exact hx.1
      · cases hx
    · cases hx
  | len st x =>
    simp only [opx] at hx ⊢
    split at hx
    · rename_i u hu
      split at hx
      · rename_i n hn
        have : u ≠ .dead := by rintro rfl; cases st <;> simp [lenX] at hn
        rw [ev_mono h hu this]
        simp only [lenX_mono h hn]
        simp at hx ⊢; exact hx.1
      · cases hx
    · cases hx
  | minmax mx x y =>
    simp only [opx] at hx ⊢
    split at hx
    · rename_i k a k' b h1 h2
      rw [ev_mono h h1 (by simp), ev_mono h h2 (by simp)]
      simp only
      split at hx
      · rename_i h3; rw [if_pos h3]; simp at hx ⊢; exact hx.1
      · cases hx
    · cases hx
  | mvt j =>
    simp only [opx] at hx ⊢
    split at hx
    · rename_i sh cs hj
      rw [h j _ hj (by simp)]
      simp at hx ⊢; exact hx.1
    · cases hx
  | ext j ix =>
    simp only [opx] at hx ⊢
    split at hx
    · rename_i sh cs hj
      rw [h j _ hj (by simp)]
      simp only
      split at hx
      · rename_i h1
        split at hx
        · rename_i c hc; simp at hx ⊢; exact hx.1
        · cases hx
      · rename_i n h1
        split at hx
        · rename_i hc; rw [if_pos hc]; simp at hx ⊢; exact hx.1
        · cases hx
      · cases hx
    · cases hx
  | aidx sz ag n x i =>
    simp only [opx] at hx ⊢
    split at hx
    · rename_i cs k i h1 h2
      rw [ev_mono h h1 (by simp), ev_mono h h2 (by simp)]
      simp only
      split at hx
      · rename_i h3
        rw [if_pos h3]
        split at hx
        · rename_i u hu; simp at hx ⊢; exact hx.1
        · cases hx
      · cases hx
    · cases hx
  | sbeq ne ks x y =>
    simp only [opx] at hx ⊢
    split at hx
    · rename_i cs ds h1 h2
      rw [ev_mono h h1 (by simp), ev_mono h h2 (by simp)]
      split at hx
      · rename_i b hb
        simp only [hb]
        simp at hx ⊢; exact hx.1
      · cases hx
    · cases hx
  | isnil ne x =>
    simp only [opx] at hx ⊢
    split at hx
    · rename_i u hu
      split at hx
      · rename_i b hn
        have : u ≠ .dead := by rintro rfl; simp [nilX, lenX] at hn
        rw [ev_mono h hu this]
        have hn' : nilX e' u = some b := by
          revert hn
          cases u <;> simp only [nilX] <;> first | exact id | (split <;> rename_i hm <;> first | (intro hn; rw [lenX_mono h hm]; exact hn) | (intro hn; cases hn))
        simp only [hn']
        simp at hx ⊢; exact hx.1
      · cases hx
    · cases hx
  | b2s x =>
    simp only [opx] at hx ⊢
    split at hx
    · rename_i n cs h1
      rw [ev_mono h h1 (by simp)]
      simp only
      split at hx
      · rename_i l hl
        split at hx
        · rename_i h3; rw [if_pos h3]; simp at hx ⊢; exact hx.1
        · cases hx
      · cases hx
    · rename_i r p o h1
      rw [ev_mono h h1 (by simp)]
      simp only
      split at hx
      · rename_i row hrow
        rw [rowE_mono h hrow]
        simp only
        split at hx
        · rename_i et st n cs hro
          split at hx
          · rename_i l hl
            split at hx
            · rename_i h3; simp only [hl, if_pos h3]; simp at hx ⊢; exact hx.1
            · cases hx
          · cases hx
        · cases hx
      · cases hx
    · cases hx
  | _ => simp [pureOp] at hp
theorem snapC_mono {e e' : Env} (h : Le e e') {c : AV} {r : AV × Bool} (hx : snapC e c = some r) : snapC e' c = some r := by
  cases c with
  | ps r p o =>
    simp only [snapC] at hx ⊢
    split at hx
    · rename_i row hr; rw [rowE_mono h hr]; exact hx
    · cases hx
  | pp r p o =>
    simp only [snapC] at hx ⊢
    split at hx
    · cases hx
    · rename_i hp
      rw [if_neg hp]
      split at hx
      · rename_i row hr; rw [rowE_mono h hr]; exact hx
      · cases hx
  | osl s t n cs => cases n <;> cases cs <;> exact hx
  | _ => exact hx
theorem snapCs_mono {e e' : Env} (h : Le e e') : ∀ {cs : List AV} {r : List AV × Bool}, snapCs e cs = some r → snapCs e' cs = some r
  | [], r, hx => hx
  | c :: cs, r, hx => by
    simp only [snapCs] at hx ⊢
    split at hx
    · rename_i c' b h1
      rw [snapC_mono h h1]
      split at hx
      · rename_i h2; rw [snapCs_mono h h2]; exact hx
      · cases hx
    · cases hx
theorem snapV_mono {e e' : Env} (h : Le e e') {c : AV} {r : AV × Bool} (hx : snapV e c = some r) : snapV e' c = some r := by
  cases c with
  | agg cs =>
    simp only [snapV] at hx ⊢
    split at hx
    · rename_i h1; rw [snapCs_mono h h1]; exact hx
    · cases hx
  | pf r p o =>
    simp only [snapV] at hx ⊢
    split at hx
    · rename_i hpo
      rw [if_pos hpo]
      split at hx
      · rename_i g caps hr
        rw [h _ _ hr (by simp)]
        simp only
        split at hx
        · rename_i hc
          rw [if_pos hc]
          split at hx
          · rename_i h1; rw [snapCs_mono h h1]; exact hx
          · cases hx
        · cases hx
      · cases hx
    · cases hx
  | _ => simp only [snapV] at hx ⊢; exact snapC_mono h hx
theorem prepX_mono {e e' : Env} (h : Le e e') : ∀ {xs : List Opd} {r : List AV × Bool}, prepX e xs = some r → prepX e' xs = some r
  | [], r, hx => hx
  | x :: xs, r, hx => by
    simp only [prepX] at hx ⊢
    split at hx
    · rename_i v hv
      split at hx
      · rename_i v' b h1
        have : v ≠ .dead := by rintro rfl; simp [snapV, snapC, isFz] at h1
        rw [ev_mono h hv this]
        simp only [snapV_mono h h1]
        split at hx
        · rename_i h2; rw [prepX_mono h h2]; exact hx
        · cases hx
      · cases hx
    · cases hx
theorem calleeC_mono {e e' : Env} (h : Le e e') {x : Opd} {r : Nat × List AV} (hx : calleeC e x = some r) : calleeC e' x = some r := by
  unfold calleeC at hx ⊢
  split at hx
  · rename_i g hv
    rw [ev_mono h hv (by simp)]; exact hx
  · rename_i r p o hv
    rw [ev_mono h hv (by simp)]
    simp only
    split at hx
    · rename_i hpo
      rw [if_pos hpo]
      split at hx
      · rename_i g caps hr
        rw [h _ _ hr (by simp)]
        exact hx
      · cases hx
    · cases hx
  · cases hx
def Frm (e e1 e' e1' : Env) : Prop := ∀ i : Nat, (e1[i]? = e[i]? ∧ e1'[i]? = e'[i]?) ∨ (e1[i]? = e1'[i]? ∧ e[i]? = e'[i]?)
theorem Frm.trans {e e1 e2 e' e1' e2' : Env} (h : Frm e e1 e' e1') (h' : Frm e1 e2 e1' e2') : Frm e e2 e' e2' := fun i => by
  rcases h i with ⟨a, b⟩ | ⟨a, b⟩ <;> rcases h' i with ⟨c, d⟩ | ⟨c, d⟩
  · exact .inl ⟨c.trans a, d.trans b⟩
  · exact .inr ⟨c, by rw [← a, d, b]⟩
  · exact .inr ⟨by rw [c, d, a], b⟩
  · exact .inr ⟨c, b⟩
theorem setRowE_frm {e e' : Env} (h : Le e e') {r : Nat} {p : List Nat} {row row2 : List AV} (hr : rowE e r p = some row) : Le (setRowE e r p row2) (setRowE e' r p row2) ∧ Frm e (setRowE e r p row2) e' (setRowE e' r p row2) := by
  obtain ⟨v, hv, hd, hg, _⟩ := rowE_some hr
  have hv' := h r v hv hd
  have e1 : setRowE e r p row2 = e.set r (withCells v (setRow (cellsOf v) p row2)) := by unfold setRowE; rw [hv]
  have e2 : setRowE e' r p row2 = e'.set r (withCells v (setRow (cellsOf v) p row2)) := by unfold setRowE; rw [hv']
  have l1 := (List.getElem?_eq_some_iff.1 hv).1
  have l2 := (List.getElem?_eq_some_iff.1 hv').1
  rw [e1, e2]
  refine ⟨fun i u hi hu => ?_, fun i => ?_⟩
  · by_cases hir : r = i
    · subst hir
      rw [List.getElem?_set_self l1] at hi
      rw [List.getElem?_set_self l2]; exact hi
    · rw [List.getElem?_set_ne hir] at hi ⊢
      exact h i u hi hu
  · by_cases hir : r = i
    · subst hir
      exact .inr ⟨by rw [List.getElem?_set_self l1, List.getElem?_set_self l2], by rw [hv, hv']⟩
    · exact .inl ⟨by rw [List.getElem?_set_ne hir], by rw [List.getElem?_set_ne hir]⟩
theorem takeC_frm {e e' e1 : Env} (h : Le e e') {c c' : AV} (hx : takeC e c = some (c', e1)) : ∃ e1', takeC e' c = some (c', e1') ∧ Le e1 e1' ∧ Frm e e1 e' e1' := by
  have same : takeC e c = some (c', e) → takeC e' c = some (c', e') → e1 = e → ∃ e1', takeC e' c = some (c', e1') ∧ Le e1 e1' ∧ Frm e e1 e' e1' := by
    rintro _ h2 rfl
    exact ⟨e', h2, h, fun i => .inl ⟨rfl, rfl⟩⟩
  cases c with
  | ps r p o =>
    simp only [takeC] at hx ⊢
    split at hx
    · rename_i row hrow
      split at hx
      · rename_i s t n cs hro
        simp only [Option.some.injEq, Prod.mk.injEq] at hx
        obtain ⟨rfl, rfl⟩ := hx
        obtain ⟨k1, k2⟩ := setRowE_frm (row2 := row.set o .gone) h hrow
        exact ⟨_, by rw [rowE_mono h hrow]; simp only [hro], k1, k2⟩
      · cases hx
    · cases hx
  | pp r p o =>
    simp only [takeC] at hx ⊢
    split at hx
    · rename_i ho
      split at hx
      · rename_i k hk
        split at hx
        · rename_i row hrow
          split at hx
          · rename_i s t cs hro
            simp only [Option.some.injEq, Prod.mk.injEq] at hx
            obtain ⟨rfl, rfl⟩ := hx
            obtain ⟨k1, k2⟩ := setRowE_frm (row2 := row.set k .gone) h hrow
            exact ⟨_, by simp only [if_pos ho, rowE_mono h hrow, hro], k1, k2⟩
          · cases hx
        · cases hx
      · cases hx
    · cases hx
  | int k n => simp [takeC] at hx; exact same (by simp [takeC, hx.1]) (by simp [takeC, hx.1]) hx.2.symm
  | bool b => simp [takeC] at hx; exact same (by simp [takeC, hx.1]) (by simp [takeC, hx.1]) hx.2.symm
  | str s => simp [takeC] at hx; exact same (by simp [takeC, hx.1]) (by simp [takeC, hx.1]) hx.2.symm
  | nilf => simp [takeC] at hx; exact same (by simp [takeC, hx.1]) (by simp [takeC, hx.1]) hx.2.symm
  | nsl t => simp [takeC] at hx; exact same (by simp [takeC, hx.1]) (by simp [takeC, hx.1]) hx.2.symm
  | rsl n cs => simp [takeC] at hx; exact same (by simp [takeC, hx.1]) (by simp [takeC, hx.1]) hx.2.symm
  | rp cs => simp [takeC] at hx; exact same (by simp [takeC, hx.1]) (by simp [takeC, hx.1]) hx.2.symm
  | fn g cs => cases cs with
    | nil => simp [takeC] at hx; exact same (by simp [takeC, hx.1]) (by simp [takeC, hx.1]) hx.2.symm
    | cons c cs => simp [takeC] at hx
  | osl s t n cs => cases n with
    | zero => cases cs with
      | nil => simp [takeC] at hx; obtain ⟨rfl, rfl⟩ := hx; exact same (by simp [takeC]) (by simp [takeC]) rfl
      | cons c cs => simp [takeC] at hx
    | succ n => simp [takeC] at hx
  | _ => simp [takeC] at hx
theorem takeCs_frm : ∀ {cs cs' : List AV} {e e' e1 : Env}, Le e e' → takeCs e cs = some (cs', e1) → ∃ e1', takeCs e' cs = some (cs', e1') ∧ Le e1 e1' ∧ Frm e e1 e' e1'
  | [], cs', e, e', e1, h, hx => by
    simp [takeCs] at hx
    obtain ⟨rfl, rfl⟩ := hx
    exact ⟨e', by simp [takeCs], h, fun i => .inl ⟨rfl, rfl⟩⟩
  | c :: cs, cs', e, e', e1, h, hx => by
    simp only [takeCs] at hx ⊢
    split at hx
    · rename_i c1 e2 h1
      split at hx
      · rename_i cs1 e3 h2
        simp only [Option.some.injEq, Prod.mk.injEq] at hx
        obtain ⟨rfl, rfl⟩ := hx
        obtain ⟨a1, a2, a3, a4⟩ := takeC_frm h h1
        obtain ⟨b1, b2, b3, b4⟩ := takeCs_frm a3 h2
        exact ⟨b1, by rw [a2]; simp only [b2], b3, a4.trans b4⟩
      · cases hx
    · cases hx
theorem bsl_frm {e e' e1 : Env} (h : Le e e') {t n : Nat} {z : List AV} {ps : List (Nat × Nat × Opd)} {v : AV} (hx : opx e (.bsl t n z ps) = some (v, e1)) : ∃ e1', opx e' (.bsl t n z ps) = some (v, e1') ∧ Frm e e1 e' e1' ∧ e1'.length = e'.length := by
  have len : ∀ {cs cs' : List AV} {e e1 : Env}, takeCs e cs = some (cs', e1) → e1.length = e.length := by
    intro cs
    induction cs with
    | nil => intro cs' e e1 h; simp [takeCs] at h; rw [h.2]
    | cons c cs ih =>
      intro cs' e e1 h
      simp only [takeCs] at h
      split at h
      · rename_i c1 e2 h1
        split at h
        · rename_i h2
          simp only [Option.some.injEq, Prod.mk.injEq] at h
          obtain ⟨_, rfl⟩ := h
          rw [ih h2]
          have s1 : ∀ r p row, (setRowE e r p row).length = e.length := by intro r p row; unfold setRowE; split <;> simp
          cases c with
          | ps r p o =>
            simp only [takeC] at h1
            split at h1
            · split at h1
              · simp only [Option.some.injEq, Prod.mk.injEq] at h1; rw [← h1.2]; exact s1 _ _ _
              · cases h1
            · cases h1
          | pp r p o =>
            simp only [takeC] at h1
            split at h1
            · split at h1
              · split at h1
                · split at h1
                  · simp only [Option.some.injEq, Prod.mk.injEq] at h1; rw [← h1.2]; exact s1 _ _ _
                  · cases h1
                · cases h1
              · cases h1
            · cases h1
          | fn g cs => cases cs <;> simp [takeC] at h1; rw [h1.2]
          | osl s t n cs => cases n <;> cases cs <;> simp [takeC] at h1; rw [h1.2]
          | _ => simp [takeC] at h1 <;> rw [h1.2]
        · cases h
      · cases h
  simp only [opx] at hx ⊢
  split at hx
  · rename_i cs hf
    split at hx
    · rename_i cs' e2 ht
      simp only [Option.some.injEq, Prod.mk.injEq] at hx
      obtain ⟨rfl, rfl⟩ := hx
      obtain ⟨a1, a2, a3, a4⟩ := takeCs_frm h ht
      exact ⟨a1, by rw [fillP_mono h hf]; simp only [a2], a4, len a2⟩
    · cases hx
  · cases hx
theorem takeC_len {c c' : AV} {e e1 : Env} (h1 : takeC e c = some (c', e1)) : e1.length = e.length := by
  have s1 : ∀ r p row, (setRowE e r p row).length = e.length := by intro r p row; unfold setRowE; split <;> simp
  cases c with
  | ps r p o =>
    simp only [takeC] at h1
    split at h1
    · split at h1
      · simp only [Option.some.injEq, Prod.mk.injEq] at h1; rw [← h1.2]; exact s1 _ _ _
      · cases h1
    · cases h1
  | pp r p o =>
    simp only [takeC] at h1
    split at h1
    · split at h1
      · split at h1
        · split at h1
          · simp only [Option.some.injEq, Prod.mk.injEq] at h1; rw [← h1.2]; exact s1 _ _ _
          · cases h1
        · cases h1
      · cases h1
    · cases h1
  | fn g cs => cases cs <;> simp [takeC] at h1; rw [h1.2]
  | osl s t n cs => cases n <;> cases cs <;> simp [takeC] at h1; rw [h1.2]
  | _ => simp [takeC] at h1 <;> rw [h1.2]
theorem takeCs_len : ∀ {cs cs' : List AV} {e e1 : Env}, takeCs e cs = some (cs', e1) → e1.length = e.length
  | [], cs', e, e1, h => by simp [takeCs] at h; rw [h.2]
  | c :: cs, cs', e, e1, h => by
    simp only [takeCs] at h
    split at h
    · rename_i c1 e2 h1
      split at h
      · rename_i h2
        simp only [Option.some.injEq, Prod.mk.injEq] at h
        obtain ⟨_, rfl⟩ := h
        rw [takeCs_len h2, takeC_len h1]
      · cases h
    · cases h
theorem elems_frm {e e' e1 : Env} (h : Le e e') {el sz : Nat} {x : AV} {m : Nat} {new : List AV} (hx : elemsX e el sz x = some (m, new, e1)) : ∃ e1', elemsX e' el sz x = some (m, new, e1') ∧ Le e1 e1' ∧ Frm e e1 e' e1' ∧ e1'.length = e'.length := by
  cases x <;> simp only [elemsX] at hx ⊢ <;> try (cases hx; done)
  · simp only [Option.some.injEq, Prod.mk.injEq] at hx
    obtain ⟨rfl, rfl, rfl⟩ := hx
    exact ⟨e', rfl, h, fun i => .inl ⟨rfl, rfl⟩, rfl⟩
  · split at hx
    · rename_i hl
      simp only [Option.some.injEq, Prod.mk.injEq] at hx
      obtain ⟨rfl, rfl, rfl⟩ := hx
      exact ⟨e', by rw [if_pos hl], h, fun i => .inl ⟨rfl, rfl⟩, rfl⟩
    · cases hx
  · rename_i t n cs
    cases n with
    | succ n => simp at hx
    | zero => cases cs with
      | cons c cs => simp at hx
      | nil =>
        simp only [Option.some.injEq, Prod.mk.injEq] at hx
        obtain ⟨rfl, rfl, rfl⟩ := hx
        exact ⟨e', rfl, h, fun i => .inl ⟨rfl, rfl⟩, rfl⟩
  · rename_i r p o
    split at hx
    · rename_i row hrow
      rw [rowE_mono h hrow]
      split at hx
      · rename_i t n cs hro
        split at hx
        · rename_i ht
          split at hx
          · rename_i cs' e2 htk
            simp only [Option.some.injEq, Prod.mk.injEq] at hx
            obtain ⟨rfl, rfl, rfl⟩ := hx
            obtain ⟨a1, a2, a3, a4⟩ := takeCs_frm h htk
            exact ⟨a1, by simp only [hro, if_pos ht, a2], a3, a4, takeCs_len a2⟩
          · cases hx
        · cases hx
      · cases hx
    · cases hx
  · rename_i r p o lo m1 z1
    split at hx
    · rename_i row hrow
      rw [rowE_mono h hrow]
      split at hx
      · rename_i s0 t n cs hro
        split at hx
        · rename_i ht
          split at hx
          · rename_i cs' e2 htk
            simp only [Option.some.injEq, Prod.mk.injEq] at hx
            obtain ⟨rfl, rfl, rfl⟩ := hx
            obtain ⟨a1, a2, a3, a4⟩ := takeCs_frm h htk
            exact ⟨a1, by simp only [hro, if_pos ht, a2], a3, a4, takeCs_len a2⟩
          · cases hx
        · cases hx
      · cases hx
    · cases hx
theorem app_frm {e e' e1 : Env} (h : Le e e') {t sz : Nat} {s x : Opd} {v : AV} (hx : appX e t sz s x = some (v, e1)) : ∃ e1', appX e' t sz s x = some (v, e1') ∧ Frm e e1 e' e1' ∧ e1'.length = e'.length := by
  unfold appX at hx ⊢
  split at hx
  · rename_i sv xv h1 h2
    split at hx
    · rename_i m new ea hel
      split at hx
      · rename_i t' n cs eb htk
        split at hx
        · rename_i hc
          simp only [Option.some.injEq, Prod.mk.injEq] at hx
          obtain ⟨rfl, rfl⟩ := hx
          have hs : sv ≠ .dead := by rintro rfl; simp [takeC] at htk
          have hxv : xv ≠ .dead := by rintro rfl; simp [elemsX] at hel
          obtain ⟨a1, a2, a3, a4, a5⟩ := elems_frm h hel
          obtain ⟨b1, b2, b3, b4⟩ := takeC_frm a3 htk
          exact ⟨b1, by rw [ev_mono h h1 hs, ev_mono h h2 hxv]; simp only [a2, b2, if_pos hc], a4.trans b4, by rw [takeC_len b2, a5]⟩
        · cases hx
      · cases hx
    · cases hx
  · cases hx
theorem live_more {e0 e2 : Env} (h : ∀ i, i < e0.length → e2[i]? = e0[i]?) {u : AV} (hl : liveV e0 u = true) : liveV e2 u = true := by
  have row : ∀ r p, (rowE e0 r p).isSome = true → (rowE e2 r p).isSome = true := by
    intro r p hs
    have hr : r < e0.length := by
      apply Decidable.byContradiction
      intro hn
      unfold rowE at hs
      rw [List.getElem?_eq_none (by omega)] at hs
      simp at hs
    unfold rowE at hs ⊢
    rw [h r hr]; exact hs
  have cell : ∀ c, liveC e0 c = true → liveC e2 c = true := by
    intro c hc
    cases c with
    | ps r p o => exact row r p hc
    | pp r p o => exact row r p hc
    | pf r p o => exact row r p hc
    | pw r p o lo m sz => exact row r p hc
    | _ => exact hc
  cases u with
  | agg cs => simp only [liveV, List.all_eq_true] at hl ⊢; exact fun c hc => cell c (hl c hc)
  | tup sh cs => simp only [liveV, List.all_eq_true] at hl ⊢; exact fun c hc => cell c (hl c hc)
  | ps r p o => exact cell (.ps r p o) hl
  | pp r p o => exact cell (.pp r p o) hl
  | pf r p o => exact cell (.pf r p o) hl
  | pw r p o lo m sz => exact cell (.pw r p o lo m sz) hl
  | _ => exact hl
def dropS (x : Opd) (e : Env) : Env := match x with
  | .slot j => e.set j .dead
  | .con _ => e
def maskP (p : Nat → Bool) : Nat → List AV → List AV
  | _, [] => []
  | k, v :: vs => (if p k then v else .dead) :: maskP p (k + 1) vs
def OpV (P : Program) (so : SOpr) (e : Env) (K : AV → Prop) : Prop :=
  match so.k with
  | .op s => pureOp s = true ∧ match opx e s with
    | some (v, _) => isDead v = false ∧ K v
    | none => False
  | .call g args fr => match prepX e args with
    | some (avs, live) => ∃ res, Says P g avs res [] ∧ (live = true → noFrz res = true) ∧
        match (if fr then frz res else some res) with
        | some v => isDead v = false ∧ K v
        | none => False
    | none => False
  | .callv x args => match calleeC e x, prepX e args with
    | some (g, caps), some (avs, live) => plainFn P g = true ∧ ∃ res, Says P g (avs ++ caps) res [] ∧ (live = true → noFrz res = true) ∧ isDead res = false ∧ K res
    | _, _ => False
  | .callm _ _ => False
def killS : Env → List Nat → Env
  | e, [] => e
  | e, d :: ds => killS (e.set d .dead) ds
theorem killS_get : ∀ (ds : List Nat) (e : Env) (i : Nat), (killS e ds)[i]? = if i ∈ ds ∧ i < e.length then some .dead else e[i]?
  | [], e, i => by rw [killS, if_neg (by simp)]
  | d :: ds, e, i => by
    rw [killS, killS_get ds _ i, List.length_set]
    by_cases h : d = i
    · subst h
      by_cases hl : d < e.length
      · rw [List.getElem?_set_self hl]; simp [hl]
      · rw [List.getElem?_eq_none (by simp; omega), if_neg (by omega), if_neg (by omega), List.getElem?_eq_none (by omega)]
    · rw [List.getElem?_set_ne h]
      by_cases h2 : i ∈ ds ∧ i < e.length
      · rw [if_pos h2, if_pos ⟨List.mem_cons_of_mem _ h2.1, h2.2⟩]
      · rw [if_neg h2, if_neg (fun h3 => h2 ⟨(List.mem_cons.1 h3.1).resolve_left (fun h4 => h h4.symm), h3.2⟩)]
theorem killS_out {ds : List Nat} {e e' : Env} (h : killS e ds = killS e' ds) {i : Nat} (hi : i ∉ ds) : e[i]? = e'[i]? := by
  have h1 := congrArg (fun l => l[i]?) h
  simp only [killS_get] at h1
  rwa [if_neg (fun h2 => hi h2.1), if_neg (fun h2 => hi h2.1)] at h1
def OpC (so : SOpr) (e : Env) (ds : List Nat) (K : AV → Prop) : Prop :=
  match so.k with
  | .op (.bsl t n z ps) => match opx e (.bsl t n z ps) with
    | some (v, e1) => isDead v = false ∧ killS e1 ds = killS e ds ∧ K v
    | none => False
  | .op (.append t sz s x) => match appX e t sz s x with
    | some (v, e1) => isDead v = false ∧ killS e1 ds = killS e ds ∧ K v
    | none => False
  | _ => False
def isApp (so : SOpr) : Bool := match so.k with
  | .op (.append _ _ _ _) => true
  | _ => false
def addL (e : Env) (so : SOpr) (Q : List AV → Prop) : List AV → Prop := fun vs => (isApp so = true → (e ++ vs).all (liveV e) = true) ∧ Q vs
theorem addL_no {e : Env} {so : SOpr} {Q : List AV → Prop} (h : isApp so = false) : addL e so Q = Q := by
  funext vs
  simp [addL, h]
def seeM (cons : List (Nat × Nat)) (S : List (List Nat)) (k : Nat) (see : List Nat) (i : Nat) : Bool := see.contains i && !(cons.any fun c => c.2 == i && c.1 != k && !(S.getD c.1 []).contains k)
def consAt (cons : List (Nat × Nat)) (k : Nat) : Option (List Nat) := match (cons.filter fun c => c.1 == k).map (·.2) with
  | [] => none
  | js => some js
def DRun (P : Program) (e : Env) (cons : List (Nat × Nat)) (S : List (List Nat)) : List SOpr → List (List Nat) → List AV → (List AV → Prop) → Prop
  | [], _, acc, Q => Q acc
  | so :: rest, sees, acc, Q => so.dst = none ∧ match consAt cons acc.length with
    | some js => match so.guard with
      | none => OpC so (e ++ maskP (seeM cons S acc.length (sees.headD [])) 0 acc) (js.map (e.length + ·)) fun v => DRun P e cons S rest sees.tail (acc ++ [v]) (addL e so Q)
      | some (s, b) => match wantX b (e ++ maskP (seeM cons S acc.length (sees.headD [])) 0 acc)[s]? with
        | some true => OpC so (e ++ maskP (seeM cons S acc.length (sees.headD [])) 0 acc) (js.map (e.length + ·)) fun v => DRun P e cons S rest sees.tail (acc ++ [v]) (addL e so Q)
        | some false => DRun P e cons S rest sees.tail (acc ++ [skV so.k]) Q
        | none => False
    | none => match so.guard with
      | none => OpV P so (e ++ maskP (seeM cons S acc.length (sees.headD [])) 0 acc) fun v => DRun P e cons S rest sees.tail (acc ++ [v]) Q
      | some (s, b) => match wantX b (e ++ maskP (seeM cons S acc.length (sees.headD [])) 0 acc)[s]? with
        | some true => OpV P so (e ++ maskP (seeM cons S acc.length (sees.headD [])) 0 acc) fun v => DRun P e cons S rest sees.tail (acc ++ [v]) Q
        | some false => DRun P e cons S rest sees.tail (acc ++ [skV so.k]) Q
        | none => False
def DVal (P : Program) (e : Env) (cons : List (Nat × Nat)) (S : List (List Nat)) (so : SOpr) (see : List Nat) (vs : List AV) (k : Nat) : Prop :=
  so.dst = none ∧ match consAt cons k with
  | some js => match so.guard with
    | none => (isApp so = true → (e ++ vs).all (liveV e) = true) ∧ OpC so (e ++ maskP (seeM cons S k see) 0 (vs.take k)) (js.map (e.length + ·)) fun v => vs[k]? = some v
    | some (s, b) => match wantX b (e ++ maskP (seeM cons S k see) 0 (vs.take k))[s]? with
      | some true => (isApp so = true → (e ++ vs).all (liveV e) = true) ∧ OpC so (e ++ maskP (seeM cons S k see) 0 (vs.take k)) (js.map (e.length + ·)) fun v => vs[k]? = some v
      | some false => vs[k]? = some (skV so.k)
      | none => False
  | none => match so.guard with
    | none => OpV P so (e ++ maskP (seeM cons S k see) 0 (vs.take k)) fun v => vs[k]? = some v
    | some (s, b) => match wantX b (e ++ maskP (seeM cons S k see) 0 (vs.take k))[s]? with
      | some true => OpV P so (e ++ maskP (seeM cons S k see) 0 (vs.take k)) fun v => vs[k]? = some v
      | some false => vs[k]? = some (skV so.k)
      | none => False
theorem OpC_ex {so : SOpr} {e : Env} {d : List Nat} {K : AV → Prop} (h : OpC so e d K) : ∃ v, OpC so e d (fun u => u = v) ∧ K v := by
  unfold OpC at h
  split at h
  · rename_i t n z ps hk
    split at h
    · rename_i v e1 hx
      exact ⟨v, by unfold OpC; rw [hk]; simp only [hx]; exact ⟨h.1, h.2.1, trivial⟩, h.2.2⟩
    · cases h
  · rename_i t sz s x hk
    split at h
    · rename_i v e1 hx
      exact ⟨v, by unfold OpC; rw [hk]; simp only [hx]; exact ⟨h.1, h.2.1, trivial⟩, h.2.2⟩
    · cases h
  · cases h
theorem OpC_imp {so : SOpr} {e : Env} {d : List Nat} {K K' : AV → Prop} (hK : ∀ v, K v → K' v) (h : OpC so e d K) : OpC so e d K' := by
  unfold OpC at h ⊢
  split at h
  · split at h
    · exact ⟨h.1, h.2.1, hK _ h.2.2⟩
    · cases h
  · split at h
    · exact ⟨h.1, h.2.1, hK _ h.2.2⟩
    · cases h
  · cases h
theorem OpV_ex {P : Program} {so : SOpr} {e : Env} {K : AV → Prop} (h : OpV P so e K) : ∃ v, OpV P so e (fun u => u = v) ∧ K v := by
  unfold OpV at h
  split at h
  · rename_i s hk
    obtain ⟨h1, h⟩ := h
    split at h
    · rename_i v e' hx
      exact ⟨v, by unfold OpV; rw [hk]; simp only [hx]; exact ⟨h1, h.1, trivial⟩, h.2⟩
    · cases h
  · rename_i g args fr hk
    split at h
    · rename_i avs live hp
      obtain ⟨res, h1, h2, h⟩ := h
      split at h
      · rename_i v hv
        exact ⟨v, by unfold OpV; rw [hk]; simp only [hp]; exact ⟨res, h1, h2, by rw [hv]; exact ⟨h.1, rfl⟩⟩, h.2⟩
      · cases h
    · cases h
  · rename_i x args hk
    split at h
    · rename_i g caps avs live hc hp
      obtain ⟨hpl, res, h1, h2, h3, h⟩ := h
      exact ⟨res, by unfold OpV; rw [hk]; simp only [hc, hp]; exact ⟨hpl, res, h1, h2, h3, rfl⟩, h⟩
    · cases h
  · cases h
theorem OpV_imp {P : Program} {so : SOpr} {e : Env} {K K' : AV → Prop} (hK : ∀ v, K v → K' v) (h : OpV P so e K) : OpV P so e K' := by
  unfold OpV at h ⊢
  split at h
  · rename_i s hk
    obtain ⟨h1, h⟩ := h
    refine ⟨h1, ?_⟩
    split at h
    · exact ⟨h.1, hK _ h.2⟩
    · cases h
  · rename_i g args fr hk
    split at h
    · obtain ⟨res, h1, h2, h⟩ := h
      refine ⟨res, h1, h2, ?_⟩
      split at h
      · exact ⟨h.1, hK _ h.2⟩
      · cases h
    · cases h
  · split at h
    · obtain ⟨hpl, res, h1, h2, h3, h⟩ := h
      exact ⟨hpl, res, h1, h2, h3, hK _ h⟩
    · cases h
  · cases h
theorem DRun_vals {P : Program} {e : Env} {cons : List (Nat × Nat)} {S : List (List Nat)} : ∀ {sos : List SOpr} {sees : List (List Nat)} {acc : List AV} {Q : List AV → Prop}, DRun P e cons S sos sees acc Q →
    ∃ vs, vs.length = acc.length + sos.length ∧ (∃ ws, vs = acc ++ ws) ∧ Q vs ∧ ∀ (k : Nat) (so : SOpr), sos[k]? = some so → DVal P e cons S so (sees.getD k []) vs (acc.length + k)
  | [], sees, acc, Q, h => ⟨acc, by simp, ⟨[], by simp⟩, h, fun k so hk => by simp at hk⟩
  | so :: rest, sees, acc, Q, h => by
    simp only [DRun] at h
    obtain ⟨hdst, h⟩ := h
    have hd : sees.headD [] = sees.getD 0 [] := by cases sees <;> rfl
    have ht : ∀ k, sees.tail.getD k [] = sees.getD (k + 1) [] := fun k => by cases sees <;> simp
    have go : ∀ (v : AV) (Q' L : List AV → Prop), (∀ vs, Q' vs → L vs ∧ Q vs) → DRun P e cons S rest sees.tail (acc ++ [v]) Q' → (∀ vs : List AV, vs.take acc.length = acc → vs[acc.length]? = some v → L vs → DVal P e cons S so (sees.getD 0 []) vs acc.length) →
        ∃ vs, vs.length = acc.length + (so :: rest).length ∧ (∃ ws, vs = acc ++ ws) ∧ Q vs ∧ ∀ (k : Nat) (so' : SOpr), (so :: rest)[k]? = some so' → DVal P e cons S so' (sees.getD k []) vs (acc.length + k) := by
      intro v Q' L hQ' hr hv
      obtain ⟨vs, h1, ⟨ws, rfl⟩, h3, h4⟩ := DRun_vals hr
      refine ⟨_, by rw [h1]; simp; omega, ⟨[v] ++ ws, by simp⟩, (hQ' _ h3).2, fun k so' hk => ?_⟩
      cases k with
      | zero =>
        simp at hk; subst hk
        exact hv _ (by simp) (by simp) (hQ' _ h3).1
      | succ k =>
        have := h4 k so' (by simpa using hk)
        rw [ht] at this
        simpa [Nat.add_assoc, Nat.add_comm 1 k] using this
    rw [hd] at h
    split at h
    · rename_i j hj
      split at h
      · rename_i hg
        obtain ⟨v, h1, h2⟩ := OpC_ex h
        refine go v (addL e so Q) (fun vs => isApp so = true → (e ++ vs).all (liveV e) = true) (fun _ h => h) h2 fun vs ht hv hlv => ⟨hdst, ?_⟩
        rw [hj, hg]
        simp only [ht]
        exact ⟨hlv, OpC_imp (fun u hu => by rw [hu]; exact hv) h1⟩
      · rename_i s b hg
        split at h
        · rename_i hb
          obtain ⟨v, h1, h2⟩ := OpC_ex h
          refine go v (addL e so Q) (fun vs => isApp so = true → (e ++ vs).all (liveV e) = true) (fun _ h => h) h2 fun vs ht hv hlv => ⟨hdst, ?_⟩
          rw [hj, hg]
          simp only [ht, hb]
          exact ⟨hlv, OpC_imp (fun u hu => by rw [hu]; exact hv) h1⟩
        · rename_i hb
          refine go (skV so.k) Q (fun _ => True) (fun _ h => ⟨trivial, h⟩) h fun vs ht hv _ => ⟨hdst, ?_⟩
          rw [hj, hg]
          simp only [ht, hb]
          exact hv
        · cases h
    · rename_i hj
      split at h
      · rename_i hg
        obtain ⟨v, h1, h2⟩ := OpV_ex h
        refine go v Q (fun _ => True) (fun _ h => ⟨trivial, h⟩) h2 fun vs ht hv _ => ⟨hdst, ?_⟩
        rw [hj, hg]
        simp only [ht]
        exact OpV_imp (fun u hu => by rw [hu]; exact hv) h1
      · rename_i s b hg
        split at h
        · rename_i hb
          obtain ⟨v, h1, h2⟩ := OpV_ex h
          refine go v Q (fun _ => True) (fun _ h => ⟨trivial, h⟩) h2 fun vs ht hv _ => ⟨hdst, ?_⟩
          rw [hj, hg]
          simp only [ht, hb]
          exact OpV_imp (fun u hu => by rw [hu]; exact hv) h1
        · rename_i hb
          refine go (skV so.k) Q (fun _ => True) (fun _ h => ⟨trivial, h⟩) h fun vs ht hv _ => ⟨hdst, ?_⟩
          rw [hj, hg]
          simp only [ht, hb]
          exact hv
        · cases h
theorem maskP_get {p : Nat → Bool} : ∀ {vs : List AV} {k i : Nat}, (maskP p k vs)[i]? = (vs[i]?).map fun v => if p (k + i) then v else .dead
  | [], k, i => by simp [maskP]
  | v :: vs, k, 0 => by simp [maskP]
  | v :: vs, k, i + 1 => by simp [maskP, maskP_get, Nat.add_assoc, Nat.add_comm 1 i]
theorem maskP_length {p : Nat → Bool} : ∀ {vs : List AV} {k : Nat}, (maskP p k vs).length = vs.length
  | [], k => rfl
  | v :: vs, k => by simp [maskP, maskP_length]
def envP (e : Env) (p : Nat → Bool) (vs : List AV) (r : Nat) : Env := e ++ maskP p 0 vs ++ List.replicate r .dead
theorem envP_length {e : Env} {p : Nat → Bool} {vs : List AV} {r : Nat} : (envP e p vs r).length = e.length + (vs.length + r) := by simp [envP, maskP_length, Nat.add_assoc]
theorem envP_get {e : Env} {p : Nat → Bool} {vs : List AV} {r i : Nat} : (envP e p vs r)[e.length + i]? = if i < vs.length then (vs[i]?).map (fun v => if p i then v else .dead) else if i < vs.length + r then some .dead else none := by
  unfold envP
  rw [List.append_assoc, List.getElem?_append_right (by omega)]
  simp only [Nat.add_sub_cancel_left]
  split
  · rename_i h
    rw [List.getElem?_append_left (by simpa [maskP_length] using h), maskP_get]; simp
  · rename_i h
    rw [List.getElem?_append_right (by simp [maskP_length]; omega), maskP_length, List.getElem?_replicate]
    split <;> split <;> first | rfl | omega
theorem envP_low {e : Env} {p : Nat → Bool} {vs : List AV} {r i : Nat} (h : i < e.length) : (envP e p vs r)[i]? = e[i]? := by
  unfold envP
  rw [List.append_assoc, List.getElem?_append_left h]
theorem envP_Le {e : Env} {p q : Nat → Bool} {vs : List AV} {r k : Nat} (h : ∀ i, i < k → q i = true → p i = true) : Le (e ++ maskP q 0 (vs.take k)) (envP e p vs r) := by
  intro i v hi hv
  by_cases hlt : i < e.length
  · rw [List.getElem?_append_left hlt] at hi
    rw [envP_low hlt, hi]
  · obtain ⟨j, rfl⟩ : ∃ j, i = e.length + j := ⟨i - e.length, by omega⟩
    rw [List.getElem?_append_right (by omega)] at hi
    simp only [Nat.add_sub_cancel_left, maskP_get, Nat.zero_add] at hi
    rw [envP_get]
    rw [List.getElem?_take] at hi
    by_cases hjk : j < k
    · rw [if_pos hjk] at hi
      cases hu : vs[j]? with
      | none => simp [hu] at hi
      | some u =>
        have hjl := (List.getElem?_eq_some_iff.1 hu).1
        rw [if_pos hjl]
        by_cases hq : q j = true
        · rw [hu] at hi
          simp only [hq, if_true, Option.map_some] at hi
          simpa [h j hjk hq] using hi
        · rw [hu] at hi
          simp [hq] at hi
          exact absurd hi.symm hv
    · rw [if_neg hjk] at hi
      simp at hi
theorem envP_set {e : Env} {p : Nat → Bool} {vs : List AV} {r k : Nat} {v : AV} (hk : vs[k]? = some v) (q : Nat → Bool) (hq : ∀ i, q i = (p i || i == k)) : (envP e p vs r).set (e.length + k) v = envP e q vs r := by
  have hkl := (List.getElem?_eq_some_iff.1 hk).1
  apply List.ext_getElem?
  intro i
  by_cases hlt : i < e.length
  · rw [List.getElem?_set_ne (by omega), envP_low hlt, envP_low hlt]
  · obtain ⟨j, rfl⟩ : ∃ j, i = e.length + j := ⟨i - e.length, by omega⟩
    by_cases hjk : k = j
    · subst hjk
      rw [List.getElem?_set_self (by rw [envP_length]; omega), envP_get, if_pos hkl, hk]
      simp [hq]
    · rw [List.getElem?_set_ne (by omega), envP_get, envP_get]
      have : q j = p j := by rw [hq]; simp [show (j == k) = false by simp; omega]
      rw [this]
def okSeeAt (ops : Array Oper) (sees : List (List Nat)) (t k : Nat) : Bool :=
  match ops[k]? with
  | some o => o.after.toList.all (fun d => !Region.binds .any d || decide (d.on < k)) &&
      (sees.getD k []).all (fun x => decide (x < k) && o.after.toList.any fun d => Region.binds .any d && (d.on == x || (sees.getD d.on []).contains x)) &&
      (decide (k < t) || (List.range k).all fun x => (sees.getD k []).contains x)
  | none => false
def okSee (ops : Array Oper) (sees : List (List Nat)) (t : Nat) : Bool := (List.range ops.size).all (okSeeAt ops sees t)
structure SeeOk (ops : Array Oper) (sees : List (List Nat)) (t k : Nat) (o : Oper) : Prop where
  back : ∀ d ∈ o.after, Region.binds .any d = true → d.on < k
  lt : ∀ x ∈ sees.getD k [], x < k
  why : ∀ x ∈ sees.getD k [], ∃ d ∈ o.after, Region.binds .any d = true ∧ (d.on = x ∨ x ∈ sees.getD d.on [])
  all : t ≤ k → ∀ x, x < k → x ∈ sees.getD k []
theorem okSee_spec {ops : Array Oper} {sees : List (List Nat)} {t k : Nat} {o : Oper} (h : okSee ops sees t = true) (hk : ops[k]? = some o) : SeeOk ops sees t k o := by
  have hlt := (Array.getElem?_eq_some_iff.1 hk).1
  have h := List.all_eq_true.1 h k (List.mem_range.2 hlt)
  unfold okSeeAt at h
  rw [hk] at h
  simp only [Bool.and_eq_true, List.all_eq_true, Bool.or_eq_true, decide_eq_true_eq, List.any_eq_true, Bool.not_eq_true', beq_iff_eq, List.contains_iff_mem, List.mem_range, Array.mem_toList_iff] at h
  obtain ⟨⟨h1, h2⟩, h3⟩ := h
  refine ⟨fun d hd hb => (h1 d hd).resolve_left (by simp [hb]), fun x hx => (h2 x hx).1, fun x hx => ?_, fun ht x hx => ?_⟩
  · obtain ⟨d, hd, hb, hor⟩ := (h2 x hx).2
    exact ⟨d, hd, hb, hor⟩
  · rcases h3 with h | h
    · omega
    · exact h x hx
theorem see_listed {ops : Array Oper} {sees : List (List Nat)} {t k : Nat} {listed : Array Bool} (hs : okSee ops sees t = true) (hc : ∀ y, y < ops.size → listed.getD y false = true → ∀ x ∈ sees.getD y [], listed.getD x false = true) (hsz : listed.size = ops.size)
    (hr : k ∈ Region.ready .any ops listed) : ∀ x ∈ sees.getD k [], listed.getD x false = true := by
  obtain ⟨_, o, ho, hall⟩ := mem_ready.1 hr
  intro x hx
  obtain ⟨d, hd, hb, hor⟩ := (okSee_spec hs ho).why x hx
  have hl := hall d hd hb
  rcases hor with rfl | hor
  · exact hl
  · refine hc d.on ?_ hl x hor
    by_cases h : d.on < ops.size
    · exact h
    · rw [Array.getD_eq_getD_getElem?, Array.getElem?_eq_none (by omega)] at hl
      simp at hl
section
variable {P : Program} {C : Cx} {V D : List Nat} {n : Nat} {ops : Array Oper} {sees : List (List Nat)} {t : Nat} {QQ : Exit → Act → World → Prop} {Q : Env → Prop} {sos : List SOpr}
theorem okOprs_at : ∀ {os : List Oper} {sos : List SOpr} {k i : Nat} {o : Oper}, okOprs P V D n ops k os sos = true → os[i]? = some o → ∃ so, sos[i]? = some so ∧ okOpr P V D n (k + i) ops o so = true
  | [], sos, k, i, o, h, hi => by simp at hi
  | o' :: os, [], k, i, o, h, hi => by simp [okOprs] at h
  | o' :: os, so :: sos, k, 0, o, h, hi => by
    simp only [okOprs, Bool.and_eq_true] at h
    simp at hi; subst hi
    exact ⟨so, rfl, h.1⟩
  | o' :: os, so :: sos, k, i + 1, o, h, hi => by
    simp only [okOprs, Bool.and_eq_true] at h
    obtain ⟨so', h1, h2⟩ := okOprs_at h.2 (by simpa using hi)
    exact ⟨so', by simpa using h1, by rwa [show k + (i + 1) = k + 1 + i by omega]⟩
theorem okOprs_length : ∀ {os : List Oper} {sos : List SOpr} {k : Nat}, okOprs P V D n ops k os sos = true → os.length = sos.length
  | [], [], k, h => rfl
  | [], _ :: _, k, h => by simp [okOprs] at h
  | _ :: _, [], k, h => by simp [okOprs] at h
  | o' :: os, so :: sos, k, h => by
    simp only [okOprs, Bool.and_eq_true] at h
    simp [okOprs_length h.2]
theorem getD_tf {listed : Array Bool} {j : Nat} (h : j < listed.size) : listed.getD j true = listed.getD j false := by
  simp [Array.getD_eq_getD_getElem?, Array.getElem?_eq_getElem h]
theorem draw_tail (hν : (V ++ D).Nodup) (hok : okOprs P V D n ops 0 ops.toList sos = true) (hs : okSee ops sees t = true)
    (hQ : ∀ e ρ tmps w Φ f, St P C (V ++ D) n e ρ tmps w Φ f → Q e → QQ .normal ⟨tmps, []⟩ w) :
    ∀ (fuel i : Nat) (listed : Array Bool) (e : Env) (ρ : List Value) (tmps : Array Value) (w : World) (Φ : Nat → Prop) (f : Cnt), listed.size = ops.size → (∀ j, j < ops.size → (listed.getD j false = true ↔ j < i)) → t ≤ i → i ≤ ops.size → ops.size ≤ fuel + i →
      St P C (V ++ D) n e ρ tmps w Φ f → e.length = V.length + ops.size → (∀ j, i ≤ j → j < ops.size → ρ[V.length + j]? = some unk) → SRun P V.length i (sos.drop i) e Q → wpAny P .any ops QQ fuel listed ⟨tmps, []⟩ w := by
  intro fuel
  have hl := okOprs_length hok
  have hend : ∀ (i : Nat) (listed : Array Bool) (e : Env) (ρ : List Value) (tmps : Array Value) (w : World) (Φ : Nat → Prop) (f : Cnt), i = ops.size → St P C (V ++ D) n e ρ tmps w Φ f → SRun P V.length i (sos.drop i) e Q → QQ .normal ⟨tmps, []⟩ w := by
    intro i listed e ρ tmps w Φ f hi hst h
    rw [List.drop_eq_nil_of_le (by rw [← hl, hi]; simp)] at h
    exact hQ _ _ _ _ _ _ hst (by simpa only [SRun] using h)
  have hrd : ∀ (i j : Nat) (listed : Array Bool), listed.size = ops.size → (∀ j, j < ops.size → (listed.getD j false = true ↔ j < i)) → t ≤ i → j ∈ Region.ready .any ops listed → j = i := by
    intro i j listed hsz hl hti hj
    have hsee := see_listed hs (fun y hy hly x hx => by
      have := (okSee_spec hs (Array.getElem?_eq_getElem hy)).lt x hx
      have h2 := (hl y hy).1 hly
      exact (hl x (by omega)).2 (by omega)) hsz hj
    obtain ⟨h0, o, ho, _⟩ := mem_ready.1 hj
    have hjs := (Array.getElem?_eq_some_iff.1 ho).1
    rw [getD_tf (by omega)] at h0
    have hge : ¬ j < i := fun h => by rw [(hl j hjs).2 h] at h0; cases h0
    by_cases hji : i < j
    · have := hsee i ((okSee_spec hs ho).all (by omega) i hji)
      have := (hl i (by omega)).1 this
      omega
    · omega
  induction fuel with
  | zero =>
    intro i listed e ρ tmps w Φ f hsz hlst hti his hf hst hlen hund h
    have hi : i = ops.size := by omega
    refine ⟨?_, hend i listed e ρ tmps w Φ f hi hst h⟩
    cases hr : Region.ready .any ops listed with
    | nil => rfl
    | cons j _ =>
      have hj : j ∈ Region.ready .any ops listed := by rw [hr]; simp
      have := hrd i j listed hsz hlst hti hj
      obtain ⟨_, o, ho, _⟩ := mem_ready.1 hj
      have := (Array.getElem?_eq_some_iff.1 ho).1
      omega
  | succ fuel ih =>
    intro i listed e ρ tmps w Φ f hsz hlst hti his hf hst hlen hund h
    refine ⟨fun hr => ?_, fun j hj => ?_⟩
    · by_cases hi : i = ops.size
      · exact hend i listed e ρ tmps w Φ f hi hst h
      · exfalso
        have hilt : i < ops.size := by omega
        have : i ∈ Region.ready .any ops listed := mem_ready.2 ⟨by
          rw [getD_tf (by omega)]
          cases hb : listed.getD i false with
          | false => rfl
          | true => have := (hlst i hilt).1 hb; omega, _, Array.getElem?_eq_getElem hilt, fun d hd hb => by
          have := (okSee_spec hs (Array.getElem?_eq_getElem hilt)).back d hd hb
          exact (hlst d.on (by omega)).2 this⟩
        rw [hr] at this; cases this
    · obtain rfl := hrd i j listed hsz hlst hti hj
      obtain ⟨_, o, ho, _⟩ := mem_ready.1 hj
      have hjs := (Array.getElem?_eq_some_iff.1 ho).1
      obtain ⟨so, hso, hokr⟩ := okOprs_at hok (i := j) (by simpa using ho)
      rw [Nat.zero_add] at hokr
      have hdrop : sos.drop j = so :: sos.drop (j + 1) := by
        rw [List.drop_eq_getElem_cons (List.getElem?_eq_some_iff.1 hso).1, (List.getElem?_eq_some_iff.1 hso).2]
      rw [hdrop] at h
      have hρl : e.length = ρ.length := CR_length hst.rel
      have := opr_step (QQ := QQ) (ops := ops) (K := wpAny P .any ops QQ fuel (listed.setIfInBounds j true)) hν hokr hst (hund j (Nat.le_refl _) hjs) (SRun_cons h) (fun e2 ρ2 tmps2 w2 Φ2 g hst2 hl2 hu2 hrun =>
        ih (j + 1) _ e2 ρ2 tmps2 w2 Φ2 g (by simpa using hsz) (fun x hx => by
          by_cases hxj : j = x
          · subst hxj; simp [hsz, hjs]
          · rw [getD_set_ne false hxj, hlst x hx]; omega) (by omega) (by omega) (by omega) hst2 (by rw [CR_length hst2.rel, hl2, ← hρl]; exact hlen) (fun x hx hxs => by
          rw [hu2 _ (by omega) (by omega)]; exact hund x (by omega) hxs) hrun)
      unfold wpOp
      rw [ho]
      simp only
      split
      · rename_i hw; rw [if_pos hw] at this; exact .inl this
      · rename_i hw; rw [if_neg hw] at this; exact this
def cntU (listed : Array Bool) : Nat → Nat
  | 0 => 0
  | t + 1 => cntU listed t + if listed.getD t false then 0 else 1
theorem cntU_ge {listed : Array Bool} {k : Nat} : ∀ {t : Nat}, t ≤ k → cntU (listed.setIfInBounds k true) t = cntU listed t
  | 0, _ => rfl
  | t + 1, h => by
    simp only [cntU]
    rw [cntU_ge (by omega), getD_set_ne false (by omega)]
theorem cntU_set {listed : Array Bool} {k : Nat} (hk : listed.getD k false = false) (hs : k < listed.size) : ∀ {t : Nat}, k < t → cntU (listed.setIfInBounds k true) t + 1 = cntU listed t
  | 0, h => by omega
  | t + 1, h => by
    simp only [cntU]
    by_cases hkt : k = t
    · subst hkt
      rw [cntU_ge (Nat.le_refl _), hk]
      simp [hs]
    · have := cntU_set hk hs (t := t) (by omega)
      rw [getD_set_ne false hkt]
      omega
theorem cntU_pos {listed : Array Bool} {k : Nat} (hk : listed.getD k false = false) : ∀ {t : Nat}, k < t → 1 ≤ cntU listed t
  | 0, h => by omega
  | t + 1, h => by
    simp only [cntU]
    by_cases hkt : k = t
    · subst hkt; rw [hk]; simp
    · have := cntU_pos hk (t := t) (by omega)
      omega
theorem OprW_of_DVal {e : Env} {cons : List (Nat × Nat)} {S : List (List Nat)} {so : SOpr} {see : List Nat} {vs : List AV} {k r : Nat} {p : Nat → Bool} (h : DVal P e cons S so see vs k) (hk : k < vs.length) (hp : p k = false) (hsee : ∀ i, i < k → seeM cons S k see i = true → p i = true) :
    OprW P e.length k so (envP e p vs r) fun e2 => ∃ v, vs[k]? = some v ∧ match consAt cons k with
      | some js => ∀ i, i ∉ js.map (e.length + ·) → e2[i]? = ((envP e p vs r).set (e.length + k) v)[i]?
      | none => e2 = (envP e p vs r).set (e.length + k) v := by
  have hle : Le (e ++ maskP (seeM cons S k see) 0 (vs.take k)) (envP e p vs r) := envP_Le fun i hi hq => hsee i hi hq
  obtain ⟨hd, h⟩ := h
  split at h
  · rename_i js hj
    have hopc : ∀ (hlv : isApp so = true → (e ++ vs).all (liveV e) = true) (h : OpC so (e ++ maskP (seeM cons S k see) 0 (vs.take k)) (js.map (e.length + ·)) fun v => vs[k]? = some v), OpW P e.length k so (envP e p vs r) fun e2 => ∃ v, vs[k]? = some v ∧ ∀ i, i ∉ js.map (e.length + ·) → e2[i]? = ((envP e p vs r).set (e.length + k) v)[i]? := by
      intro hlv h
      unfold OpC at h
      unfold OpW
      split at h
      · rename_i t n z ps hs
        split at h
        · rename_i v e1 hx
          obtain ⟨h1, h2, h3⟩ := h
          obtain ⟨e1', k1, k2, k3⟩ := bsl_frm hle hx
          simp only [hs, k1, hd, putV]
          refine ⟨v, h3, fun i hij => ?_⟩
          by_cases hik : e.length + k = i
          · subst hik
            by_cases hl : e.length + k < (envP e p vs r).length
            · rw [List.getElem?_set_self (by rw [k3]; exact hl), List.getElem?_set_self hl]
            · rw [List.getElem?_eq_none (by simp [k3]; omega), List.getElem?_eq_none (by simp; omega)]
          · rw [List.getElem?_set_ne hik, List.getElem?_set_ne hik]
            have hsame := killS_out h2 hij
            rcases k2 i with ⟨_, b⟩ | ⟨a, b⟩
            · exact b
            · rw [← a, hsame, b]
        · cases h
      · rename_i t sz s x hs
        split at h
        · rename_i v e1 hx
          obtain ⟨h1, h2, h3⟩ := h
          obtain ⟨e1', k1, k2, k3⟩ := app_frm hle hx
          have hlv' := hlv (by simp [isApp, hs])
          simp only [hs, opx, k1, hd, putV]
          have same : ∀ i, i ∉ js.map (e.length + ·) → e1'[i]? = (envP e p vs r)[i]? := by
            intro i hij
            have hsame := killS_out h2 hij
            rcases k2 i with ⟨_, b⟩ | ⟨a, b⟩
            · exact b
            · rw [← a, hsame, b]
          refine ⟨v, h3, ?_⟩
          have low : ∀ i, i < e.length → e1'[i]? = e[i]? := fun i hi => by rw [same i (by simp only [List.mem_map, not_exists, not_and]; intro x _; omega), envP_low hi]
          have live : ∀ (i : Nat) (u : AV), (envP e p vs r)[i]? = some u → liveV e1' u = true := by
            intro i u hu
            refine live_more low ?_
            rw [List.all_eq_true] at hlv'
            by_cases hi : i < e.length
            · rw [envP_low hi] at hu
              exact hlv' u (List.mem_append_left _ (List.mem_of_getElem? hu))
            · obtain ⟨i2, rfl⟩ : ∃ i2, i = e.length + i2 := ⟨i - e.length, by omega⟩
              rw [envP_get] at hu
              split at hu
              · cases hv : vs[i2]? with
                | none => simp [hv] at hu
                | some w =>
                  simp only [hv, Option.map_some, Option.some.injEq] at hu
                  subst hu
                  split
                  · exact hlv' w (List.mem_append_right _ (List.mem_of_getElem? hv))
                  · rfl
              · split at hu
                · obtain rfl := Option.some.inj hu; rfl
                · cases hu
          intro i hij
          by_cases hik : e.length + k = i
          · subst hik
            by_cases hl : e.length + k < (envP e p vs r).length
            · rw [List.getElem?_set_self (by simp [killL, k3]; exact hl), List.getElem?_set_self hl]
            · rw [List.getElem?_eq_none (by simp [killL, k3]; omega), List.getElem?_eq_none (by simp; omega)]
          · rw [List.getElem?_set_ne hik, List.getElem?_set_ne hik]
            simp only [killL, List.getElem?_map]
            rw [same i hij]
            cases hu : (envP e p vs r)[i]? with
            | none => rfl
            | some u => simp only [Option.map_some, live i u hu, if_true]
        · cases h
      · cases h
    unfold OprW
    split at h
    · rename_i hg; rw [hg]; exact hopc h.1 h.2
    · rename_i s b hg
      rw [hg]
      have hle2 : ∀ c, wantX b (e ++ maskP (seeM cons S k see) 0 (vs.take k))[s]? = some c → wantX b (envP e p vs r)[s]? = some c := by
        intro c hc
        rcases wantX_some hc with ⟨b', he, hb⟩ | ⟨he, hb⟩
        · rw [hle s _ he (by simp)]; simp [wantX, hb]
        · rw [hle s _ he (by simp)]; simp [wantX, hb]
      split at h
      · rename_i hb
        simp only [hle2 _ hb]
        exact hopc h.1 h.2
      · rename_i hb
        simp only [hle2 _ hb]
        exact ⟨skV so.k, h, fun i _ => by rw [skE_eq]⟩
      · cases h
  rename_i hj
  have hop : ∀ (h : OpV P so (e ++ maskP (seeM cons S k see) 0 (vs.take k)) fun v => vs[k]? = some v), OpW P e.length k so (envP e p vs r) fun e2 => ∃ v, vs[k]? = some v ∧ e2 = (envP e p vs r).set (e.length + k) v := by
    intro h
    unfold OpV at h
    unfold OpW
    split at h
    · rename_i s hs
      obtain ⟨h1, h⟩ := h
      split at h
      · rename_i v e' hx
        have hv : v ≠ .dead := by rintro rfl; simp [isDead] at h
        simp only [hs, opx_mono hle h1 hx hv, hd, putV]
        exact ⟨v, h.2, rfl⟩
      · cases h
    · rename_i g args fr hs
      split at h
      · rename_i avs live hpx
        simp only [hs, prepX_mono hle hpx]
        obtain ⟨res, h1, h2, h⟩ := h
        refine ⟨res, h1, h2, ?_⟩
        split at h
        · rename_i v hv
          simp only [hv, hd, putV]
          exact ⟨v, h.2, rfl⟩
        · cases h
      · cases h
    · rename_i x args hs
      split at h
      · rename_i g caps avs live hcal hpx
        simp only [hs, calleeC_mono hle hcal, prepX_mono hle hpx]
        obtain ⟨hpl, res, h1, h2, h3, h⟩ := h
        refine ⟨hpl, res, h1, h2, ?_⟩
        simp only [hd, putV]
        exact ⟨res, h, rfl⟩
      · cases h
    · cases h
  unfold OprW
  split at h
  · rename_i hg; rw [hg]; exact hop h
  · rename_i s b hg
    rw [hg]
    have hle2 : ∀ c, wantX b (e ++ maskP (seeM cons S k see) 0 (vs.take k))[s]? = some c → wantX b (envP e p vs r)[s]? = some c := by
      intro c hc
      rcases wantX_some hc with ⟨b', he, hb⟩ | ⟨he, hb⟩
      · rw [hle s _ he (by simp)]; simp [wantX, hb]
      · rw [hle s _ he (by simp)]; simp [wantX, hb]
    split at h
    · rename_i hb
      simp only [hle2 _ hb]
      exact hop h
    · rename_i hb
      simp only [hle2 _ hb]
      exact ⟨skV so.k, h, skE_eq⟩
    · cases h
def okConsB (cons : List (Nat × Nat)) (sees : List (List Nat)) (t : Nat) : Bool := cons.all fun c => ((sees.getD c.1 []).contains c.2 || decide (t ≤ c.2)) && decide (c.1 < t)
theorem okConsB_spec {cons : List (Nat × Nat)} {sees : List (List Nat)} {t : Nat} (h : okConsB cons sees t = true) : ∀ c ∈ cons, (c.2 ∈ sees.getD c.1 [] ∨ t ≤ c.2) ∧ c.1 < t := by
  simp only [okConsB, List.all_eq_true, Bool.and_eq_true, List.contains_iff_mem, decide_eq_true_eq, Bool.or_eq_true] at h
  exact h
theorem consAt_mem {cons : List (Nat × Nat)} {k : Nat} {js : List Nat} (h : consAt cons k = some js) {j : Nat} : j ∈ js ↔ (k, j) ∈ cons := by
  unfold consAt at h
  split at h
  · cases h
  · rename_i hne
    cases h
    simp only [List.mem_map, List.mem_filter, beq_iff_eq]
    constructor
    · rintro ⟨⟨a, b⟩, ⟨h1, h2⟩, h3⟩
      simp only at h2 h3
      subst h2 h3; exact h1
    · intro h; exact ⟨_, ⟨h, rfl⟩, rfl⟩
theorem consAt_none {cons : List (Nat × Nat)} {k : Nat} (h : consAt cons k = none) : ∀ c ∈ cons, c.1 ≠ k := by
  unfold consAt at h
  split at h
  · rename_i he
    intro c hc hck
    have : c.2 ∈ (cons.filter fun c => c.1 == k).map (·.2) := List.mem_map.2 ⟨c, List.mem_filter.2 ⟨hc, by simpa using hck⟩, rfl⟩
    rw [he] at this
    cases this
  · cases h
def vis (cons : List (Nat × Nat)) (listed : Array Bool) (i : Nat) : Bool := listed.getD i false && !(cons.any fun c => c.2 == i && listed.getD c.1 false)
def visE (cons : List (Nat × Nat)) (i : Nat) : Bool := !(cons.any fun c => c.2 == i)
theorem St_drop {x : Opd} {e : Env} {ρ : List Value} {tmps : Array Value} {w : World} {Φ : Nat → Prop} {f : Cnt} (h : St P C V n e ρ tmps w Φ f) : ∃ f', St P C V n (dropS x e) ρ tmps w Φ f' := by
  cases x with
  | con v => exact ⟨f, h⟩
  | slot j =>
    simp only [dropS]
    cases hj : e[j]? with
    | none =>
      rw [List.set_eq_of_length_le (by simpa using hj)]
      exact ⟨f, h⟩
    | some u =>
      obtain ⟨cv, f1, f2, hv, _, hf, hset⟩ := CR_get j h.rel hj
      have := hset .dead cv (fun _ => 0) (by simp [VR])
      rw [set_same hv] at this
      refine ⟨_, this, h.lk, h.inv.le (fun b => ?_), h.ext, h.sub, h.new, fun b hb => h.own b ?_, h.size⟩
      · show 0 + f2 b ≤ f b
        have := hf b; omega
      · have hb' : 1 ≤ 0 + f2 b := hb
        have := hf b; omega
theorem St_killS : ∀ (ds : List Nat) {e : Env} {ρ : List Value} {tmps : Array Value} {w : World} {Φ : Nat → Prop} {f : Cnt} {N : Nat}, St P C V N e ρ tmps w Φ f → ∃ f', St P C V N (killS e ds) ρ tmps w Φ f'
  | [], _, _, _, _, _, f, _, h => ⟨f, h⟩
  | d :: ds, _, _, _, _, _, _, _, h => by
    obtain ⟨f', h'⟩ := St_drop (x := .slot d) h
    exact St_killS ds h'
theorem draw_head {e : Env} {cons : List (Nat × Nat)} {vs : List AV} (hν : (V ++ D).Nodup) (hok : okOprs P V D n ops 0 ops.toList sos = true) (hs : okSee ops sees t = true) (hco : okConsB cons sees t = true) (hm : e.length = V.length) (ht : t ≤ ops.size) (hvs : vs.length = t)
    (hQ : ∀ e ρ tmps w Φ f, St P C (V ++ D) n e ρ tmps w Φ f → Q e → QQ .normal ⟨tmps, []⟩ w)
    (hv : ∀ k so, k < t → sos[k]? = some so → DVal P e cons sees so (sees.getD k []) vs k) (htail : SRun P V.length t (sos.drop t) (e ++ maskP (visE cons) 0 vs ++ List.replicate (ops.size - t) .dead) Q) :
    ∀ (fuel : Nat) (listed : Array Bool) (ρ : List Value) (tmps : Array Value) (w : World) (Φ : Nat → Prop) (f : Cnt), listed.size = ops.size → (∀ j, t ≤ j → j < ops.size → listed.getD j false = false) → cntU listed t + (ops.size - t) ≤ fuel →
      (∀ y, y < ops.size → listed.getD y false = true → ∀ x ∈ sees.getD y [], listed.getD x false = true) →
      St P C (V ++ D) n (envP e (vis cons listed) vs (ops.size - t)) ρ tmps w Φ f → (∀ j, j < ops.size → listed.getD j false = false → ρ[V.length + j]? = some unk) → wpAny P .any ops QQ fuel listed ⟨tmps, []⟩ w := by
  have hl := okOprs_length hok
  have full : ∀ (fuel : Nat) (listed : Array Bool) (ρ : List Value) (tmps : Array Value) (w : World) (Φ : Nat → Prop) (f : Cnt), listed.size = ops.size → (∀ j, t ≤ j → j < ops.size → listed.getD j false = false) → ops.size - t ≤ fuel →
      (∀ j, j < t → listed.getD j false = true) → St P C (V ++ D) n (envP e (vis cons listed) vs (ops.size - t)) ρ tmps w Φ f → (∀ j, j < ops.size → listed.getD j false = false → ρ[V.length + j]? = some unk) → wpAny P .any ops QQ fuel listed ⟨tmps, []⟩ w := by
    intro fuel listed ρ tmps w Φ f hsz htl hfu hall hst hund
    have he : envP e (vis cons listed) vs (ops.size - t) = e ++ maskP (visE cons) 0 vs ++ List.replicate (ops.size - t) .dead := by
      have : maskP (vis cons listed) 0 vs = maskP (visE cons) 0 vs := by
        apply List.ext_getElem?
        intro i
        rw [maskP_get, maskP_get]
        cases hi : vs[i]? with
        | none => rfl
        | some v =>
          have hil := (List.getElem?_eq_some_iff.1 hi).1
          have : vis cons listed (0 + i) = visE cons (0 + i) := by
            simp only [vis, visE, Nat.zero_add, hall i (by omega), Bool.true_and]
            congr 1
            rw [Bool.eq_iff_iff]
            simp only [List.any_eq_true, Bool.and_eq_true]
            exact ⟨fun ⟨c, h1, h2, _⟩ => ⟨c, h1, h2⟩, fun ⟨c, h1, h2⟩ => ⟨c, h1, h2, hall c.1 ((okConsB_spec hco) c h1).2⟩⟩
          simp only [Option.map_some, this]
      rw [envP, this]
    rw [he] at hst
    refine draw_tail hν hok hs hQ fuel t listed _ ρ tmps w Φ f hsz (fun j hj => ⟨fun h => ?_, fun h => hall j h⟩) (Nat.le_refl _) ht (by omega) hst (by simp [hm, hvs, maskP_length]; omega) (fun j hj hjs => hund j hjs (htl j hj hjs)) htail
    by_cases hjt : j < t
    · exact hjt
    · rw [htl j (by omega) hj] at h; cases h
  intro fuel
  induction fuel with
  | zero =>
    intro listed ρ tmps w Φ f hsz htl hfu hcl hst hund
    refine full 0 listed ρ tmps w Φ f hsz htl (by omega) (fun j hj => ?_) hst hund
    cases hb : listed.getD j false with
    | true => rfl
    | false => have := cntU_pos hb hj; omega
  | succ fuel ih =>
    intro listed ρ tmps w Φ f hsz htl hfu hcl hst hund
    by_cases hall : ∀ j, j < t → listed.getD j false = true
    · exact full (fuel + 1) listed ρ tmps w Φ f hsz htl (by omega) hall hst hund
    · refine ⟨fun hr => ?_, fun k hk => ?_⟩
      · -- some operation can come up
        exfalso
        apply hall
        intro j
        induction j using Nat.strongRecOn with
        | _ j ihj =>
          intro hjt
          cases hb : listed.getD j false with
          | true => rfl
          | false =>
            exfalso
            have hjs : j < ops.size := by omega
            have : j ∈ Region.ready .any ops listed := mem_ready.2 ⟨by rw [getD_tf (by omega)]; exact hb, _, Array.getElem?_eq_getElem hjs, fun d hd hbd => by
              have := (okSee_spec hs (Array.getElem?_eq_getElem hjs)).back d hd hbd
              exact ihj d.on this (by omega)⟩
            rw [hr] at this; cases this
      · have hsee := see_listed hs hcl hsz hk
        obtain ⟨h0, o, ho, _⟩ := mem_ready.1 hk
        have hks := (Array.getElem?_eq_some_iff.1 ho).1
        rw [getD_tf (by omega)] at h0
        have hkt : k < t := by
          by_cases h : k < t
          · exact h
          · exfalso
            apply hall
            intro j hj
            exact hsee j ((okSee_spec hs ho).all (by omega) j (by omega))
        obtain ⟨so, hso, hokr⟩ := okOprs_at hok (i := k) (by simpa using ho)
        rw [Nat.zero_add] at hokr
        have hc1 := okConsB_spec hco
        have hvk0 : vis cons listed k = false := by simp [vis, h0]
        have hw := OprW_of_DVal (r := ops.size - t) (p := vis cons listed) (hv k so hkt hso) (by omega) hvk0 (fun i _ hi => by
          simp only [seeM, Bool.and_eq_true, List.contains_iff_mem, Bool.not_eq_true', List.any_eq_false, bne_iff_ne, beq_iff_eq] at hi
          simp only [vis, Bool.and_eq_true, Bool.not_eq_true', List.any_eq_false, beq_iff_eq]
          refine ⟨hsee i hi.1, fun c hc hcc => ?_⟩
          have hck : c.1 ≠ k := fun h => by rw [h, h0] at hcc; cases hcc.2
          have h9 : c.1 < ops.size := by have := (hc1 c hc).2; omega
          by_cases hck2 : k ∈ sees.getD c.1 []
          · have := hcl c.1 h9 hcc.2 k hck2
            rw [h0] at this; cases this
          · exact hi.2 c hc ⟨⟨hcc.1, hck⟩, by simpa using hck2⟩)
        rw [hm] at hw
        have hself : ∀ c ∈ cons, c.2 = k → (listed.setIfInBounds k true).getD c.1 false = true → False := fun c hc hck hl => by
          have hcs := (hc1 c hc).1.resolve_right (by omega)
          by_cases hck1 : k = c.1
          · have hlt := (okSee_spec hs ho).lt c.2 (by rw [hck1]; exact hcs)
            omega
          · rw [getD_set_ne false hck1] at hl
            have h9 : c.1 < ops.size := by
              by_cases h : c.1 < ops.size
              · exact h
              · rw [Array.getD_eq_getD_getElem?, Array.getElem?_eq_none (by omega)] at hl; simp at hl
            have := hcl c.1 h9 hl c.2 hcs
            rw [hck, h0] at this; cases this
        have hk1 : vis cons (listed.setIfInBounds k true) k = true := by
          have : (listed.setIfInBounds k true).getD k false = true := by simp [hsz, hks]
          simp only [vis, this, Bool.true_and, Bool.not_eq_true', List.any_eq_false, Bool.and_eq_true, beq_iff_eq]
          exact fun c hc hcc => hself c hc hcc.1 hcc.2
        have := opr_step (QQ := QQ) (ops := ops) (K := wpAny P .any ops QQ fuel (listed.setIfInBounds k true)) hν hokr hst (hund k hks h0) hw (fun e2 ρ2 tmps2 w2 Φ2 g hst2 hl2 hu2 hrun => by
          obtain ⟨v, hvk, hrun⟩ := hrun
          have hset := envP_set (e := e) (p := vis cons listed) (r := ops.size - t) hvk (fun i => vis cons listed i || i == k) (fun i => rfl)
          rw [hm] at hset
          obtain ⟨g, hst2⟩ : ∃ g, St P C (V ++ D) n (envP e (vis cons (listed.setIfInBounds k true)) vs (ops.size - t)) ρ2 tmps2 w2 Φ2 g := by
            cases hj : consAt cons k with
            | none =>
              rw [hj] at hrun
              simp only at hrun
              subst hrun
              rw [hset] at hst2
              refine ⟨g, ?_⟩
              have : (fun i => vis cons listed i || i == k) = vis cons (listed.setIfInBounds k true) := funext fun i => by
                by_cases hik : k = i
                · subst hik; rw [hk1]; simp
                · have e0 : (i == k) = false := by simp; omega
                  simp only [vis, e0, Bool.or_false, getD_set_ne false hik]
                  congr 2
                  rw [Bool.eq_iff_iff]
                  simp only [List.any_eq_true, Bool.and_eq_true]
                  have hne : ∀ c ∈ cons, k ≠ c.1 := fun c hc h => consAt_none hj c hc h.symm
                  exact ⟨fun ⟨c, h1, h2, h3⟩ => ⟨c, h1, h2, by rw [getD_set_ne false (hne c h1)]; exact h3⟩, fun ⟨c, h1, h2, h3⟩ => ⟨c, h1, h2, by rw [getD_set_ne false (hne c h1)] at h3; exact h3⟩⟩
              rw [this] at hst2; exact hst2
            | some js =>
              rw [hj] at hrun
              simp only at hrun
              obtain ⟨g', hst3⟩ := St_killS (js.map (V.length + ·)) hst2
              refine ⟨g', ?_⟩
              have hlen : e2.length = e.length + (vs.length + (ops.size - t)) := by rw [CR_length hst2.rel, hl2, ← CR_length hst.rel, envP_length]
              have e1 : killS e2 (js.map (V.length + ·)) = envP e (vis cons (listed.setIfInBounds k true)) vs (ops.size - t) := by
                apply List.ext_getElem?
                intro i
                rw [killS_get, hlen]
                by_cases hin : i ∈ js.map (V.length + ·)
                · obtain ⟨q, hqj, rfl⟩ := List.mem_map.1 hin
                  have hkq := (consAt_mem hj).1 hqj
                  rw [← hm, envP_get]
                  by_cases hq : q < vs.length
                  · rw [if_pos ⟨by rw [hm]; exact hin, by omega⟩, if_pos hq]
                    have : vis cons (listed.setIfInBounds k true) q = false := by
                      simp only [vis, Bool.and_eq_false_iff, Bool.not_eq_false', List.any_eq_true, Bool.and_eq_true, beq_iff_eq]
                      exact .inr ⟨_, hkq, rfl, by simp [hsz, hks]⟩
                    rw [this]
                    obtain ⟨u, hu⟩ : ∃ u, vs[q]? = some u := ⟨_, List.getElem?_eq_getElem hq⟩
                    simp [hu]
                  · rw [if_neg hq]
                    by_cases hq2 : q < vs.length + (ops.size - t)
                    · rw [if_pos ⟨by rw [hm]; exact hin, by omega⟩, if_pos hq2]
                    · rw [if_neg (by omega), if_neg hq2, List.getElem?_eq_none (by omega)]
                · rw [if_neg (fun h => hin h.1), hrun i hin, hset]
                  by_cases hil : i < e.length
                  · rw [envP_low hil, envP_low hil]
                  · obtain ⟨q, rfl⟩ : ∃ q, i = e.length + q := ⟨i - e.length, by omega⟩
                    rw [envP_get, envP_get]
                    have : (vis cons listed q || q == k) = vis cons (listed.setIfInBounds k true) q := by
                      by_cases hik : k = q
                      · subst hik; rw [hk1]; simp
                      · have e0 : (q == k) = false := by simp; omega
                        simp only [vis, e0, Bool.or_false, getD_set_ne false hik]
                        congr 2
                        rw [Bool.eq_iff_iff]
                        simp only [List.any_eq_true, Bool.and_eq_true, beq_iff_eq]
                        have hne : ∀ c ∈ cons, c.2 = q → k ≠ c.1 := fun c hc h h2 => by
                          refine hin (List.mem_map.2 ⟨q, (consAt_mem hj).2 ?_, by omega⟩)
                          obtain ⟨c1, c2⟩ := c
                          simp only at h h2
                          subst h h2; exact hc
                        exact ⟨fun ⟨c, h1, h2, h3⟩ => ⟨c, h1, h2, by rw [getD_set_ne false (hne c h1 h2)]; exact h3⟩, fun ⟨c, h1, h2, h3⟩ => ⟨c, h1, h2, by rw [getD_set_ne false (hne c h1 h2)] at h3; exact h3⟩⟩
                    rw [this]
              rw [e1] at hst3; exact hst3
          refine ih _ ρ2 tmps2 w2 Φ2 g (by simpa using hsz) (fun j hj hjs => by rw [getD_set_ne false (by omega)]; exact htl j hj hjs) (by have := cntU_set h0 (by omega) hkt; omega) (fun y hy hly x hx => ?_) hst2 (fun j hj hjl => ?_)
          · by_cases hky : k = y
            · subst hky
              exact getD_set_true (hsee x hx)
            · rw [getD_set_ne false hky] at hly
              exact getD_set_true (hcl y hy hly x hx)
          · by_cases hkj : k = j
            · subst hkj; simp [hsz, hks] at hjl
            · rw [getD_set_ne false hkj] at hjl
              rw [hu2 _ (by omega) (by omega)]
              exact hund j hj hjl)
        unfold wpOp
        rw [ho]
        simp only
        split
        · rename_i hw; rw [if_pos hw] at this; exact .inl this
        · rename_i hw; rw [if_neg hw] at this; exact this
end
def maskB : List Bool → List AV → List AV
  | _, [] => []
  | b :: bs, v :: vs => (if b then v else .dead) :: maskB bs vs
  | [], _ :: vs => .dead :: maskB [] vs
def DRunB (P : Program) (e : Env) : List SOpr → List (List Bool × Option (List Nat)) → List AV → (List AV → Prop) → Prop
  | [], _, acc, Q => Q acc
  | so :: rest, (bs, some js) :: info, acc, Q => so.dst = none ∧ match so.guard with
    | none => OpC so (e ++ maskB bs acc) (js.map (e.length + ·)) fun v => DRunB P e rest info (acc ++ [v]) (addL e so Q)
    | some (s, b) => match wantX b (e ++ maskB bs acc)[s]? with
      | some true => OpC so (e ++ maskB bs acc) (js.map (e.length + ·)) fun v => DRunB P e rest info (acc ++ [v]) (addL e so Q)
      | some false => DRunB P e rest info (acc ++ [skV so.k]) Q
      | none => False
  | so :: rest, (bs, none) :: info, acc, Q => so.dst = none ∧ match so.guard with
    | none => OpV P so (e ++ maskB bs acc) fun v => DRunB P e rest info (acc ++ [v]) Q
    | some (s, b) => match wantX b (e ++ maskB bs acc)[s]? with
      | some true => OpV P so (e ++ maskB bs acc) fun v => DRunB P e rest info (acc ++ [v]) Q
      | some false => DRunB P e rest info (acc ++ [skV so.k]) Q
      | none => False
  | _ :: _, [], _, _ => False
def okInfo (cons : List (Nat × Nat)) (sees : List (List Nat)) (t : Nat) (info : List (List Bool × Option (List Nat))) (fin : List Bool) : Bool :=
  ((List.range t).all fun k => info[k]? == some ((List.range k).map (seeM cons sees k (sees.getD k [])), consAt cons k)) && fin == (List.range t).map (visE cons)
theorem maskB_P {p : Nat → Bool} : ∀ {vs : List AV} {k n : Nat}, vs.length = n → maskB ((List.range' k n).map p) vs = maskP p k vs
  | [], k, n, h => by cases n <;> simp [maskB, maskP]
  | v :: vs, k, n, h => by
    cases n with
    | zero => simp at h
    | succ n =>
      rw [List.range'_succ, List.map_cons]
      simp only [maskB, maskP]
      rw [maskB_P (by simpa using h)]
theorem DRunB_DRun {P : Program} {e : Env} {cons : List (Nat × Nat)} {S : List (List Nat)} : ∀ {sos : List SOpr} {info : List (List Bool × Option (List Nat))} {sees : List (List Nat)} {acc : List AV} {Q : List AV → Prop},
    (∀ i, i < sos.length → info[i]? = some ((List.range (acc.length + i)).map (seeM cons S (acc.length + i) (sees.getD i [])), consAt cons (acc.length + i))) → DRunB P e sos info acc Q → DRun P e cons S sos sees acc Q
  | [], info, sees, acc, Q, _, h => by simpa only [DRun, DRunB] using h
  | so :: rest, [], sees, acc, Q, _, h => by simp only [DRunB] at h
  | so :: rest, (bs, c) :: info, sees, acc, Q, hi, h => by
    have h0 := hi 0 (by simp)
    simp only [List.getElem?_cons_zero, Option.some.injEq, Prod.mk.injEq, Nat.add_zero] at h0
    obtain ⟨h1, h2⟩ := h0
    have hd : sees.headD [] = sees.getD 0 [] := by cases sees <;> rfl
    have ht : ∀ k, sees.tail.getD k [] = sees.getD (k + 1) [] := fun k => by cases sees <;> simp
    have hm : maskB bs acc = maskP (seeM cons S acc.length (sees.headD [])) 0 acc := by
      rw [h1, hd, List.range_eq_range']
      exact maskB_P rfl
    have next : ∀ {Q : List AV → Prop} v, DRunB P e rest info (acc ++ [v]) Q → DRun P e cons S rest sees.tail (acc ++ [v]) Q := fun v hv => DRunB_DRun (fun i hil => by
      have := hi (i + 1) (by simpa using hil)
      simp only [List.getElem?_cons_succ] at this
      rw [this, ht]
      simp [Nat.add_assoc, Nat.add_comm 1 i]) hv
    simp only [DRun]
    cases c with
    | some j =>
      simp only [DRunB] at h
      rw [← h2, ← hm]
      refine ⟨h.1, ?_⟩
      have h := h.2
      simp only
      split at h
      · exact OpC_imp next h
      · split at h
        · exact OpC_imp next h
        · exact next _ h
        · cases h
    | none =>
      simp only [DRunB] at h
      rw [← h2, ← hm]
      refine ⟨h.1, ?_⟩
      have h := h.2
      simp only
      split at h
      · exact OpV_imp next h
      · split at h
        · exact OpV_imp next h
        · exact next _ h
        · cases h
end Go.AM

/- Code: what the abstract machine does, and that the program does it. -/
set_option linter.unusedSimpArgs false
set_option linter.unusedVariables false
set_option linter.unusedSectionVars false
namespace Go.AM
open Go
def deads (n : Nat) : Env := List.replicate n .dead
def endOk (m : Nat) (e : Env) : Bool := decide (m ≤ e.length) && !((e.take m).any hasRef)
def mvEnd (m j k : Nat) (e : Env) : Option Env := match e[m + k]? with
  | some v => if hasRef v then none else some ((e.take m).set j v)
  | none => none
def outOf (id : Nat) : Exit → Exit
  | .exit i => if i = id then .normal else .exit i
  | ex => ex
def frzTop : AV → Option AV
  | .osl s t n cs => frzC (.osl s t n cs)
  | .bx s t cs => match frzs cs with
    | some cs' => some (.bx s t cs')
    | none => none
  | .agg cs => match frzs cs with
    | some cs' => some (.agg cs')
    | none => none
  | _ => none
inductive Runs (P : Program) (m : Nat) : SCode → Env → Exit → Env → Prop where
  | skip {e : Env} : Runs P m .skip e .normal e
  | reg {D : List Nat} {ops : List SOpr} {e e2 : Env} (h : SRun P m 0 ops (e ++ deads ops.length) (fun e1 => e1 = e2)) (hr : endOk m e2 = true) : Runs P m (.reg D ops) e .normal (e2.take m)
  | dreg {D : List Nat} {ops : List SOpr} {sees : List (List Nat)} {t : Nat} {cons : List (Nat × Nat)} {info : List (List Bool × Option (List Nat))} {fin : List Bool} {e e2 : Env} (h : DRunB P e (ops.take t) info [] fun vs => SRun P m t (ops.drop t) (e ++ maskB fin vs ++ deads (ops.length - t)) (fun e1 => e1 = e2))
      (hr : endOk m e2 = true) : Runs P m (.dreg D ops sees t cons info fin) e .normal (e2.take m)
  | dregm {j k : Nat} {D : List Nat} {ops : List SOpr} {sees : List (List Nat)} {t : Nat} {cons : List (Nat × Nat)} {info : List (List Bool × Option (List Nat))} {fin : List Bool} {e e2 e3 : Env} (hd : (e.any hasRef = false ∧ e[j]? = some .dead)) (h : DRunB P e (ops.take t) info [] fun vs => SRun P m t (ops.drop t) (e ++ maskB fin vs ++ deads (ops.length - t)) (fun e1 => e1 = e2))
      (hr : endOk m e2 = true) (hv : mvEnd m j k e2 = some e3) : Runs P m (.dregm j k D ops sees t cons info fin) e .normal e3
  | seq {a b : SCode} {e e1 e2 : Env} {ex : Exit} (h1 : Runs P m a e .normal e1) (h2 : Runs P m b e1 ex e2) : Runs P m (.seq a b) e ex e2
  | seqOut {a b : SCode} {e e1 : Env} {ex : Exit} (h1 : Runs P m a e ex e1) (hx : ex ≠ .normal) : Runs P m (.seq a b) e ex e1
  | cond {x : Opd} {a b : SCode} {e e2 : Env} {ex : Exit} {t : Bool} (hx : ev e x = some (.bool t)) (h : Runs P m (if t then a else b) (dropS x e) ex e2) : Runs P m (.cond x a b) e ex e2
  | condk {x : Opd} {a b : SCode} {e e2 : Env} {ex : Exit} {t : Bool} (hx : ev e x = some (.bool t)) (h : Runs P m (if t then a else b) e ex e2) : Runs P m (.condk x a b) e ex e2
  | block {id : Nat} {b : SCode} {e e2 : Env} {ex : Exit} (h : Runs P m b e ex e2) : Runs P m (.block id b) e (outOf id ex) e2
  | loop {b : SCode} {e e1 e2 : Env} {ex : Exit} (h1 : Runs P m b e .normal e1) (h2 : Runs P m (.loop b) e1 ex e2) : Runs P m (.loop b) e ex e2
  | loopOut {b : SCode} {e e1 : Env} {ex : Exit} (h1 : Runs P m b e ex e1) (hx : ex ≠ .normal) : Runs P m (.loop b) e ex e1
  | exit {id : Nat} {e : Env} : Runs P m (.exit id) e (.exit id) e
  | ret {e : Env} : Runs P m .ret e .ret e
  | forget {sc : SCode} {e e2 : Env} {ex : Exit} (j : Nat) (h : Runs P m sc (e.set j .dead) ex e2) : Runs P m sc e ex e2
  | frz {b : SCode} {e e2 : Env} {ex : Exit} {j : Nat} {v v' : AV} (he : e[j]? = some v) (hf : frzTop v = some v') (h : Runs P m b (e.set j v') ex e2) : Runs P m (.frz j b) e ex e2
  | freeze {sc : SCode} {e e2 : Env} {ex : Exit} (j : Nat) (v v' : AV) (he : e[j]? = some v) (hf : frzTop v = some v') (h : Runs P m sc (e.set j v') ex e2) : Runs P m sc e ex e2
def nodupB : List Nat → Bool
  | [] => true
  | x :: xs => !(xs.contains x) && nodupB xs
theorem nodupB_spec : ∀ {l : List Nat}, nodupB l = true → l.Nodup
  | [], _ => List.nodup_nil
  | x :: xs, h => by
    simp only [nodupB, Bool.and_eq_true, Bool.not_eq_true'] at h
    exact List.nodup_cons.2 ⟨by simpa using h.1, nodupB_spec h.2⟩
def okCode (P : Program) (V : List Nat) (n : Nat) : Code → SCode → Bool
  | c, .frz _ b => okCode P V n c b
  | .skip, .skip => true
  | .region _ ops false, .reg D sops => nodupB (V ++ D) && (D.length == sops.length) && okOprs P V D n ops 0 ops.toList sops
  | .region _ ops true, .dreg D sops sees t cons info fin => nodupB (V ++ D) && (D.length == sops.length) && okOprs P V D n ops 0 ops.toList sops && okSee ops sees t && decide (t ≤ sops.length) && P.follows .mixedOrders && okConsB cons sees t && okInfo cons sees t info fin
  | .region _ ops true, .dregm j k D sops sees t cons info fin => decide (j < V.length) && (V[j]? == D[k]?) && decide (k < D.length) && nodupB (V.set j (n + 999) ++ D) && (D.length == sops.length) && okOprs P (V.set j (n + 999)) D n ops 0 ops.toList sops && okSee ops sees t && decide (t ≤ sops.length) && P.follows .mixedOrders && okConsB cons sees t && okInfo cons sees t info fin
  | _, .bad => true
  | .seq a b, .seq a' b' => okCode P V n a a' && okCode P V n b b'
  | .cond c a b, .cond x a' b' => okX V c x && okCode P V n a a' && okCode P V n b b'
  | .cond c a b, .condk x a' b' => okX V c x && okCode P V n a a' && okCode P V n b b'
  | .block i b, .block i' b' => i == i' && okCode P V n b b'
  | .loop b, .loop b' => okCode P V n b b'
  | .exit i, .exit i' => i == i'
  | .ret, .ret => true
  | _, _ => false
def Post (P : Program) (C : Cx) (V : List Nat) (n : Nat) (ex : Exit) (e : Env) (ex' : Exit) (a : Act) (w : World) : Prop :=
  ex' = ex ∧ ∃ ρ tmps Φ f, a = ⟨tmps, []⟩ ∧ St P C V n e ρ tmps w Φ f
section
variable {P : Program} {C : Cx} {V D : List Nat} {n : Nat}
theorem CR_undef {w : World} {Φ : Nat → Prop} {σ : Nat → Value} {ρ : List Value} : ∀ k, CR P w Φ σ ρ (deads k) (List.replicate k unk) (fun _ => 0)
  | 0 => CR_nil
  | k + 1 => by
    have h : VR P w Φ σ ρ .dead unk (fun _ => 0) := by simp [VR]
    simpa [deads, List.replicate_succ] using CR_cons h (CR_undef k)
theorem VR_more {w : World} {Φ : Nat → Prop} {σ : Nat → Value} {ρ : List Value} (x : List Value) (v : AV) (cv : Value) (g : Cnt) (h : VR P w Φ σ ρ v cv g) : VR P w Φ σ (ρ ++ x) v cv g := by
  have low : ∀ {r : Nat} {row}, rowOf ρ r = row → row ≠ [] → rowOf (ρ ++ x) r = row := by
    intro r row h hne
    unfold rowOf at h ⊢
    cases hr : ρ[r]? with
    | none => simp [hr] at h; exact absurd h hne
    | some v => rw [List.getElem?_append_left (List.getElem?_eq_some_iff.1 hr).1, hr]; simpa [hr] using h
  have hne : ∀ {r p bo row}, walk w none (rowOf ρ r) p = some (bo, row) → (row ≠ [] ∨ ∃ b, bo = some b) → rowOf ρ r ≠ [] := by
    rintro r p bo row hw hor h
    rw [h] at hw
    cases p with
    | nil => simp [walk] at hw; obtain ⟨rfl, rfl⟩ := hw; rcases hor with h | ⟨b, h⟩ <;> simp at h
    | cons o p => simp [walk] at hw
  refine stab2 w Φ (ρ ++ x) (fun _ _ => rfl) (fun _ h => h) ?_ ?_ ?_ v cv g (fun _ _ => rfl) h
  · intro r p o cv f h
    simp only [VR] at h ⊢
    obtain ⟨⟨bo, row, a, n, c, hw, h1, h2⟩, hz⟩ := h
    have := hne hw (.inl (by rintro rfl; simp at h1))
    exact ⟨⟨bo, row, a, n, c, by rw [low rfl this]; exact hw, h1, h2⟩, hz⟩
  · intro r p o cv f h
    simp only [VR] at h ⊢
    obtain ⟨⟨b0, row, hw, h1⟩, hz⟩ := h
    have := hne hw (.inr ⟨b0, rfl⟩)
    exact ⟨⟨b0, row, by rw [low rfl this]; exact hw, h1⟩, hz⟩
  · intro r p o cv f h
    simp only [VR] at h ⊢
    obtain ⟨⟨bo, row, g, fs, cs, hw, h1, h2⟩, hz⟩ := h
    have := hne hw (.inl (by rintro rfl; simp at h1))
    exact ⟨⟨bo, row, g, fs, cs, by rw [low rfl this]; exact hw, h1, h2⟩, hz⟩
theorem CR_more {w : World} {Φ : Nat → Prop} {σ : Nat → Value} {ρ : List Value} (x : List Value) : ∀ (cs : List AV) (vs : List Value) (g : Cnt), CR P w Φ σ ρ cs vs g → CR P w Φ σ (ρ ++ x) cs vs g
  | [], vs, g, h => by simpa only [CR] using h
  | c :: cs, vs, g, h => by
    simp only [CR] at h ⊢
    obtain ⟨v, vs', f1, f2, e, h1, h2, hb⟩ := h
    exact ⟨v, vs', f1, f2, e, VR_more x _ _ _ h1, CR_more x _ _ _ h2, hb⟩
theorem St_in {e : Env} {ρ : List Value} {tmps : Array Value} {w : World} {Φ : Nat → Prop} {f : Cnt} (h : St P C V n e ρ tmps w Φ f) (hl : e.length = V.length) (k : Nat) :
    St P C (V ++ D) n (e ++ deads k) (ρ ++ List.replicate k unk) tmps w Φ f := by
  refine ⟨?_, ?_, h.inv, h.ext, h.sub, h.new, h.own, h.size⟩
  · have := CR_append (CR_more (List.replicate k unk) _ _ _ h.rel) (CR_undef (P := P) (w := w) (Φ := Φ) (σ := C.σ) (ρ := ρ ++ List.replicate k unk) k)
    simpa using this
  · intro j cv hj
    have hρ : ρ.length = V.length := by rw [← CR_length h.rel, hl]
    by_cases hjl : j < ρ.length
    · rw [List.getElem?_append_left hjl] at hj
      rcases h.lk j cv hj with h1 | ⟨t, ht, h2⟩
      · exact .inl h1
      · exact .inr ⟨t, by rw [List.getElem?_append_left (by omega)]; exact ht, h2⟩
    · rw [List.getElem?_append_right (by omega), List.getElem?_replicate] at hj
      split at hj
      · simp at hj; exact .inl hj.symm
      · cases hj
theorem CR_refree {w : World} {Φ : Nat → Prop} {σ : Nat → Value} {ρ : List Value} : ∀ {cs : List AV} {vs : List Value} {f : Cnt}, CR P w Φ σ ρ cs vs f → cs.any hasRef = false → hrs cs = false
  | [], vs, f, _, _ => rfl
  | c :: cs, vs, f, h, ha => by
    simp only [CR] at h
    obtain ⟨v, vs', f1, f2, rfl, h1, h2, _⟩ := h
    simp only [List.any_cons, Bool.or_eq_false_iff] at ha
    simp only [hrs, Bool.or_eq_false_iff]
    exact ⟨hasRef_hr h1 ha.1, CR_refree h2 ha.2⟩
theorem St_out {e : Env} {ρ : List Value} {tmps : Array Value} {w : World} {Φ : Nat → Prop} {f : Cnt} (h : St P C (V ++ D) n e ρ tmps w Φ f) (hr : (e.take V.length).any hasRef = false) :
    ∃ f', St P C V n (e.take V.length) (ρ.take V.length) tmps w Φ f' := by
  obtain ⟨f1, f2, h1, h2, hf⟩ := CR_take_drop V.length h.rel
  refine ⟨f1, CR_stab w Φ _ (fun _ _ => rfl) (fun _ h => h) _ _ _ (CR_refree h1 hr) (fun _ _ => rfl) h1, fun j cv hj => ?_, h.inv.le (fun b => by have := hf b; omega), h.ext, h.sub, h.new, fun b hb => h.own b (by have := hf b; omega), h.size⟩
  rw [List.getElem?_take] at hj
  split at hj
  · rename_i hjl
    rcases h.lk j cv hj with h1 | ⟨t, ht, h2⟩
    · exact .inl h1
    · exact .inr ⟨t, by rw [List.getElem?_append_left hjl] at ht; exact ht, h2⟩
  · cases hj
theorem St_drawn {e : Env} {ρ : List Value} {tmps : Array Value} {w : World} {Φ : Nat → Prop} {f : Cnt} (h : St P C V n e ρ tmps w Φ f) : St P C V n e ρ tmps { w with drawn := w.drawn + 1 } Φ f :=
  ⟨CR_ext2 (w := w) (w' := { w with drawn := w.drawn + 1 }) (fun _ _ => rfl) h.inv.fz _ _ _ h.inv.lt h.rel, h.lk, ⟨h.inv.sep, h.inv.lt, h.inv.fz, h.inv.apart, tabs_keep h.inv.tab (fun _ _ => rfl) (fun _ h => h)⟩, h.ext.trans ⟨rfl, rfl, rfl, Nat.le_refl _, fun _ _ _ => rfl⟩ h.own, h.sub, h.new, h.own, h.size⟩
theorem deads_getElem {k i : Nat} {ρ : List Value} (h1 : ρ.length ≤ i) (h2 : i < ρ.length + k) : (ρ ++ List.replicate k unk)[i]? = some unk := by
  rw [List.getElem?_append_right h1, List.getElem?_replicate, if_pos (by omega)]
theorem cnt_none {t k : Nat} : cntU (Array.replicate k false) t = t := by
  induction t with
  | zero => rfl
  | succ t ih =>
    simp only [cntU, ih]
    by_cases h : t < k
    · simp [h]
    · simp [Array.getElem?_eq_none, h]
theorem endOk_spec {m : Nat} {e : Env} (h : endOk m e = true) : (e.take m).length = m ∧ (e.take m).any hasRef = false := by
  simp only [endOk, Bool.and_eq_true, decide_eq_true_eq, Bool.not_eq_true'] at h
  exact ⟨by simp; omega, h.2⟩
theorem dropS_length {x : Opd} {e : Env} : (dropS x e).length = e.length := by cases x <;> simp [dropS]
theorem okCode_loop {c : Code} {b : SCode} (h : okCode P V n c (.loop b) = true) : ∃ c', c = .loop c' ∧ okCode P V n c' b = true := by
  cases c <;> simp [okCode] at h
  · exact ⟨_, rfl, h⟩
theorem St_freeze {e : Env} {ρ : List Value} {tmps : Array Value} {w : World} {Φ : Nat → Prop} {f : Cnt} (h : St P C V n e ρ tmps w Φ f) {j : Nat} {v v' : AV} (he : e[j]? = some v) (hf : frzTop v = some v') :
    ∃ Φ' f', St P C V n (e.set j v') ρ tmps w Φ' f' := by
  obtain ⟨cv, f1, f2, hcv, hv, hff, hset⟩ := CR_get j h.rel he
  have hd := hset .dead cv (fun _ => 0) (by simp only [VR]; intro b; trivial)
  have e1 : ρ.set j cv = ρ := set_same hcv
  rw [e1] at hd
  have lift : ∀ (Φ' : Nat → Prop), (∀ b, Φ b → Φ' b) → ∀ {cs : List AV} {vs : List Value} {g : Cnt}, CR P w Φ C.σ ρ cs vs g → CR P w Φ' C.σ ρ cs vs g := by
    intro Φ' hsub cs
    induction cs with
    | nil => intro vs g h; simpa only [CR] using h
    | cons c cs ih =>
      intro vs g h
      simp only [CR] at h ⊢
      obtain ⟨u, us, g1, g2, e, h1, h2, hb⟩ := h
      exact ⟨u, us, g1, g2, e, stab2 w Φ' ρ (fun _ _ => rfl) hsub (fun _ _ _ _ _ h => by simpa only [VR] using h) (fun _ _ _ _ _ h => by simpa only [VR] using h) (fun _ _ _ _ _ h => by simpa only [VR] using h) _ _ _ (fun _ _ => rfl) h1, ih h2, hb⟩
  have key : ∀ (g k : Cnt), (∀ b, f1 b = g b + k b) → (∀ Φ' : Nat → Prop, (∀ b, Φ b → Φ' b) → (∀ b, 1 ≤ g b → Φ' b) → VR P w Φ' C.σ ρ v' cv k) → ∃ Φ' f', St P C V n (e.set j v') ρ tmps w Φ' f' := by
    intro g k hgk hvr
    have hΦ' : ∀ b, Φ b → Φ b ∨ 1 ≤ g b := fun b hb => .inl hb
    have hd' := lift (fun b => Φ b ∨ 1 ≤ g b) hΦ' hd
    have hj : (e.set j .dead)[j]? = some .dead := by rw [List.getElem?_set_self (List.getElem?_eq_some_iff.1 he).1]
    obtain ⟨cv2, h1, h2, hcv2, hv2, hff2, hset2⟩ := CR_get j hd' hj
    rw [hcv] at hcv2
    obtain rfl := Option.some.inj hcv2
    have hn := hset2 v' cv k (hvr _ hΦ' (fun b hb => .inr hb))
    rw [List.set_set, e1] at hn
    have hz : ∀ b, h1 b = 0 := by simpa only [VR] using hv2
    refine ⟨fun b => Φ b ∨ 1 ≤ g b, _, ⟨hn, fun i c hi => h.lk i c hi, ⟨fun b => ?_, fun b hb => ?_, fun b hb => ?_, fun b hb => ?_, tabs_keep h.inv.tab (fun _ _ => rfl) hΦ'⟩, h.ext, fun b hb => .inl (h.sub b hb), fun b hb => ?_, fun b hb => ?_, h.size⟩⟩
    · have a1 := h.inv.sep b; have a2 := hff b; have a3 := hff2 b; have a4 := hgk b; have a5 := hz b
      show k b + h2 b ≤ 1; omega
    · have a2 := hff b; have a3 := hff2 b; have a4 := hgk b; have a5 := hz b
      have hb' : 1 ≤ k b + h2 b := hb
      exact h.inv.lt b (by omega)
    · have a2 := hff b; have a4 := hgk b
      rcases hb with hb | hb
      · exact h.inv.fz b hb
      · exact h.inv.lt b (by omega)
    · have a1 := h.inv.sep b; have a2 := hff b; have a3 := hff2 b; have a4 := hgk b; have a5 := hz b
      show k b + h2 b = 0
      rcases hb with hb | hb
      · have := h.inv.apart b hb; omega
      · omega
    · have a2 := hff b; have a4 := hgk b
      rcases hb with hb | hb
      · exact h.new b hb
      · have := h.own b (by omega)
        rcases this with h1 | h1
        · exact .inr (.inl h1)
        · exact .inr (.inr h1)
    · have a2 := hff b; have a3 := hff2 b; have a4 := hgk b; have a5 := hz b
      have hb' : 1 ≤ k b + h2 b := hb
      exact h.own b (by omega)
  have cells : ∀ (cs cs' : List AV) (vs : List Value) (g : Cnt) (Φ' : Nat → Prop), (∀ b, Φ b → Φ' b) → frzs cs = some cs' → CR P w Φ C.σ ρ cs vs g → (∀ b, 1 ≤ g b → Φ' b) → CR P w Φ' C.σ ρ cs' vs (fun _ => 0) ∧ hrs cs' = false := by
    intro cs
    induction cs with
    | nil => intro cs' vs g Φ' _ hz hc _; simp [frzs] at hz; subst hz; simp only [CR] at hc; obtain ⟨rfl, _⟩ := hc; exact ⟨CR_nil, rfl⟩
    | cons c cs ih =>
      intro cs' vs g Φ' hsub hz hc hg
      simp only [frzs] at hz
      cases h1 : frzC c with
      | none => rw [h1] at hz; cases hz
      | some c' =>
        rw [h1] at hz
        cases h2 : frzs cs with
        | none => rw [h2] at hz; cases hz
        | some cs2 =>
          rw [h2] at hz
          obtain rfl := Option.some.inj hz
          simp only [CR] at hc
          obtain ⟨u, us, g1, g2, rfl, hu, hus, hb⟩ := hc
          obtain ⟨k1, k2⟩ := frz_rel Φ' hsub c c' u g1 h1 (fun b hb1 => hg b (by have := hb b; omega)) hu
          obtain ⟨k3, k4⟩ := ih cs2 us g2 Φ' hsub h2 hus (fun b hb1 => hg b (by have := hb b; omega))
          refine ⟨?_, by simp only [hrs, Bool.or_eq_false_iff]; exact ⟨isFz_hr k1, k4⟩⟩
          have := CR_cons (k2 (fun _ => 0) (fun _ => rfl)) k3
          simpa using this
  cases v with
  | osl s t m cs =>
    simp only [frzTop] at hf
    exact key f1 (fun _ => 0) (fun b => by simp) fun Φ' hsub hg => (frz_rel Φ' hsub _ _ _ _ hf hg hv).2 _ (fun _ => rfl)
  | bx s t cs =>
    simp only [frzTop] at hf
    cases h1 : frzs cs with
    | none => rw [h1] at hf; cases hf
    | some cs' =>
      rw [h1] at hf
      obtain rfl := Option.some.inj hf
      simp only [VR] at hv
      obtain ⟨hs, hx, b0, arr, g, rfl, hg0, hc, hb⟩ := hv
      refine key g (fun b => if b = b0 then 1 else 0) (fun b => by rw [hb b]; omega) fun Φ' hsub hg => ?_
      obtain ⟨k1, k2⟩ := cells cs cs' _ g Φ' hsub h1 hc hg
      simp only [VR]
      exact ⟨hs, k2, b0, arr, fun _ => 0, rfl, hg0, k1, fun b => by simp⟩
  | agg cs =>
    simp only [frzTop] at hf
    cases h1 : frzs cs with
    | none => rw [h1] at hf; cases hf
    | some cs' =>
      rw [h1] at hf
      obtain rfl := Option.some.inj hf
      simp only [VR] at hv
      obtain ⟨arr, rfl, hc⟩ := hv
      refine key f1 (fun _ => 0) (fun b => by simp) fun Φ' hsub hg => ?_
      simp only [VR]
      exact ⟨arr, rfl, (cells cs cs' _ f1 Φ' hsub h1 hc hg).1⟩
  | _ => simp [frzTop] at hf
structure RunsOk (P : Program) (C : Cx) (V : List Nat) (n : Nat) (sc : SCode) (e : Env) (ex : Exit) (e2 : Env) : Prop where
  len : e2.length = V.length
  wp : ∀ (c : Code), okCode P V n c sc = true → ∀ ρ tmps w Φ f, St P C V n e ρ tmps w Φ f → c.wp P (Post P C V n ex e2) ⟨tmps, []⟩ w
  loop : ∀ b, sc = .loop b → ∃ k, ∀ (c : Code), okCode P V n c b = true → ∀ ρ tmps w Φ f, St P C V n e ρ tmps w Φ f → Code.rounds P c (Post P C V n ex e2) k ⟨tmps, []⟩ w
theorem dreg_sound {D : List Nat} {ops : List SOpr} {sees : List (List Nat)} {t : Nat} {cons : List (Nat × Nat)} {info : List (List Bool × Option (List Nat))} {fin : List Bool} {e e2 : Env} {id : Nat} {os : Array Oper} {ρ : List Value} {tmps : Array Value} {w : World} {Φ : Nat → Prop} {f : Cnt}
    {Q : Exit → Act → World → Prop} (hl : e.length = V.length) (hnd : nodupB (V ++ D) = true) (hok : okOprs P V D n os 0 os.toList ops = true) (hsee : okSee os sees t = true) (ht : t ≤ ops.length) (hmix : P.follows .mixedOrders = true) (hco : okConsB cons sees t = true) (hinf : okInfo cons sees t info fin = true)
    (hst : St P C V n e ρ tmps w Φ f) (h : DRunB P e (ops.take t) info [] fun vs => SRun P V.length t (ops.drop t) (e ++ maskB fin vs ++ deads (ops.length - t)) (fun e1 => e1 = e2))
    (hQ : ∀ ρ1 tmps1 w1 Φ1 f1, St P C (V ++ D) n e2 ρ1 tmps1 w1 Φ1 f1 → Q .normal ⟨tmps1, []⟩ w1) : (Code.region id os true).wp P Q ⟨tmps, []⟩ w := by
  simp only [okInfo, Bool.and_eq_true, List.all_eq_true, List.mem_range, beq_iff_eq] at hinf
  replace h := DRunB_DRun (cons := cons) (S := sees) (sees := sees) (fun i hi => by simpa using hinf.1 i (by simp at hi; omega)) h
  have hρ : ρ.length = V.length := by rw [← CR_length hst.rel]; omega
  have hos : os.size = ops.length := by have := okOprs_length hok; simpa using this
  obtain ⟨vs, hvl, ⟨ws, hws⟩, htail, hvals⟩ := DRun_vals h
  simp only [List.length_nil, Nat.zero_add, List.length_take] at hvl
  have hvt : vs.length = t := by omega
  rw [hinf.2, List.range_eq_range', maskB_P hvt] at htail
  have hst0 := St_drawn (St_in (D := D) hst (by omega) ops.length)
  refine wp_region_any hmix (draw_head (C := C) (Q := fun e1 => e1 = e2) (e := e) (vs := vs) (nodupB_spec hnd) hok hsee hco (by omega) (by omega) hvt (fun e1 ρ1 tmps1 w1 Φ1 f1 hst1 he1 => ?_) (fun k so hk hso => ?_) ?_ os.size _ (ρ ++ List.replicate ops.length unk) tmps _ Φ f (by simp) (fun j _ hj => by simp [hj]) (by rw [cnt_none]; omega)
    (fun y hy hly => by simp [hy] at hly) ?_ (fun j hj _ => deads_getElem (by omega) (by omega)))
  · subst he1
    exact hQ _ _ _ _ _ hst1
  · have := hvals k so (by rw [List.getElem?_take, if_pos hk]; exact hso)
    simpa using this
  · rw [hos]; exact htail
  · have : envP e (vis cons (Array.replicate os.size false)) vs (os.size - t) = e ++ deads ops.length := by
      have hmask : maskP (vis cons (Array.replicate os.size false)) 0 vs = deads t := by
        apply List.ext_getElem?
        intro i
        rw [maskP_get]
        simp only [deads, List.getElem?_replicate, Nat.zero_add]
        by_cases hi : i < t
        · rw [if_pos hi, List.getElem?_eq_getElem (by omega)]
          have : vis cons (Array.replicate os.size false) i = false := by simp [vis, show i < os.size by omega]
          simp [this]
        · rw [if_neg hi, List.getElem?_eq_none (by omega)]; rfl
      rw [envP, hmask, deads, deads, List.append_assoc, List.replicate_append_replicate, hos]
      congr 2
      omega
    rw [this]
    exact hst0
theorem any_hrs {e : Env} {ρ : List Value} {w : World} {Φ : Nat → Prop} {σ : Nat → Value} {f : Cnt} (h : CR P w Φ σ ρ e ρ f) (hr : e.any hasRef = false) : hrs e = false := CR_refree h hr
theorem St_dummy {e : Env} {ρ : List Value} {tmps : Array Value} {w : World} {Φ : Nat → Prop} {f : Cnt} {j : Nat} (h : St P C V n e ρ tmps w Φ f) (hl : e.length = V.length) (hr : e.any hasRef = false) (hd : e[j]? = some .dead) :
    St P C (V.set j (n + 999)) n e (ρ.set j unk) tmps w Φ f := by
  have s := CR_stab w Φ (ρ.set j unk) (fun _ _ => rfl) (fun _ h => h) _ _ _ (CR_refree h.rel hr) (fun _ _ => rfl) h.rel
  obtain ⟨cv, f1, f2, hcv, hv, hf, hset⟩ := CR_get j s hd
  have z : ∀ b, f1 b = 0 := by simpa only [VR] using hv
  have s2 := hset .dead unk (fun _ => 0) (by simp [VR])
  have e1 : e.set j .dead = e := by
    apply List.ext_getElem?
    intro i
    rw [List.getElem?_set]
    split
    · rename_i h; subst h
      have hj := (List.getElem?_eq_some_iff.1 hd).1
      rw [if_pos hj, hd]
    · rfl
  rw [e1, show (fun b => 0 + f2 b) = f from funext fun b => by have := hf b; have := z b; omega] at s2
  refine ⟨s2, fun i u hi => ?_, h.inv, h.ext, h.sub, h.new, h.own, h.size⟩
  rw [List.getElem?_set] at hi
  split at hi
  · split at hi
    · exact .inl (Option.some.inj hi).symm
    · cases hi
  · rename_i hne
    rcases h.lk i u hi with h1 | ⟨t, ht, h2⟩
    · exact .inl h1
    · exact .inr ⟨t, by rw [List.getElem?_set_ne hne]; exact ht, h2⟩
theorem St_moved {e : Env} {ρ : List Value} {tmps : Array Value} {w : World} {Φ : Nat → Prop} {f : Cnt} {j k x : Nat} {v : AV} (h : St P C (V.set j x ++ D) n e ρ tmps w Φ f) (hr : (e.take V.length).any hasRef = false) (hj : j < V.length) (hjk : V[j]? = D[k]?) (hk : k < D.length)
    (hv : e[V.length + k]? = some v) (hvr : hasRef v = false) : ∃ ρ' f', St P C V n ((e.take V.length).set j v) ρ' tmps w Φ f' := by
  obtain ⟨f1, f2, h1, h2, hf⟩ := CR_take_drop V.length h.rel
  obtain ⟨cv, g1, g2, hcv, hvr1, hg, _⟩ := CR_get k h2 (by rw [List.getElem?_drop]; exact hv)
  have hcv' : ρ[V.length + k]? = some cv := by rw [List.getElem?_drop] at hcv; exact hcv
  have s1 := CR_stab w Φ ((ρ.take V.length).set j cv) (fun _ _ => rfl) (fun _ h => h) _ _ _ (CR_refree h1 hr) (fun _ _ => rfl) h1
  have s2 := stab w Φ ((ρ.take V.length).set j cv) (fun _ _ => rfl) (fun _ h => h) v cv g1 (hasRef_hr hvr1 hvr) (fun _ _ => rfl) hvr1
  have hlen : V.length ≤ e.length := by have := (List.getElem?_eq_some_iff.1 hv).1; omega
  obtain ⟨g, hg1, hg2⟩ := CR_set s1 s2 (i := j) (by simp; omega)
  have hle : ∀ b, g b ≤ f b := fun b => by have := hg2 b; have := hf b; have := hg b; omega
  refine ⟨(ρ.take V.length).set j cv, g, ⟨hg1, fun i u hi => ?_, h.inv.le hle, h.ext, h.sub, h.new, fun b hb => h.own b (Nat.le_trans hb (hle b)), h.size⟩⟩
  rw [List.getElem?_set] at hi
  split at hi
  · rename_i hij
    subst hij
    split at hi
    · have hu := Option.some.inj hi
      subst hu
      rcases h.lk _ _ hcv' with h1 | ⟨t, ht, h2⟩
      · exact .inl h1
      · refine .inr ⟨t, ?_, h2⟩
        rw [List.getElem?_append_right (by simp)] at ht
        simp at ht
        rw [hjk]; exact ht
    · cases hi
  · rename_i hne
    rw [List.getElem?_take] at hi
    split at hi
    · rename_i hil
      rcases h.lk i u hi with h1 | ⟨t, ht, h2⟩
      · exact .inl h1
      · rw [List.getElem?_append_left (by simpa using hil), List.getElem?_set_ne hne] at ht
        exact .inr ⟨t, ht, h2⟩
    · cases hi
theorem Runs_sound {m : Nat} (hm : m = V.length) {sc : SCode} {e e2 : Env} {ex : Exit} (h : Runs P m sc e ex e2) : e.length = m → RunsOk P C V n sc e ex e2 := by
  induction h with
  | skip =>
    intro hl
    refine ⟨by omega, fun c hc ρ tmps w Φ f hst => ?_, fun b hb => by cases hb⟩
    cases c <;> simp [okCode] at hc
    · exact wp_skip ⟨rfl, ρ, tmps, Φ, f, rfl, hst⟩
  | reg h hr =>
    rename_i D ops e e2
    intro hl
    obtain ⟨h1, h2⟩ := endOk_spec hr
    refine ⟨by omega, fun c hc ρ tmps w Φ f hst => ?_, fun b hb => by cases hb⟩
    cases c <;> try (simp [okCode] at hc; done)
    rename_i id os dr
    cases dr <;> simp [okCode] at hc
    obtain ⟨⟨hnd, hDl⟩, hok⟩ := hc
    have hρ : ρ.length = V.length := by rw [← CR_length hst.rel]; omega
    refine wp_region_list (SRun_sound (C := C) (nodupB_spec hnd) (Q := fun e1 => e1 = e2) (fun e1 ρ1 tmps1 w1 Φ1 f1 hst1 he1 => ?_) ops os.toList 0 _ _ tmps w Φ f hok (St_in hst (by omega) ops.length) (by simp [deads]; omega) (fun i hi hi2 => ?_) (by rw [← hm]; exact h))
    · subst he1
      rw [hm] at h2 ⊢
      obtain ⟨f', hst'⟩ := St_out hst1 h2
      exact ⟨rfl, _, _, _, _, rfl, hst'⟩
    · simp at hi2
      exact deads_getElem (by omega) (by omega)
  | dreg h hr =>
    rename_i D ops sees t cons info fin e e2
    intro hl
    obtain ⟨h1, h2⟩ := endOk_spec hr
    refine ⟨by omega, fun c hc ρ tmps w Φ f hst => ?_, fun b hb => by cases hb⟩
    cases c <;> try (simp [okCode] at hc; done)
    rename_i id os dr
    cases dr <;> simp [okCode] at hc
    obtain ⟨⟨⟨⟨⟨⟨⟨hnd, hDl⟩, hok⟩, hsee⟩, ht⟩, hmix⟩, hco⟩, hinf⟩ := hc
    simp only [okInfo, Bool.and_eq_true, List.all_eq_true, List.mem_range, beq_iff_eq] at hinf
    refine dreg_sound (e2 := e2) (by omega) hnd hok hsee ht hmix hco (by simpa [okInfo] using hinf) hst (hm ▸ h) fun ρ1 tmps1 w1 Φ1 f1 hst1 => ?_
    rw [hm] at h2 ⊢
    obtain ⟨f', hst'⟩ := St_out hst1 h2
    exact ⟨rfl, _, _, _, _, rfl, hst'⟩
  | dregm hd h hr hv =>
    rename_i j k D ops sees t cons info fin e e2 e3
    intro hl
    obtain ⟨h1, h2⟩ := endOk_spec hr
    unfold mvEnd at hv
    split at hv
    · rename_i v hkv
      split at hv
      · cases hv
      · rename_i hvr
        simp only [Option.some.injEq] at hv
        subst hv
        refine ⟨by rw [List.length_set]; omega, fun c hc ρ tmps w Φ f hst => ?_, fun b hb => by cases hb⟩
        cases c <;> try (simp [okCode] at hc; done)
        rename_i id os dr
        cases dr <;> simp [okCode] at hc
        obtain ⟨⟨⟨⟨⟨⟨⟨⟨⟨⟨hj, hjk⟩, hk⟩, hnd⟩, hDl⟩, hok⟩, hsee⟩, ht⟩, hmix⟩, hco⟩, hinf⟩ := hc
        have hst' := St_dummy hst (by omega) hd.1 hd.2
        refine dreg_sound (e2 := e2) (by simp; omega) hnd hok hsee ht hmix hco (by simpa [okInfo] using hinf) hst' (by simpa [hm] using h) fun ρ1 tmps1 w1 Φ1 f1 hst1 => ?_
        rw [hm] at h2 hkv ⊢
        obtain ⟨ρ2, f', hst2⟩ := St_moved hst1 h2 hj hjk hk hkv (by simpa using hvr)
        exact ⟨rfl, _, _, _, _, rfl, hst2⟩
    · cases hv
  | seq h1 h2 ih1 ih2 =>
    rename_i a b e e1 e2 ex
    intro hl
    have i1 := ih1 hl
    have i2 := ih2 (by rw [i1.len, hm])
    refine ⟨i2.len, fun c hc ρ tmps w Φ f hst => ?_, fun b hb => by cases hb⟩
    cases c <;> try (simp [okCode] at hc; done)
    · rename_i x y
      simp only [okCode, Bool.and_eq_true] at hc
      refine wp_seq (wp_mono (i1.wp x hc.1 ρ tmps w Φ f hst) ?_)
      rintro ex' a' w' ⟨rfl, ρ1, tmps1, Φ1, f1, rfl, hst1⟩
      exact i2.wp y hc.2 ρ1 tmps1 w' Φ1 f1 hst1
  | seqOut h1 hx ih1 =>
    rename_i a b e e1 ex
    intro hl
    have i1 := ih1 hl
    refine ⟨i1.len, fun c hc ρ tmps w Φ f hst => ?_, fun b hb => by cases hb⟩
    cases c <;> try (simp [okCode] at hc; done)
    · rename_i x y
      simp only [okCode, Bool.and_eq_true] at hc
      refine wp_seq (wp_mono (i1.wp x hc.1 ρ tmps w Φ f hst) ?_)
      rintro ex' a' w' ⟨rfl, hrest⟩
      cases ex' <;> first | exact absurd rfl hx | exact ⟨rfl, hrest⟩
  | cond hx h ih =>
    rename_i x a b e e2 ex t
    intro hl
    have i1 := ih (by rw [dropS_length, hl])
    refine ⟨i1.len, fun c hc ρ tmps w Φ f hst => ?_, fun b hb => by cases hb⟩
    cases c <;> try (simp [okCode] at hc; done)
    · rename_i cx y z
      simp only [okCode, Bool.and_eq_true] at hc
      obtain ⟨⟨hc1, hc2⟩, hc3⟩ := hc
      have hv := VR_bool (ev_rel (a := ⟨tmps, []⟩) hst.rel hst.lk hc1 hx (fun _ => 0) (fun _ => rfl))
      obtain ⟨f', hst'⟩ := St_drop (x := x) hst
      refine wp_cond hv ?_
      cases t
      · exact i1.wp z hc3 ρ tmps w Φ f' hst'
      · exact i1.wp y hc2 ρ tmps w Φ f' hst'
  | condk hx h ih =>
    rename_i x a b e e2 ex t
    intro hl
    have i1 := ih hl
    refine ⟨i1.len, fun c hc ρ tmps w Φ f hst => ?_, fun b hb => by cases hb⟩
    cases c <;> try (simp [okCode] at hc; done)
    · rename_i cx y z
      simp only [okCode, Bool.and_eq_true] at hc
      obtain ⟨⟨hc1, hc2⟩, hc3⟩ := hc
      have hv := VR_bool (ev_rel (a := ⟨tmps, []⟩) hst.rel hst.lk hc1 hx (fun _ => 0) (fun _ => rfl))
      refine wp_cond hv ?_
      cases t
      · exact i1.wp z hc3 ρ tmps w Φ f hst
      · exact i1.wp y hc2 ρ tmps w Φ f hst
  | block h ih =>
    rename_i id b e e2 ex
    intro hl
    have i1 := ih hl
    refine ⟨i1.len, fun c hc ρ tmps w Φ f hst => ?_, fun b hb => by cases hb⟩
    cases c <;> try (simp [okCode] at hc; done)
    · rename_i id' y
      simp only [okCode, Bool.and_eq_true, beq_iff_eq] at hc
      obtain ⟨rfl, hc⟩ := hc
      refine wp_block (wp_mono (i1.wp y hc ρ tmps w Φ f hst) ?_)
      rintro ex' a' w' ⟨rfl, hrest⟩
      cases ex' <;> try exact ⟨rfl, hrest⟩
      rename_i i
      simp only [Exit.inBlock, outOf]
      split
      · exact ⟨rfl, hrest⟩
      · exact ⟨rfl, hrest⟩
  | loop h1 h2 ih1 ih2 =>
    rename_i b e e1 e2 ex
    intro hl
    have i1 := ih1 hl
    have i2 := ih2 (by rw [i1.len, hm])
    obtain ⟨k, hk⟩ := i2.loop b rfl
    have go : ∀ (c : Code), okCode P V n c b = true → ∀ ρ tmps w Φ f, St P C V n e ρ tmps w Φ f → Code.rounds P c (Post P C V n ex e2) (k + 1) ⟨tmps, []⟩ w := by
      intro c hc ρ tmps w Φ f hst
      rw [rounds_succ]
      refine wp_mono (i1.wp c hc ρ tmps w Φ f hst) ?_
      rintro ex' a' w' ⟨rfl, ρ1, tmps1, Φ1, f1, rfl, hst1⟩
      exact hk c hc ρ1 tmps1 w' Φ1 f1 hst1
    refine ⟨i2.len, fun c hc ρ tmps w Φ f hst => ?_, fun b' hb => ?_⟩
    · obtain ⟨c', rfl, hc'⟩ := okCode_loop hc
      exact wp_loop_rounds (k + 1) (go c' hc' ρ tmps w Φ f hst)
    · cases hb; exact ⟨k + 1, go⟩
  | loopOut h1 hx ih1 =>
    rename_i b e e1 ex
    intro hl
    have i1 := ih1 hl
    have go : ∀ (c : Code), okCode P V n c b = true → ∀ ρ tmps w Φ f, St P C V n e ρ tmps w Φ f → Code.rounds P c (Post P C V n ex e1) 1 ⟨tmps, []⟩ w := by
      intro c hc ρ tmps w Φ f hst
      rw [rounds_succ]
      refine wp_mono (i1.wp c hc ρ tmps w Φ f hst) ?_
      rintro ex' a' w' ⟨rfl, hrest⟩
      cases ex' <;> first | exact absurd rfl hx | exact ⟨rfl, hrest⟩
    refine ⟨i1.len, fun c hc ρ tmps w Φ f hst => ?_, fun b' hb => ?_⟩
    · obtain ⟨c', rfl, hc'⟩ := okCode_loop hc
      exact wp_loop_rounds 1 (go c' hc' ρ tmps w Φ f hst)
    · cases hb; exact ⟨1, go⟩
  | forget j h1 ih1 =>
    intro hl
    have i1 := ih1 (by simpa using hl)
    refine ⟨i1.len, fun c hc ρ tmps w Φ f hst => ?_, fun b hb => ?_⟩
    · obtain ⟨f', hst'⟩ := St_drop (x := .slot j) hst
      exact i1.wp c hc ρ tmps w Φ f' hst'
    · obtain ⟨k, hk⟩ := i1.loop b hb
      refine ⟨k, fun c hc ρ tmps w Φ f hst => ?_⟩
      obtain ⟨f', hst'⟩ := St_drop (x := .slot j) hst
      exact hk c hc ρ tmps w Φ f' hst'
  | frz he hf h1 ih1 =>
    intro hl
    have i1 := ih1 (by simpa using hl)
    refine ⟨i1.len, fun c hc ρ tmps w Φ f hst => ?_, fun b hb => by cases hb⟩
    obtain ⟨Φ', f', hst'⟩ := St_freeze hst he hf
    exact i1.wp c (by simpa only [okCode] using hc) ρ tmps w Φ' f' hst'
  | freeze j v v' he hf h1 ih1 =>
    intro hl
    have i1 := ih1 (by simpa using hl)
    refine ⟨i1.len, fun c hc ρ tmps w Φ f hst => ?_, fun b hb => ?_⟩
    · obtain ⟨Φ', f', hst'⟩ := St_freeze hst he hf
      exact i1.wp c hc ρ tmps w Φ' f' hst'
    · obtain ⟨k, hk⟩ := i1.loop b hb
      refine ⟨k, fun c hc ρ tmps w Φ f hst => ?_⟩
      obtain ⟨Φ', f', hst'⟩ := St_freeze hst he hf
      exact hk c hc ρ tmps w Φ' f' hst'
  | exit =>
    intro hl
    refine ⟨by omega, fun c hc ρ tmps w Φ f hst => ?_, fun b hb => by cases hb⟩
    cases c <;> try (simp [okCode] at hc; done)
    · simp [okCode] at hc; subst hc
      exact wp_exit ⟨rfl, ρ, tmps, Φ, f, rfl, hst⟩
  | ret =>
    intro hl
    refine ⟨by omega, fun c hc ρ tmps w Φ f hst => ?_, fun b hb => by cases hb⟩
    cases c <;> try (simp [okCode] at hc; done)
    · exact wp_ret ⟨rfl, ρ, tmps, Φ, f, rfl, hst⟩
end
end Go.AM

/- From a function's body to what its calls say; rules to walk by. -/
set_option linter.unusedSimpArgs false
set_option linter.unusedVariables false
set_option linter.unusedSectionVars false
namespace Go.AM
open Go
inductive SRes where
  | tmp (j : Nat)
  | cell (j sz : Nat) (ag : Bool)
def isVal : AV → Bool
  | .dead => false
  | .gone => false
  | .tup _ _ => false
  | _ => true
def resT (e : Env) : SRes → Option (AV × Env)
  | .tmp j => match e[j]? with
    | some v => if hasRef v = false ∧ isVal v = true then some (v, e.set j .dead) else none
    | none => none
  | .cell j sz ag => match e[j]? with
    | some (.bx _ _ cs) => if cs.length = sz then match mkv ag cs with
        | some v => if isVal v = true then some (v, e.set j .dead) else none
        | none => none
      else none
    | _ => none
def resX : Env → List SRes → Option (List AV)
  | _, [] => some []
  | e, r :: rs => match resT e r with
    | some (v, e') => match resX e' rs with
      | some vs => some (v :: vs)
      | none => none
    | none => none
def resY : Env → List SRes → Option (List AV × Env)
  | e, [] => some ([], e)
  | e, r :: rs => match resT e r with
    | some (v, e') => match resY e' rs with
      | some (vs, e2) => some (v :: vs, e2)
      | none => none
    | none => none
def isS (s : Nat) : AV → Bool
  | .osl s' _ _ _ => s' == s
  | .bx s' _ _ => s' == s
  | _ => false
def takeL (s : Nat) : List AV → Option (AV × List AV)
  | [] => none
  | c :: cs => if isS s c = true then some (c, .gone :: cs) else match takeL s cs with
    | some (v, cs') => some (v, c :: cs')
    | none => none
def takeI (s : Nat) : AV → Option (AV × AV)
  | .bx t k cs => match takeL s cs with
    | some (v, cs') => some (v, .bx t k cs')
    | none => none
  | .agg cs => match takeL s cs with
    | some (v, cs') => some (v, .agg cs')
    | none => none
  | .fn g cs => match takeL s cs with
    | some (v, cs') => some (v, .fn g cs')
    | none => none
  | _ => none
def takeE (s : Nat) : Env → Option (AV × Env)
  | [] => none
  | c :: cs => if isS s c = true then some (c, .gone :: cs) else match takeI s c with
    | some (v, c') => some (v, c' :: cs)
    | none => match takeE s cs with
      | some (v, cs') => some (v, c :: cs')
      | none => none
def outsX : Env → List Nat → Option (List AV)
  | _, [] => some []
  | e, s :: ss => match takeE s e with
    | some (v, e') => match outsX e' ss with
      | some vs => some (v :: vs)
      | none => none
    | none => none
def shA : AV → Option Nat
  | .agg cs => some cs.length
  | _ => none
def tupOf : List AV → AV
  | [v] => v
  | vs => .tup (vs.map shA) (vs.flatMap cellsOf)
def okRes (P : Program) (V : List Nat) (n : Nat) : List ResultVar → List SRes → Bool
  | [], [] => true
  | .tmp t :: rs, .tmp j :: ss => V[j]? == some t && decide (t < n) && okRes P V n rs ss
  | .cell a t :: rs, .cell j sz ag :: ss => V[j]? == some a && decide (a < n) && isAggP P t == some ag && (if ag then szOf P t == some sz else sz == 1) && okRes P V n rs ss
  | _, _ => false
def okFn (P : Program) (fn : Func) (V : List Nat) (sc : SCode) (rs : List SRes) (k : Nat) : Bool :=
  (match fn.body with | some c => okCode P V fn.ntmps c sc | none => false) && nodupB V && (V.take k == List.range k) && decide (k ≤ V.length) && decide (k ≤ fn.ntmps) && okRes P V fn.ntmps fn.results.toList rs
section
variable {P : Program} {w : World} {Φ : Nat → Prop} {σ : Nat → Value} {ρ : List Value}
theorem mkv_rel2 {ag : Bool} {cs : List AV} {v : AV} {us : List Value} {f : Cnt} (hm : mkv ag cs = some v) (hc : CR P w Φ σ ρ cs us f) :
    VR P w Φ σ ρ v (if ag then .agg us.toArray else us.headD undef) f := by
  cases ag with
  | true =>
    simp [mkv] at hm; subst hm
    simp only [if_true, VR]
    exact ⟨_, rfl, by simpa using hc⟩
  | false =>
    simp [mkv] at hm
    split at hm
    · rename_i c
      simp at hm; subst hm
      simp only [CR] at hc
      obtain ⟨u, us', f1, f2, rfl, h1, ⟨rfl, h2⟩, h3⟩ := hc
      have : f1 = f := funext fun b => by have := h3 b; have := h2 b; omega
      simpa [this] using h1
    · cases hm
def res1 (tmps : Array Value) : ResultVar → Sem Value
  | .tmp t => pure (tmps.getD t undef)
  | .cell a t => do loadVar t (← asAddr (tmps.getD a undef))
theorem hr_mkv {ag : Bool} {cs : List AV} {v : AV} (h : hrs cs = false) (hm : mkv ag cs = some v) : hr v = false := by
  cases ag with
  | true => simp [mkv] at hm; subst hm; simpa only [hr] using h
  | false =>
    simp [mkv] at hm
    split at hm
    · simp at hm; subst hm; simpa [hrs] using h
    · cases hm
theorem VR_val {v : AV} {f : Cnt} (hv : isVal v = true) (h : VR P w Φ σ ρ v unk f) : False := by
  cases v <;> simp only [VR] at h
  · simp [isVal] at hv
  · simp [isVal] at hv
  · have := h.1; cases this
  · have := h.1; cases this
  · have := h.1; cases this
  · obtain ⟨vs, e, _⟩ := h; cases e
  · have := h.1; cases this
  · obtain ⟨⟨a, c, e, _⟩, _⟩ := h; cases e
  · obtain ⟨⟨a, c, e, _⟩, _⟩ := h; cases e
  · obtain ⟨⟨a, e, _⟩, _⟩ := h; cases e
  · obtain ⟨_, _, xs, f1, ho, _⟩ := h; obtain ⟨a, c, e, _⟩ := ownsRow_slice ho; cases e
  · obtain ⟨_, _, b0, arr, f1, e, _⟩ := h; cases e
  · obtain ⟨arr, e, _⟩ := h; cases e
  · simp [isVal] at hv
  · obtain ⟨⟨bo, row, a, n, c, _, _, e⟩, _⟩ := h; cases e
  · obtain ⟨⟨b0, row, _, e⟩, _⟩ := h; cases e
  · obtain ⟨⟨bo, row, g, fs, cs, _, _, e⟩, _⟩ := h; cases e
  · obtain ⟨⟨bo, row, a, n, c, _, _, _, e⟩, _⟩ := h; cases e
theorem VR_cells {v : AV} {cv : Value} {f : Cnt} (hv : isVal v = true) (h : VR P w Φ σ ρ v cv f) : shp cv = shA v ∧ CR P w Φ σ ρ (cellsOf v) cv.cells.toList f := by
  have one : ∀ {v : AV}, cellsOf v = [v] → shA v = none → VR P w Φ σ ρ v cv f → shp cv = none → cv.cells.toList = [cv] → shp cv = shA v ∧ CR P w Φ σ ρ (cellsOf v) cv.cells.toList f := by
    intro v h1 h2 h3 h4 h5
    rw [h1, h2, h4, h5]
    refine ⟨rfl, ?_⟩
    have := CR_cons h3 (CR_nil (P := P) (w := w) (Φ := Φ) (σ := σ) (ρ := ρ))
    simpa using this
  have h0 := h
  cases v <;> simp only [VR] at h
  · simp [isVal] at hv
  · simp [isVal] at hv
  · obtain ⟨rfl, _⟩ := h; exact one rfl rfl h0 rfl rfl
  · obtain ⟨rfl, _⟩ := h; exact one rfl rfl h0 rfl rfl
  · obtain ⟨rfl, _⟩ := h; exact one rfl rfl h0 rfl rfl
  · obtain ⟨vs, rfl, _⟩ := h; exact one rfl rfl h0 rfl rfl
  · obtain ⟨rfl, _⟩ := h; exact one rfl rfl h0 rfl rfl
  · obtain ⟨⟨a, c, rfl, _⟩, _⟩ := h; exact one rfl rfl h0 rfl rfl
  · obtain ⟨⟨a, c, rfl, _⟩, _⟩ := h; exact one rfl rfl h0 rfl rfl
  · obtain ⟨⟨a, rfl, _⟩, _⟩ := h; exact one rfl rfl h0 rfl rfl
  · obtain ⟨_, _, xs, f1, ho, _⟩ := h; obtain ⟨a, c, rfl, _⟩ := ownsRow_slice ho; exact one rfl rfl h0 rfl rfl
  · obtain ⟨_, _, b0, arr, f1, rfl, _⟩ := h; exact one rfl rfl h0 rfl rfl
  · obtain ⟨arr, rfl, h1⟩ := h
    exact ⟨by simp [shp, shA, CR_length h1], h1⟩
  · simp [isVal] at hv
  · obtain ⟨⟨bo, row, a, n, c, _, _, rfl⟩, _⟩ := h; exact one rfl rfl h0 rfl rfl
  · obtain ⟨⟨b0, row, _, rfl⟩, _⟩ := h; exact one rfl rfl h0 rfl rfl
  · obtain ⟨⟨bo, row, g, fs, cs, _, _, rfl⟩, _⟩ := h; exact one rfl rfl h0 rfl rfl
  · obtain ⟨⟨bo, row, a, n, c, _, _, _, rfl⟩, _⟩ := h; exact one rfl rfl h0 rfl rfl
theorem resT_rel {V : List Nat} {n : Nat} {rv : ResultVar} {r : SRes} {e e' : Env} {v : AV} {tmps : Array Value} {f : Cnt} (hok : okRes P V n [rv] [r] = true) (hrel : CR P w Φ σ ρ e ρ f) (hl : LK V ρ e tmps) (hx : resT e r = some (v, e')) :
    ∃ cv f1 f2, (res1 tmps rv).run P w = .ok cv w ∧ VR P w Φ σ ρ v cv f1 ∧ hr v = false ∧ isVal v = true ∧ CR P w Φ σ ρ e' ρ f2 ∧ ∀ b, f1 b + f2 b ≤ f b := by
  have lkv : ∀ {j t : Nat} {cv : Value}, V[j]? = some t → ρ[j]? = some cv → cv ≠ unk → tmps.getD t undef = cv := by
    intro j t cv hj hc hne
    rcases hl j cv hc with h | ⟨t', ht, h⟩
    · exact absurd h hne
    · rw [hj] at ht; cases ht; exact h
  have drop : ∀ {j : Nat} {u : AV}, e[j]? = some u → ∃ cv f1 f2, ρ[j]? = some cv ∧ VR P w Φ σ ρ u cv f1 ∧ (∀ b, f b = f1 b + f2 b) ∧ CR P w Φ σ ρ (e.set j .dead) ρ f2 := by
    intro j u hj
    obtain ⟨cv, f1, f2, hv, hvr, hf, hset⟩ := CR_get j hrel hj
    have := hset .dead cv (fun _ => 0) (by simp [VR])
    rw [set_same hv] at this
    simp only [Nat.zero_add] at this
    exact ⟨cv, f1, f2, hv, hvr, hf, this⟩
  cases r with
  | tmp j =>
    cases rv <;> simp [okRes] at hok
    rename_i t
    simp only [resT] at hx
    split at hx
    · rename_i u hu
      split at hx
      · rename_i hc
        simp at hx
        obtain ⟨rfl, rfl⟩ := hx
        obtain ⟨cv, f1, f2, hv, hvr, hf, hset⟩ := drop hu
        refine ⟨tmps.getD t undef, f1, f2, rfl, ?_, hasRef_hr hvr hc.1, hc.2, hset, fun b => by have := hf b; omega⟩
        rw [lkv hok.1 hv (by rintro rfl; exact VR_val hc.2 hvr)]; exact hvr
      · cases hx
    · cases hx
  | cell j sz ag =>
    cases rv <;> simp [okRes] at hok
    rename_i a t
    obtain ⟨⟨⟨h1, h2⟩, h3⟩, h4⟩ := hok
    simp only [resT] at hx
    split at hx
    · rename_i s bt cs hj
      split at hx
      · rename_i hlen
        split at hx
        · rename_i u hm
          obtain ⟨hval, rfl, rfl⟩ : isVal u = true ∧ u = v ∧ e.set j .dead = e' := by simpa using hx
          obtain ⟨cv, f1, f2, hv, hvr, hf, hset⟩ := drop hj
          have hvr0 := hvr
          simp only [VR] at hvr
          obtain ⟨_, hrf, b0, arr, g1, rfl, hheap, hcr, hg⟩ := hvr
          have hus : arr.toList.length = sz := by rw [← CR_length hcr]; exact hlen
          have hr := run_loadVar (P := P) (w := w) (ad := ⟨b0, 0, none⟩) h3 (by cases ag <;> simpa using h4) hus (fun i u hi => by
            rw [add_lit, cell_of_row w b0 _ arr bt (0, 0) hheap]
            simpa using hi)
          refine ⟨_, g1, f2, ?_, mkv_rel2 hm hcr, hr_mkv hrf hm, hval, hset, fun b => by have := hf b; have := hg b; omega⟩
          simp only [res1]
          rw [lkv h1 hv (by simp)]
          simpa [asAddr] using hr
        · cases hx
      · cases hx
    · cases hx
theorem okRes_cons {V : List Nat} {n : Nat} {rv : ResultVar} {rvs : List ResultVar} {r : SRes} {rs : List SRes} (h : okRes P V n (rv :: rvs) (r :: rs) = true) : okRes P V n [rv] [r] = true ∧ okRes P V n rvs rs = true := by
  cases rv <;> cases r <;> simp [okRes] at h ⊢
  · exact ⟨h.1, h.2⟩
  · exact ⟨h.1, h.2⟩
theorem resX_rel {V : List Nat} {n : Nat} {tmps : Array Value} : ∀ {rvs : List ResultVar} {rs : List SRes} {e : Env} {vs : List AV} {f : Cnt}, okRes P V n rvs rs = true → CR P w Φ σ ρ e ρ f → LK V ρ e tmps → resX e rs = some vs →
    ∃ cvs f1, (rvs.mapM (res1 tmps)).run P w = .ok cvs w ∧ CR P w Φ σ ρ vs cvs f1 ∧ hrs vs = false ∧ (∀ v ∈ vs, isVal v = true) ∧ ∀ b, f1 b ≤ f b
  | [], [], e, vs, f, hok, hrel, hl, hx => by
    simp [resX] at hx; subst hx
    exact ⟨[], fun _ => 0, by simp, CR_nil, rfl, by simp, fun b => Nat.zero_le _⟩
  | rv :: rvs, r :: rs, e, vs, f, hok, hrel, hl, hx => by
    obtain ⟨hok1, hok2⟩ := okRes_cons hok
    simp only [resX] at hx
    split at hx
    · rename_i v e' h1
      split at hx
      · rename_i vs' h2
        simp at hx; subst hx
        obtain ⟨cv, f1, f2, k1, k2, k3, k4, k5, k6⟩ := resT_rel hok1 hrel hl h1
        obtain ⟨cvs, g1, m1, m2, m3, m4, m5⟩ := resX_rel (tmps := tmps) hok2 k5 (fun j cv hj => hl j cv hj) h2
        refine ⟨cv :: cvs, _, ?_, CR_cons k2 m2, by simp [hrs, k3, m3], ?_, fun b => ?_⟩
        · rw [List.mapM_cons, Sem.run_bind, k1]
          simp only [Result.andThen_ok]
          rw [Sem.run_bind, m1]
          simp
        · intro v' hv'
          rcases List.mem_cons.1 hv' with rfl | h
          · exact k4
          · exact m4 _ h
        · have := k6 b
          have := m5 b
          show f1 b + g1 b ≤ f b
          omega
      · cases hx
    · cases hx
  | [], _ :: _, e, vs, f, hok, _, _, _ => by simp [okRes] at hok
  | rv :: _, [], e, vs, f, hok, _, _, _ => by cases rv <;> simp [okRes] at hok
theorem resY_rel {V : List Nat} {n : Nat} {tmps : Array Value} : ∀ {rvs : List ResultVar} {rs : List SRes} {e e2 : Env} {vs : List AV} {f : Cnt}, okRes P V n rvs rs = true → CR P w Φ σ ρ e ρ f → LK V ρ e tmps → resY e rs = some (vs, e2) →
    ∃ cvs f1 f2, (rvs.mapM (res1 tmps)).run P w = .ok cvs w ∧ CR P w Φ σ ρ vs cvs f1 ∧ hrs vs = false ∧ (∀ v ∈ vs, isVal v = true) ∧ CR P w Φ σ ρ e2 ρ f2 ∧ ∀ b, f1 b + f2 b ≤ f b
  | [], [], e, e2, vs, f, hok, hrel, hl, hx => by
    simp [resY] at hx; obtain ⟨rfl, rfl⟩ := hx
    exact ⟨[], fun _ => 0, f, by simp, CR_nil, rfl, by simp, hrel, fun b => by simp⟩
  | rv :: rvs, r :: rs, e, e2, vs, f, hok, hrel, hl, hx => by
    obtain ⟨hok1, hok2⟩ := okRes_cons hok
    simp only [resY] at hx
    split at hx
    · rename_i v e' h1
      split at hx
      · rename_i vs' e3 h2
        simp at hx; obtain ⟨rfl, rfl⟩ := hx
        obtain ⟨cv, f1, f2, k1, k2, k3, k4, k5, k6⟩ := resT_rel hok1 hrel hl h1
        obtain ⟨cvs, g1, g2, m1, m2, m3, m4, m5, m6⟩ := resY_rel (tmps := tmps) hok2 k5 (fun j cv hj => hl j cv hj) h2
        refine ⟨cv :: cvs, _, g2, ?_, CR_cons k2 m2, by simp [hrs, k3, m3], ?_, m5, fun b => ?_⟩
        · rw [List.mapM_cons, Sem.run_bind, k1]
          simp only [Result.andThen_ok]
          rw [Sem.run_bind, m1]
          simp
        · intro v' hv'
          rcases List.mem_cons.1 hv' with rfl | h
          · exact k4
          · exact m4 _ h
        · have := k6 b
          have := m6 b
          show f1 b + g1 b + g2 b ≤ f b
          omega
      · cases hx
    · cases hx
  | [], _ :: _, e, e2, vs, f, hok, _, _, _ => by simp [okRes] at hok
  | rv :: _, [], e, e2, vs, f, hok, _, _, _ => by cases rv <;> simp [okRes] at hok
theorem isS_rel {s : Nat} {v : AV} {cv : Value} {f : Cnt} (hs : s ≠ 0) (hv : isS s v = true) (h : VR P w Φ σ ρ v cv f) : σ s = cv ∧ hr v = false := by
  cases v <;> simp [isS] at hv
  · subst hv; simp only [VR] at h; exact ⟨h.1 hs, by simpa [hr] using h.2.1⟩
  · subst hv; simp only [VR] at h; exact ⟨h.1 hs, by simpa [hr] using h.2.1⟩
theorem takeL_rel {s : Nat} (hs : s ≠ 0) : ∀ {cs cs' : List AV} {v : AV} {vs : List Value} {f : Cnt}, takeL s cs = some (v, cs') → CR P w Φ σ ρ cs vs f →
    ∃ cv f1 f2, VR P w Φ σ ρ v cv f1 ∧ σ s = cv ∧ hr v = false ∧ CR P w Φ σ ρ cs' vs f2 ∧ (∀ b, f b = f1 b + f2 b) ∧ (hrs cs = false → hrs cs' = false) ∧ ((∀ c ∈ cs, isRef1 c = true ∨ hr c = false) → ∀ c ∈ cs', isRef1 c = true ∨ hr c = false)
  | [], cs', v, vs, f, ht, h => by simp [takeL] at ht
  | c :: cs, cs', v, vs, f, ht, h => by
    simp only [CR] at h
    obtain ⟨cv, vs', f1, f2, rfl, h1, h2, hf⟩ := h
    simp only [takeL] at ht
    split at ht
    · rename_i hc
      simp only [Option.some.injEq, Prod.mk.injEq] at ht
      obtain ⟨rfl, rfl⟩ := ht
      obtain ⟨k1, k2⟩ := isS_rel hs hc h1
      refine ⟨cv, f1, _, h1, k1, k2, CR_cons (v := cv) (c := .gone) (f1 := fun _ => 0) (by unfold VR; exact fun _ => rfl) h2, fun b => by show f b = f1 b + (0 + f2 b); rw [hf b]; omega, ?_, ?_⟩
      · intro hh; simp only [hrs, Bool.or_eq_false_iff] at hh ⊢; exact ⟨rfl, hh.2⟩
      · intro hh c hc
        rcases List.mem_cons.1 hc with rfl | hc
        · exact .inr rfl
        · exact hh c (by simp [hc])
    · split at ht
      · rename_i v' cs1 h3
        simp only [Option.some.injEq, Prod.mk.injEq] at ht
        obtain ⟨rfl, rfl⟩ := ht
        obtain ⟨cw, g1, g2, k1, k2, k3, k4, k5, k6, k7⟩ := takeL_rel hs h3 h2
        refine ⟨cw, g1, _, k1, k2, k3, CR_cons h1 k4, fun b => by show f b = g1 b + (f1 b + g2 b); rw [hf b, k5 b]; omega, ?_, ?_⟩
        · intro hh; simp only [hrs, Bool.or_eq_false_iff] at hh ⊢; exact ⟨hh.1, k6 hh.2⟩
        · intro hh c hc
          rcases List.mem_cons.1 hc with rfl | hc
          · exact hh _ (by simp)
          · exact k7 (fun c hc => hh c (by simp [hc])) c hc
      · cases ht
theorem takeI_rel {s : Nat} (hs : s ≠ 0) {c c' v : AV} {cv : Value} {f : Cnt} (ht : takeI s c = some (v, c')) (h : VR P w Φ σ ρ c cv f) :
    ∃ cw f1 f2, VR P w Φ σ ρ v cw f1 ∧ σ s = cw ∧ hr v = false ∧ VR P w Φ σ ρ c' cv f2 ∧ (∀ b, f b = f1 b + f2 b) := by
  cases c with
  | bx t k cs =>
    simp only [takeI] at ht
    split at ht
    · rename_i v' cs1 h3
      simp only [Option.some.injEq, Prod.mk.injEq] at ht
      obtain ⟨rfl, rfl⟩ := ht
      simp only [VR] at h
      obtain ⟨hst, hx, b0, arr, f1, e, hg, hcr, hb⟩ := h
      obtain ⟨cw, g1, g2, k1, k2, k3, k4, k5, k6, _⟩ := takeL_rel hs h3 hcr
      refine ⟨cw, g1, fun b => (if b = b0 then 1 else 0) + g2 b, k1, k2, k3, ?_, fun b => by show f b = g1 b + ((if b = b0 then 1 else 0) + g2 b); rw [hb b, k5 b]; omega⟩
      simp only [VR]
      exact ⟨hst, k6 hx, b0, arr, g2, e, hg, k4, fun _ => rfl⟩
    · cases ht
  | agg cs =>
    simp only [takeI] at ht
    split at ht
    · rename_i v' cs1 h3
      simp only [Option.some.injEq, Prod.mk.injEq] at ht
      obtain ⟨rfl, rfl⟩ := ht
      simp only [VR] at h
      obtain ⟨arr, e, hcr⟩ := h
      obtain ⟨cw, g1, g2, k1, k2, k3, k4, k5, k6, _⟩ := takeL_rel hs h3 hcr
      refine ⟨cw, g1, g2, k1, k2, k3, ?_, k5⟩
      simp only [VR]
      exact ⟨arr, e, k4⟩
    · cases ht
  | fn g cs =>
    simp only [takeI] at ht
    split at ht
    · rename_i v' cs1 h3
      simp only [Option.some.injEq, Prod.mk.injEq] at ht
      obtain ⟨rfl, rfl⟩ := ht
      simp only [VR] at h
      obtain ⟨vs, e, hq, hcr⟩ := h
      obtain ⟨cw, g1, g2, k1, k2, k3, k4, k5, k6, k7⟩ := takeL_rel hs h3 hcr
      refine ⟨cw, g1, g2, k1, k2, k3, ?_, k5⟩
      simp only [VR]
      exact ⟨vs, e, k7 hq, k4⟩
    · cases ht
  | _ => simp [takeI] at ht
theorem takeE_rel {s : Nat} (hs : s ≠ 0) : ∀ {e e' : List AV} {v : AV} {vs : List Value} {f : Cnt}, takeE s e = some (v, e') → CR P w Φ σ ρ e vs f →
    ∃ cv f1 f2, VR P w Φ σ ρ v cv f1 ∧ σ s = cv ∧ hr v = false ∧ CR P w Φ σ ρ e' vs f2 ∧ (∀ b, f b = f1 b + f2 b)
  | [], e', v, vs, f, ht, h => by simp [takeE] at ht
  | c :: cs, e', v, vs, f, ht, h => by
    simp only [CR] at h
    obtain ⟨cv, vs', f1, f2, rfl, h1, h2, hf⟩ := h
    simp only [takeE] at ht
    split at ht
    · rename_i hc
      simp only [Option.some.injEq, Prod.mk.injEq] at ht
      obtain ⟨rfl, rfl⟩ := ht
      obtain ⟨k1, k2⟩ := isS_rel hs hc h1
      exact ⟨cv, f1, _, h1, k1, k2, CR_cons (v := cv) (c := .gone) (f1 := fun _ => 0) (by unfold VR; exact fun _ => rfl) h2, fun b => by show f b = f1 b + (0 + f2 b); rw [hf b]; omega⟩
    · split at ht
      · rename_i v' c' h3
        simp only [Option.some.injEq, Prod.mk.injEq] at ht
        obtain ⟨rfl, rfl⟩ := ht
        obtain ⟨cw, g1, g2, k1, k2, k3, k4, k5⟩ := takeI_rel hs h3 h1
        exact ⟨cw, g1, _, k1, k2, k3, CR_cons k4 h2, fun b => by show f b = g1 b + (g2 b + f2 b); rw [hf b, k5 b]; omega⟩
      · split at ht
        · rename_i v' cs1 h3
          simp only [Option.some.injEq, Prod.mk.injEq] at ht
          obtain ⟨rfl, rfl⟩ := ht
          obtain ⟨cw, g1, g2, k1, k2, k3, k4, k5⟩ := takeE_rel hs h3 h2
          exact ⟨cw, g1, _, k1, k2, k3, CR_cons h1 k4, fun b => by show f b = g1 b + (f1 b + g2 b); rw [hf b, k5 b]; omega⟩
        · cases ht
theorem outsX_rel : ∀ {ss : List Nat} {e : List AV} {os : List AV} {vs : List Value} {f : Cnt}, (∀ s ∈ ss, s ≠ 0) → outsX e ss = some os → CR P w Φ σ ρ e vs f →
    ∃ f1 f2 e', CR P w Φ σ ρ os (ss.map σ) f1 ∧ hrs os = false ∧ CR P w Φ σ ρ e' vs f2 ∧ os.length = ss.length ∧ (∀ b, f b = f1 b + f2 b)
  | [], e, os, vs, f, hs, ho, h => by
    simp [outsX] at ho; subst ho
    exact ⟨fun _ => 0, f, e, CR_nil, rfl, h, rfl, fun b => by simp⟩
  | s :: ss, e, os, vs, f, hs, ho, h => by
    simp only [outsX] at ho
    split at ho
    · rename_i v e1 h1
      split at ho
      · rename_i os1 h2
        simp only [Option.some.injEq] at ho
        subst ho
        obtain ⟨cv, g1, g2, k1, k2, k3, k4, k5⟩ := takeE_rel (hs s (by simp)) h1 h
        obtain ⟨m1, m2, e2, n1, n2, n3, n4, n5⟩ := outsX_rel (fun s hs' => hs s (by simp [hs'])) h2 k4
        refine ⟨fun b => g1 b + m1 b, m2, e2, ?_, by simp [hrs, k3, n2], n3, by simp [n4], fun b => ?_⟩
        · simp only [List.map_cons, k2]; exact CR_cons k1 n1
        · show f b = g1 b + m1 b + m2 b; rw [k5 b, n5 b]; omega
      · cases ho
    · cases ho
theorem flat_rel : ∀ {vs : List AV} {cvs : List Value} {f : Cnt}, CR P w Φ σ ρ vs cvs f → (∀ v ∈ vs, isVal v = true) → cvs.map shp = vs.map shA ∧ CR P w Φ σ ρ (vs.flatMap cellsOf) (flatV cvs) f
  | [], cvs, f, h, _ => by
    simp only [CR] at h
    obtain ⟨rfl, hf⟩ := h
    exact ⟨rfl, by simp only [List.flatMap_nil, CR]; exact ⟨rfl, hf⟩⟩
  | v :: vs, cvs, f, h, hv => by
    simp only [CR] at h
    obtain ⟨cv, cvs', f1, f2, rfl, h1, h2, hf⟩ := h
    obtain ⟨a1, a2⟩ := VR_cells (hv v (by simp)) h1
    obtain ⟨b1, b2⟩ := flat_rel h2 (fun u hu => hv u (by simp [hu]))
    refine ⟨by simp [a1, b1], ?_⟩
    have := CR_append a2 b2
    rw [show f = fun b => f1 b + f2 b from funext hf]
    simpa [flatV] using this
theorem hrs_flat : ∀ {vs : List AV}, hrs vs = false → hrs (vs.flatMap cellsOf) = false
  | [], _ => rfl
  | v :: vs, h => by
    simp only [hrs, Bool.or_eq_false_iff] at h
    rw [List.flatMap_cons, hrs_append, hrs_flat h.2]
    have : hrs (cellsOf v) = false := by
      cases v <;> simp only [cellsOf, hrs, Bool.or_false] <;> first | exact h.1 | (simpa only [hr] using h.1)
    simp [this]
theorem tup_rel {vs : List AV} {cvs : List Value} {f : Cnt} (h : CR P w Φ σ ρ vs cvs f) (hr0 : hrs vs = false) (hv : ∀ v ∈ vs, isVal v = true) :
    VR P w Φ σ ρ (tupOf vs) (if h : cvs.toArray.size = 1 then cvs.toArray[0] else .tuple cvs.toArray) f ∧ hr (tupOf vs) = false := by
  have hl := CR_length h
  match vs, cvs, hl with
  | [v], [cv], _ =>
    simp only [CR] at h
    obtain ⟨cv', _, f1, f2, he, h1, ⟨_, h2⟩, hf⟩ := h
    simp at he
    obtain ⟨rfl, rfl⟩ := he
    have : f = f1 := funext fun b => by have := hf b; have := h2 b; omega
    subst this
    exact ⟨by simpa [tupOf] using h1, by simpa [tupOf, hrs] using hr0⟩
  | [], [], _ =>
    simp only [CR] at h
    refine ⟨?_, rfl⟩
    simp only [tupOf, List.size_toArray, List.length_nil, VR]
    exact ⟨#[], by simp, rfl, by simp [CR, flatV]; exact h.2⟩
  | v1 :: v2 :: vs, c1 :: c2 :: cvs, _ =>
    obtain ⟨a1, a2⟩ := flat_rel h hv
    refine ⟨?_, ?_⟩
    · rw [dif_neg (by simp)]
      show VR P w Φ σ ρ (.tup _ _) _ f
      simp only [VR]
      exact ⟨_, rfl, by simpa using a1, by simpa using a2⟩
    · simpa [tupOf, hr] using hrs_flat hr0
theorem Fn_introM {ss : List Nat} {os : List AV} {g : Nat} {fn : Func} {V : List Nat} {sc : SCode} {rs : List SRes} {args : List AV} {res : AV} (hf : P.funcs[g]? = some fn) (hok : okFn P fn V sc rs args.length = true)
    (h : ∃ ex e, Runs P V.length sc (args ++ deads (V.length - args.length)) ex e ∧ (ex = .normal ∨ ex = .ret) ∧ ∃ vs e2, resY e rs = some (vs, e2) ∧ tupOf vs = res ∧ outsX e2 ss = some os) (hss : ∀ s ∈ ss, s ≠ 0) : Says P g args res (ss.zip os) := by
  intro w Φ σ cargs fa hrel hhr hinv
  simp only [okFn, Bool.and_eq_true, decide_eq_true_eq, beq_iff_eq] at hok
  obtain ⟨⟨⟨⟨⟨hc, hnd⟩, htake⟩, hkV⟩, hkn⟩, hres⟩ := hok
  cases hb : fn.body with
  | none => simp [hb] at hc
  | some c =>
    simp only [hb] at hc
    obtain ⟨ex, e, hruns, hex, vs, e2, hvs, rfl, hos⟩ := h
    have hlen : cargs.size = args.length := by rw [← Array.length_toList, ← CR_length hrel]
    have hV : V.Nodup := nodupB_spec hnd
    have hst : St P ⟨w, Φ, fa, σ⟩ V fn.ntmps (args ++ deads (V.length - args.length)) (cargs.toList ++ List.replicate (V.length - args.length) unk) (cargs ++ Array.replicate (fn.ntmps - cargs.size) undef) w Φ fa := by
      refine ⟨?_, fun j cv hj => ?_, hinv, Ext.refl _ _, fun _ h => h, fun b h => .inl h, fun b h => .inl h, by simp; omega⟩
      · have h1 := CR_stab w Φ (cargs.toList ++ List.replicate (V.length - args.length) unk) (fun _ _ => rfl) (fun _ h => h) _ _ _ hhr (fun _ _ => rfl) hrel
        have := CR_append h1 (CR_undef (P := P) (w := w) (Φ := Φ) (σ := σ) (ρ := cargs.toList ++ List.replicate (V.length - args.length) unk) (V.length - args.length))
        simpa using this
      · by_cases hjl : j < args.length
        · right
          refine ⟨j, ?_, ?_⟩
          · have : (V.take args.length)[j]? = some j := by rw [htake]; simp [hjl]
            rw [List.getElem?_take, if_pos hjl] at this
            exact this
          · rw [List.getElem?_append_left (by simp; omega)] at hj
            rw [Array.getD_eq_getD_getElem?, Array.getElem?_append_left (by omega)]
            simp at hj
            simp [hj]
        · left
          rw [List.getElem?_append_right (by simp; omega), List.getElem?_replicate] at hj
          split at hj
          · simp at hj; exact hj.symm
          · cases hj
    refine calls_of_wp hf hb (wp_mono ((Runs_sound (C := ⟨w, Φ, fa, σ⟩) rfl hruns (by simp [deads]; omega)).wp c hc _ _ _ _ _ hst) ?_)
    rintro ex' a w' ⟨rfl, ρ', tmps', Φ', f', rfl, hst'⟩
    obtain ⟨cvs, f1, f2, k1, k2, k3, k4, k6, k5⟩ := resY_rel hres hst'.rel hst'.lk hvs
    obtain ⟨m1, m2, e3, n1, n2, n3, n4, n5⟩ := outsX_rel hss hos k6
    have z1 : (ss.zip os).map (·.2) = os := List.map_snd_zip (by omega)
    have z2 : (ss.zip os).map (fun p => σ p.1) = ss.map σ := by
      have : (ss.zip os).map (fun p => σ p.1) = ((ss.zip os).map (·.1)).map σ := by simp
      rw [this, List.map_fst_zip (by omega)]
    have hrun : (results fn tmps').run P w' = .ok (if h : cvs.toArray.size = 1 then cvs.toArray[0] else .tuple cvs.toArray) w' := by
      have e1 : results fn tmps' = (do let vs ← fn.results.mapM (res1 tmps'); pure (if h : vs.size = 1 then vs[0] else .tuple vs)) := rfl
      rw [e1, Sem.run_bind]
      have e2 : fn.results.mapM (res1 tmps') = List.toArray <$> fn.results.toList.mapM (res1 tmps') := by
        rw [Array.mapM_eq_mapM_toList]
      rw [e2, Sem.run_map, k1]
      rfl
    obtain ⟨t1, t2⟩ := tup_rel k2 k3 k4
    have fin : ∃ v, (results fn tmps').run P w' = .ok v w' ∧ ∃ (cv : Value) (Φ' : Nat → Prop) (f1 f2 : Cnt), Ending.returned v = .returned cv ∧ Ext w w' fa ∧ (∀ b, Φ b → Φ' b) ∧ (∀ b, Φ' b → Φ b ∨ 1 ≤ fa b ∨ w.heap.size ≤ b) ∧
        VR P w' Φ' σ [] (tupOf vs) cv f1 ∧ hr (tupOf vs) = false ∧ CR P w' Φ' σ [] ((ss.zip os).map (·.2)) ((ss.zip os).map fun p => σ p.1) f2 ∧ hrs ((ss.zip os).map (·.2)) = false ∧
        Inv P w' Φ' (fun b => f1 b + f2 b) ∧ (∀ b, 1 ≤ f1 b + f2 b → 1 ≤ fa b ∨ w.heap.size ≤ b) := by
      refine ⟨_, hrun, _, Φ', f1, m1, rfl, hst'.ext, hst'.sub, hst'.new, stab w' Φ' [] (fun _ _ => rfl) (fun _ h => h) _ _ _ t2 (fun _ _ => rfl) t1, t2, ?_, by rw [z1]; exact n2, hst'.inv.le (fun b => by show f1 b + m1 b ≤ _; have := k5 b; have := n5 b; omega), fun b hb => hst'.own b (by have := k5 b; have := n5 b; omega)⟩
      rw [z1, z2]
      exact CR_stab w' Φ' [] (fun _ _ => rfl) (fun _ h => h) _ _ _ n2 (fun _ _ => rfl) n1
    rcases hex with rfl | rfl
    · exact ⟨rfl, fin⟩
    · exact ⟨rfl, fin⟩
theorem resX_of : ∀ {rs : List SRes} {e : Env} {vs : List AV}, resX e rs = some vs → ∃ e2, resY e rs = some (vs, e2)
  | [], e, vs, h => by simp [resX] at h; subst h; exact ⟨e, rfl⟩
  | r :: rs, e, vs, h => by
    simp only [resX] at h
    split at h
    · rename_i v e' h1
      split at h
      · rename_i vs' h2
        simp at h; subst h
        obtain ⟨e2, h3⟩ := resX_of h2
        exact ⟨e2, by simp only [resY, h1, h3]⟩
      · cases h
    · cases h
theorem Fn_intro {g : Nat} {fn : Func} {V : List Nat} {sc : SCode} {rs : List SRes} {args : List AV} {res : AV} (hf : P.funcs[g]? = some fn) (hok : okFn P fn V sc rs args.length = true)
    (h : ∃ ex e, Runs P V.length sc (args ++ deads (V.length - args.length)) ex e ∧ (ex = .normal ∨ ex = .ret) ∧ ∃ vs, resX e rs = some vs ∧ tupOf vs = res) : Says P g args res [] := by
  obtain ⟨ex, e, h1, h2, vs, h3, h4⟩ := h
  obtain ⟨e2, h5⟩ := resX_of h3
  exact Fn_introM (ss := []) (os := []) hf hok ⟨ex, e, h1, h2, vs, e2, h5, h4, rfl⟩ (by simp)
end
end Go.AM

/- Walking code: rules. -/
set_option linter.unusedSimpArgs false
set_option linter.unusedVariables false
set_option linter.unusedSectionVars false
namespace Go.AM
open Go
def W (P : Program) (m : Nat) (sc : SCode) (e : Env) (Q : Exit → Env → Prop) : Prop := ∃ ex e2, Runs P m sc e ex e2 ∧ Q ex e2
section
variable {P : Program} {m : Nat} {Q : Exit → Env → Prop} {e : Env}
theorem OpW_ex {k : Nat} {so : SOpr} {e : Env} {Q : Env → Prop} (h : OpW P m k so e Q) : ∃ e2, OpW P m k so e (fun e1 => e1 = e2) ∧ Q e2 := by
  unfold OpW at h
  split at h
  · rename_i s hk
    split at h
    · rename_i v e' hx
      split at h
      · rename_i e2 hp
        exact ⟨e2, by unfold OpW; rw [hk]; simp only [hx, hp], h⟩
      · cases h
    · cases h
  · rename_i g args fr hk
    split at h
    · rename_i avs live hp
      obtain ⟨res, h1, h2, h⟩ := h
      split at h
      · rename_i v hv
        split at h
        · rename_i e2 hp2
          exact ⟨e2, by unfold OpW; rw [hk]; simp only [hp]; exact ⟨res, h1, h2, by rw [hv]; simp only [hp2]⟩, h⟩
        · cases h
      · cases h
    · cases h
  · rename_i x args hk
    split at h
    · rename_i g caps avs live hc hp
      obtain ⟨hpl, res, h1, h2, h⟩ := h
      split at h
      · rename_i e2 hp2
        exact ⟨e2, by unfold OpW; rw [hk]; simp only [hc, hp]; exact ⟨hpl, res, h1, h2, by simp only [hp2]⟩, h⟩
      · cases h
    · cases h
  · rename_i x args hk
    split at h
    · rename_i e1 b1 vs h1
      split at h
      · rename_i g caps e2 b2 h2
        split at h
        · rename_i avs live h3
          obtain ⟨q1, q2, res, outs, q3, q4, h⟩ := h
          split at h
          · rename_i e3 h4
            split at h
            · rename_i e4 h5
              exact ⟨e4, by unfold OpW; rw [hk]; simp only [h1, h2, h3]; exact ⟨q1, q2, res, outs, q3, q4, by simp only [h4, h5]⟩, h⟩
            · cases h
          · cases h
        · cases h
      · cases h
    · cases h
theorem OpW_imp {k : Nat} {so : SOpr} {e : Env} {Q Q' : Env → Prop} (hQ : ∀ e, Q e → Q' e) (h : OpW P m k so e Q) : OpW P m k so e Q' := by
  unfold OpW at h ⊢
  split at h
  · split at h
    · split at h
      · exact hQ _ h
      · cases h
    · cases h
  · split at h
    · obtain ⟨res, h1, h2, h⟩ := h
      refine ⟨res, h1, h2, ?_⟩
      split at h
      · split at h
        · exact hQ _ h
        · cases h
      · cases h
    · cases h
  · split at h
    · obtain ⟨hpl, res, h1, h2, h⟩ := h
      refine ⟨hpl, res, h1, h2, ?_⟩
      split at h
      · exact hQ _ h
      · cases h
    · cases h
  · split at h
    · split at h
      · split at h
        · obtain ⟨q1, q2, res, outs, q3, q4, h⟩ := h
          refine ⟨q1, q2, res, outs, q3, q4, ?_⟩
          split at h
          · split at h
            · exact hQ _ h
            · cases h
          · cases h
        · cases h
      · cases h
    · cases h
theorem SRun_ex : ∀ {sos : List SOpr} {k : Nat} {e : Env} {Q : Env → Prop}, SRun P m k sos e Q → ∃ e2, SRun P m k sos e (fun e1 => e1 = e2) ∧ Q e2
  | [], k, e, Q, h => ⟨e, by simp only [SRun], by simpa only [SRun] using h⟩
  | so :: sos, k, e, Q, h => by
    simp only [SRun] at h
    split at h
    · rename_i hg
      obtain ⟨e1, h1, h2⟩ := OpW_ex h
      obtain ⟨e2, h3, h4⟩ := SRun_ex h2
      exact ⟨e2, by simp only [SRun, hg]; exact OpW_imp (fun e he => by rw [he]; exact h3) h1, h4⟩
    · rename_i s b hg
      split at h
      · rename_i hb
        obtain ⟨e1, h1, h2⟩ := OpW_ex h
        obtain ⟨e2, h3, h4⟩ := SRun_ex h2
        exact ⟨e2, by simp only [SRun, hg, hb]; exact OpW_imp (fun e he => by rw [he]; exact h3) h1, h4⟩
      · rename_i hb
        obtain ⟨e2, h3, h4⟩ := SRun_ex h
        exact ⟨e2, by simp only [SRun, hg, hb]; exact h3, h4⟩
      · cases h
theorem DRunB_imp : ∀ {sos : List SOpr} {info : List (List Bool × Option (List Nat))} {acc : List AV} {Q Q' : List AV → Prop}, (∀ vs, Q vs → Q' vs) → DRunB P e sos info acc Q → DRunB P e sos info acc Q'
  | [], info, acc, Q, Q', hQ, h => by simp only [DRunB] at h ⊢; exact hQ _ h
  | so :: sos, [], acc, Q, Q', hQ, h => by simp only [DRunB] at h
  | so :: sos, (bs, some j) :: info, acc, Q, Q', hQ, h => by
    simp only [DRunB] at h ⊢
    obtain ⟨hd, h⟩ := h
    refine ⟨hd, ?_⟩
    split at h
    · exact OpC_imp (fun u hu => DRunB_imp (fun vs hv => ⟨hv.1, hQ _ hv.2⟩) hu) h
    · split at h
      · exact OpC_imp (fun u hu => DRunB_imp (fun vs hv => ⟨hv.1, hQ _ hv.2⟩) hu) h
      · exact DRunB_imp hQ h
      · cases h
  | so :: sos, (bs, none) :: info, acc, Q, Q', hQ, h => by
    simp only [DRunB] at h ⊢
    obtain ⟨hd, h⟩ := h
    refine ⟨hd, ?_⟩
    split at h
    · exact OpV_imp (fun u hu => DRunB_imp hQ hu) h
    · split at h
      · exact OpV_imp (fun u hu => DRunB_imp hQ hu) h
      · exact DRunB_imp hQ h
      · cases h
theorem DRunB_ex : ∀ {sos : List SOpr} {info : List (List Bool × Option (List Nat))} {acc : List AV} {Q : List AV → Prop}, DRunB P e sos info acc Q → ∃ vs, DRunB P e sos info acc (fun us => us = vs) ∧ Q vs
  | [], info, acc, Q, h => ⟨acc, by simp only [DRunB], by simpa only [DRunB] using h⟩
  | so :: sos, [], acc, Q, h => by simp only [DRunB] at h
  | so :: sos, (bs, some j) :: info, acc, Q, h => by
    simp only [DRunB] at h
    obtain ⟨hd, h⟩ := h
    split at h
    · rename_i hg
      obtain ⟨v, h1, h2⟩ := OpC_ex h
      obtain ⟨vs, h3, h4⟩ := DRunB_ex h2
      exact ⟨vs, by simp only [DRunB, hg]; exact ⟨hd, OpC_imp (fun u hu => by rw [hu]; exact DRunB_imp (fun us hus => by subst hus; exact ⟨h4.1, rfl⟩) h3) h1⟩, h4.2⟩
    · rename_i s b hg
      split at h
      · rename_i hb
        obtain ⟨v, h1, h2⟩ := OpC_ex h
        obtain ⟨vs, h3, h4⟩ := DRunB_ex h2
        exact ⟨vs, by simp only [DRunB, hg, hb]; exact ⟨hd, OpC_imp (fun u hu => by rw [hu]; exact DRunB_imp (fun us hus => by subst hus; exact ⟨h4.1, rfl⟩) h3) h1⟩, h4.2⟩
      · rename_i hb
        obtain ⟨vs, h3, h4⟩ := DRunB_ex h
        exact ⟨vs, by simp only [DRunB, hg, hb]; exact ⟨hd, h3⟩, h4⟩
      · cases h
  | so :: sos, (bs, none) :: info, acc, Q, h => by
    simp only [DRunB] at h
    obtain ⟨hd, h⟩ := h
    split at h
    · rename_i hg
      obtain ⟨v, h1, h2⟩ := OpV_ex h
      obtain ⟨vs, h3, h4⟩ := DRunB_ex h2
      exact ⟨vs, by simp only [DRunB, hg]; exact ⟨hd, OpV_imp (fun u hu => by rw [hu]; exact h3) h1⟩, h4⟩
    · rename_i s b hg
      split at h
      · rename_i hb
        obtain ⟨v, h1, h2⟩ := OpV_ex h
        obtain ⟨vs, h3, h4⟩ := DRunB_ex h2
        exact ⟨vs, by simp only [DRunB, hg, hb]; exact ⟨hd, OpV_imp (fun u hu => by rw [hu]; exact h3) h1⟩, h4⟩
      · rename_i hb
        obtain ⟨vs, h3, h4⟩ := DRunB_ex h
        exact ⟨vs, by simp only [DRunB, hg, hb]; exact ⟨hd, h3⟩, h4⟩
      · cases h
def wpS (P : Program) (m : Nat) : SCode → Env → (Exit → Env → Prop) → Prop
  | .skip, e, Q => Q .normal e
  | .reg _ ops, e, Q => SRun P m 0 ops (e ++ deads ops.length) fun e2 => endOk m e2 = true ∧ Q .normal (e2.take m)
  | .bad, _, _ => False
  | .dreg _ ops _ t _ info fin, e, Q => DRunB P e (ops.take t) info [] fun vs => SRun P m t (ops.drop t) (e ++ maskB fin vs ++ deads (ops.length - t)) fun e2 => endOk m e2 = true ∧ Q .normal (e2.take m)
  | .dregm j k _ ops _ t _ info fin, e, Q => (e.any hasRef = false ∧ e[j]? = some .dead) ∧ DRunB P e (ops.take t) info [] fun vs => SRun P m t (ops.drop t) (e ++ maskB fin vs ++ deads (ops.length - t)) fun e2 => endOk m e2 = true ∧ match mvEnd m j k e2 with
    | some e3 => Q .normal e3
    | none => False
  | .seq a b, e, Q => wpS P m a e fun ex e1 => match ex with
    | .normal => wpS P m b e1 Q
    | ex => Q ex e1
  | .cond x a b, e, Q => match ev e x with
    | some (.bool t) => (t = true → wpS P m a (dropS x e) Q) ∧ (t = false → wpS P m b (dropS x e) Q)
    | _ => False
  | .condk x a b, e, Q => match ev e x with
    | some (.bool t) => (t = true → wpS P m a e Q) ∧ (t = false → wpS P m b e Q)
    | _ => False
  | .frz j b, e, Q => match (e[j]?).bind frzTop with
    | some v' => wpS P m b (e.set j v') Q
    | none => False
  | .block id b, e, Q => wpS P m b e fun ex e1 => Q (outOf id ex) e1
  | .loop b, e, Q => W P m (.loop b) e Q
  | .exit id, e, Q => Q (.exit id) e
  | .ret, e, Q => Q .ret e
theorem wpS_sound : ∀ {sc : SCode} {e : Env} {Q : Exit → Env → Prop}, wpS P m sc e Q → W P m sc e Q
  | .frz j b, e, Q, h => by
    simp only [wpS] at h
    cases he : e[j]? with
    | none => rw [he] at h; exact h.elim
    | some v =>
      rw [he] at h
      simp only [Option.bind_some] at h
      cases hf : frzTop v with
      | none => rw [hf] at h; exact h.elim
      | some v' =>
        rw [hf] at h
        obtain ⟨ex, e2, h1, h2⟩ := wpS_sound h
        exact ⟨_, _, .frz he hf h1, h2⟩
  | .skip, e, Q, h => ⟨_, _, .skip, h⟩
  | .reg D ops, e, Q, h => by
    obtain ⟨e2, h1, h2, h3⟩ := SRun_ex h
    exact ⟨_, _, .reg h1 h2, h3⟩
  | .bad, e, Q, h => h.elim
  | .dreg D ops sees t cons info fin, e, Q, h => by
    obtain ⟨vs, h1, h2⟩ := DRunB_ex h
    obtain ⟨e2, h3, h4, h5⟩ := SRun_ex h2
    exact ⟨_, _, .dreg (DRunB_imp (fun us hu => by subst hu; exact h3) h1) h4, h5⟩
  | .dregm j k D ops sees t cons info fin, e, Q, h => by
    obtain ⟨h0, h⟩ := h
    obtain ⟨vs, h1, h2⟩ := DRunB_ex h
    obtain ⟨e2, h3, h4, h5⟩ := SRun_ex h2
    cases hm : mvEnd m j k e2 with
    | none => rw [hm] at h5; exact h5.elim
    | some e3 =>
      rw [hm] at h5
      exact ⟨_, _, .dregm h0 (DRunB_imp (fun us hu => by subst hu; exact h3) h1) h4 hm, h5⟩
  | .seq a b, e, Q, h => by
    obtain ⟨ex, e1, h1, h2⟩ := wpS_sound (sc := a) (by simpa only [wpS] using h)
    cases ex with
    | normal =>
      obtain ⟨ex2, e2, h3, h4⟩ := wpS_sound (sc := b) h2
      exact ⟨_, _, .seq h1 h3, h4⟩
    | _ => exact ⟨_, _, .seqOut h1 (by simp), h2⟩
  | .cond x a b, e, Q, h => by
    simp only [wpS] at h
    split at h
    · rename_i t hx
      cases t
      · obtain ⟨ex, e1, h1, h2⟩ := wpS_sound (sc := b) (h.2 rfl)
        exact ⟨_, _, .cond (t := false) hx h1, h2⟩
      · obtain ⟨ex, e1, h1, h2⟩ := wpS_sound (sc := a) (h.1 rfl)
        exact ⟨_, _, .cond (t := true) hx h1, h2⟩
    · cases h
  | .condk x a b, e, Q, h => by
    simp only [wpS] at h
    split at h
    · rename_i t hx
      cases t
      · obtain ⟨ex, e1, h1, h2⟩ := wpS_sound (sc := b) (h.2 rfl)
        exact ⟨_, _, .condk (t := false) hx h1, h2⟩
      · obtain ⟨ex, e1, h1, h2⟩ := wpS_sound (sc := a) (h.1 rfl)
        exact ⟨_, _, .condk (t := true) hx h1, h2⟩
    · cases h
  | .block id b, e, Q, h => by
    obtain ⟨ex, e1, h1, h2⟩ := wpS_sound (sc := b) (by simpa only [wpS] using h)
    exact ⟨_, _, .block h1, h2⟩
  | .loop b, e, Q, h => h
  | .exit id, e, Q, h => ⟨_, _, .exit, h⟩
  | .ret, e, Q, h => ⟨_, _, .ret, h⟩
theorem W_loop {b : SCode} {e : Env} {Q : Exit → Env → Prop} (h : wpS P m b e fun ex e1 => match ex with
    | .normal => W P m (.loop b) e1 Q
    | ex => Q ex e1) : W P m (.loop b) e Q := by
  obtain ⟨ex, e1, h1, h2⟩ := wpS_sound h
  cases ex with
  | normal =>
    obtain ⟨ex2, e2, h3, h4⟩ := h2
    exact ⟨_, _, .loop h1 h3, h4⟩
  | _ => exact ⟨_, _, .loopOut h1 (by simp), h2⟩
theorem SRun_imp : ∀ {sos : List SOpr} {k : Nat} {e : Env} {Q Q' : Env → Prop}, (∀ e, Q e → Q' e) → SRun P m k sos e Q → SRun P m k sos e Q'
  | [], k, e, Q, Q', hQ, h => by simp only [SRun] at h ⊢; exact hQ _ h
  | so :: sos, k, e, Q, Q', hQ, h => by
    simp only [SRun] at h ⊢
    split at h
    · exact OpW_imp (fun e he => SRun_imp hQ he) h
    · split at h
      · exact OpW_imp (fun e he => SRun_imp hQ he) h
      · exact SRun_imp hQ h
      · cases h
theorem W_imp0 {sc : SCode} {e : Env} {Q Q' : Exit → Env → Prop} (hQ : ∀ ex e, Q ex e → Q' ex e) (h : W P m sc e Q) : W P m sc e Q' := by
  obtain ⟨ex, e2, h1, h2⟩ := h
  exact ⟨ex, e2, h1, hQ _ _ h2⟩
theorem wpS_imp : ∀ {sc : SCode} {e : Env} {Q Q' : Exit → Env → Prop}, (∀ ex e, Q ex e → Q' ex e) → wpS P m sc e Q → wpS P m sc e Q'
  | .skip, e, Q, Q', hQ, h => hQ _ _ h
  | .reg D ops, e, Q, Q', hQ, h => SRun_imp (fun e h => ⟨h.1, hQ _ _ h.2⟩) h
  | .bad, e, Q, Q', hQ, h => h.elim
  | .dreg D ops sees t cons info fin, e, Q, Q', hQ, h => DRunB_imp (fun vs h => SRun_imp (fun e h => ⟨h.1, hQ _ _ h.2⟩) h) h
  | .dregm j k D ops sees t cons info fin, e, Q, Q', hQ, h => ⟨h.1, DRunB_imp (fun vs h => SRun_imp (fun e h => ⟨h.1, by have := h.2; revert this; cases mvEnd m j k e with | none => exact id | some e3 => exact hQ _ _⟩) h) h.2⟩
  | .seq a b, e, Q, Q', hQ, h => by
    simp only [wpS] at h ⊢
    refine wpS_imp (sc := a) (fun ex e h => ?_) h
    cases ex with
    | normal => exact wpS_imp (sc := b) hQ h
    | _ => exact hQ _ _ h
  | .cond x a b, e, Q, Q', hQ, h => by
    simp only [wpS] at h ⊢
    split at h
    · exact ⟨fun t => wpS_imp (sc := a) hQ (h.1 t), fun t => wpS_imp (sc := b) hQ (h.2 t)⟩
    · cases h
  | .frz j b, e, Q, Q', hQ, h => by
    simp only [wpS] at h ⊢
    cases hf : (e[j]?).bind frzTop with
    | none => rw [hf] at h; exact h.elim
    | some v' => rw [hf] at h; exact wpS_imp (sc := b) hQ h
  | .condk x a b, e, Q, Q', hQ, h => by
    simp only [wpS] at h ⊢
    split at h
    · exact ⟨fun t => wpS_imp (sc := a) hQ (h.1 t), fun t => wpS_imp (sc := b) hQ (h.2 t)⟩
    · cases h
  | .block id b, e, Q, Q', hQ, h => by
    simp only [wpS] at h ⊢
    exact wpS_imp (sc := b) (fun ex e h => hQ _ _ h) h
  | .loop b, e, Q, Q', hQ, h => W_imp0 hQ h
  | .exit id, e, Q, Q', hQ, h => hQ _ _ h
  | .ret, e, Q, Q', hQ, h => hQ _ _ h
theorem W_loop' {l b : SCode} {e : Env} {Q : Exit → Env → Prop} (hl : l = .loop b) (h : wpS P m b e fun ex e1 => match ex with
    | .normal => W P m l e1 Q
    | ex => Q ex e1) : W P m l e Q := by
  subst hl; exact W_loop h
theorem wpS_loop {l b : SCode} {e : Env} {Q : Exit → Env → Prop} (hl : l = .loop b) : wpS P m l e Q = W P m l e Q := by
  subst hl; rfl
theorem W_imp {sc : SCode} {e : Env} {Q Q' : Exit → Env → Prop} (hQ : ∀ ex e, Q ex e → Q' ex e) (h : W P m sc e Q) : W P m sc e Q' := by
  obtain ⟨ex, e2, h1, h2⟩ := h
  exact ⟨ex, e2, h1, hQ _ _ h2⟩
def EndsW (rs : List SRes) (res : AV) (ex : Exit) (e : Env) : Prop := (ex = .normal ∨ ex = .ret) ∧ (resX e rs).map tupOf = some res
theorem Fn_of_wp {g : Nat} {fn : Func} {V : List Nat} {sc : SCode} {rs : List SRes} {args : List AV} {res : AV} (hf : P.funcs[g]? = some fn) (hok : okFn P fn V sc rs args.length = true)
    (h : wpS P V.length sc (args ++ deads (V.length - args.length)) (EndsW rs res)) : Says P g args res [] := by
  obtain ⟨ex, e2, h1, h2, h3⟩ := wpS_sound h
  rw [Option.map_eq_some_iff] at h3
  exact Fn_intro hf hok ⟨ex, e2, h1, h2, h3⟩
theorem Fn_ex {g : Nat} {fn : Func} {V : List Nat} {sc : SCode} {rs : List SRes} {args : List AV} {R : AV → Prop} (hf : P.funcs[g]? = some fn) (hok : okFn P fn V sc rs args.length = true)
    (h : wpS P V.length sc (args ++ deads (V.length - args.length)) fun ex e => ∃ res, R res ∧ EndsW rs res ex e) : ∃ res, R res ∧ Says P g args res [] := by
  obtain ⟨ex, e2, h1, res, hR, h2, h3⟩ := wpS_sound h
  rw [Option.map_eq_some_iff] at h3
  exact ⟨res, hR, Fn_intro hf hok ⟨ex, e2, h1, h2, h3⟩⟩
def resO (e : Env) (rs : List SRes) (ss : List Nat) : Option (AV × List AV) := match resY e rs with
  | some (vs, e2) => match outsX e2 ss with
    | some os => some (tupOf vs, os)
    | none => none
  | none => none
def EndsM (rs : List SRes) (ss : List Nat) (res : AV) (os : List AV) (ex : Exit) (e : Env) : Prop := (ex = .normal ∨ ex = .ret) ∧ resO e rs ss = some (res, os)
theorem Fn_of_wpM {g : Nat} {fn : Func} {V : List Nat} {sc : SCode} {rs : List SRes} {args : List AV} {res : AV} (ss : List Nat) (os : List AV) (hf : P.funcs[g]? = some fn) (hok : okFn P fn V sc rs args.length = true) (hss : ∀ s ∈ ss, s ≠ 0)
    (h : wpS P V.length sc (args ++ deads (V.length - args.length)) (EndsM rs ss res os)) : Says P g args res (ss.zip os) := by
  obtain ⟨ex, e2, h1, h2, h3⟩ := wpS_sound h
  unfold resO at h3
  split at h3
  · rename_i vs e3 h4
    split at h3
    · rename_i os' h5
      simp only [Option.some.injEq, Prod.mk.injEq] at h3
      obtain ⟨rfl, rfl⟩ := h3
      exact Fn_introM hf hok ⟨ex, e2, h1, h2, vs, e3, h4, rfl, h5⟩ hss
    · cases h3
  · cases h3
theorem W_freeze {sc : SCode} {Q : Exit → Env → Prop} {e : Env} (j : Nat) {v v' : AV} (he : e[j]? = some v) (hf : frzTop v = some v') (h : W P m sc (e.set j v') Q) : W P m sc e Q := by
  obtain ⟨ex, e2, h1, h2⟩ := h
  exact ⟨ex, e2, .freeze j v v' he hf h1, h2⟩
theorem W_forget {sc : SCode} {Q : Exit → Env → Prop} : ∀ {js : List Nat} {e : Env}, W P m sc (js.foldl (fun e j => e.set j .dead) e) Q → W P m sc e Q
  | [], e, h => h
  | j :: js, e, h => by
    obtain ⟨ex, e2, h1, h2⟩ := W_forget (js := js) (e := e.set j .dead) h
    exact ⟨ex, e2, .forget j h1, h2⟩
theorem W_rangeF {l b : SCode} {Q : Exit → Env → Prop} (hl : l = .loop b) (js : List Nat) (E : Nat → Env) (I : Nat → Prop) (n : Nat) (hstep : ∀ i, i < n → I i → wpS P m b (E i) fun ex e => match ex with
      | .normal => js.foldl (fun e j => e.set j .dead) e = E (i + 1) ∧ I (i + 1)
      | ex => Q ex e) (hlast : I n → wpS P m b (E n) fun ex e => match ex with
      | .normal => False
      | ex => Q ex e) : ∀ i, i ≤ n → I i → W P m l (E i) Q := by
  intro i hi hI
  induction h : n - i generalizing i with
  | zero =>
    obtain rfl : i = n := by omega
    subst hl
    exact W_loop (wpS_imp (fun ex e h => by cases ex <;> first | exact h.elim | exact h) (hlast hI))
  | succ k ih =>
    subst hl
    refine W_loop (wpS_imp (fun ex e h => ?_) (hstep i (by omega) hI))
    cases ex with
    | normal => simp only at h ⊢; refine W_forget (js := js) ?_; rw [h.1]; exact ih (i + 1) (by omega) h.2 (by omega)
    | _ => exact h
theorem W_range {l b : SCode} {Q : Exit → Env → Prop} (hl : l = .loop b) (E : Nat → Env) (I : Nat → Prop) (n : Nat) (hstep : ∀ i, i < n → I i → wpS P m b (E i) fun ex e => match ex with
      | .normal => e = E (i + 1) ∧ I (i + 1)
      | ex => Q ex e) (hlast : I n → wpS P m b (E n) fun ex e => match ex with
      | .normal => False
      | ex => Q ex e) : ∀ i, i ≤ n → I i → W P m l (E i) Q := by
  intro i hi hI
  induction h : n - i generalizing i with
  | zero =>
    obtain rfl : i = n := by omega
    subst hl
    exact W_loop (wpS_imp (fun ex e h => by cases ex <;> first | exact h.elim | exact h) (hlast hI))
  | succ k ih =>
    subst hl
    refine W_loop (wpS_imp (fun ex e h => ?_) (hstep i (by omega) hI))
    cases ex with
    | normal => simp only at h ⊢; rw [h.1]; exact ih (i + 1) (by omega) h.2 (by omega)
    | _ => exact h
end
end Go.AM

/- Data: what is handed in, as abstract values, frozen or owned. -/
set_option linter.unusedSimpArgs false
set_option linter.unusedVariables false
namespace Go.AM
open Go
inductive D where
  | I (k : IntKind) (n : Int)
  | B (b : Bool)
  | S (s : List UInt8)
  | L (e n : Nat) (cs : List D)
instance : Inhabited D := ⟨.B false⟩
mutual
def C : D → AV
  | .I k n => .int k n
  | .B b => .bool b
  | .S s => .str s
  | .L _ n cs => .rsl n (Cs cs)
def Cs : List D → List AV
  | [] => []
  | d :: ds => C d :: Cs ds
end
mutual
def Ow : D → AV
  | .I k n => .int k n
  | .B b => .bool b
  | .S s => .str s
  | .L e n cs => .osl 0 e n (Ows cs)
def Ows : List D → List AV
  | [] => []
  | d :: ds => Ow d :: Ows ds
end
@[simp] theorem C_I {k : IntKind} {n : Int} : C (.I k n) = .int k n := by simp only [C]
@[simp] theorem C_B {b : Bool} : C (.B b) = .bool b := by simp only [C]
@[simp] theorem C_S {s : List UInt8} : C (.S s) = .str s := by simp only [C]
@[simp] theorem C_L {e n : Nat} {cs : List D} : C (.L e n cs) = .rsl n (Cs cs) := by simp only [C]
@[simp] theorem Ow_I {k : IntKind} {n : Int} : Ow (.I k n) = .int k n := by simp only [Ow]
@[simp] theorem Ow_B {b : Bool} : Ow (.B b) = .bool b := by simp only [Ow]
@[simp] theorem Ow_S {s : List UInt8} : Ow (.S s) = .str s := by simp only [Ow]
@[simp] theorem Ow_L {e n : Nat} {cs : List D} : Ow (.L e n cs) = .osl 0 e n (Ows cs) := by simp only [Ow]
@[simp] theorem Cs_nil : Cs [] = [] := by simp only [Cs]
@[simp] theorem Cs_cons {d : D} {ds : List D} : Cs (d :: ds) = C d :: Cs ds := by simp only [Cs]
@[simp] theorem Ows_nil : Ows [] = [] := by simp only [Ows]
@[simp] theorem Ows_cons {d : D} {ds : List D} : Ows (d :: ds) = Ow d :: Ows ds := by simp only [Ows]
theorem Cs_map {ds : List D} : Cs ds = ds.map C := by
  induction ds with
  | nil => simp
  | cons d ds ih => simp [ih]
theorem Ows_map {ds : List D} : Ows ds = ds.map Ow := by
  induction ds with
  | nil => simp
  | cons d ds ih => simp [ih]
@[simp] theorem Cs_append {a b : List D} : Cs (a ++ b) = Cs a ++ Cs b := by simp [Cs_map]
@[simp] theorem Ows_append {a b : List D} : Ows (a ++ b) = Ows a ++ Ows b := by simp [Ows_map]
@[simp] theorem Cs_length {a : List D} : (Cs a).length = a.length := by simp [Cs_map]
@[simp] theorem Ows_length {a : List D} : (Ows a).length = a.length := by simp [Ows_map]
theorem Cs_drop {a : List D} {n : Nat} : (Cs a).drop n = Cs (a.drop n) := by simp [Cs_map]
theorem Cs_take {a : List D} {n : Nat} : (Cs a).take n = Cs (a.take n) := by simp [Cs_map]
theorem Ows_drop {a : List D} {n : Nat} : (Ows a).drop n = Ows (a.drop n) := by simp [Ows_map]
theorem Ows_take {a : List D} {n : Nat} : (Ows a).take n = Ows (a.take n) := by simp [Ows_map]
@[simp] theorem isFz_C {d : D} : isFz (C d) = true := by cases d <;> simp [isFz]
@[simp] theorem isRef1_C {d : D} : isRef1 (C d) = false := by cases d <;> rfl
@[simp] theorem isRef_C {d : D} : isRef (C d) = false := by cases d <;> rfl
@[simp] theorem isRef_Ow {d : D} : isRef (Ow d) = false := by cases d <;> rfl
@[simp] theorem isRef1_Ow {d : D} : isRef1 (Ow d) = false := by cases d <;> rfl
@[simp] theorem hasRef_C {d : D} : hasRef (C d) = false := by cases d <;> rfl
@[simp] theorem hasRef_Ow {d : D} : hasRef (Ow d) = false := by cases d <;> rfl
@[simp] theorem any_Cs {ds : List D} : (Cs ds).any isRef = false := by simp [Cs_map]
@[simp] theorem any_Ows {ds : List D} : (Ows ds).any isRef = false := by simp [Ows_map]
@[simp] theorem snapC_C {e : Env} {d : D} : snapC e (C d) = some (C d, false) := by cases d <;> simp [snapC, isFz]
@[simp] theorem snapCs_Cs {e : Env} {ds : List D} : snapCs e (Cs ds) = some (Cs ds, false) := by
  induction ds with
  | nil => simp [snapCs]
  | cons d ds ih => simp [snapCs, ih]
@[simp] theorem takeC_C {e : Env} {d : D} : takeC e (C d) = some (C d, e) := by cases d <;> simp [takeC]
@[simp] theorem takeCs_Cs {e : Env} {ds : List D} : takeCs e (Cs ds) = some (Cs ds, e) := by
  induction ds with
  | nil => simp [takeCs]
  | cons d ds ih => simp [takeCs, ih]
@[simp] theorem lz1_C {r o : Nat} {p : List Nat} {d : D} : lz1 r p o (C d) = C d := by cases d <;> simp [lz1]
@[simp] theorem lzc_Cs {r : Nat} {p : List Nat} {o : Nat} {ds : List D} : lzc r p o (Cs ds) = Cs ds := by
  induction ds generalizing o with
  | nil => simp [lzc]
  | cons d ds ih => simp [lzc, ih]
@[simp] theorem lzv_C {j : Nat} {d : D} : lzv j (C d) = C d := by cases d <;> simp [lzv, lz1]
mutual
theorem frzC_Ow : ∀ (d : D), frzC (Ow d) = some (C d)
  | .I k n => by simp [frzC]
  | .B b => by simp [frzC]
  | .S s => by simp [frzC]
  | .L e n cs => by simp [frzC, frzs_Ows cs]
theorem frzs_Ows : ∀ (ds : List D), frzs (Ows ds) = some (Cs ds)
  | [] => by simp [frzs]
  | d :: ds => by simp [frzs, frzC_Ow d, frzs_Ows ds]
end
attribute [simp] frzC_Ow frzs_Ows
@[simp] theorem frzC_C {d : D} : frzC (C d) = some (C d) := by cases d <;> simp [frzC]
@[simp] theorem frzs_Cs {ds : List D} : frzs (Cs ds) = some (Cs ds) := by
  induction ds with
  | nil => simp [frzs]
  | cons d ds ih => simp [frzs, ih]
mutual
theorem noFrz_Ow : ∀ (d : D), noFrz (Ow d) = true
  | .I k n => by simp [noFrz]
  | .B b => by simp [noFrz]
  | .S s => by simp [noFrz]
  | .L e n cs => by simp [noFrz, noFrzs_Ows cs]
theorem noFrzs_Ows : ∀ (ds : List D), noFrzs (Ows ds) = true
  | [] => by simp [noFrzs]
  | d :: ds => by simp [noFrzs, noFrz_Ow d, noFrzs_Ows ds]
end
attribute [simp] noFrz_Ow noFrzs_Ows
theorem inner_Ow {e n : Nat} {d : D} {cs : List D} : inner (Ow (.L e n (d :: cs))) = some (Ows (d :: cs)) := by simp [inner]
theorem row_at {α : Type} (f : α → List D) (k : Nat) : ∀ (xs : List α) (i : Nat) (x : α), (∀ x ∈ xs, (f x).length = k) → xs[i]? = some x → ((xs.flatMap f).drop (i * k)).take k = f x ∧ i * k + k ≤ (xs.flatMap f).length
  | [], i, x, _, h => by simp at h
  | y :: ys, 0, x, hl, h => by
    simp at h; subst h
    have := hl y (by simp)
    simp [← this]
  | y :: ys, i + 1, x, hl, h => by
    have h1 := hl y (by simp)
    obtain ⟨a, b⟩ := row_at f k ys i x (fun x hx => hl x (by simp [hx])) (by simpa using h)
    have e : (i + 1) * k = (f y).length + i * k := by rw [h1, Nat.add_mul]; omega
    rw [List.flatMap_cons, e, List.drop_append, List.drop_eq_nil_of_le (by omega)]
    refine ⟨by simpa using a, ?_⟩
    rw [List.length_append]
    omega
theorem wrap_small {x : Int} (h1 : -9223372036854775808 ≤ x) (h2 : x < 9223372036854775808) : IntKind.i64.wrap x = x := by
  simp only [IntKind.wrap, IntKind.bits, IntKind.signed]
  simp
  split <;> omega
@[simp] theorem wrap_zero : IntKind.i64.wrap 0 = 0 := by decide
@[simp] theorem wrap_one : IntKind.i64.wrap 1 = 1 := by decide
@[simp] theorem wrap_neg1 : IntKind.i64.wrap (-1) = -1 := by decide
@[simp] theorem inner_bx {s t : Nat} {cs : List AV} : inner (.bx s t cs) = some cs := rfl
@[simp] theorem inner_osl {s e n : Nat} {cs : List AV} (h : cs ≠ []) : inner (.osl s e n cs) = some cs := by
  cases cs with
  | nil => exact absurd rfl h
  | cons c cs => rfl
@[simp] theorem takeC_oslC {s t n : Nat} {e : Env} : takeC e (.osl s t 0 []) = some (.osl s t 0 [], e) := rfl
theorem splice_mid {A B Z cs : List AV} {o : Nat} (ho : A.length = o) (hb : B.length = cs.length) : splice (A ++ (B ++ Z)) o cs = A ++ (cs ++ Z) := by
  subst ho
  simp [splice, ← hb, List.drop_append]
theorem lz1_lz1 {r r' o o' : Nat} {p p' : List Nat} (v : AV) : lz1 r p o (lz1 r' p' o' v) = lz1 r' p' o' v := by
  cases v with
  | fn f cs => cases cs <;> rfl
  | _ => rfl
@[simp] theorem lzc_lzc {r r' : Nat} {p p' : List Nat} {cs : List AV} {o o' : Nat} : lzc r p o (lzc r' p' o' cs) = lzc r' p' o' cs := by
  induction cs generalizing o o' with
  | nil => rfl
  | cons c cs ih => simp [lzc, ih, lz1_lz1]
@[simp] theorem splice_all {row cs : List AV} (h : row.length ≤ cs.length) : splice row 0 cs = cs := by
  simp [splice, List.drop_eq_nil_of_le h]
def gn : D → AV
  | .L _ _ _ => .gone
  | d => Ow d
def isL : D → Bool
  | .L _ _ _ => true
  | _ => false
@[simp] theorem lzc_length {r : Nat} {p : List Nat} {o : Nat} {cs : List AV} : (lzc r p o cs).length = cs.length := by
  induction cs generalizing o with
  | nil => rfl
  | cons c cs ih => simp [lzc, ih]
theorem takeCs_move {j : Nat} : ∀ {ds : List D} {e : Env} {pre : List AV}, e[j]? = some (.agg (pre ++ Ows ds)) → takeCs e (lzc j [] pre.length (Ows ds)) = some (Ows ds, e.set j (.agg (pre ++ ds.map gn))) := by
  intro ds
  induction ds with
  | nil =>
    intro e pre h
    have : e.set j (.agg (pre ++ [])) = e := set_same (by simpa using h)
    simpa [lzc, takeCs] using this.symm
  | cons d ds ih =>
    intro e pre h
    have hj := (List.getElem?_eq_some_iff.1 h).1
    have sc : ∀ {v : AV}, Ow d = v → gn d = v → lz1 j [] pre.length v = v → takeC e v = some (v, e) → takeCs e (lzc j [] pre.length (Ows (d :: ds))) = some (Ows (d :: ds), e.set j (.agg (pre ++ (d :: ds).map gn))) := by
      intro v h1 h2 h3 h4
      have := ih (e := e) (pre := pre ++ [v]) (by rw [h]; simp [h1])
      simp only [List.length_append, List.length_singleton] at this
      simp [lzc, takeCs, h1, h3, h4, this, h2]
    cases d with
    | I k n => exact sc (v := .int k n) (by simp) (by simp [gn]) rfl rfl
    | B b => exact sc (v := .bool b) (by simp) (by simp [gn]) rfl rfl
    | S s => exact sc (v := .str s) (by simp) (by simp [gn]) rfl rfl
    | L el n cs =>
      have hrow : rowE e j [] = some (pre ++ Ows (.L el n cs :: ds)) := by simp [rowE, h, rowAt, cellsOf]
      have hset : setRowE e j [] (pre ++ .gone :: Ows ds) = e.set j (.agg (pre ++ .gone :: Ows ds)) := by
        simp [setRowE, h, setRow, withCells]
      have := ih (e := e.set j (.agg (pre ++ .gone :: Ows ds))) (pre := pre ++ [.gone]) (by simp [hj])
      simp only [List.length_append, List.length_singleton] at this
      simp [lzc, takeCs, lz1, takeC, hrow, hset, this, gn]
@[simp] theorem takeCs_slot {j : Nat} {ds : List D} {e : Env} (h : e[j]? = some (.agg (Ows ds))) : takeCs e (lzc j [] 0 (Ows ds)) = some (Ows ds, e.set j (.agg (ds.map gn))) := by
  have := takeCs_move (j := j) (ds := ds) (e := e) (pre := []) (by simpa using h)
  simpa using this
theorem snapCs_row {r : Nat} {p : List Nat} {e : Env} : ∀ {ds : List D} {pre post : List AV}, rowE e r p = some (pre ++ (Ows ds ++ post)) → snapCs e (lzc r p pre.length (Ows ds)) = some (Cs ds, ds.any isL) := by
  intro ds
  induction ds with
  | nil => intro pre post h; simp [lzc, snapCs]
  | cons d ds ih =>
    intro pre post h
    have sc : ∀ {v : AV}, Ow d = v → C d = v → isL d = false → lz1 r p pre.length v = v → snapC e v = some (v, false) → snapCs e (lzc r p pre.length (Ows (d :: ds))) = some (Cs (d :: ds), (d :: ds).any isL) := by
      intro v h1 h2 h3 h4 h5
      have := ih (pre := pre ++ [v]) (post := post) (by rw [h]; simp [h1])
      simp only [List.length_append, List.length_singleton] at this
      simp [lzc, snapCs, h1, h2, h3, h4, h5, this]
    cases d with
    | I k n => exact sc (v := .int k n) (by simp) (by simp) rfl rfl (by simp [snapC, isFz])
    | B b => exact sc (v := .bool b) (by simp) (by simp) rfl rfl (by simp [snapC, isFz])
    | S s => exact sc (v := .str s) (by simp) (by simp) rfl rfl (by simp [snapC, isFz])
    | L el n cs =>
      have := ih (pre := pre ++ [.osl 0 el n (Ows cs)]) (post := post) (by rw [h]; simp)
      simp only [List.length_append, List.length_singleton] at this
      have hs : snapC e (.ps r p pre.length) = some (.rsl n (Cs cs), true) := by simp [snapC, h, frzC]
      simp [lzc, lz1, snapCs, hs, this, isL]
@[simp] theorem snapCs_slot {r : Nat} {p : List Nat} {e : Env} {ds : List D} (h : rowE e r p = some (Ows ds)) : snapCs e (lzc r p 0 (Ows ds)) = some (Cs ds, ds.any isL) := by
  have := snapCs_row (e := e) (r := r) (p := p) (ds := ds) (pre := []) (post := []) (by simpa using h)
  simpa using this
/- What comes behind is left alone until it is come to. -/
section
variable {P : Program} {m k : Nat}
@[congr] theorem wpS_cong {sc : SCode} {e e' : Env} {Q : Exit → Env → Prop} (h : e = e') : wpS P m sc e Q = wpS P m sc e' Q := by rw [h]
@[congr] theorem W_cong {sc : SCode} {e e' : Env} {Q : Exit → Env → Prop} (h : e = e') : W P m sc e Q = W P m sc e' Q := by rw [h]
@[congr] theorem SRun_cong {ops ops' : List SOpr} {e e' : Env} {Q : Env → Prop} (ho : ops = ops') (h : e = e') : SRun P m k ops e Q = SRun P m k ops' e' Q := by rw [h, ho]
@[congr] theorem OpW_cong {so : SOpr} {e e' : Env} {Q : Env → Prop} (h : e = e') : OpW P m k so e Q = OpW P m k so e' Q := by rw [h]
@[congr] theorem DRunB_cong {e e' : Env} {ops ops' : List SOpr} {info : List (List Bool × Option (List Nat))} {acc acc' : List AV} {Q : List AV → Prop} (ho : ops = ops') (h : e = e') (ha : acc = acc') : DRunB P e ops info acc Q = DRunB P e' ops' info acc' Q := by rw [h, ho, ha]
@[congr] theorem OpV_cong {so : SOpr} {e e' : Env} {Q : AV → Prop} (h : e = e') : OpV P so e Q = OpV P so e' Q := by rw [h]
@[congr] theorem OpC_cong {so : SOpr} {e e' : Env} {d d' : List Nat} {Q : AV → Prop} (h : e = e') (hd : d = d') : OpC so e d Q = OpC so e' d' Q := by rw [h, hd]
end
attribute [simp] wpS SRun OpW opx ev putV lzv lz1 lzc endOk killE killJ valOk refOk killL liveV liveC appX hasRef isRef isRef1 resX resT isVal tupOf deads dropS outOf cellsOf mkv binX prepX snapV snapC isFz rowE rowAt takeV takeC takeCs lenX optI
  setRowE setRow withCells withInner rootOk isScalar fillP evs elemsX snapCs frzC frzs frz noFrz noFrzs capOk shA offT DRunB OpV OpC maskB isDead pureOp EndsW calleeC EndsM resO resY outsX takeE takeI takeL isS num nB bkOf ownS giveC giveCs giveF giveV give1 give2 calleeM stampL putBks putCl bksOk outOk reSt reSts inSt noSt noSts hrs hr capOk
end Go.AM

/- Walking with a stack of what is still to be done, in place of functions. -/
set_option linter.unusedSimpArgs false
set_option linter.unusedVariables false
set_option linter.unusedSectionVars false
namespace Go.AM
open Go
inductive Fr where
  | sq (b : SCode)
  | bl (id : Nat)
  | mv (j k : Nat)
def runK (P : Program) (m : Nat) : List Fr → (Exit → Env → Prop) → Exit → Env → Prop
  | [], Q, ex, e => Q ex e
  | .sq b :: K, Q, ex, e => match ex with
    | .normal => wpS P m b e (runK P m K Q)
    | ex => runK P m K Q ex e
  | .bl id :: K, Q, ex, e => runK P m K Q (outOf id ex) e
  | .mv _ _ :: K, Q, ex, e => False
def R (P : Program) (m : Nat) (ex : Exit) (e : Env) (K : List Fr) (Q : Exit → Env → Prop) : Prop := runK P m K Q ex e
def G (P : Program) (m : Nat) (sc : SCode) (e : Env) (K : List Fr) (Q : Exit → Env → Prop) : Prop := wpS P m sc e (runK P m K Q)
def FrzG (P : Program) (m : Nat) (j : Nat) (b : SCode) (e : Env) (K : List Fr) (Q : Exit → Env → Prop) : Option AV → Prop
  | some v' => G P m b (e.set j v') K Q
  | none => False
@[simp] theorem FrzG_some {P : Program} {m j : Nat} {b : SCode} {e : Env} {K : List Fr} {Q : Exit → Env → Prop} {v' : AV} : FrzG P m j b e K Q (some v') = G P m b (e.set j v') K Q := rfl
def CondG (P : Program) (m : Nat) (a b : SCode) (e : Env) (K : List Fr) (Q : Exit → Env → Prop) : Option AV → Prop
  | some (.bool t) => (t = true → G P m a e K Q) ∧ (t = false → G P m b e K Q)
  | _ => False
def endS (P : Program) (m : Nat) (e : Env) (Q : Exit → Env → Prop) : List Fr → Prop
  | .mv j k :: K => endOk m e = true ∧ match mvEnd m j k e with
    | some e3 => R P m .normal e3 K Q
    | none => False
  | K => endOk m e = true ∧ R P m .normal (e.take m) K Q
def S (P : Program) (m k : Nat) (ops : List SOpr) (e : Env) (K : List Fr) (Q : Exit → Env → Prop) : Prop := SRun P m k ops e fun e2 => endS P m e2 Q K
def T3 (P : Program) (m k : Nat) (rest : List SOpr) (K : List Fr) (Q : Exit → Env → Prop) : Option Env → Prop
  | some e2 => S P m (k + 1) rest e2 K Q
  | none => False
def T2 (P : Program) (m k : Nat) (d : Option Nat) (rest : List SOpr) (K : List Fr) (Q : Exit → Env → Prop) : Option (AV × Env) → Prop
  | some (v, e) => T3 P m k rest K Q (putV m k d v e)
  | none => False
def CallG (P : Program) (m k : Nat) (d : Option Nat) (rest : List SOpr) (e : Env) (K : List Fr) (Q : Exit → Env → Prop) (fr : Bool) (g : Nat) : Option (List AV × Bool) → Prop
  | some (avs, live) => ∃ res, Says P g avs res [] ∧ (live = true → noFrz res = true) ∧
      match (if fr then frz res else some res) with
      | some v => T3 P m k rest K Q (putV m k d v e)
      | none => False
  | none => False
def CallV (P : Program) (m k : Nat) (d : Option Nat) (rest : List SOpr) (e : Env) (K : List Fr) (Q : Exit → Env → Prop) : Option (Nat × List AV) → Option (List AV × Bool) → Prop
  | some (g, caps), some (avs, live) => plainFn P g = true ∧ ∃ res, Says P g (avs ++ caps) res [] ∧ (live = true → noFrz res = true) ∧ T3 P m k rest K Q (putV m k d res e)
  | _, _ => False
def giveX (e : Env) (x : Opd) (args : List (Opd × Bool)) : Option (Env × List Bk × Nat × List AV × Bool) := match give1 e 1 args with
  | some (e1, b1, vs) => match calleeM e1 (1 + nB b1) x with
    | some (g, caps, e2, b2) => match give2 e2 args vs with
      | some (avs, live) => some (e2, b1 ++ b2, g, avs ++ caps, live)
      | none => none
    | none => none
  | none => none
def CallM (P : Program) (m k : Nat) (d : Option Nat) (rest : List SOpr) (K : List Fr) (Q : Exit → Env → Prop) : Option (Env × List Bk × Nat × List AV × Bool) → Prop
  | some (e2, bs, g, avs, live) => plainFn P g = true ∧ bksOk e2 bs = true ∧ ∃ res outs, Says P g avs res (num 1 outs) ∧ outOk (nB bs) live res outs = true ∧
      match putBks (killE e2) bs outs with
      | some e3 => T3 P m k rest K Q (putV m k d res e3)
      | none => False
  | none => False
def GuardS (P : Program) (m k : Nat) (b : Bool) (so : SOpr) (rest : List SOpr) (e : Env) (K : List Fr) (Q : Exit → Env → Prop) : Option AV → Prop
  | some (.bool t) => if t = b then S P m k (so :: rest) e K Q else S P m (k + 1) rest (skE m k e so.k) K Q
  | some (.tup [] []) => S P m (k + 1) rest (skE m k e so.k) K Q
  | _ => False
def DS (P : Program) (m : Nat) (lf : Bool) (e : Env) (ops : List SOpr) (info : List (List Bool × Option (List Nat))) (acc : List AV) (fin : List Bool) (t : Nat) (tail : List SOpr) (r : Nat) (K : List Fr) (Q : Exit → Env → Prop) : Prop :=
  DRunB P e ops info acc fun vs => (lf = true → (e ++ vs).all (liveV e) = true) ∧ S P m t tail (e ++ maskB fin vs ++ deads r) K Q
def D2 (P : Program) (m : Nat) (lf : Bool) (e : Env) (ops : List SOpr) (info : List (List Bool × Option (List Nat))) (acc : List AV) (fin : List Bool) (t : Nat) (tail : List SOpr) (r : Nat) (K : List Fr) (Q : Exit → Env → Prop) : Option (AV × Env) → Prop
  | some (v, _) => isDead v = false ∧ DS P m lf e ops info (acc ++ [v]) fin t tail r K Q
  | none => False
def DCons (P : Program) (m : Nat) (lf : Bool) (e em : Env) (d : List Nat) (ops : List SOpr) (info : List (List Bool × Option (List Nat))) (acc : List AV) (fin : List Bool) (t : Nat) (tail : List SOpr) (r : Nat) (K : List Fr) (Q : Exit → Env → Prop) : Option (AV × Env) → Prop
  | some (v, e1) => isDead v = false ∧ killS e1 d = killS em d ∧ DS P m lf e ops info (acc ++ [v]) fin t tail r K Q
  | none => False
def CallD (P : Program) (m : Nat) (lf : Bool) (e : Env) (ops : List SOpr) (info : List (List Bool × Option (List Nat))) (acc : List AV) (fin : List Bool) (t : Nat) (tail : List SOpr) (r : Nat) (K : List Fr) (Q : Exit → Env → Prop) (fr : Bool) (g : Nat) : Option (List AV × Bool) → Prop
  | some (avs, live) => ∃ res, Says P g avs res [] ∧ (live = true → noFrz res = true) ∧
      match (if fr then frz res else some res) with
      | some v => isDead v = false ∧ DS P m lf e ops info (acc ++ [v]) fin t tail r K Q
      | none => False
  | none => False
def CallDV (P : Program) (m : Nat) (lf : Bool) (e : Env) (ops : List SOpr) (info : List (List Bool × Option (List Nat))) (acc : List AV) (fin : List Bool) (t : Nat) (tail : List SOpr) (r : Nat) (K : List Fr) (Q : Exit → Env → Prop) : Option (Nat × List AV) → Option (List AV × Bool) → Prop
  | some (g, caps), some (avs, live) => plainFn P g = true ∧ ∃ res, Says P g (avs ++ caps) res [] ∧ (live = true → noFrz res = true) ∧ isDead res = false ∧ DS P m lf e ops info (acc ++ [res]) fin t tail r K Q
  | _, _ => False
def GuardD (P : Program) (m : Nat) (lf : Bool) (b : Bool) (so : SOpr) (e : Env) (ops : List SOpr) (bs : List Bool) (c : Option (List Nat)) (info : List (List Bool × Option (List Nat))) (acc : List AV) (fin : List Bool) (t : Nat) (tail : List SOpr) (r : Nat) (K : List Fr) (Q : Exit → Env → Prop) : Option AV → Prop
  | some (.bool x) => if x = b then DS P m lf e (so :: ops) ((bs, c) :: info) acc fin t tail r K Q else DS P m lf e ops info (acc ++ [skV so.k]) fin t tail r K Q
  | some (.tup [] []) => DS P m lf e ops info (acc ++ [skV so.k]) fin t tail r K Q
  | _ => False
section
variable {P : Program} {m k : Nat} {e e' : Env} {K : List Fr} {Q : Exit → Env → Prop}
@[simp] theorem G_seq {a b : SCode} : G P m (.seq a b) e K Q = G P m a e (.sq b :: K) Q := rfl
@[simp] theorem G_block {id : Nat} {b : SCode} : G P m (.block id b) e K Q = G P m b e (.bl id :: K) Q := rfl
@[simp] theorem G_skip : G P m .skip e K Q = R P m .normal e K Q := rfl
@[simp] theorem G_exit {i : Nat} : G P m (.exit i) e K Q = R P m (.exit i) e K Q := rfl
@[simp] theorem G_ret : G P m .ret e K Q = R P m .ret e K Q := rfl
@[simp] theorem G_bad : G P m .bad e K Q = False := rfl
@[simp] theorem G_cond {x : Opd} {a b : SCode} : G P m (.cond x a b) e K Q = CondG P m a b (dropS x e) K Q (ev e x) := by
  unfold G CondG
  simp only [wpS, G] <;> split <;> rename_i h <;> split <;> simp_all
@[simp] theorem G_frz {j : Nat} {b : SCode} : G P m (.frz j b) e K Q = FrzG P m j b e K Q ((e[j]?).bind frzTop) := by
  unfold G FrzG
  simp only [wpS]
  rfl
attribute [simp] frzTop
@[simp] theorem G_condk {x : Opd} {a b : SCode} : G P m (.condk x a b) e K Q = CondG P m a b e K Q (ev e x) := by
  unfold G CondG
  simp only [wpS, G] <;> split <;> rename_i h <;> split <;> simp_all
@[simp] theorem CondG_t {a b : SCode} : CondG P m a b e K Q (some (.bool true)) = G P m a e K Q := by simp [CondG]
@[simp] theorem CondG_f {a b : SCode} : CondG P m a b e K Q (some (.bool false)) = G P m b e K Q := by simp [CondG]
@[simp low] theorem CondG_b {a b : SCode} {t : Bool} : CondG P m a b e K Q (some (.bool t)) = ((t = true → G P m a e K Q) ∧ (t = false → G P m b e K Q)) := rfl
@[simp] theorem R_nil {ex : Exit} : R P m ex e [] Q = Q ex e := rfl
@[simp] theorem R_n {b : SCode} : R P m .normal e (.sq b :: K) Q = G P m b e K Q := rfl
@[simp] theorem R_x {i : Nat} {b : SCode} : R P m (.exit i) e (.sq b :: K) Q = R P m (.exit i) e K Q := rfl
@[simp] theorem R_r {b : SCode} : R P m .ret e (.sq b :: K) Q = R P m .ret e K Q := rfl
@[simp] theorem R_bn {i : Nat} : R P m .normal e (.bl i :: K) Q = R P m .normal e K Q := rfl
@[simp] theorem R_br {i : Nat} : R P m .ret e (.bl i :: K) Q = R P m .ret e K Q := rfl
@[simp] theorem R_bx {i j : Nat} : R P m (.exit j) e (.bl i :: K) Q = R P m (if j = i then .normal else .exit j) e K Q := rfl
@[simp] theorem G_reg1 {D : List Nat} {ops : List SOpr} : G P m (.reg D ops) e [] Q = S P m 0 ops (e ++ deads ops.length) [] Q := rfl
@[simp] theorem G_reg2 {D : List Nat} {ops : List SOpr} {b : SCode} : G P m (.reg D ops) e (.sq b :: K) Q = S P m 0 ops (e ++ deads ops.length) (.sq b :: K) Q := rfl
@[simp] theorem G_reg3 {D : List Nat} {ops : List SOpr} {id : Nat} : G P m (.reg D ops) e (.bl id :: K) Q = S P m 0 ops (e ++ deads ops.length) (.bl id :: K) Q := rfl
theorem S_nil0 : S P m k [] e K Q = endS P m e Q K := rfl
@[simp] theorem S_nil1 : S P m k [] e [] Q = (endOk m e = true ∧ R P m .normal (e.take m) [] Q) := rfl
@[simp] theorem S_nil2 {b : SCode} : S P m k [] e (.sq b :: K) Q = (endOk m e = true ∧ R P m .normal (e.take m) (.sq b :: K) Q) := rfl
@[simp] theorem S_nil3 {id : Nat} : S P m k [] e (.bl id :: K) Q = (endOk m e = true ∧ R P m .normal (e.take m) (.bl id :: K) Q) := rfl
def Mv (P : Program) (m : Nat) (K : List Fr) (Q : Exit → Env → Prop) : Option Env → Prop
  | some e3 => R P m .normal e3 K Q
  | none => False
@[simp] theorem Mv_some : Mv P m K Q (some e) = R P m .normal e K Q := rfl
@[simp] theorem S_nil4 {j k' : Nat} : S P m k [] e (.mv j k' :: K) Q = (endOk m e = true ∧ Mv P m K Q (mvEnd m j k' e)) := by
  simp only [S_nil0, endS]
  cases mvEnd m j k' e <;> rfl
@[simp] theorem S_op {s : SOp} {d : Option Nat} {rest : List SOpr} : S P m k (⟨.op s, d, none⟩ :: rest) e K Q = T2 P m k d rest K Q (opx e s) := by
  simp only [S, SRun, OpW]
  cases h : opx e s with
  | none => rfl
  | some x => obtain ⟨v, e1⟩ := x; simp only [T2]; cases putV m k d v e1 <;> rfl
@[simp] theorem S_guard {sk : SK} {d : Option Nat} {s : Nat} {b : Bool} {rest : List SOpr} : S P m k (⟨sk, d, some (s, b)⟩ :: rest) e K Q = GuardS P m k b ⟨sk, d, none⟩ rest e K Q e[s]? := by
  simp only [S, SRun, GuardS]
  cases h : e[s]? with
  | none => rfl
  | some v =>
    cases v with
    | bool t => cases t <;> cases b <;> rfl
    | tup sh cs => cases sh <;> cases cs <;> rfl
    | _ => rfl
@[simp] theorem GuardS_b {b t : Bool} {so : SOpr} {rest : List SOpr} : GuardS P m k b so rest e K Q (some (.bool t)) = if t = b then S P m k (so :: rest) e K Q else S P m (k + 1) rest (skE m k e so.k) K Q := rfl
@[simp] theorem GuardS_u {b : Bool} {so : SOpr} {rest : List SOpr} : GuardS P m k b so rest e K Q (some (.tup [] [])) = S P m (k + 1) rest (skE m k e so.k) K Q := rfl
@[simp] theorem T2_some {d : Option Nat} {rest : List SOpr} {v : AV} : T2 P m k d rest K Q (some (v, e)) = T3 P m k rest K Q (putV m k d v e) := rfl
@[simp] theorem T3_some {rest : List SOpr} : T3 P m k rest K Q (some e) = S P m (k + 1) rest e K Q := rfl
@[simp] theorem S_call {g : Nat} {args : List Opd} {fr : Bool} {d : Option Nat} {rest : List SOpr} : S P m k (⟨.call g args fr, d, none⟩ :: rest) e K Q = CallG P m k d rest e K Q fr g (prepX e args) := by
  simp only [S, SRun, OpW]
  cases h : prepX e args with
  | none => rfl
  | some x =>
    obtain ⟨v, l⟩ := x
    simp only [CallG, eq_iff_iff]
    refine exists_congr fun res => and_congr Iff.rfl (and_congr Iff.rfl ?_)
    cases (if fr = true then frz res else some res) with
    | none => exact Iff.rfl
    | some v => simp only; cases putV m k d v e <;> exact Iff.rfl
@[simp] theorem S_callv {x : Opd} {args : List Opd} {d : Option Nat} {rest : List SOpr} : S P m k (⟨.callv x args, d, none⟩ :: rest) e K Q = CallV P m k d rest e K Q (calleeC e x) (prepX e args) := by
  simp only [S, SRun, OpW]
  cases h : calleeC e x with
  | none => rfl
  | some y =>
    obtain ⟨g, caps⟩ := y
    cases h2 : prepX e args with
    | none => rfl
    | some z =>
      obtain ⟨v, l⟩ := z
      simp only [CallV, eq_iff_iff]
      refine and_congr Iff.rfl (exists_congr fun res => and_congr Iff.rfl (and_congr Iff.rfl ?_))
      cases putV m k d res e <;> exact Iff.rfl
@[simp] theorem S_callm {x : Opd} {args : List (Opd × Bool)} {d : Option Nat} {rest : List SOpr} : S P m k (⟨.callm x args, d, none⟩ :: rest) e K Q = CallM P m k d rest K Q (giveX e x args) := by
  simp only [S, SRun, OpW, giveX]
  cases h : give1 e 1 args with
  | none => rfl
  | some y =>
    obtain ⟨e1, b1, vs⟩ := y
    simp only
    cases h2 : calleeM e1 (1 + nB b1) x with
    | none => rfl
    | some z =>
      obtain ⟨g, caps, e2, b2⟩ := z
      simp only
      cases h3 : give2 e2 args vs with
      | none => rfl
      | some u =>
        obtain ⟨avs, live⟩ := u
        simp only [CallM, eq_iff_iff]
        refine and_congr Iff.rfl (and_congr Iff.rfl (exists_congr fun res => exists_congr fun outs => and_congr Iff.rfl (and_congr Iff.rfl ?_)))
        cases putBks (killE e2) (b1 ++ b2) outs with
        | none => exact Iff.rfl
        | some e3 => simp only; cases putV m k d res e3 <;> exact Iff.rfl
theorem DS_false {ops : List SOpr} {info : List (List Bool × Option (List Nat))} {acc : List AV} {fin : List Bool} {t : Nat} {tail : List SOpr} {r : Nat} : DS P m false e ops info acc fin t tail r K Q = DRunB P e ops info acc fun vs => S P m t tail (e ++ maskB fin vs ++ deads r) K Q := by simp [DS]
@[simp] theorem G_dreg1 {D : List Nat} {ops : List SOpr} {sees : List (List Nat)} {t : Nat} {cons : List (Nat × Nat)} {info : List (List Bool × Option (List Nat))} {fin : List Bool} :
    G P m (.dreg D ops sees t cons info fin) e [] Q = DS P m false e (ops.take t) info [] fin t (ops.drop t) (ops.length - t) [] Q := by rw [DS_false]; rfl
@[simp] theorem G_dreg2 {D : List Nat} {ops : List SOpr} {sees : List (List Nat)} {t : Nat} {cons : List (Nat × Nat)} {info : List (List Bool × Option (List Nat))} {fin : List Bool} {b : SCode} :
    G P m (.dreg D ops sees t cons info fin) e (.sq b :: K) Q = DS P m false e (ops.take t) info [] fin t (ops.drop t) (ops.length - t) (.sq b :: K) Q := by rw [DS_false]; rfl
@[simp] theorem G_dreg3 {D : List Nat} {ops : List SOpr} {sees : List (List Nat)} {t : Nat} {cons : List (Nat × Nat)} {info : List (List Bool × Option (List Nat))} {fin : List Bool} {id : Nat} :
    G P m (.dreg D ops sees t cons info fin) e (.bl id :: K) Q = DS P m false e (ops.take t) info [] fin t (ops.drop t) (ops.length - t) (.bl id :: K) Q := by rw [DS_false]; rfl
@[simp] theorem G_dregm {j k : Nat} {D : List Nat} {ops : List SOpr} {sees : List (List Nat)} {t : Nat} {cons : List (Nat × Nat)} {info : List (List Bool × Option (List Nat))} {fin : List Bool} :
    G P m (.dregm j k D ops sees t cons info fin) e K Q = ((e.any hasRef = false ∧ e[j]? = some .dead) ∧ DS P m false e (ops.take t) info [] fin t (ops.drop t) (ops.length - t) (.mv j k :: K) Q) := by rw [DS_false]; rfl
variable {lf : Bool} {ops : List SOpr} {bs : List Bool} {info : List (List Bool × Option (List Nat))} {acc : List AV} {fin : List Bool} {t : Nat} {tail : List SOpr} {r : Nat}
theorem DS_nil : DS P m lf e [] info acc fin t tail r K Q = ((lf = true → (e ++ acc).all (liveV e) = true) ∧ S P m t tail (e ++ maskB fin acc ++ deads r) K Q) := by
  cases info with
  | nil => rfl
  | cons x y => rfl
@[simp] theorem DS_nil0 : DS P m false e [] info acc fin t tail r K Q = S P m t tail (e ++ maskB fin acc ++ deads r) K Q := by simp [DS_nil]
@[simp] theorem DS_nil1 : DS P m true e [] info acc fin t tail r K Q = ((e ++ acc).all (liveV e) = true ∧ S P m t tail (e ++ maskB fin acc ++ deads r) K Q) := by simp [DS_nil]
@[simp] theorem DS_op {s : SOp} : DS P m lf e (⟨.op s, none, none⟩ :: ops) ((bs, none) :: info) acc fin t tail r K Q = (pureOp s = true ∧ D2 P m lf e ops info acc fin t tail r K Q (opx (e ++ maskB bs acc) s)) := by
  simp only [DS, DRunB, OpV]
  cases h : opx (e ++ maskB bs acc) s with
  | none => simp [D2]
  | some x => obtain ⟨v, e1⟩ := x; simp [D2, DS]
@[simp] theorem D2_some {v : AV} : D2 P m lf e ops info acc fin t tail r K Q (some (v, e')) = (isDead v = false ∧ DS P m lf e ops info (acc ++ [v]) fin t tail r K Q) := rfl
@[simp] theorem DS_cons {j : List Nat} {ty n : Nat} {z : List AV} {ps : List (Nat × Nat × Opd)} : DS P m lf e (⟨.op (.bsl ty n z ps), none, none⟩ :: ops) ((bs, some j) :: info) acc fin t tail r K Q = DCons P m lf e (e ++ maskB bs acc) (j.map (e.length + ·)) ops info acc fin t tail r K Q (opx (e ++ maskB bs acc) (.bsl ty n z ps)) := by
  simp only [DS, DRunB, OpC, addL_no (so := ⟨.op (.bsl ty n z ps), none, none⟩) rfl]
  cases h : opx (e ++ maskB bs acc) (.bsl ty n z ps) with
  | none => simp [DCons]
  | some x => obtain ⟨v, e1⟩ := x; simp [DCons, DS]
theorem addL_app {e : Env} {ty sz : Nat} {x y : Opd} {Q : List AV → Prop} : addL e ⟨.op (.append ty sz x y), none, none⟩ (fun vs => (lf = true → (e ++ vs).all (liveV e) = true) ∧ Q vs) = fun vs => (true = true → (e ++ vs).all (liveV e) = true) ∧ Q vs := by
  funext vs
  simp only [addL, isApp]
  apply propext
  constructor
  · rintro ⟨h1, _, h2⟩; exact ⟨h1, h2⟩
  · rintro ⟨h1, h2⟩; exact ⟨h1, fun _ => h1 trivial, h2⟩
@[simp] theorem DS_app {j : List Nat} {ty sz : Nat} {x y : Opd} : DS P m lf e (⟨.op (.append ty sz x y), none, none⟩ :: ops) ((bs, some j) :: info) acc fin t tail r K Q = DCons P m true e (e ++ maskB bs acc) (j.map (e.length + ·)) ops info acc fin t tail r K Q (appX (e ++ maskB bs acc) ty sz x y) := by
  simp only [DS, DRunB, OpC, addL_app]
  cases h : appX (e ++ maskB bs acc) ty sz x y with
  | none => simp [DCons]
  | some x => obtain ⟨v, e1⟩ := x; simp [DCons, DS]
@[simp] theorem DCons_some {em : Env} {d : List Nat} {v : AV} : DCons P m lf e em d ops info acc fin t tail r K Q (some (v, e')) = (isDead v = false ∧ killS e' d = killS em d ∧ DS P m lf e ops info (acc ++ [v]) fin t tail r K Q) := rfl
@[simp] theorem DS_guard {sk : SK} {s : Nat} {b : Bool} : DS P m lf e (⟨sk, none, some (s, b)⟩ :: ops) ((bs, none) :: info) acc fin t tail r K Q = GuardD P m lf b ⟨sk, none, none⟩ e ops bs none info acc fin t tail r K Q (e ++ maskB bs acc)[s]? := by
  simp only [DS, DRunB, true_and]
  cases h : (e ++ maskB bs acc)[s]? with
  | none => rfl
  | some v =>
    cases v with
    | bool t => cases t <;> cases b <;> simp [GuardD, DS, DRunB, OpV, wantX]
    | tup sh cs => cases sh <;> cases cs <;> simp [GuardD, DS, DRunB, OpV, wantX]
    | _ => simp [GuardD, DS, DRunB, OpV, wantX]
@[simp] theorem DS_guardC {sk : SK} {s : Nat} {b : Bool} {js : List Nat} : DS P m lf e (⟨sk, none, some (s, b)⟩ :: ops) ((bs, some js) :: info) acc fin t tail r K Q = GuardD P m lf b ⟨sk, none, none⟩ e ops bs (some js) info acc fin t tail r K Q (e ++ maskB bs acc)[s]? := by
  have hC : ∀ (E : Env) (d : List Nat) (K : AV → Prop), OpC ⟨sk, none, some (s, b)⟩ E d K = OpC ⟨sk, none, none⟩ E d K := fun _ _ _ => rfl
  have hA : ∀ (Q : List AV → Prop), addL e ⟨sk, none, some (s, b)⟩ Q = addL e ⟨sk, none, none⟩ Q := fun _ => rfl
  simp only [DS, DRunB, true_and, hC, hA]
  cases h : (e ++ maskB bs acc)[s]? with
  | none => rfl
  | some v =>
    cases v with
    | bool t => cases t <;> cases b <;> simp [GuardD, DS, DRunB, wantX]
    | tup sh cs => cases sh <;> cases cs <;> simp [GuardD, DS, DRunB, wantX]
    | _ => simp [GuardD, DS, DRunB, wantX]
@[simp] theorem GuardD_b {b x : Bool} {so : SOpr} {c : Option (List Nat)} : GuardD P m lf b so e ops bs c info acc fin t tail r K Q (some (.bool x)) = if x = b then DS P m lf e (so :: ops) ((bs, c) :: info) acc fin t tail r K Q else DS P m lf e ops info (acc ++ [skV so.k]) fin t tail r K Q := rfl
@[simp] theorem GuardD_u {b : Bool} {so : SOpr} {c : Option (List Nat)} : GuardD P m lf b so e ops bs c info acc fin t tail r K Q (some (.tup [] [])) = DS P m lf e ops info (acc ++ [skV so.k]) fin t tail r K Q := rfl
@[simp] theorem DS_call {g : Nat} {args : List Opd} {fr : Bool} : DS P m lf e (⟨.call g args fr, none, none⟩ :: ops) ((bs, none) :: info) acc fin t tail r K Q = CallD P m lf e ops info acc fin t tail r K Q fr g (prepX (e ++ maskB bs acc) args) := by
  simp only [DS, DRunB, OpV, true_and]
  cases h : prepX (e ++ maskB bs acc) args with
  | none => rfl
  | some x => obtain ⟨v, l⟩ := x; rfl
@[simp] theorem DS_callv {x : Opd} {args : List Opd} : DS P m lf e (⟨.callv x args, none, none⟩ :: ops) ((bs, none) :: info) acc fin t tail r K Q = CallDV P m lf e ops info acc fin t tail r K Q (calleeC (e ++ maskB bs acc) x) (prepX (e ++ maskB bs acc) args) := by
  simp only [DS, DRunB, OpV, true_and]
  cases h : calleeC (e ++ maskB bs acc) x with
  | none => rfl
  | some y =>
    obtain ⟨g, caps⟩ := y
    cases h2 : prepX (e ++ maskB bs acc) args with
    | none => rfl
    | some z => obtain ⟨v, l⟩ := z; rfl
theorem callG {d : Option Nat} {rest : List SOpr} {g : Nat} {avs : List AV} {live : Bool} {res : AV} (h : Says P g avs res []) (h2 : (live = true → noFrz res = true) ∧ T3 P m k rest K Q (putV m k d res e)) : CallG P m k d rest e K Q false g (some (avs, live)) :=
  ⟨res, h, h2.1, h2.2⟩
theorem callGF {d : Option Nat} {rest : List SOpr} {g : Nat} {avs : List AV} {live : Bool} {res : AV} (h : Says P g avs res []) (h2 : (live = true → noFrz res = true) ∧ (match frz res with | some v => T3 P m k rest K Q (putV m k d v e) | none => False)) : CallG P m k d rest e K Q true g (some (avs, live)) := by
  refine ⟨res, h, h2.1, ?_⟩
  have := h2.2
  cases hf : frz res with
  | none => rw [hf] at this; exact this.elim
  | some v => rw [hf] at this; simpa [hf] using this
theorem callV {d : Option Nat} {rest : List SOpr} {g : Nat} {caps avs : List AV} {live : Bool} {res : AV} (hp : plainFn P g = true) (h : Says P g (avs ++ caps) res []) (h2 : (live = true → noFrz res = true) ∧ T3 P m k rest K Q (putV m k d res e)) : CallV P m k d rest e K Q (some (g, caps)) (some (avs, live)) :=
  ⟨hp, res, h, h2.1, h2.2⟩
def T4 (P : Program) (m k : Nat) (d : Option Nat) (rest : List SOpr) (K : List Fr) (Q : Exit → Env → Prop) (res : AV) : Option Env → Prop
  | some e3 => T3 P m k rest K Q (putV m k d res e3)
  | none => False
@[simp] theorem T4_some {d : Option Nat} {rest : List SOpr} {res : AV} : T4 P m k d rest K Q res (some e) = T3 P m k rest K Q (putV m k d res e) := rfl
theorem callM {d : Option Nat} {rest : List SOpr} {bs : List Bk} {g : Nat} {avs : List AV} {live : Bool} {res : AV} (outs : List AV) (hp : plainFn P g = true) (h : Says P g avs res (num 1 outs)) (h2 : bksOk e bs = true ∧ outOk (nB bs) live res outs = true ∧ T4 P m k d rest K Q res (putBks (killE e) bs outs)) :
    CallM P m k d rest K Q (some (e, bs, g, avs, live)) := by
  refine ⟨hp, h2.1, res, outs, h, h2.2.1, ?_⟩
  have := h2.2.2
  unfold T4 at this
  split at this <;> rename_i h3
  · exact this
  · exact this.elim
theorem callD {g : Nat} {avs : List AV} {live : Bool} {res : AV} (h : Says P g avs res []) (h2 : (live = true → noFrz res = true) ∧ isDead res = false ∧ DS P m lf e ops info (acc ++ [res]) fin t tail r K Q) : CallD P m lf e ops info acc fin t tail r K Q false g (some (avs, live)) :=
  ⟨res, h, h2.1, h2.2⟩
theorem callDF {g : Nat} {avs : List AV} {live : Bool} {res : AV} (h : Says P g avs res []) (h2 : (live = true → noFrz res = true) ∧ (match frz res with | some v => isDead v = false ∧ DS P m lf e ops info (acc ++ [v]) fin t tail r K Q | none => False)) : CallD P m lf e ops info acc fin t tail r K Q true g (some (avs, live)) := by
  refine ⟨res, h, h2.1, ?_⟩
  have := h2.2
  cases hf : frz res with
  | none => rw [hf] at this; exact this.elim
  | some v => rw [hf] at this; simpa [hf] using this
theorem callDV {g : Nat} {caps avs : List AV} {live : Bool} {res : AV} (hp : plainFn P g = true) (h : Says P g (avs ++ caps) res []) (h2 : (live = true → noFrz res = true) ∧ isDead res = false ∧ DS P m lf e ops info (acc ++ [res]) fin t tail r K Q) : CallDV P m lf e ops info acc fin t tail r K Q (some (g, caps)) (some (avs, live)) :=
  ⟨hp, res, h, h2.1, h2.2⟩
theorem Fn_G {g : Nat} {fn : Func} {V : List Nat} {sc : SCode} {rs : List SRes} {args : List AV} {res : AV} (hf : P.funcs[g]? = some fn) (hok : okFn P fn V sc rs args.length = true)
    (h : G P V.length sc (args ++ deads (V.length - args.length)) [] (EndsW rs res)) : Says P g args res [] := Fn_of_wp hf hok h
theorem Fn_GM {g : Nat} {fn : Func} {V : List Nat} {sc : SCode} {rs : List SRes} {args : List AV} {res : AV} (ss : List Nat) (os : List AV) (hf : P.funcs[g]? = some fn) (hok : okFn P fn V sc rs args.length = true) (hss : ∀ s ∈ ss, s ≠ 0)
    (h : G P V.length sc (args ++ deads (V.length - args.length)) [] (EndsM rs ss res os)) : Says P g args res (ss.zip os) := Fn_of_wpM ss os hf hok hss h
theorem runK_imp {K : List Fr} {Q Q' : Exit → Env → Prop} (hQ : ∀ ex e, Q ex e → Q' ex e) : ∀ ex e, runK P m K Q ex e → runK P m K Q' ex e := by
  induction K with
  | nil => exact hQ
  | cons f K ih =>
    intro ex e h
    cases f with
    | sq b => cases ex <;> first | exact wpS_imp ih h | exact ih _ _ h
    | bl id => exact ih _ _ h
    | mv j k => exact h.elim
theorem G_loop {l b : SCode} (hl : l = .loop b) (js : List Nat) (E : Nat → Env) (I : Nat → Prop) (n : Nat) (out : Exit → Env → Prop)
    (hstep : ∀ i, i < n → I i → ∀ q : Exit → Env → Prop, (∀ e, js.foldl (fun e j => e.set j .dead) e = E (i + 1) → I (i + 1) → q .normal e) → (∀ i e, out (.exit i) e → q (.exit i) e) → (∀ e, out .ret e → q .ret e) → G P m b (E i) [] q)
    (hlast : I n → ∀ q : Exit → Env → Prop, (∀ i e, out (.exit i) e → q (.exit i) e) → (∀ e, out .ret e → q .ret e) → G P m b (E n) [] q)
    {e : Env} (hI : I 0) (he : e = E 0) (hout : ∀ ex e, out ex e → R P m ex e K Q) : G P m l e K Q := by
  subst he
  have key := W_rangeF (P := P) (m := m) (Q := fun ex e => (∃ i, ex = .exit i ∨ ex = .ret) ∧ out ex e) hl js E I n (fun i hi hI => ?_) (fun hI => ?_) 0 (Nat.zero_le _) hI
  · subst hl
    exact W_imp (fun ex e h => hout ex e h.2) key
  · exact hstep i hi hI _ (fun e h1 h2 => ⟨h1, h2⟩) (fun i e h => ⟨⟨i, .inl rfl⟩, h⟩) (fun e h => ⟨⟨0, .inr rfl⟩, h⟩)
  · exact hlast hI _ (fun i e h => ⟨⟨i, .inl rfl⟩, h⟩) (fun e h => ⟨⟨0, .inr rfl⟩, h⟩)
theorem G_while {α : Type} {l b : SCode} (hl : l = .loop b) (js : List Nat) (E : α → Env) (μ : α → Nat) (I : α → Prop) (out : Exit → Env → Prop)
    (hstep : ∀ a, I a → ∀ q : Exit → Env → Prop, (∀ e a', js.foldl (fun e j => e.set j .dead) e = E a' → I a' → μ a' < μ a → q .normal e) → (∀ i e, out (.exit i) e → q (.exit i) e) → (∀ e, out .ret e → q .ret e) → G P m b (E a) [] q)
    (a : α) (hI : I a) {e : Env} (he : e = E a) (hout : ∀ ex e, out ex e → R P m ex e K Q) : G P m l e K Q := by
  have key : ∀ n a, μ a = n → I a → W P m l (E a) fun ex e => out ex e := by
    intro n
    induction n using Nat.strongRecOn with
    | _ n ih =>
      intro a hn hI
      subst hl
      refine W_loop (hstep a hI _ (fun e a' h1 h2 h3 => ?_) (fun i e h => h) (fun e h => h))
      refine W_forget (js := js) ?_
      rw [h1]
      exact ih _ (by omega) a' rfl h2
  subst he
  subst hl
  exact W_imp (fun ex e h => hout ex e h) (key _ a rfl hI)
end
theorem Says_nil {P : Program} {g : Nat} {args : List AV} {res : AV} {outs : List (Nat × AV)} (i : Nat) (hi : args[i]? = some (.rsl 0 [])) (h : ∀ t, Says P g (args.set i (.nsl t)) res outs) : Says P g args res outs := by
  intro w Φ σ cargs fa hrel hhr hinv
  obtain ⟨cv, f1, f2, hcv, hv, hf, hset⟩ := CR_get i hrel hi
  simp only [VR] at hv
  obtain ⟨⟨a, c, rfl, _, h0, _⟩, hz⟩ := hv
  have hn : VR P w Φ σ [] (.nsl a.isNone) (.slice a 0 c) (fun _ => 0) := by
    simp only [VR]
    exact ⟨⟨a, c, rfl, by simp, fun e => (h0 e).2⟩, fun _ => by simp⟩
  have h2 := hset _ _ _ hn
  have e1 : cargs.toList.set i (.slice a 0 c) = cargs.toList := set_same hcv
  rw [e1, show (fun b => 0 + f2 b) = fa from funext fun b => by have := hf b; have := hz b; omega] at h2
  refine h a.isNone w Φ σ cargs fa h2 ?_ hinv
  have key : ∀ (l : List AV) (i : Nat), hrs l = false → hrs (l.set i (.nsl a.isNone)) = false := by
    intro l
    induction l with
    | nil => intro i _; simp [hrs]
    | cons x xs ih =>
      intro i h
      simp only [hrs, Bool.or_eq_false_iff] at h
      cases i with
      | zero => simp [hrs, hr, h.2]
      | succ i => simp [hrs, h.1, ih i h.2]
  exact key _ _ hhr
def updE (e : Env) : List (Nat × AV) → Env
  | [] => e
  | (j, v) :: us => updE (e.set j v) us
@[simp] theorem updE_nil {e : Env} : updE e [] = e := rfl
@[simp] theorem updE_cons {e : Env} {j : Nat} {v : AV} {us : List (Nat × AV)} : updE e ((j, v) :: us) = updE (e.set j v) us := rfl
section
variable {P : Program} {m : Nat} {K : List Fr} {Q : Exit → Env → Prop}
theorem G_for {l b : SCode} (hl : l = .loop b) (js : List Nat) (u : Nat → List (Nat × AV)) (I : Nat → Prop) (n : Nat) {e : Env} (hI : I 0) (he : e = updE e (u 0))
    (hstep : ∀ i, i < n → I i → ∀ q : Exit → Env → Prop, (∀ e', js.foldl (fun e j => e.set j .dead) e' = updE e (u (i + 1)) → I (i + 1) → q .normal e') → (∀ x e', R P m (.exit x) e' K Q → q (.exit x) e') → (∀ e', R P m .ret e' K Q → q .ret e') → G P m b (updE e (u i)) [] q)
    (hlast : I n → ∀ q : Exit → Env → Prop, (∀ x e', R P m (.exit x) e' K Q → q (.exit x) e') → (∀ e', R P m .ret e' K Q → q .ret e') → G P m b (updE e (u n)) [] q) : G P m l e K Q :=
  G_loop hl js (fun i => updE e (u i)) I n (fun ex e' => R P m ex e' K Q) hstep hlast hI he (fun _ _ h => h)
theorem G_whl {α : Type} {l b : SCode} (hl : l = .loop b) (js : List Nat) (u : α → List (Nat × AV)) (μ : α → Nat) (I : α → Prop) (a : α) {e : Env} (hI : I a) (he : e = updE e (u a))
    (hstep : ∀ a, I a → ∀ q : Exit → Env → Prop, (∀ e' a', js.foldl (fun e j => e.set j .dead) e' = updE e (u a') → I a' → μ a' < μ a → q .normal e') → (∀ x e', R P m (.exit x) e' K Q → q (.exit x) e') → (∀ e', R P m .ret e' K Q → q .ret e') → G P m b (updE e (u a)) [] q) : G P m l e K Q :=
  G_while hl js (fun a => updE e (u a)) μ I (fun ex e' => R P m ex e' K Q) hstep a hI he (fun _ _ h => h)
end
theorem Says_weak {P : Program} {g : Nat} {args : List AV} {res res' : AV} {outs : List (Nat × AV)} (hw : ∀ (w : World) (Φ : Nat → Prop) (σ : Nat → Value) (cv : Value) (f : Cnt), VR P w Φ σ [] res cv f → ∃ f', VR P w Φ σ [] res' cv f' ∧ ∀ b, f' b ≤ f b) (hr' : hr res' = false)
    (h : Says P g args res outs) : Says P g args res' outs := by
  intro w Φ σ cargs fa hrel hhr hinv
  refine (h w Φ σ cargs fa hrel hhr hinv).mono ?_
  rintro en w' ⟨cv, Φ', f1, f2, he, hext, h1, h2, h3, h4, h5, h6, h7, h8⟩
  obtain ⟨f', k1, k2⟩ := hw w' Φ' σ cv f1 h3
  exact ⟨cv, Φ', f', f2, he, hext, h1, h2, k1, hr', h5, h6, h7.le (fun b => by have := k2 b; show f' b + f2 b ≤ f1 b + f2 b; omega), fun b hb => h8 b (by have := k2 b; omega)⟩
theorem weak_osl {P : Program} {w : World} {Φ : Nat → Prop} {σ : Nat → Value} {ρ : List Value} {s e n : Nat} {cs : List AV} {cv : Value} {f : Cnt} (h : VR P w Φ σ ρ (.osl s e n cs) cv f) : VR P w Φ σ ρ (.rsl n []) cv (fun _ => 0) := by
  simp only [VR] at h ⊢
  obtain ⟨_, _, xs, f1, ho, _⟩ := h
  obtain ⟨a, c, e, h1, h2, _⟩ := ownsRow_slice ho
  exact ⟨⟨a, c, e, h1, h2, by simp only [FC]⟩, by simp⟩
theorem weak_rsl {P : Program} {w : World} {Φ : Nat → Prop} {σ : Nat → Value} {ρ : List Value} {n : Nat} {cs : List AV} {cv : Value} {f : Cnt} (h : VR P w Φ σ ρ (.rsl n cs) cv f) : VR P w Φ σ ρ (.rsl n []) cv f := by
  simp only [VR] at h ⊢
  obtain ⟨⟨a, c, e, h1, h2, _⟩, hz⟩ := h
  exact ⟨⟨a, c, e, h1, h2, by simp only [FC]⟩, hz⟩
theorem weak_tup {P : Program} {g : Nat} {args : List AV} {u u' v : AV} {outs : List (Nat × AV)} (hw : ∀ (w : World) (Φ : Nat → Prop) (σ : Nat → Value) (cv : Value) (f : Cnt), VR P w Φ σ [] u cv f → ∃ f', VR P w Φ σ [] u' cv f' ∧ ∀ b, f' b ≤ f b) (hu : hr u' = false) (hv : hr v = false)
    (h : Says P g args (.tup [none, none] [u, v]) outs) : Says P g args (.tup [none, none] [u', v]) outs := by
  refine Says_weak (fun w Φ σ cv f hvr => ?_) (by simp [hr, hrs, hu, hv]) h
  simp only [VR, CR] at hvr ⊢
  obtain ⟨arr, rfl, hsh, v1, vs', f1, f2, e1, h1, ⟨v2, vs2, f3, f4, e2, h3, ⟨e3, z4⟩, hf2⟩, hf⟩ := hvr
  obtain ⟨f', k1, k2⟩ := hw w Φ σ v1 f1 h1
  exact ⟨fun b => f' b + f2 b, ⟨arr, rfl, hsh, v1, vs', f', f2, e1, k1, ⟨v2, vs2, f3, f4, e2, h3, ⟨e3, z4⟩, hf2⟩, fun _ => rfl⟩, fun b => by have := k2 b; have := hf b; show f' b + f2 b ≤ f b; omega⟩
attribute [simp] killS giveX mvEnd nilX skE skV
end Go.AM

/- Short words for the code's text. -/
namespace Go.AM.K
open Go Go.AM
abbrev T : Bool := true
abbrev F : Bool := false
abbrev o (x : SOp) : SOpr := ⟨.op x, none, none⟩
abbrev a (j : Nat) (x : SOp) : SOpr := ⟨.op x, some j, none⟩
abbrev g (s : Nat) (b : Bool) (x : SOp) : SOpr := ⟨.op x, none, some (s, b)⟩
abbrev c (f : Nat) (xs : List Opd) : SOpr := ⟨.call f xs false, none, none⟩
abbrev s (j : Nat) : Opd := .slot j
abbrev k (v : AV) : Opd := .con v
abbrev n (x : Int) : Opd := .con (.int .i64 x)
abbrev b (x : Bool) : Opd := .con (.bool x)
abbrev i (x : Int) : AV := .int .i64 x
abbrev m (j : Nat) : SOpr := ⟨.op (.mv (.slot j)), none, none⟩
abbrev u (j i : Nat) : SOpr := ⟨.op (.asg (.slot i)), some j, none⟩
abbrev f (k i : Nat) : SOpr := ⟨.op (.faddr k (.slot i)), none, none⟩
abbrev l (k i : Nat) : SOpr := ⟨.op (.load k false (.slot i)), none, none⟩
abbrev L (k i : Nat) : SOpr := ⟨.op (.load k true (.slot i)), none, none⟩
abbrev e (i k : Nat) : SOpr := ⟨.op (.ext i k), none, none⟩
abbrev q (a b : SCode) : SCode := .seq a b
abbrev r (D : List Nat) (x : List SOpr) : SCode := .reg D x
abbrev d (x : List AV) (a b : Nat) : AV := .osl 0 a b x
end Go.AM.K

/- From what is handed in to abstract values. -/
set_option linter.unusedSimpArgs false
set_option linter.unusedVariables false
set_option linter.unusedSectionVars false
namespace Go.AM
open Go
section
variable {H : Type} {enc : TypeId × Value → H} {P : Program} {w : World} {Φ : Nat → Prop} {σ : Nat → Value} {ρ : List Value}
def Rd (P : Program) (w : World) (ds : List D) (cs : List Value) : Prop := ∀ (Φ : Nat → Prop) (σ : Nat → Value) (ρ : List Value), (∀ b, b < w.heap.size → Φ b) → CR P w Φ σ ρ (Cs ds) cs (fun _ => 0)
theorem Rd_nil : Rd P w [] [] := fun _ _ _ _ => by simpa using CR_nil
theorem Rd_one {d : D} {v : Value} (h : ∀ (Φ : Nat → Prop) (σ : Nat → Value) (ρ : List Value), (∀ b, b < w.heap.size → Φ b) → VR P w Φ σ ρ (C d) v (fun _ => 0)) : Rd P w [d] [v] := fun Φ σ ρ hΦ => by
  simpa using CR_cons (h Φ σ ρ hΦ) CR_nil
theorem Rd_append {a b : List D} {cs cs' : List Value} (h : Rd P w a cs) (h' : Rd P w b cs') : Rd P w (a ++ b) (cs ++ cs') := fun Φ σ ρ hΦ => by
  simpa using CR_append (h Φ σ ρ hΦ) (h' Φ σ ρ hΦ)
theorem Rd_length {a : List D} {cs : List Value} (h : Rd P w a cs) : a.length = cs.length := by
  have := CR_length (h (fun _ => True) (fun _ => undef) [] (fun _ _ => trivial))
  simpa using this
theorem Rd_seg {a b : List D} {cs : List Value} {o s : Nat} (h : Rd P w a ((cs.drop o).take s)) (h' : Rd P w b (cs.drop (o + s))) : Rd P w (a ++ b) (cs.drop o) := by
  have := Rd_append h h'
  rwa [← List.drop_drop, List.take_append_drop] at this
theorem Rd_end {cs : List Value} {o : Nat} (h : cs.length = o) : Rd P w [] (cs.drop o) := by
  rw [List.drop_eq_nil_of_le (by omega)]; exact Rd_nil
theorem Rd_int {k : IntKind} {n : Int} : Rd P w [.I k n] [.int k n] := Rd_one fun _ _ _ _ => by simp [VR]
theorem Rd_bool {b : Bool} : Rd P w [.B b] [.bool b] := Rd_one fun _ _ _ _ => by simp [VR]
theorem Rd_str {s : ByteArray} : Rd P w [.S s.data.toList] [.string s] := Rd_one fun _ _ _ _ => by simp [VR]
theorem FC_append {cs ds : List AV} {a : Option Addr} : ∀ {j : Nat}, FC P w Φ σ ρ cs a j → FC P w Φ σ ρ ds a (j + cs.length) → FC P w Φ σ ρ (cs ++ ds) a j := by
  induction cs with
  | nil => intro j _ h; simpa using h
  | cons c cs ih =>
    intro j h h'
    simp only [FC, List.cons_append] at h ⊢
    exact ⟨h.1, ih h.2 (by simpa [Nat.add_assoc, Nat.add_comm 1] using h')⟩
theorem FC_rd {ds : List D} : ∀ {cs : List Value} {a : Addr} {j : Nat}, CR P w Φ σ ρ (Cs ds) cs (fun _ => 0) → (∀ b, b < w.heap.size → Φ b) → (∀ i u, cs[i]? = some u → w.cell? (a.add (j + i)) = some u) → FC P w Φ σ ρ (Cs ds) (some a) j := by
  induction ds with
  | nil => intro cs a j _ _ _; simp [FC]
  | cons d ds ih =>
    intro cs a j h hΦ hc
    simp only [Cs_cons, CR] at h
    obtain ⟨v, vs, f1, f2, rfl, h1, h2, hf⟩ := h
    have e1 : f1 = fun _ => 0 := funext fun b => by have : 0 = f1 b + f2 b := hf b; omega
    have e2 : f2 = fun _ => 0 := funext fun b => by have : 0 = f1 b + f2 b := hf b; omega
    subst e1 e2
    simp only [Cs_cons, FC]
    have h0 := hc 0 v rfl
    refine ⟨⟨a, v, rfl, hΦ _ ?_, by simpa using h0, isFz_C, fun f hz => ?_⟩, ih h2 hΦ fun i u hi => ?_⟩
    · unfold World.cell? at h0
      split at h0
      · rename_i hb
        have := (Array.getElem?_eq_some_iff.1 hb).1
        rwa [add_block] at this
      · cases h0
    · rw [show f = fun _ => 0 from funext hz]; exact h1
    · have := hc (i + 1) u (by simpa using hi)
      rwa [show j + 1 + i = j + (i + 1) by omega]
theorem cells_each {a : Addr} {n : Nat} {cs : List Value} (h : w.cells? 0 a n = some cs) : ∀ i u, cs[i]? = some u → w.cell? (a.add i) = some u := by
  intro i u hi
  obtain ⟨_, h2, h3⟩ := World.cells?_some h
  have hl : i < cs.length := (List.getElem?_eq_some_iff.1 hi).1
  rw [h3 i (by omega), hi]
theorem Rd_elems {T : Type} (td : T → List D) (ok : T → Prop) (k : Nat) (hk : ∀ x, (td x).length = k) {a : Addr} : ∀ (len : Nat), (∀ i, i < len → ∃ cs, w.cells? 0 (a.add (i * k)) k = some cs ∧ ∃ x, ok x ∧ Rd P w (td x) cs) →
    ∃ xs : List T, xs.length = len ∧ (∀ x ∈ xs, ok x) ∧ ∀ (Φ : Nat → Prop) (σ : Nat → Value) (ρ : List Value), (∀ b, b < w.heap.size → Φ b) → FC P w Φ σ ρ (Cs (xs.flatMap td)) (some a) 0
  | 0, _ => ⟨[], rfl, by simp, fun _ _ _ _ => by simp [FC]⟩
  | len + 1, h => by
    obtain ⟨xs, h1, h2, h3⟩ := Rd_elems td ok k hk len fun i hi => h i (by omega)
    obtain ⟨cs, hc, x, hx, hr⟩ := h len (by omega)
    have hl : (xs.flatMap td).length = len * k := by
      rw [List.length_flatMap]
      have : xs.map (fun x => (td x).length) = List.replicate len k := by
        apply List.ext_getElem
        · simp [h1]
        · intro j q1 q2; simp [hk]
      rw [this]; simp
    refine ⟨xs ++ [x], by simp [h1], fun y hy => ?_, fun Φ σ ρ hΦ => ?_⟩
    · rcases List.mem_append.1 hy with h | h
      · exact h2 y h
      · simp at h; subst h; exact hx
    · rw [List.flatMap_append, Cs_append]
      refine FC_append (h3 Φ σ ρ hΦ) ?_
      simp only [List.flatMap_cons, List.flatMap_nil, List.append_nil]
      refine FC_rd (hr Φ σ ρ hΦ) hΦ fun i u hi => ?_
      have := cells_each hc i u hi
      rw [add_add] at this
      rw [Cs_length, hl, Nat.zero_add]
      exact this
theorem Rd_slice {T : Type} (td : T → List D) (ok : T → Prop) (k e el : Nat) (hk : ∀ x, (td x).length = k) {t : TypeId} (ht : P.underlying t = some (.slice e)) (hke : P.cellsOf e = k) {spare : Nat → Bool} {held : Bool} {fuel : Nat} {cs : List Value} {x : DataW H × List MemPlace}
    (h : DataW.trod enc P w 0 spare held fuel t cs = some x) (hT : ∀ n, n < fuel → ∀ cs x, DataW.trod enc P w 0 spare held n e cs = some x → ∃ y, ok y ∧ Rd P w (td y) cs) :
    ∃ xs : List T, xs.length ≤ maxLen ∧ (∀ x ∈ xs, ok x) ∧ Rd P w [.L el xs.length (xs.flatMap td)] cs := by
  rcases DataW.trod_slice ht h with ⟨rfl, _⟩ | ⟨a, len, cap, elems, rest, n, rfl, rfl, _, _, hlc, hcm, hel, helems, _, _⟩
  · refine ⟨[], by simp [maxLen], by simp, Rd_one fun Φ σ ρ hΦ => ?_⟩
    simp only [C_L, VR]
    exact ⟨⟨none, 0, rfl, Nat.le_refl _, fun _ => ⟨rfl, rfl⟩, by simp [FC]⟩, fun _ => trivial⟩
  · obtain ⟨xs, h1, h2, h3⟩ := Rd_elems (P := P) td ok k hk (a := a) (w := w) len fun i hi => by
      have := helems i hi
      rw [hke, List.getElem?_eq_getElem (by omega), Option.bind_eq_some_iff] at this
      obtain ⟨cs, hc, hr⟩ := this
      exact ⟨cs, hc, hT n (by omega) cs _ hr⟩
    refine ⟨xs, by omega, h2, Rd_one fun Φ σ ρ hΦ => ?_⟩
    simp only [C_L, VR]
    refine ⟨⟨some a, cap, by rw [h1], by omega, by simp, h3 Φ σ ρ hΦ⟩, by simp⟩
end
end Go.AM

/- From a function's contract to the row of a law that hands back true and leaves its arguments. -/
set_option linter.unusedSimpArgs false
set_option linter.unusedVariables false
set_option linter.unusedSectionVars false
namespace Go.AM
open Go Go.ChangeShapes Go.WideShapes Go.ChangeAt Go.RowKit
def slicesRowed (P : Program) : Bool := (List.range P.types.size).all fun t => match P.underlying t with
  | some (.slice e) => decide (0 < P.cellsOf e)
  | _ => true
section
variable {H : Type} {enc : TypeId × Value → H} {P : Program}
theorem keptBut_ext {W W' : World} (h : Ext W W' (fun _ => 0)) (may : MemPlace → Prop) : W.keptBut W' may := by
  refine ⟨h.os, h.output, fun i hi => ?_⟩
  rw [h.block i hi rfl]
  exact (World.keptBut_refl W may).2.2 i hi
theorem frozen_ext {W W' : World} (h : Ext W W' (fun _ => 0)) {a : Addr} (ha : a.block < W.heap.size) : W'.frozen? a = W.frozen? a := by
  simp only [World.frozen?, h.block a.block ha rfl]
theorem sameAt_ext {W W' : World} (h : Ext W W' (fun _ => 0)) {p : MemPlace} (hp : p.block < W.heap.size) : W.sameAt W' p := by
  cases p with
  | cell b off =>
    simp only [MemPlace.block] at hp
    simp only [World.sameAt, World.cell?, h.block b hp rfl]
  | map b =>
    simp only [MemPlace.block] at hp
    simp only [World.sameAt, h.block b hp rfl]
theorem trodAll_ext {W W' : World} (hl : laidOutB P = true) (hm : mapsRowed P = true) (hz : slicesRowed P = true) (hext : Ext W W' (fun _ => 0)) {sp : Nat → Bool} : ∀ {ts : List TypeId} {vs : List Value} {ds : List (DataW H)} {ps : List MemPlace},
    (∀ t ∈ ts, t < P.types.size) → DataW.TrodAll enc P W 0 (fun _ => true) true ts vs ds ps → (∀ p ∈ ps, sp p.block = true) → DataW.TrodAll enc P W' 0 sp true ts vs ds ps
  | [], vs, ds, ps, _, h, _ => by
    obtain ⟨rfl, rfl, rfl⟩ := trodAll_nil h
    exact trodAll_mk0
  | t :: ts, vs, ds, ps, ht, h, hs => by
    obtain ⟨v, vs1, d, ds1, a, b, rfl, rfl, rfl, ⟨n, h1⟩, h2⟩ := trodAll_cons h
    refine trodAll_cons_mk ⟨n, ?_⟩ (trodAll_ext hl hm hz hext (fun t h => ht t (by simp [h])) h2 (fun p hp => hs p (by simp [hp])))
    refine DataW.trod_stays (T := (· < P.types.size)) (kids_rows hl hm) (fun {t e} hT hu => ?_) (fun h => by cases h) (ht t (by simp)) h1 (fun p hp => sameAt_ext hext (DataW.trod_lt _ _ _ _ h1 p hp)) (fun p hp => hs p (by simp [hp]))
    have := List.all_eq_true.1 hz t (List.mem_range.2 hT)
    rw [hu] at this
    simpa using this
theorem tabs_of {w : World} (h : Lib.TabIs P w "internal/strconv.uint64pow10" .u64 Lib.pow10Tab) : Tabs P w (fun b => b < w.heap.size) := by
  intro p hp g hg
  simp only [tabList, List.mem_singleton] at hp
  subst hp
  refine ⟨?_, h⟩
  unfold Lib.TabIs World.var? at h
  rw [hg] at h
  simp only [Option.bind_some] at h
  show g < w.heap.size
  rcases Nat.lt_or_ge g w.heap.size with h' | h'
  · exact h'
  · rw [Array.getElem?_eq_none h'] at h; cases h
theorem law_of_says {f : Nat} {fn : Func} {s : ChangeSpec} {apart fresh handsOn again : Bool} {tb : TypeId} {W : World} {args : Array Value} {ds gs : List (DataW H)} {before : List MemPlace} {avs : List AV}
    (hl : laidOutB P = true) (hm : mapsRowed P = true) (hz : slicesRowed P = true) (hts : ∀ t ∈ fn.params.toList, t < P.types.size) (hvars : s.vars = []) (hrt : fn.resultTypes = #[tb]) (htb : P.underlying tb = some .bool)
    (hW : DataW.Whole enc P fn.params.toList s.vars apart W args.toList ds gs before) (hfn : s.fn H (ds ++ []) = { results := [.lit (.bool true)], args := ds })
    (htab : Tabs P W (fun b => b < W.heap.size)) (hcr : CR P W (fun b => b < W.heap.size) (fun _ => undef) [] avs args.toList (fun _ => 0)) (hhr : hrs avs = false) (hsay : Says P f avs (.bool true) []) :
    Calls P f args W fun e W' => ∃ v, e = .returned v ∧ s.post enc P fn apart fresh handsOn again W args v W' := by
  refine (hsay W _ _ args _ hcr hhr ⟨fun b => by simp, fun b h => by simp at h, fun b h => h, fun b _ => rfl, htab⟩).mono ?_
  rintro en W' ⟨cv, Φ', f1, f2, rfl, hext, _, _, hv, _⟩
  obtain rfl := VR_bool hv
  have hW0 := hW
  obtain ⟨p, q, hA, hV, rfl, hfz, hnd⟩ := hW
  rw [hvars] at hV
  obtain ⟨rfl, rfl⟩ := trodVars_none hV
  have hold : ∀ x ∈ p ++ [], (fun b => decide (b < W.heap.size)) x.block = true := fun x hx => by simpa using hW0.lt x hx
  have hargs : ∀ sp : Nat → Bool, (∀ x ∈ p ++ [], sp x.block = true) → DataW.TrodAll enc P W' 0 sp true fn.params.toList args.toList (s.fn H (ds ++ [])).args (p ++ []) := fun sp hs => by
    rw [hfn]
    simp only [List.append_nil] at hs ⊢
    exact trodAll_ext hl hm hz hext hts hA hs
  have hres : ∀ (b : Nat) (sp : Nat → Bool) (hd : Bool), DataW.TrodAll enc P W' b sp hd fn.resultTypes.toList ((Value.bool true).resultList fn.resultTypes.size) (s.fn H (ds ++ [])).results [] := fun b sp hd => by
    rw [hfn, hrt]
    exact trodAll_cons_mk (shut_bool htb _) trodAll_mk0
  have hvs : ∀ sp : Nat → Bool, DataW.TrodVars enc P W' sp s.vars (s.fn H (ds ++ [])).vars [] := fun sp => by
    rw [hvars, hfn]; rfl
  refine ⟨_, rfl, ds, [], p ++ [], [], p ++ [], [], hW0, hres _ _ _, hargs _ hold, hvs _, World.keptBut_mono (fun x hx => ⟨hx, .inr (.inl hx)⟩) (keptBut_ext hext _), fun _ => ?_⟩
  refine ⟨ok_one hrt rfl (okWide_bool_mk htb _), _, _, ([] ++ (p ++ [])) ++ [], ⟨[] ++ (p ++ []), [], trodAll_append (hargs _ (fun _ _ => rfl)) (hres _ _ _), hvs _, rfl, ?_, ?_⟩, ?_⟩
  · intro b off hp
    rw [frozen_ext hext (by have := hW0.lt (.cell b off) (by simpa using hp); simpa [MemPlace.block] using this)]
    exact hfz b off (by simpa using hp)
  · intro ha
    simpa using hnd ha
  · intro x hx _
    simpa using hx
theorem agg_of_rd {w : World} {ds : List D} {v : Value} (h : Rd P w ds v.cells.toList) (hne : ds.length ≠ 1) {Φ : Nat → Prop} {σ : Nat → Value} {ρ : List Value} (hΦ : ∀ b, b < w.heap.size → Φ b) : VR P w Φ σ ρ (.agg (Cs ds)) v (fun _ => 0) := by
  have hl := Rd_length h
  cases v with
  | agg arr => simp only [VR]; exact ⟨arr, rfl, h Φ σ ρ hΦ⟩
  | _ => simp [Value.cells] at hl; exact absurd hl hne
theorem hr_Cs {ds : List D} : hrs (Cs ds) = false := by
  induction ds with
  | nil => rfl
  | cons d ds ih => cases d <;> simp [hrs, hr, ih]
end
end Go.AM

/- Data of all kinds: what lies where; rows; sizes. -/
set_option linter.unusedSimpArgs false
set_option linter.unusedVariables false
namespace Go.AM
open Go
def dInt (n : Int) : List D := [.I .i64 n]
def dBool (b : Bool) : List D := [.B b]
def dStr (s : List UInt8) : List D := [.S s]
@[simp] theorem dInt_eq {n : Int} : dInt n = [.I .i64 n] := rfl
@[simp] theorem dBool_eq {b : Bool} : dBool b = [.B b] := rfl
@[simp] theorem dStr_eq {s : List UInt8} : dStr s = [.S s] := rfl
def i64R (n : Int) : Prop := -9223372036854775808 ≤ n ∧ n ≤ 9223372036854775807
theorem i64R_wf {n : Int} (h : (Lit.int .i64 n).wf = true) : i64R n := by
  simp [Lit.wf, IntKind.min, IntKind.max, IntKind.signed, IntKind.bits] at h
  exact h
def szR (t : Nat) (l : Int) : Int := if (t : Int) ≤ l then l - t else -1
section
variable {α : Type}
theorem len_flat (f : α → List D) (k : Nat) (hl : ∀ x, (f x).length = k) (xs : List α) : (xs.flatMap f).length = xs.length * k := by
  induction xs with
  | nil => simp
  | cons x xs ih => simp [ih, hl, Nat.add_mul, Nat.add_comm]
theorem row_drop (f : α → List D) (k : Nat) (hl : ∀ x, (f x).length = k) : ∀ {xs : List α} {i : Nat} {x : α}, xs[i]? = some x → (xs.flatMap f).drop (i * k) = f x ++ (xs.drop (i + 1)).flatMap f
  | [], i, x, h => by simp at h
  | y :: ys, 0, x, h => by simp at h; subst h; simp
  | y :: ys, i + 1, x, h => by
    have := row_drop f k hl (xs := ys) (i := i) (x := x) (by simpa using h)
    rw [List.flatMap_cons, Nat.add_mul, Nat.one_mul, List.drop_append, List.drop_eq_nil_of_le (by rw [hl]; omega), hl]
    simpa using this
theorem flat_take (f : α → List D) {xs : List α} {i : Nat} {x : α} (h : xs[i]? = some x) : (xs.take (i + 1)).flatMap f = (xs.take i).flatMap f ++ f x := by
  rw [List.take_add_one, h]; simp
theorem sum_take (t : α → Nat) {xs : List α} {i : Nat} {x : α} (h : xs[i]? = some x) : ((xs.take (i + 1)).map t).sum = ((xs.take i).map t).sum + t x := by
  rw [List.take_add_one, h]; simp
theorem sum_take_le (t : α → Nat) (xs : List α) (i : Nat) : ((xs.take i).map t).sum ≤ (xs.map t).sum := by
  have h : (xs.map t).sum = ((xs.take i).map t).sum + ((xs.drop i).map t).sum := by
    rw [← List.sum_append, ← List.map_append, List.take_append_drop]
  omega
theorem mem_sum (t : α → Nat) {xs : List α} {x : α} (h : x ∈ xs) : t x ≤ (xs.map t).sum := by
  induction xs with
  | nil => simp at h
  | cons y ys ih =>
    rcases List.mem_cons.1 h with rfl | h
    · simp
    · have := ih h; simp; omega
theorem sum_full (t : α → Nat) (xs : List α) : ((xs.take xs.length).map t).sum = (xs.map t).sum := by simp
end
theorem wrap64 {n : Int} (h : -9223372036854775808 ≤ n) (h' : n ≤ 9223372036854775807) : IntKind.i64.wrap n = n := by rw [wrap_small] <;> omega
mutual
theorem noSt_Ow : ∀ (d : D), noSt (Ow d) = true
  | .I k n => by simp [noSt]
  | .B b => by simp [noSt]
  | .S s => by simp [noSt]
  | .L e n cs => by simp [noSt, noSts_Ows cs]
theorem noSts_Ows : ∀ (ds : List D), noSts (Ows ds) = true
  | [] => by simp [noSts]
  | d :: ds => by simp [noSts, noSt_Ow d, noSts_Ows ds]
end
mutual
theorem hr_Ow : ∀ (d : D), hr (Ow d) = false
  | .I k n => by simp [hr]
  | .B b => by simp [hr]
  | .S s => by simp [hr]
  | .L e n cs => by simp [hr, hrs_Ows cs]
theorem hrs_Ows : ∀ (ds : List D), hrs (Ows ds) = false
  | [] => by simp [hrs]
  | d :: ds => by simp [hrs, hr_Ow d, hrs_Ows ds]
end
attribute [simp] noSt_Ow noSts_Ows hr_Ow hrs_Ows
theorem drop_cons {α : Type} {xs : List α} {i : Nat} {x : α} (h : xs[i]? = some x) : xs.drop i = x :: xs.drop (i + 1) := by
  have hi := (List.getElem?_eq_some_iff.1 h).1
  rw [List.drop_eq_getElem_cons hi, (List.getElem?_eq_some_iff.1 h).2]
def decR (n : Nat) : List UInt8 := if n = 0 then [] else decR (n / 10) ++ [UInt8.ofNat (48 + n % 10)]
theorem decR_pos {n : Nat} (h : n ≠ 0) : decR n = decR (n / 10) ++ [UInt8.ofNat (48 + n % 10)] := by rw [decR, if_neg h]
theorem decR_len (n : Nat) : (decR n).length ≤ n := by
  induction n using Nat.strongRecOn with
  | _ n ih =>
    by_cases h : n = 0
    · subst h; rw [decR]; simp
    · rw [decR_pos h]
      have := ih (n / 10) (by omega)
      simp; omega
def mtx (k : Int) : List UInt8 := 109 :: decR k.toNat
section
variable {α : Type}
def mkFold (f : α → Int → α × Int) (xs : List α) (k : Int) : List α × Int := xs.foldl (fun p x => (p.1 ++ [(f x p.2).1], (f x p.2).2)) ([], k)
theorem mkFold_succ (f : α → Int → α × Int) {xs : List α} {i : Nat} {x : α} (k : Int) (h : xs[i]? = some x) :
    mkFold f (xs.take (i + 1)) k = ((mkFold f (xs.take i) k).1 ++ [(f x (mkFold f (xs.take i) k).2).1], (f x (mkFold f (xs.take i) k).2).2) := by
  rw [List.take_add_one, h]; simp [mkFold]
theorem mkFold_acc (f : α → Int → α × Int) : ∀ (xs : List α) (a : List α) (k : Int), xs.foldl (fun p x => (p.1 ++ [(f x p.2).1], (f x p.2).2)) (a, k) = (a ++ (mkFold f xs k).1, (mkFold f xs k).2)
  | [], a, k => by simp [mkFold]
  | x :: xs, a, k => by
    rw [List.foldl_cons, mkFold_acc f xs]
    have h2 : mkFold f (x :: xs) k = ([] ++ [(f x k).1] ++ (mkFold f xs (f x k).2).1, (mkFold f xs (f x k).2).2) := by unfold mkFold; rw [List.foldl_cons]; exact mkFold_acc f xs _ _
    rw [h2]; simp
theorem mkFold_append (f : α → Int → α × Int) (xs ys : List α) (k : Int) : mkFold f (xs ++ ys) k = ((mkFold f xs k).1 ++ (mkFold f ys (mkFold f xs k).2).1, (mkFold f ys (mkFold f xs k).2).2) := by
  conv => lhs; unfold mkFold
  rw [List.foldl_append]
  exact mkFold_acc f ys _ _
theorem mkFold_length (f : α → Int → α × Int) : ∀ (xs : List α) (k : Int), (mkFold f xs k).1.length = xs.length
  | [], k => rfl
  | x :: xs, k => by
    have := mkFold_append f [x] xs k
    rw [List.singleton_append] at this
    rw [this, List.length_append, mkFold_length f xs]
    simp [mkFold]; omega
theorem mkFold_get (f : α → Int → α × Int) {xs : List α} {i : Nat} {x : α} (k : Int) (h : xs[i]? = some x) : (mkFold f xs k).1[i]? = some (f x (mkFold f (xs.take i) k).2).1 := by
  have hi : i < xs.length := (List.getElem?_eq_some_iff.1 h).1
  have := mkFold_append f (xs.take (i + 1)) (xs.drop (i + 1)) k
  rw [List.take_append_drop] at this
  rw [this, mkFold_succ f k h]
  have hl := mkFold_length f (xs.take i) k
  rw [List.length_take, Nat.min_eq_left (by omega)] at hl
  simp only
  rw [List.getElem?_append_left (by simp [hl]), List.getElem?_append_right (by omega)]
  simp [hl]
theorem mkFold_bound (f : α → Int → α × Int) (t : α → Nat) : ∀ {xs : List α} {k : Int}, (∀ x ∈ xs, ∀ k, k ≤ (f x k).2 ∧ (f x k).2 ≤ k + 20 * (1 + t x : Nat)) → k ≤ (mkFold f xs k).2 ∧ (mkFold f xs k).2 ≤ k + 20 * (xs.length + (xs.map t).sum : Nat)
  | [], k, _ => by simp [mkFold]
  | x :: xs, k, h => by
    have := mkFold_append f [x] xs k
    rw [List.singleton_append] at this
    rw [this]
    have h1 := h x (by simp) k
    have h2 := mkFold_bound f t (xs := xs) (k := (f x k).2) (fun y hy => h y (by simp [hy]))
    simp only [mkFold, List.foldl_cons, List.foldl_nil] at h2 ⊢
    simp only [List.length_cons, List.map_cons, List.sum_cons]
    omega
theorem mkFold_one (g : Int → α) : ∀ (xs : List α) (k : Int), (mkFold (fun _ k => (g k, k + 1)) xs k).2 = k + xs.length
  | [], k => by simp [mkFold]
  | x :: xs, k => by
    have := mkFold_append (fun _ k => (g k, k + 1)) [x] xs k
    rw [List.singleton_append] at this
    rw [this]
    simp only [mkFold, List.foldl_cons, List.foldl_nil]
    have := mkFold_one g xs (k + 1)
    simp only [mkFold] at this
    rw [this]; simp; omega
end
section
variable {A X : List AV} {n : Nat}
theorem mid_drop (h : A.length = n) (k : Nat) : (A ++ X).drop (n + k) = X.drop k := by rw [List.drop_append, List.drop_eq_nil_of_le (by omega), List.nil_append]; congr 1; omega
theorem mid_drop0 (h : A.length = n) : (A ++ X).drop n = X := by simpa using mid_drop (X := X) h 0
theorem mid_get (h : A.length = n) (k : Nat) : (A ++ X)[n + k]? = X[k]? := by rw [List.getElem?_append_right (by omega)]; congr 1; omega
theorem mid_get0 (h : A.length = n) : (A ++ X)[n]? = X[0]? := by simpa using mid_get (X := X) h 0
theorem mid_set (h : A.length = n) (k : Nat) (v : AV) : (A ++ X).set (n + k) v = A ++ X.set k v := by rw [List.set_append_right _ _ (by omega)]; congr 2; omega
theorem mid_set0 (h : A.length = n) (v : AV) : (A ++ X).set n v = A ++ X.set 0 v := by simpa using mid_set (X := X) h 0 v
def spl (cs : List AV) (off : Nat) (xs : List AV) : List AV := cs.take off ++ xs ++ cs.drop (off + xs.length)
theorem mid_splice (h : A.length = n) (k : Nat) (vs : List AV) : splice (A ++ X) (n + k) vs = A ++ spl X k vs := by
  unfold splice spl
  rw [List.take_append, List.take_of_length_le (by omega), List.append_assoc, List.append_assoc, List.drop_append, List.drop_eq_nil_of_le (by omega), List.nil_append]
  rw [show n + k - A.length = k by omega, show n + k + vs.length - A.length = k + vs.length by omega, List.append_assoc]
theorem mid_splice0 (h : A.length = n) (vs : List AV) : splice (A ++ X) n vs = A ++ spl X 0 vs := by simpa using mid_splice (X := X) h 0 vs
end
end Go.AM

/- What the library's functions say, by their contracts: nothing that was there is written. -/
set_option linter.unusedSimpArgs false
set_option linter.unusedVariables false
namespace Go.AM
open Go
theorem noSts_append {a b : List AV} : noSts (a ++ b) = (noSts a && noSts b) := by
  induction a with
  | nil => simp [noSts]
  | cons x a ih => simp [noSts, ih, Bool.and_assoc]
theorem noFrzs_append {a b : List AV} : noFrzs (a ++ b) = (noFrzs a && noFrzs b) := by
  induction a with
  | nil => simp [noFrzs]
  | cons x a ih => simp [noFrzs, ih, Bool.and_assoc]
attribute [simp] noSts_append noFrzs_append
@[simp] theorem frzs_Ows_app {ds : List D} {cs : List AV} : frzs (Ows ds ++ cs) = (frzs cs).map (Cs ds ++ ·) := by
  induction ds with
  | nil => cases h : frzs cs <;> simp [h]
  | cons d ds ih => simp only [Ows_cons, List.cons_append, frzs, frzC_Ow, ih]; cases h : frzs cs <;> simp
theorem noFrz_rsl {n : Nat} {cs : List AV} : noFrz (.rsl n cs) = cs.isEmpty := by cases cs <;> simp [noFrz]
attribute [simp ↓] noFrz_rsl
theorem outOk_f {n : Nat} {res : AV} {outs : List AV} : outOk n false res outs = ((outs.length == n) && noSt res && outs.all inSt) := by
  unfold outOk
  cases ((outs.length == n) && noSt res && outs.all inSt) <;> rfl
structure Still (w w' : World) : Prop where
  os : w'.os = w.os
  tape : w'.tape = w.tape
  output : w'.output = w.output
  size : w.heap.size ≤ w'.heap.size
  block : ∀ k, k < w.heap.size → w'.heap[k]? = w.heap[k]?
theorem Still.refl (w : World) : Still w w := ⟨rfl, rfl, rfl, Nat.le_refl _, fun _ _ => rfl⟩
theorem Still.of_below {w w' : World} (h : RowKit.Below w.heap.size w w') : Still w w' := ⟨h.os, h.tape, h.output, h.size, h.block⟩
theorem Still.of_grow (w : World) (k : Nat) (os : Array Obj) : Still w (Go.Sort.grow (w.drewN k) os) := by
  refine ⟨rfl, rfl, rfl, ?_, fun b hb => ?_⟩
  · show w.heap.size ≤ (w.heap ++ os).size
    simp
  · show (w.heap ++ os)[b]? = _
    rw [Array.getElem?_append_left hb]
theorem Still.ext {w w' : World} (h : Still w w') (f : Cnt) : Ext w w' f := ⟨h.os, h.tape, h.output, h.size, fun b hb _ => h.block b hb⟩
theorem Still.inv {P : Program} {w w' : World} {Φ : Nat → Prop} {f : Cnt} (h : Still w w') (hi : Inv P w Φ f) : Inv P w' Φ f :=
  ⟨hi.sep, fun b hb => Nat.lt_of_lt_of_le (hi.lt b hb) h.size, fun b hb => Nat.lt_of_lt_of_le (hi.fz b hb) h.size, hi.apart, tabs_keep hi.tab (fun b hb => h.block b (hi.fz b hb)) (fun _ h => h)⟩
theorem Says_lib {P : Program} {g : Nat} {args : List AV} {res : AV} (hres : isScalar res = true)
    (h : ∀ (w : World) (Φ : Nat → Prop) (σ : Nat → Value) (cargs : Array Value) (fa : Cnt), CR P w Φ σ [] args cargs.toList fa → Inv P w Φ fa →
      Calls P g cargs w fun en w' => ∃ cv, en = .returned cv ∧ Still w w' ∧ ∀ w', VR P w' Φ σ [] res cv (fun _ => 0)) : Says P g args res [] := by
  intro w Φ σ cargs fa hcr _ hinv
  refine (h w Φ σ cargs fa hcr hinv).mono ?_
  rintro en w' ⟨cv, rfl, hst, hv⟩
  have hr0 : hr res = false := by cases res <;> simp [isScalar] at hres <;> rfl
  refine ⟨cv, Φ, fun _ => 0, fun _ => 0, rfl, hst.ext _, fun _ h => h, fun _ h => .inl h, hv w', hr0, ?_, rfl, ?_, fun b hb => by simp at hb⟩
  · simpa using CR_nil
  · have := hst.inv hinv
    exact ⟨fun b => by simp, fun b hb => by simp at hb, this.fz, fun b _ => by simp, this.tab⟩
theorem Says_took {P : Program} {g e n : Nat} {cs rest : List AV} {res : AV} (h : Says P g (.osl 0 e n cs :: rest) res []) : Says P g (.osl 1 e n cs :: rest) res (num 1 [.gone]) := by
  intro w Φ σ cargs fa hcr hh hinv
  have hcr0 : CR P w Φ σ [] (.osl 0 e n cs :: rest) cargs.toList fa := by
    simp only [CR] at hcr ⊢
    obtain ⟨v, vs', f1, f2, e1, hv, hr, hf⟩ := hcr
    refine ⟨v, vs', f1, f2, e1, ?_, hr, hf⟩
    simp only [VR] at hv ⊢
    exact ⟨fun h => absurd rfl h, hv.2⟩
  refine (h w Φ σ cargs fa hcr0 (by simpa [hrs, hr] using hh) hinv).mono ?_
  rintro en w' ⟨cv, Φ', f1, f2, he, hext, h1, h2, h3, h4, h5, h6, h7, h8⟩
  simp only [List.map_nil, CR] at h5
  refine ⟨cv, Φ', f1, f2, he, hext, h1, h2, h3, h4, ?_, rfl, h7, h8⟩
  exact CR_one (v := .gone) (by simp only [VR]; exact h5.2)
theorem tab_pow {P : Program} {w : World} {Φ : Nat → Prop} {f : Cnt} (h : Inv P w Φ f) {g : Nat} (hg : P.globalNamed "internal/strconv.uint64pow10" = some g) : Lib.TabIs P w "internal/strconv.uint64pow10" .u64 Lib.pow10Tab :=
  (h.tab ("internal/strconv.uint64pow10", (Lib.pow10Tab.map fun z => Value.int .u64 z).toArray) (by simp [tabList]) g hg).2
theorem CR_int {P : Program} {w : World} {Φ : Nat → Prop} {σ : Nat → Value} {k : IntKind} {n : Int} {vs : List Value} {f : Cnt} (h : CR P w Φ σ [] [.int k n] vs f) : vs = [.int k n] := by
  simp only [CR, VR] at h
  obtain ⟨v, vs', f1, f2, rfl, ⟨rfl, _⟩, ⟨rfl, _⟩, _⟩ := h
  rfl
def dv : D → Value
  | .I k n => .int k n
  | .B b => .bool b
  | .S s => .string ⟨s.toArray⟩
  | .L _ _ _ => .nilFunc
section
variable {P : Program} {w : World} {Φ : Nat → Prop} {σ : Nat → Value} {ρ : List Value}
theorem VR_sc {d : D} {v : Value} {f : Cnt} (hd : isL d = false) (h : VR P w Φ σ ρ (Ow d) v f) : v = dv d ∧ ∀ b, f b = 0 := by
  cases d with
  | I k n => simp only [Ow_I, VR] at h; exact h
  | B b => simp only [Ow_B, VR] at h; exact h
  | S s => simp only [Ow_S, VR] at h; exact h
  | L e n cs => simp [isL] at hd
theorem VR_sc' {d : D} (hd : isL d = false) : VR P w Φ σ ρ (Ow d) (dv d) (fun _ => 0) := by
  cases d with
  | I k n => simp [VR, dv]
  | B b => simp [VR, dv]
  | S s => simp [VR, dv]
  | L e n cs => simp [isL] at hd
theorem CR_sc : ∀ {ds : List D} {vs : List Value} {f : Cnt}, (∀ d ∈ ds, isL d = false) → CR P w Φ σ ρ (Ows ds) vs f → vs = ds.map dv ∧ ∀ b, f b = 0
  | [], vs, f, _, h => by simp only [Ows_nil, CR] at h; simpa using h
  | d :: ds, vs, f, hd, h => by
    simp only [Ows_cons, CR] at h
    obtain ⟨v, vs', f1, f2, rfl, h1, h2, hf⟩ := h
    obtain ⟨rfl, z1⟩ := VR_sc (hd d (by simp)) h1
    obtain ⟨rfl, z2⟩ := CR_sc (fun x hx => hd x (by simp [hx])) h2
    exact ⟨by simp, fun b => by rw [hf b, z1 b, z2 b]⟩
theorem CR_sc' : ∀ {ds : List D}, (∀ d ∈ ds, isL d = false) → CR P w Φ σ ρ (Ows ds) (ds.map dv) (fun _ => 0)
  | [], _ => by simp [CR]
  | d :: ds, hd => by
    have := CR_cons (VR_sc' (P := P) (w := w) (Φ := Φ) (σ := σ) (ρ := ρ) (hd d (by simp))) (CR_sc' (ds := ds) (fun x hx => hd x (by simp [hx])))
    simpa using this
end
theorem says_join {P : Program} {g e : Nat} (hcell : P.cellsOf e = 1) (xs : List (List UInt8)) (sep : List UInt8)
    (hsome : ∀ (w : World) (blk cap : Nat), (∀ j x, xs[j]? = some x → w.cell? ⟨blk, j, none⟩ = some (.string ⟨x.toArray⟩)) → blk < w.heap.size → xs.length ≤ cap →
      Calls P g #[.slice (some ⟨blk, 0, none⟩) xs.length cap, .string ⟨sep.toArray⟩] w fun en w' => en = .returned (.string ⟨(Lib.join xs sep).toArray⟩) ∧ Still w w')
    (hnone : ∀ (w : World), Calls P g #[.slice none 0 0, .string ⟨sep.toArray⟩] w fun en w' => en = .returned (.string ⟨#[]⟩) ∧ w' = w) :
    Says P g [.osl 1 e xs.length (Ows (xs.flatMap dStr)), .str sep] (.str (Lib.join xs sep)) [(1, .osl 1 e xs.length (Ows (xs.flatMap dStr)))] := by
  intro w Φ σ cargs fa hcr hh hinv
  simp only [CR] at hcr
  obtain ⟨v, vs', f1, f2, hca, hv, ⟨u, vs2, f3, f4, hvs, hu, ⟨rfl, hz4⟩, hf2⟩, hfa⟩ := hcr
  simp only [VR] at hu
  obtain ⟨rfl, hz3⟩ := hu
  subst hvs
  have hsc : ∀ d ∈ xs.flatMap dStr, isL d = false := fun d hd => by
    obtain ⟨x, _, hx⟩ := List.mem_flatMap.1 hd
    simp at hx; subst hx; rfl
  simp only [VR] at hv
  obtain ⟨hst, hx, cs, f5, ho, hc, hb⟩ := hv
  obtain ⟨rfl, hz5⟩ := CR_sc hsc hc
  have hcargs : cargs = #[v, .string ⟨sep.toArray⟩] := by
    apply Array.toList_inj.1; rw [hca]
  have hs1 : σ 1 = v := hst (by simp)
  have hfv : ∀ b, fa b = own1 v b := fun b => by rw [hfa b, hf2 b, hz3 b, hz4 b, hb b, hz5 b]; omega
  -- what is handed back
  have back : ∀ (w' : World) (s : List UInt8), Still w w' → ∃ (cv : Value) (Φ' : Nat → Prop) (f1 f2 : Cnt), Ending.returned (.string ⟨s.toArray⟩) = .returned cv ∧ Ext w w' fa ∧ (∀ b, Φ b → Φ' b) ∧ (∀ b, Φ' b → Φ b ∨ 1 ≤ fa b ∨ w.heap.size ≤ b) ∧
      VR P w' Φ' σ [] (.str s) cv f1 ∧ hr (.str s) = false ∧ CR P w' Φ' σ [] ([(1, AV.osl 1 e xs.length (Ows (xs.flatMap dStr)))].map (·.2)) ([(1, AV.osl 1 e xs.length (Ows (xs.flatMap dStr)))].map fun p => σ p.1) f2 ∧ hrs ([(1, AV.osl 1 e xs.length (Ows (xs.flatMap dStr)))].map (·.2)) = false ∧
      Inv P w' Φ' (fun b => f1 b + f2 b) ∧ (∀ b, 1 ≤ f1 b + f2 b → 1 ≤ fa b ∨ w.heap.size ≤ b) := by
    intro w' s hstl
    refine ⟨_, Φ, fun _ => 0, fa, rfl, hstl.ext _, fun _ h => h, fun _ h => .inl h, by simp [VR], rfl, ?_, by simp [hrs, hr], ?_, fun b h => .inl (by simpa using h)⟩
    · refine CR_one ?_
      simp only [VR]
      refine ⟨by simp, hx, (xs.flatMap dStr).map dv, fun _ => 0, ?_, CR_sc' hsc, fun b => by rw [hfv b, hs1]; rfl⟩
      show w'.ownsRow 0 e (P.cellsOf e) (σ 1) xs.length _
      rw [hs1]
      refine ⟨ho.1, ?_⟩
      rcases ho.2 with hn | ⟨gb, cap, cur, e1, h0, hg, rest⟩
      · exact .inl hn
      · refine .inr ⟨gb, cap, cur, e1, h0, ?_, rest⟩
        rw [hstl.block gb (Array.getElem?_eq_some_iff.1 hg).1]
        exact hg
    · have e0 : (fun b => (fun _ => 0) b + fa b) = fa := funext fun b => by simp
      rw [e0]; exact hstl.inv hinv
  rw [hcargs]
  rcases ho.2 with ⟨rfl, h0⟩ | ⟨gb, cap, cur, rfl, _, hg, hn, hm, hs, ht⟩
  · have hxs : xs = [] := List.eq_nil_of_length_eq_zero h0
    subst hxs
    refine (hnone w).mono ?_
    rintro en w' ⟨rfl, rfl⟩
    exact back w' [] (Still.refl _)
  · refine (hsome w gb cap (fun j x hj => ?_) (Array.getElem?_eq_some_iff.1 hg).1 hn).mono ?_
    · have hj1 : ((xs.flatMap dStr).map dv)[j]? = some (.string ⟨x.toArray⟩) := by
        have := row_drop dStr 1 (fun _ => by simp) hj
        rw [Nat.mul_one] at this
        have h2 : (xs.flatMap dStr)[j]? = some (.S x) := by
          have h3 := congrArg (·[0]?) this
          simpa using h3
        rw [List.getElem?_map, h2]; rfl
      have := ho.cells (g := gb) rfl j _ hj1
      simpa [add_lit] using this
    · rintro en w' ⟨rfl, hstl⟩
      exact back w' _ hstl
end Go.AM

