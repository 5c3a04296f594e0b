/- Regions that draw their order. -/
import Derived.Test.YtapdppkplhgnjaaAmCode
import Derived.Orders
set_option linter.unusedSimpArgs false
set_option linter.unusedVariables false
set_option linter.unusedSectionVars false
namespace Go.AM
open Go

def isDead : AV → Bool
  | .dead => true
  | _ => false
theorem isDead_iff {v : AV} : isDead v = true ↔ v = .dead := by cases v <;> simp [isDead]

/-- e' knows all that e knows. -/
def Le (e e' : Env) : Prop := ∀ (i : Nat) (v : AV), e[i]? = some v → v ≠ AV.dead → e'[i]? = some v

theorem lzv_dead {j : Nat} : lzv j .dead = .dead := rfl
theorem ev_mono {e e' : Env} (h : Le e e') {x : Opd} {v : AV} (hx : ev e x = some v) (hv : v ≠ .dead) : ev e' x = some v := by
  cases x with
  | con u => simpa [ev] using hx
  | slot j =>
    simp only [ev] at hx ⊢
    split at hx
    · rename_i u hu
      simp at hx
      have : u ≠ .dead := by rintro rfl; exact hv (by rw [← hx]; rfl)
      rw [h j u hu this]
      simpa using hx
    · cases hx
theorem rowE_mono {e e' : Env} (h : Le e e') {r : Nat} {p : List Nat} {row : List AV} (hx : rowE e r p = some row) : rowE e' r p = some row := by
  unfold rowE at hx ⊢
  split at hx
  · cases hx
  · cases hx
  · rename_i v h1 h2 hv
    rw [h r v hv h1]
    split
    · rename_i h3; cases h3; exact (h1 rfl).elim
    · rename_i h3; cases h3; exact (h2 rfl).elim
    · rename_i v' _ _ h3; cases h3; exact hx
    · rename_i h3; cases h3
  · cases hx
theorem lenX_mono {e e' : Env} (h : Le e e') {st : Bool} {v : AV} {n : Nat} (hx : lenX e st v = some n) : lenX e' st v = some n := by
  unfold lenX at hx ⊢
  split at hx
  · exact hx
  · exact hx
  · split at hx
    · rename_i row hr
      rw [rowE_mono h hr]; exact hx
    · cases hx
  · cases hx
theorem evs_mono {e e' : Env} (h : Le e e') : ∀ {xs : List Opd} {vs : List AV}, evs e xs = some vs → (∀ v ∈ vs, v ≠ .dead) → evs e' xs = some vs
  | [], vs, hx, _ => by simpa [evs] using hx
  | x :: xs, vs, hx, hv => by
    simp only [evs] at hx ⊢
    split at hx
    · rename_i v h1
      split at hx
      · rename_i vs' h2
        simp at hx; subst hx
        rw [ev_mono h h1 (hv _ (by simp)), evs_mono h h2 (fun v hm => hv v (by simp [hm]))]
      · cases hx
    · cases hx
theorem fillP_mono {e e' : Env} (h : Le e e') : ∀ {ps : List (Nat × Nat × Opd)} {cs cs' : List AV}, fillP e cs ps = some cs' → fillP e' cs ps = some cs'
  | [], cs, cs', hx => by simpa [fillP] using hx
  | (off, sz, x) :: ps, cs, cs', hx => by
    simp only [fillP] at hx ⊢
    split at hx
    · cases hx
    · cases hx
    · rename_i v h1 h2 hv
      have hd : v ≠ .dead := fun hd => h1 hd
      rw [ev_mono h hv hd]
      split
      · rename_i h3; cases h3; exact (h1 rfl).elim
      · rename_i h3; cases h3; exact (h2 rfl).elim
      · rename_i v' _ _ h3; cases h3
        split at hx
        · rename_i hc; rw [if_pos hc]; exact fillP_mono h hx
        · cases hx
      · rename_i h3; cases h3
    · cases hx
theorem optI_mono {e e' : Env} (h : Le e e') {d : Nat} {x : Option Opd} {i : Int} (hx : optI e d x = some i) : optI e' d x = some i := by
  cases x with
  | none => simpa [optI] using hx
  | some x =>
    simp only [optI] at hx ⊢
    split at hx
    · rename_i h1; rw [ev_mono h h1 (by simp)]; exact hx
    · cases hx

/-- It looks, and changes nothing. -/
def pureOp : SOp → Bool
  | .mv _ => true
  | .pick _ _ _ => true
  | .mk _ _ => true
  | .build _ _ => true
  | .load _ _ _ => true
  | .bin _ _ _ => true
  | .beq _ _ _ => true
  | .not _ => true
  | .neg _ => true
  | .conv _ _ => true
  | .mkf _ _ => true
  | .slice _ _ _ _ _ => true
  | .faddr _ _ => true
  | .iaddr _ _ _ => true
  | .idx _ _ => true
  | .len _ _ => true
  | .minmax _ _ _ => true
  | .ext _ _ => true
  | _ => false

theorem opx_mono {e e' : Env} (h : Le e e') {s : SOp} (hp : pureOp s = true) {v : AV} {e1 : Env} (hx : opx e s = some (v, e1)) (hv : v ≠ .dead) : opx e' s = some (v, e') := by
  cases s with
  | mv x =>
    simp only [opx] at hx ⊢
    split at hx
    · rename_i u hu
      simp at hx; obtain ⟨rfl, rfl⟩ := hx
      rw [ev_mono h hu hv]
    · cases hx
  | pick c a b =>
    simp only [opx] at hx ⊢
    split at hx
    · rename_i t hc
      rw [ev_mono h hc (by simp)]
      split at hx
      · rename_i u hu
        simp at hx; obtain ⟨rfl, rfl⟩ := hx
        simp only [ev_mono h hu hv]
      · cases hx
    · cases hx
  | mk t z => simp [opx] at hx ⊢; exact hx.1
  | build z ps =>
    simp only [opx] at hx ⊢
    split at hx
    · rename_i cs hc
      simp at hx; obtain ⟨rfl, rfl⟩ := hx
      rw [fillP_mono h hc]
    · cases hx
  | load sz ag x =>
    simp only [opx] at hx ⊢
    split at hx
    · rename_i cs hc
      rw [ev_mono h hc (by simp)]
      simp only
      split at hx
      · rename_i h1; rw [if_pos h1]
        split at hx
        · rename_i h2; simp at hx; obtain ⟨rfl, rfl⟩ := hx; simp only [h2]
        · cases hx
      · cases hx
    · rename_i r p o hc
      rw [ev_mono h hc (by simp)]
      simp only
      split at hx
      · rename_i row hr
        rw [rowE_mono h hr]
        simp only
        split at hx
        · rename_i h1; rw [if_pos h1]
          split at hx
          · rename_i h2; simp at hx; obtain ⟨rfl, rfl⟩ := hx; simp only [h2]
          · cases hx
        · cases hx
      · cases hx
    · cases hx
  | bin op x y =>
    simp only [opx] at hx ⊢
    split at hx
    · rename_i a b ha hb
      split at hx
      · rename_i u hu
        simp at hx; obtain ⟨rfl, rfl⟩ := hx
        have h1 : a ≠ .dead := by rintro rfl; simp [binX] at hu
        have h2 : b ≠ .dead := by rintro rfl; cases a <;> simp [binX] at hu
        rw [ev_mono h ha h1, ev_mono h hb h2]
        simp only [hu]
      · cases hx
    · cases hx
  | beq ne x y =>
    simp only [opx] at hx ⊢
    split at hx
    · rename_i a b ha hb
      rw [ev_mono h ha (by simp), ev_mono h hb (by simp)]
      simp at hx ⊢; exact hx.1
    · cases hx
  | not x =>
    simp only [opx] at hx ⊢
    split at hx
    · rename_i b hb; rw [ev_mono h hb (by simp)]; simp at hx ⊢; exact hx.1
    · cases hx
  | neg x =>
    simp only [opx] at hx ⊢
    split at hx
    · rename_i b hb; rw [ev_mono h hb (by simp)]; simp at hx ⊢; exact hx.1
    · cases hx
  | conv k x =>
    simp only [opx] at hx ⊢
    split at hx
    · rename_i b hb; rw [ev_mono h hb (by simp)]; simp at hx ⊢; exact hx.1
    · cases hx
  | mkf f caps =>
    simp only [opx] at hx ⊢
    split at hx
    · rename_i vs hvs
      split at hx
      · rename_i hc
        rw [evs_mono h hvs (fun v hm => by
          have := List.all_eq_true.1 hc v hm
          rintro rfl; simp [capOk, isRef1, isFz] at this)]
        simp [hc] at hx ⊢; exact hx.1
      · cases hx
    · cases hx
  | slice st sz x lo hi =>
    simp only [opx] at hx ⊢
    split at hx
    · rename_i n cs hc
      rw [ev_mono h hc (by simp)]
      simp only
      split at hx
      · rename_i l hh h1 h2
        rw [optI_mono h h1, optI_mono h h2]
        simp only
        split at hx
        · rename_i h3; rw [if_pos h3]; simp at hx ⊢; exact hx.1
        · cases hx
      · cases hx
    · rename_i s hc
      rw [ev_mono h hc (by simp)]
      simp only
      split at hx
      · rename_i l hh h1 h2
        rw [optI_mono h h1, optI_mono h h2]
        simp only
        split at hx
        · rename_i h3; rw [if_pos h3]; simp at hx ⊢; exact hx.1
        · cases hx
      · cases hx
    · cases hx
  | faddr off x =>
    simp only [opx] at hx ⊢
    split at hx
    · rename_i cs hc
      rw [ev_mono h hc (by simp)]
      simp only
      split at hx
      · rename_i h1; rw [if_pos h1]; simp at hx ⊢; exact hx.1
      · cases hx
    · rename_i r p o hc
      rw [ev_mono h hc (by simp)]
      simp at hx ⊢; exact hx.1
    · cases hx
  | iaddr sz x i =>
    simp only [opx] at hx ⊢
    split at hx
    · rename_i n cs _ i' hc hi
      rw [ev_mono h hc (by simp), ev_mono h hi (by simp)]
      simp only
      split at hx
      · rename_i h1; rw [if_pos h1]; simp at hx ⊢; exact hx.1
      · cases hx
    · rename_i r p o _ i' hc hi
      rw [ev_mono h hc (by simp), ev_mono h hi (by simp)]
      simp only
      split at hx
      · rename_i row hr
        rw [rowE_mono h hr]
        simp only
        split at hx
        · rename_i h2
          split at hx
          · rename_i h1; simp only [h2, if_pos h1]; simp at hx ⊢; exact hx.1
          · cases hx
        · cases hx
      · cases hx
    · cases hx
  | idx x i =>
    simp only [opx] at hx ⊢
    split at hx
    · rename_i s _ i' hc hi
      rw [ev_mono h hc (by simp), ev_mono h hi (by simp)]
      simp only
      split at hx
      · rename_i h1; rw [if_pos h1]; simp at hx ⊢; exact hx.1
      · cases hx
    · cases hx
  | len st x =>
    simp only [opx] at hx ⊢
    split at hx
    · rename_i u hu
      split at hx
      · rename_i n hn
        have : u ≠ .dead := by rintro rfl; cases st <;> simp [lenX] at hn
        rw [ev_mono h hu this]
        simp only [lenX_mono h hn]
        simp at hx ⊢; exact hx.1
      · cases hx
    · cases hx
  | minmax mx x y =>
    simp only [opx] at hx ⊢
    split at hx
    · rename_i k a k' b h1 h2
      rw [ev_mono h h1 (by simp), ev_mono h h2 (by simp)]
      simp only
      split at hx
      · rename_i h3; rw [if_pos h3]; simp at hx ⊢; exact hx.1
      · cases hx
    · cases hx
  | ext j ix =>
    simp only [opx] at hx ⊢
    split at hx
    · rename_i sh cs hj
      rw [h j _ hj (by simp)]
      simp only
      split at hx
      · rename_i h1
        split at hx
        · rename_i c hc; simp at hx ⊢; exact hx.1
        · cases hx
      · rename_i n h1
        split at hx
        · rename_i hc; rw [if_pos hc]; simp at hx ⊢; exact hx.1
        · cases hx
      · cases hx
    · cases hx
  | _ => simp [pureOp] at hp

theorem snapC_mono {e e' : Env} (h : Le e e') {c : AV} {r : AV × Bool} (hx : snapC e c = some r) : snapC e' c = some r := by
  cases c with
  | ps r p o =>
    simp only [snapC] at hx ⊢
    split at hx
    · rename_i row hr; rw [rowE_mono h hr]; exact hx
    · cases hx
  | pp r p o =>
    simp only [snapC] at hx ⊢
    split at hx
    · cases hx
    · rename_i hp
      rw [if_neg hp]
      split at hx
      · rename_i row hr; rw [rowE_mono h hr]; exact hx
      · cases hx
  | osl s t n cs => cases n <;> cases cs <;> exact hx
  | _ => exact hx
theorem snapCs_mono {e e' : Env} (h : Le e e') : ∀ {cs : List AV} {r : List AV × Bool}, snapCs e cs = some r → snapCs e' cs = some r
  | [], r, hx => hx
  | c :: cs, r, hx => by
    simp only [snapCs] at hx ⊢
    split at hx
    · rename_i c' b h1
      rw [snapC_mono h h1]
      split at hx
      · rename_i h2; rw [snapCs_mono h h2]; exact hx
      · cases hx
    · cases hx
theorem snapV_mono {e e' : Env} (h : Le e e') {c : AV} {r : AV × Bool} (hx : snapV e c = some r) : snapV e' c = some r := by
  cases c with
  | agg cs =>
    simp only [snapV] at hx ⊢
    split at hx
    · rename_i h1; rw [snapCs_mono h h1]; exact hx
    · cases hx
  | _ => simp only [snapV] at hx ⊢; exact snapC_mono h hx
theorem prepX_mono {e e' : Env} (h : Le e e') : ∀ {xs : List Opd} {r : List AV × Bool}, prepX e xs = some r → prepX e' xs = some r
  | [], r, hx => hx
  | x :: xs, r, hx => by
    simp only [prepX] at hx ⊢
    split at hx
    · rename_i v hv
      split at hx
      · rename_i v' b h1
        have : v ≠ .dead := by rintro rfl; simp [snapV, snapC, isFz] at h1
        rw [ev_mono h hv this]
        simp only [snapV_mono h h1]
        split at hx
        · rename_i h2; rw [prepX_mono h h2]; exact hx
        · cases hx
      · cases hx
    · cases hx

/-! ### The walk -/

/-- Values, those hidden that are not to be seen. -/
def maskP (p : Nat → Bool) : Nat → List AV → List AV
  | _, [] => []
  | k, v :: vs => (if p k then v else .dead) :: maskP p (k + 1) vs

def OpV (P : Program) (so : SOpr) (e : Env) (K : AV → Prop) : Prop :=
  match so.k with
  | .op s => pureOp s = true ∧ match opx e s with
    | some (v, _) => isDead v = false ∧ K v
    | none => False
  | .call g args fr => match prepX e args with
    | some (avs, live) => ∃ res, Says P g avs res [] ∧ (live = true → noFrz res = true) ∧
        match (if fr then frz res else some res) with
        | some v => isDead v = false ∧ K v
        | none => False
    | none => False

/-- The part whose operations come in any order: each sees what it must wait for. -/
def DRun (P : Program) (e : Env) : List SOpr → List (List Nat) → List AV → (List AV → Prop) → Prop
  | [], _, acc, Q => Q acc
  | so :: rest, sees, acc, Q => so.dst = none ∧ match so.guard with
    | none => OpV P so (e ++ maskP (fun i => (sees.headD []).contains i) 0 acc) fun v => DRun P e rest sees.tail (acc ++ [v]) Q
    | some (s, b) => match (e ++ maskP (fun i => (sees.headD []).contains i) 0 acc)[s]? with
      | some (.bool b') => if b' = b then OpV P so (e ++ maskP (fun i => (sees.headD []).contains i) 0 acc) fun v => DRun P e rest sees.tail (acc ++ [v]) Q else DRun P e rest sees.tail (acc ++ [.dead]) Q
      | _ => False

/-- What was shown of one of them. -/
def DVal (P : Program) (e : Env) (so : SOpr) (see : List Nat) (vs : List AV) (k : Nat) : Prop :=
  so.dst = none ∧ match so.guard with
  | none => OpV P so (e ++ maskP (fun i => see.contains i) 0 (vs.take k)) fun v => vs[k]? = some v
  | some (s, b) => match (e ++ maskP (fun i => see.contains i) 0 (vs.take k))[s]? with
    | some (.bool b') => if b' = b then OpV P so (e ++ maskP (fun i => see.contains i) 0 (vs.take k)) fun v => vs[k]? = some v else vs[k]? = some .dead
    | _ => False

theorem OpV_ex {P : Program} {so : SOpr} {e : Env} {K : AV → Prop} (h : OpV P so e K) : ∃ v, OpV P so e (fun u => u = v) ∧ K v := by
  unfold OpV at h
  split at h
  · rename_i s hk
    obtain ⟨h1, h⟩ := h
    split at h
    · rename_i v e' hx
      exact ⟨v, by unfold OpV; rw [hk]; simp only [hx]; exact ⟨h1, h.1, trivial⟩, h.2⟩
    · cases h
  · rename_i g args fr hk
    split at h
    · rename_i avs live hp
      obtain ⟨res, h1, h2, h⟩ := h
      split at h
      · rename_i v hv
        exact ⟨v, by unfold OpV; rw [hk]; simp only [hp]; exact ⟨res, h1, h2, by rw [hv]; exact ⟨h.1, rfl⟩⟩, h.2⟩
      · cases h
    · cases h
theorem OpV_imp {P : Program} {so : SOpr} {e : Env} {K K' : AV → Prop} (hK : ∀ v, K v → K' v) (h : OpV P so e K) : OpV P so e K' := by
  unfold OpV at h ⊢
  split at h
  · rename_i s hk
    obtain ⟨h1, h⟩ := h
    refine ⟨h1, ?_⟩
    split at h
    · exact ⟨h.1, hK _ h.2⟩
    · cases h
  · rename_i g args fr hk
    split at h
    · obtain ⟨res, h1, h2, h⟩ := h
      refine ⟨res, h1, h2, ?_⟩
      split at h
      · exact ⟨h.1, hK _ h.2⟩
      · cases h
    · cases h

theorem DRun_vals {P : Program} {e : Env} {Q : List AV → Prop} : ∀ {sos : List SOpr} {sees : List (List Nat)} {acc : List AV}, DRun P e sos sees acc Q →
    ∃ vs, vs.length = acc.length + sos.length ∧ (∃ ws, vs = acc ++ ws) ∧ Q vs ∧ ∀ (k : Nat) (so : SOpr), sos[k]? = some so → DVal P e so (sees.getD k []) vs (acc.length + k)
  | [], sees, acc, h => ⟨acc, by simp, ⟨[], by simp⟩, h, fun k so hk => by simp at hk⟩
  | so :: rest, sees, acc, h => by
    simp only [DRun] at h
    obtain ⟨hdst, h⟩ := h
    have hd : sees.headD [] = sees.getD 0 [] := by cases sees <;> rfl
    have ht : ∀ k, sees.tail.getD k [] = sees.getD (k + 1) [] := fun k => by cases sees <;> simp
    have go : ∀ v : AV, DRun P e rest sees.tail (acc ++ [v]) Q → (∀ vs : List AV, vs.take acc.length = acc → vs[acc.length]? = some v → DVal P e so (sees.getD 0 []) vs acc.length) →
        ∃ vs, vs.length = acc.length + (so :: rest).length ∧ (∃ ws, vs = acc ++ ws) ∧ Q vs ∧ ∀ (k : Nat) (so' : SOpr), (so :: rest)[k]? = some so' → DVal P e so' (sees.getD k []) vs (acc.length + k) := by
      intro v hr hv
      obtain ⟨vs, h1, ⟨ws, rfl⟩, h3, h4⟩ := DRun_vals hr
      refine ⟨_, by rw [h1]; simp; omega, ⟨[v] ++ ws, by simp⟩, h3, fun k so' hk => ?_⟩
      cases k with
      | zero =>
        simp at hk; subst hk
        exact hv _ (by simp) (by simp)
      | succ k =>
        have := h4 k so' (by simpa using hk)
        rw [ht] at this
        simpa [Nat.add_assoc, Nat.add_comm 1 k] using this
    rw [hd] at h
    split at h
    · rename_i hg
      obtain ⟨v, h1, h2⟩ := OpV_ex h
      refine go v h2 fun vs ht hv => ⟨hdst, ?_⟩
      rw [hg]
      simp only [ht]
      exact OpV_imp (fun u hu => by rw [hu]; exact hv) h1
    · rename_i s b hg
      split at h
      · rename_i b' hb
        split at h
        · rename_i hbb
          obtain ⟨v, h1, h2⟩ := OpV_ex h
          refine go v h2 fun vs ht hv => ⟨hdst, ?_⟩
          rw [hg]
          simp only [ht, hb, if_pos hbb]
          exact OpV_imp (fun u hu => by rw [hu]; exact hv) h1
        · rename_i hbb
          refine go .dead h fun vs ht hv => ⟨hdst, ?_⟩
          rw [hg]
          simp only [ht, hb, if_neg hbb]
          exact hv
      · cases h

theorem maskP_get {p : Nat → Bool} : ∀ {vs : List AV} {k i : Nat}, (maskP p k vs)[i]? = (vs[i]?).map fun v => if p (k + i) then v else .dead
  | [], k, i => by simp [maskP]
  | v :: vs, k, 0 => by simp [maskP]
  | v :: vs, k, i + 1 => by simp [maskP, maskP_get, Nat.add_assoc, Nat.add_comm 1 i]
theorem maskP_length {p : Nat → Bool} : ∀ {vs : List AV} {k : Nat}, (maskP p k vs).length = vs.length
  | [], k => rfl
  | v :: vs, k => by simp [maskP, maskP_length]

/-- The slots when those of the first t have come up that p names. -/
def envP (e : Env) (p : Nat → Bool) (vs : List AV) (r : Nat) : Env := e ++ maskP p 0 vs ++ List.replicate r .dead

theorem envP_length {e : Env} {p : Nat → Bool} {vs : List AV} {r : Nat} : (envP e p vs r).length = e.length + (vs.length + r) := by simp [envP, maskP_length, Nat.add_assoc]
theorem envP_get {e : Env} {p : Nat → Bool} {vs : List AV} {r i : Nat} : (envP e p vs r)[e.length + i]? = if i < vs.length then (vs[i]?).map (fun v => if p i then v else .dead) else if i < vs.length + r then some .dead else none := by
  unfold envP
  rw [List.append_assoc, List.getElem?_append_right (by omega)]
  simp only [Nat.add_sub_cancel_left]
  split
  · rename_i h
    rw [List.getElem?_append_left (by simpa [maskP_length] using h), maskP_get]; simp
  · rename_i h
    rw [List.getElem?_append_right (by simp [maskP_length]; omega), maskP_length, List.getElem?_replicate]
    split <;> split <;> first | rfl | omega
theorem envP_low {e : Env} {p : Nat → Bool} {vs : List AV} {r i : Nat} (h : i < e.length) : (envP e p vs r)[i]? = e[i]? := by
  unfold envP
  rw [List.append_assoc, List.getElem?_append_left h]

theorem envP_Le {e : Env} {p q : Nat → Bool} {vs : List AV} {r k : Nat} (h : ∀ i, i < k → q i = true → p i = true) : Le (e ++ maskP q 0 (vs.take k)) (envP e p vs r) := by
  intro i v hi hv
  by_cases hlt : i < e.length
  · rw [List.getElem?_append_left hlt] at hi
    rw [envP_low hlt, hi]
  · obtain ⟨j, rfl⟩ : ∃ j, i = e.length + j := ⟨i - e.length, by omega⟩
    rw [List.getElem?_append_right (by omega)] at hi
    simp only [Nat.add_sub_cancel_left, maskP_get, Nat.zero_add] at hi
    rw [envP_get]
    rw [List.getElem?_take] at hi
    by_cases hjk : j < k
    · rw [if_pos hjk] at hi
      cases hu : vs[j]? with
      | none => simp [hu] at hi
      | some u =>
        have hjl := (List.getElem?_eq_some_iff.1 hu).1
        rw [if_pos hjl]
        by_cases hq : q j = true
        · rw [hu] at hi
          simp only [hq, if_true, Option.map_some] at hi
          simpa [h j hjk hq] using hi
        · rw [hu] at hi
          simp [hq] at hi
          exact absurd hi.symm hv
    · rw [if_neg hjk] at hi
      simp at hi

theorem envP_set {e : Env} {p : Nat → Bool} {vs : List AV} {r k : Nat} {v : AV} (hk : vs[k]? = some v) (q : Nat → Bool) (hq : ∀ i, q i = (p i || i == k)) : (envP e p vs r).set (e.length + k) v = envP e q vs r := by
  have hkl := (List.getElem?_eq_some_iff.1 hk).1
  apply List.ext_getElem?
  intro i
  by_cases hlt : i < e.length
  · rw [List.getElem?_set_ne (by omega), envP_low hlt, envP_low hlt]
  · obtain ⟨j, rfl⟩ : ∃ j, i = e.length + j := ⟨i - e.length, by omega⟩
    by_cases hjk : k = j
    · subst hjk
      rw [List.getElem?_set_self (by rw [envP_length]; omega), envP_get, if_pos hkl, hk]
      simp [hq]
    · rw [List.getElem?_set_ne (by omega), envP_get, envP_get]
      have : q j = p j := by rw [hq]; simp [show (j == k) = false by simp; omega]
      rw [this]

/-! ### Every order -/

/-- What each operation must wait for: 'sees' says no more than the graph does; from number t on, each waits for all before it. -/
def okSeeAt (ops : Array Oper) (sees : List (List Nat)) (t k : Nat) : Bool :=
  match ops[k]? with
  | some o => o.after.toList.all (fun d => !Region.binds .any d || decide (d.on < k)) &&
      (sees.getD k []).all (fun x => decide (x < k) && o.after.toList.any fun d => Region.binds .any d && (d.on == x || (sees.getD d.on []).contains x)) &&
      (decide (k < t) || (List.range k).all fun x => (sees.getD k []).contains x)
  | none => false
def okSee (ops : Array Oper) (sees : List (List Nat)) (t : Nat) : Bool := (List.range ops.size).all (okSeeAt ops sees t)

structure SeeOk (ops : Array Oper) (sees : List (List Nat)) (t k : Nat) (o : Oper) : Prop where
  back : ∀ d ∈ o.after, Region.binds .any d = true → d.on < k
  lt : ∀ x ∈ sees.getD k [], x < k
  why : ∀ x ∈ sees.getD k [], ∃ d ∈ o.after, Region.binds .any d = true ∧ (d.on = x ∨ x ∈ sees.getD d.on [])
  all : t ≤ k → ∀ x, x < k → x ∈ sees.getD k []

theorem okSee_spec {ops : Array Oper} {sees : List (List Nat)} {t k : Nat} {o : Oper} (h : okSee ops sees t = true) (hk : ops[k]? = some o) : SeeOk ops sees t k o := by
  have hlt := (Array.getElem?_eq_some_iff.1 hk).1
  have h := List.all_eq_true.1 h k (List.mem_range.2 hlt)
  unfold okSeeAt at h
  rw [hk] at h
  simp only [Bool.and_eq_true, List.all_eq_true, Bool.or_eq_true, decide_eq_true_eq, List.any_eq_true, Bool.not_eq_true', beq_iff_eq, List.contains_iff_mem, List.mem_range, Array.mem_toList_iff] at h
  obtain ⟨⟨h1, h2⟩, h3⟩ := h
  refine ⟨fun d hd hb => (h1 d hd).resolve_left (by simp [hb]), fun x hx => (h2 x hx).1, fun x hx => ?_, fun ht x hx => ?_⟩
  · obtain ⟨d, hd, hb, hor⟩ := (h2 x hx).2
    exact ⟨d, hd, hb, hor⟩
  · rcases h3 with h | h
    · omega
    · exact h x hx

theorem see_listed {ops : Array Oper} {sees : List (List Nat)} {t k : Nat} {listed : Array Bool} (hs : okSee ops sees t = true) (hc : ∀ y, y < ops.size → listed.getD y false = true → ∀ x ∈ sees.getD y [], listed.getD x false = true) (hsz : listed.size = ops.size)
    (hr : k ∈ Region.ready .any ops listed) : ∀ x ∈ sees.getD k [], listed.getD x false = true := by
  obtain ⟨_, o, ho, hall⟩ := mem_ready.1 hr
  intro x hx
  obtain ⟨d, hd, hb, hor⟩ := (okSee_spec hs ho).why x hx
  have hl := hall d hd hb
  rcases hor with rfl | hor
  · exact hl
  · refine hc d.on ?_ hl x hor
    by_cases h : d.on < ops.size
    · exact h
    · rw [Array.getD_eq_getD_getElem?, Array.getElem?_eq_none (by omega)] at hl
      simp at hl

section
variable {P : Program} {C : Cx} {V D : List Nat} {n : Nat} {ops : Array Oper} {sees : List (List Nat)} {t : Nat} {QQ : Exit → Act → World → Prop} {Q : Env → Prop} {sos : List SOpr}

theorem okOprs_at : ∀ {os : List Oper} {sos : List SOpr} {k i : Nat} {o : Oper}, okOprs P V D n ops k os sos = true → os[i]? = some o → ∃ so, sos[i]? = some so ∧ okOpr P V D n (k + i) ops o so = true
  | [], sos, k, i, o, h, hi => by simp at hi
  | o' :: os, [], k, i, o, h, hi => by simp [okOprs] at h
  | o' :: os, so :: sos, k, 0, o, h, hi => by
    simp only [okOprs, Bool.and_eq_true] at h
    simp at hi; subst hi
    exact ⟨so, rfl, h.1⟩
  | o' :: os, so :: sos, k, i + 1, o, h, hi => by
    simp only [okOprs, Bool.and_eq_true] at h
    obtain ⟨so', h1, h2⟩ := okOprs_at h.2 (by simpa using hi)
    exact ⟨so', by simpa using h1, by rwa [show k + (i + 1) = k + 1 + i by omega]⟩
theorem okOprs_length : ∀ {os : List Oper} {sos : List SOpr} {k : Nat}, okOprs P V D n ops k os sos = true → os.length = sos.length
  | [], [], k, h => rfl
  | [], _ :: _, k, h => by simp [okOprs] at h
  | _ :: _, [], k, h => by simp [okOprs] at h
  | o' :: os, so :: sos, k, h => by
    simp only [okOprs, Bool.and_eq_true] at h
    simp [okOprs_length h.2]

theorem getD_tf {listed : Array Bool} {j : Nat} (h : j < listed.size) : listed.getD j true = listed.getD j false := by
  simp [Array.getD_eq_getD_getElem?, Array.getElem?_eq_getElem h]

/-- From number i on: one after the other. -/
theorem draw_tail (hν : (V ++ D).Nodup) (hok : okOprs P V D n ops 0 ops.toList sos = true) (hs : okSee ops sees t = true)
    (hQ : ∀ e ρ tmps w Φ f, St P C (V ++ D) n e ρ tmps w Φ f → Q e → QQ .normal ⟨tmps, []⟩ w) :
    ∀ (fuel i : Nat) (listed : Array Bool) (e : Env) (ρ : List Value) (tmps : Array Value) (w : World) (Φ : Nat → Prop) (f : Cnt), listed.size = ops.size → (∀ j, j < ops.size → (listed.getD j false = true ↔ j < i)) → t ≤ i → i ≤ ops.size → ops.size ≤ fuel + i →
      St P C (V ++ D) n e ρ tmps w Φ f → e.length = V.length + ops.size → (∀ j, i ≤ j → j < ops.size → ρ[V.length + j]? = some undef) → SRun P V.length i (sos.drop i) e Q → wpAny P .any ops QQ fuel listed ⟨tmps, []⟩ w := by
  intro fuel
  have hl := okOprs_length hok
  have hend : ∀ (i : Nat) (listed : Array Bool) (e : Env) (ρ : List Value) (tmps : Array Value) (w : World) (Φ : Nat → Prop) (f : Cnt), i = ops.size → St P C (V ++ D) n e ρ tmps w Φ f → SRun P V.length i (sos.drop i) e Q → QQ .normal ⟨tmps, []⟩ w := by
    intro i listed e ρ tmps w Φ f hi hst h
    rw [List.drop_eq_nil_of_le (by rw [← hl, hi]; simp)] at h
    exact hQ _ _ _ _ _ _ hst (by simpa only [SRun] using h)
  have hrd : ∀ (i j : Nat) (listed : Array Bool), listed.size = ops.size → (∀ j, j < ops.size → (listed.getD j false = true ↔ j < i)) → t ≤ i → j ∈ Region.ready .any ops listed → j = i := by
    intro i j listed hsz hl hti hj
    have hsee := see_listed hs (fun y hy hly x hx => by
      have := (okSee_spec hs (Array.getElem?_eq_getElem hy)).lt x hx
      have h2 := (hl y hy).1 hly
      exact (hl x (by omega)).2 (by omega)) hsz hj
    obtain ⟨h0, o, ho, _⟩ := mem_ready.1 hj
    have hjs := (Array.getElem?_eq_some_iff.1 ho).1
    rw [getD_tf (by omega)] at h0
    have hge : ¬ j < i := fun h => by rw [(hl j hjs).2 h] at h0; cases h0
    by_cases hji : i < j
    · have := hsee i ((okSee_spec hs ho).all (by omega) i hji)
      have := (hl i (by omega)).1 this
      omega
    · omega
  induction fuel with
  | zero =>
    intro i listed e ρ tmps w Φ f hsz hlst hti his hf hst hlen hund h
    have hi : i = ops.size := by omega
    refine ⟨?_, hend i listed e ρ tmps w Φ f hi hst h⟩
    cases hr : Region.ready .any ops listed with
    | nil => rfl
    | cons j _ =>
      have hj : j ∈ Region.ready .any ops listed := by rw [hr]; simp
      have := hrd i j listed hsz hlst hti hj
      obtain ⟨_, o, ho, _⟩ := mem_ready.1 hj
      have := (Array.getElem?_eq_some_iff.1 ho).1
      omega
  | succ fuel ih =>
    intro i listed e ρ tmps w Φ f hsz hlst hti his hf hst hlen hund h
    refine ⟨fun hr => ?_, fun j hj => ?_⟩
    · by_cases hi : i = ops.size
      · exact hend i listed e ρ tmps w Φ f hi hst h
      · exfalso
        have hilt : i < ops.size := by omega
        have : i ∈ Region.ready .any ops listed := mem_ready.2 ⟨by
          rw [getD_tf (by omega)]
          cases hb : listed.getD i false with
          | false => rfl
          | true => have := (hlst i hilt).1 hb; omega, _, Array.getElem?_eq_getElem hilt, fun d hd hb => by
          have := (okSee_spec hs (Array.getElem?_eq_getElem hilt)).back d hd hb
          exact (hlst d.on (by omega)).2 this⟩
        rw [hr] at this; cases this
    · obtain rfl := hrd i j listed hsz hlst hti hj
      obtain ⟨_, o, ho, _⟩ := mem_ready.1 hj
      have hjs := (Array.getElem?_eq_some_iff.1 ho).1
      obtain ⟨so, hso, hokr⟩ := okOprs_at hok (i := j) (by simpa using ho)
      rw [Nat.zero_add] at hokr
      have hdrop : sos.drop j = so :: sos.drop (j + 1) := by
        rw [List.drop_eq_getElem_cons (List.getElem?_eq_some_iff.1 hso).1, (List.getElem?_eq_some_iff.1 hso).2]
      rw [hdrop] at h
      have hρl : e.length = ρ.length := CR_length hst.rel
      have := opr_step (QQ := QQ) (ops := ops) (K := wpAny P .any ops QQ fuel (listed.setIfInBounds j true)) hν hokr hst (hund j (Nat.le_refl _) hjs) (SRun_cons h) (fun e2 ρ2 tmps2 w2 Φ2 g hst2 hl2 hu2 hrun =>
        ih (j + 1) _ e2 ρ2 tmps2 w2 Φ2 g (by simpa using hsz) (fun x hx => by
          by_cases hxj : j = x
          · subst hxj; simp [hsz, hjs]
          · rw [getD_set_ne false hxj, hlst x hx]; omega) (by omega) (by omega) (by omega) hst2 (by rw [CR_length hst2.rel, hl2, ← hρl]; exact hlen) (fun x hx hxs => by
          rw [hu2 _ (by omega) (by omega)]; exact hund x (by omega) hxs) hrun)
      unfold wpOp
      rw [ho]
      simp only
      split
      · rename_i hw; rw [if_pos hw] at this; exact .inl this
      · rename_i hw; rw [if_neg hw] at this; exact this

def cntU (listed : Array Bool) : Nat → Nat
  | 0 => 0
  | t + 1 => cntU listed t + if listed.getD t false then 0 else 1
theorem cntU_ge {listed : Array Bool} {k : Nat} : ∀ {t : Nat}, t ≤ k → cntU (listed.setIfInBounds k true) t = cntU listed t
  | 0, _ => rfl
  | t + 1, h => by
    simp only [cntU]
    rw [cntU_ge (by omega), getD_set_ne false (by omega)]
theorem cntU_set {listed : Array Bool} {k : Nat} (hk : listed.getD k false = false) (hs : k < listed.size) : ∀ {t : Nat}, k < t → cntU (listed.setIfInBounds k true) t + 1 = cntU listed t
  | 0, h => by omega
  | t + 1, h => by
    simp only [cntU]
    by_cases hkt : k = t
    · subst hkt
      rw [cntU_ge (Nat.le_refl _), hk]
      simp [hs]
    · have := cntU_set hk hs (t := t) (by omega)
      rw [getD_set_ne false hkt]
      omega
theorem cntU_pos {listed : Array Bool} {k : Nat} (hk : listed.getD k false = false) : ∀ {t : Nat}, k < t → 1 ≤ cntU listed t
  | 0, h => by omega
  | t + 1, h => by
    simp only [cntU]
    by_cases hkt : k = t
    · subst hkt; rw [hk]; simp
    · have := cntU_pos hk (t := t) (by omega)
      omega

theorem OprW_of_DVal {e : Env} {so : SOpr} {see : List Nat} {vs : List AV} {k r : Nat} {p : Nat → Bool} (h : DVal P e so see vs k) (hk : k < vs.length) (hp : p k = false) (hsee : ∀ i, i < k → i ∈ see → p i = true) :
    OprW P e.length k so (envP e p vs r) fun e2 => ∃ v, vs[k]? = some v ∧ e2 = (envP e p vs r).set (e.length + k) v := by
  have hle : Le (e ++ maskP (fun i => see.contains i) 0 (vs.take k)) (envP e p vs r) := envP_Le fun i hi hq => hsee i hi (by simpa using hq)
  obtain ⟨hd, h⟩ := h
  have hop : ∀ (h : OpV P so (e ++ maskP (fun i => see.contains i) 0 (vs.take k)) fun v => vs[k]? = some v), OpW P e.length k so (envP e p vs r) fun e2 => ∃ v, vs[k]? = some v ∧ e2 = (envP e p vs r).set (e.length + k) v := by
    intro h
    unfold OpV at h
    unfold OpW
    split at h
    · rename_i s hs
      obtain ⟨h1, h⟩ := h
      split at h
      · rename_i v e' hx
        have hv : v ≠ .dead := by rintro rfl; simp [isDead] at h
        simp only [hs, opx_mono hle h1 hx hv, hd, putV]
        exact ⟨v, h.2, rfl⟩
      · cases h
    · rename_i g args fr hs
      split at h
      · rename_i avs live hpx
        simp only [hs, prepX_mono hle hpx]
        obtain ⟨res, h1, h2, h⟩ := h
        refine ⟨res, h1, h2, ?_⟩
        split at h
        · rename_i v hv
          simp only [hv, hd, putV]
          exact ⟨v, h.2, rfl⟩
        · cases h
      · cases h
  unfold OprW
  split at h
  · rename_i hg; rw [hg]; exact hop h
  · rename_i s b hg
    rw [hg]
    split at h
    · rename_i b' hb
      simp only [hle s _ hb (by simp)]
      split at h
      · rename_i hbb; rw [if_pos hbb]; exact hop h
      · rename_i hbb; rw [if_neg hbb]
        refine ⟨.dead, h, (set_same ?_).symm⟩
        rw [envP_get, if_pos hk, h, hp]; rfl
    · cases h

/-- The first t in any order, then the rest. -/
theorem draw_head {e : Env} {vs : List AV} (hν : (V ++ D).Nodup) (hok : okOprs P V D n ops 0 ops.toList sos = true) (hs : okSee ops sees t = true) (hm : e.length = V.length) (ht : t ≤ ops.size) (hvs : vs.length = t)
    (hQ : ∀ e ρ tmps w Φ f, St P C (V ++ D) n e ρ tmps w Φ f → Q e → QQ .normal ⟨tmps, []⟩ w)
    (hv : ∀ k so, k < t → sos[k]? = some so → DVal P e so (sees.getD k []) vs k) (htail : SRun P V.length t (sos.drop t) (e ++ vs ++ List.replicate (ops.size - t) .dead) Q) :
    ∀ (fuel : Nat) (listed : Array Bool) (ρ : List Value) (tmps : Array Value) (w : World) (Φ : Nat → Prop) (f : Cnt), listed.size = ops.size → (∀ j, t ≤ j → j < ops.size → listed.getD j false = false) → cntU listed t + (ops.size - t) ≤ fuel →
      (∀ y, y < ops.size → listed.getD y false = true → ∀ x ∈ sees.getD y [], listed.getD x false = true) →
      St P C (V ++ D) n (envP e (fun i => listed.getD i false) vs (ops.size - t)) ρ tmps w Φ f → (∀ j, j < ops.size → listed.getD j false = false → ρ[V.length + j]? = some undef) → wpAny P .any ops QQ fuel listed ⟨tmps, []⟩ w := by
  have hl := okOprs_length hok
  have full : ∀ (fuel : Nat) (listed : Array Bool) (ρ : List Value) (tmps : Array Value) (w : World) (Φ : Nat → Prop) (f : Cnt), listed.size = ops.size → (∀ j, t ≤ j → j < ops.size → listed.getD j false = false) → ops.size - t ≤ fuel →
      (∀ j, j < t → listed.getD j false = true) → St P C (V ++ D) n (envP e (fun i => listed.getD i false) vs (ops.size - t)) ρ tmps w Φ f → (∀ j, j < ops.size → listed.getD j false = false → ρ[V.length + j]? = some undef) → wpAny P .any ops QQ fuel listed ⟨tmps, []⟩ w := by
    intro fuel listed ρ tmps w Φ f hsz htl hfu hall hst hund
    have he : envP e (fun i => listed.getD i false) vs (ops.size - t) = e ++ vs ++ List.replicate (ops.size - t) .dead := by
      have : maskP (fun i => listed.getD i false) 0 vs = vs := by
        apply List.ext_getElem?
        intro i
        rw [maskP_get]
        cases hi : vs[i]? with
        | none => rfl
        | some v =>
          have := (List.getElem?_eq_some_iff.1 hi).1
          simp [hall i (by omega)]
      rw [envP, this]
    rw [he] at hst
    refine draw_tail hν hok hs hQ fuel t listed _ ρ tmps w Φ f hsz (fun j hj => ⟨fun h => ?_, fun h => hall j h⟩) (Nat.le_refl _) ht (by omega) hst (by simp [hm, hvs]; omega) (fun j hj hjs => hund j hjs (htl j hj hjs)) htail
    by_cases hjt : j < t
    · exact hjt
    · rw [htl j (by omega) hj] at h; cases h
  intro fuel
  induction fuel with
  | zero =>
    intro listed ρ tmps w Φ f hsz htl hfu hcl hst hund
    refine full 0 listed ρ tmps w Φ f hsz htl (by omega) (fun j hj => ?_) hst hund
    cases hb : listed.getD j false with
    | true => rfl
    | false => have := cntU_pos hb hj; omega
  | succ fuel ih =>
    intro listed ρ tmps w Φ f hsz htl hfu hcl hst hund
    by_cases hall : ∀ j, j < t → listed.getD j false = true
    · exact full (fuel + 1) listed ρ tmps w Φ f hsz htl (by omega) hall hst hund
    · refine ⟨fun hr => ?_, fun k hk => ?_⟩
      · -- some operation can come up
        exfalso
        apply hall
        intro j
        induction j using Nat.strongRecOn with
        | _ j ihj =>
          intro hjt
          cases hb : listed.getD j false with
          | true => rfl
          | false =>
            exfalso
            have hjs : j < ops.size := by omega
            have : j ∈ Region.ready .any ops listed := mem_ready.2 ⟨by rw [getD_tf (by omega)]; exact hb, _, Array.getElem?_eq_getElem hjs, fun d hd hbd => by
              have := (okSee_spec hs (Array.getElem?_eq_getElem hjs)).back d hd hbd
              exact ihj d.on this (by omega)⟩
            rw [hr] at this; cases this
      · have hsee := see_listed hs hcl hsz hk
        obtain ⟨h0, o, ho, _⟩ := mem_ready.1 hk
        have hks := (Array.getElem?_eq_some_iff.1 ho).1
        rw [getD_tf (by omega)] at h0
        have hkt : k < t := by
          by_cases h : k < t
          · exact h
          · exfalso
            apply hall
            intro j hj
            exact hsee j ((okSee_spec hs ho).all (by omega) j (by omega))
        obtain ⟨so, hso, hokr⟩ := okOprs_at hok (i := k) (by simpa using ho)
        rw [Nat.zero_add] at hokr
        have hw := OprW_of_DVal (r := ops.size - t) (p := fun i => listed.getD i false) (hv k so hkt hso) (by omega) h0 (fun i _ hi => hsee i hi)
        rw [hm] at hw
        have := opr_step (QQ := QQ) (ops := ops) (K := wpAny P .any ops QQ fuel (listed.setIfInBounds k true)) hν hokr hst (hund k hks h0) hw (fun e2 ρ2 tmps2 w2 Φ2 g hst2 hl2 hu2 hrun => by
          obtain ⟨v, hvk, rfl⟩ := hrun
          have hset := envP_set (e := e) (p := fun i => listed.getD i false) (r := ops.size - t) hvk (fun i => (listed.setIfInBounds k true).getD i false) (fun i => by
            by_cases hki : k = i
            · subst hki; simp [hsz, hks]
            · rw [getD_set_ne false hki]
              have : (i == k) = false := by simp; omega
              simp [this])
          rw [hm] at hset
          rw [hset] at hst2
          refine ih _ ρ2 tmps2 w2 Φ2 g (by simpa using hsz) (fun j hj hjs => by rw [getD_set_ne false (by omega)]; exact htl j hj hjs) (by have := cntU_set h0 (by omega) hkt; omega) (fun y hy hly x hx => ?_) hst2 (fun j hj hjl => ?_)
          · by_cases hky : k = y
            · subst hky
              exact getD_set_true (hsee x hx)
            · rw [getD_set_ne false hky] at hly
              exact getD_set_true (hcl y hy hly x hx)
          · by_cases hkj : k = j
            · subst hkj; simp [hsz, hks] at hjl
            · rw [getD_set_ne false hkj] at hjl
              rw [hu2 _ (by omega) (by omega)]
              exact hund j hj hjl)
        unfold wpOp
        rw [ho]
        simp only
        split
        · rename_i hw; rw [if_pos hw] at this; exact .inl this
        · rename_i hw; rw [if_neg hw] at this; exact this
end
end Go.AM
