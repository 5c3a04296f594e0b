/- From a function's body to what its calls say; rules to walk by. -/
import Derived.Test.YtodlnccdpbpokaaDoorAmRun
set_option linter.unusedSimpArgs false
set_option linter.unusedVariables false
set_option linter.unusedSectionVars false
namespace Go.AM
open Go

/-- Where a result lies. -/
inductive SRes where
  | tmp (j : Nat)
  | cell (j sz : Nat) (ag : Bool)

/-- Is it a value at all? -/
def isVal : AV → Bool
  | .dead => false
  | .gone => false
  | .tup _ _ => false
  | _ => true

def resT (e : Env) : SRes → Option (AV × Env)
  | .tmp j => match e[j]? with
    | some v => if hasRef v = false ∧ isVal v = true then some (v, e.set j .dead) else none
    | none => none
  | .cell j sz ag => match e[j]? with
    | some (.bx _ _ cs) => if cs.length = sz then match mkv ag cs with
        | some v => if isVal v = true then some (v, e.set j .dead) else none
        | none => none
      else none
    | _ => none
def resX : Env → List SRes → Option (List AV)
  | _, [] => some []
  | e, r :: rs => match resT e r with
    | some (v, e') => match resX e' rs with
      | some vs => some (v :: vs)
      | none => none
    | none => none
/-- The results, and what is left. -/
def resY : Env → List SRes → Option (List AV × Env)
  | e, [] => some ([], e)
  | e, r :: rs => match resT e r with
    | some (v, e') => match resY e' rs with
      | some (vs, e2) => some (v :: vs, e2)
      | none => none
    | none => none
def isS (s : Nat) : AV → Bool
  | .osl s' _ _ _ => s' == s
  | .bx s' _ _ => s' == s
  | _ => false
def takeL (s : Nat) : List AV → Option (AV × List AV)
  | [] => none
  | c :: cs => if isS s c = true then some (c, .gone :: cs) else match takeL s cs with
    | some (v, cs') => some (v, c :: cs')
    | none => none
def takeI (s : Nat) : AV → Option (AV × AV)
  | .bx t k cs => match takeL s cs with
    | some (v, cs') => some (v, .bx t k cs')
    | none => none
  | .agg cs => match takeL s cs with
    | some (v, cs') => some (v, .agg cs')
    | none => none
  | .fn g cs => match takeL s cs with
    | some (v, cs') => some (v, .fn g cs')
    | none => none
  | _ => none
/-- What bears a stamp, out of the slots. -/
def takeE (s : Nat) : Env → Option (AV × Env)
  | [] => none
  | c :: cs => if isS s c = true then some (c, .gone :: cs) else match takeI s c with
    | some (v, c') => some (v, c' :: cs)
    | none => match takeE s cs with
      | some (v, cs') => some (v, c :: cs')
      | none => none
def outsX : Env → List Nat → Option (List AV)
  | _, [] => some []
  | e, s :: ss => match takeE s e with
    | some (v, e') => match outsX e' ss with
      | some vs => some (v :: vs)
      | none => none
    | none => none
def shA : AV → Option Nat
  | .agg cs => some cs.length
  | _ => none
def tupOf : List AV → AV
  | [v] => v
  | vs => .tup (vs.map shA) (vs.flatMap cellsOf)

def okRes (P : Program) (V : List Nat) (n : Nat) : List ResultVar → List SRes → Bool
  | [], [] => true
  | .tmp t :: rs, .tmp j :: ss => V[j]? == some t && decide (t < n) && okRes P V n rs ss
  | .cell a t :: rs, .cell j sz ag :: ss => V[j]? == some a && decide (a < n) && isAggP P t == some ag && (if ag then szOf P t == some sz else sz == 1) && okRes P V n rs ss
  | _, _ => false
/-- Is 'sc' the body of 'fn'? -/
def okFn (P : Program) (fn : Func) (V : List Nat) (sc : SCode) (rs : List SRes) (k : Nat) : Bool :=
  (match fn.body with | some c => okCode P V fn.ntmps c sc | none => false) && nodupB V && (V.take k == List.range k) && decide (k ≤ V.length) && decide (k ≤ fn.ntmps) && okRes P V fn.ntmps fn.results.toList rs

section
variable {P : Program} {w : World} {Φ : Nat → Prop} {σ : Nat → Value} {ρ : List Value}

theorem mkv_rel2 {ag : Bool} {cs : List AV} {v : AV} {us : List Value} {f : Cnt} (hm : mkv ag cs = some v) (hc : CR P w Φ σ ρ cs us f) :
    VR P w Φ σ ρ v (if ag then .agg us.toArray else us.headD undef) f := by
  cases ag with
  | true =>
    simp [mkv] at hm; subst hm
    simp only [if_true, VR]
    exact ⟨_, rfl, by simpa using hc⟩
  | false =>
    simp [mkv] at hm
    split at hm
    · rename_i c
      simp at hm; subst hm
      simp only [CR] at hc
      obtain ⟨u, us', f1, f2, rfl, h1, ⟨rfl, h2⟩, h3⟩ := hc
      have : f1 = f := funext fun b => by have := h3 b; have := h2 b; omega
      simpa [this] using h1
    · cases hm

/-- One result. -/
def res1 (tmps : Array Value) : ResultVar → Sem Value
  | .tmp t => pure (tmps.getD t undef)
  | .cell a t => do loadVar t (← asAddr (tmps.getD a undef))

/-- What is known of results, taken together. -/
theorem hr_mkv {ag : Bool} {cs : List AV} {v : AV} (h : hrs cs = false) (hm : mkv ag cs = some v) : hr v = false := by
  cases ag with
  | true => simp [mkv] at hm; subst hm; simpa only [hr] using h
  | false =>
    simp [mkv] at hm
    split at hm
    · simp at hm; subst hm; simpa [hrs] using h
    · cases hm

theorem VR_val {v : AV} {f : Cnt} (hv : isVal v = true) (h : VR P w Φ σ ρ v unk f) : False := by
  cases v <;> simp only [VR] at h
  · simp [isVal] at hv
  · simp [isVal] at hv
  · have := h.1; cases this
  · have := h.1; cases this
  · have := h.1; cases this
  · obtain ⟨vs, e, _⟩ := h; cases e
  · have := h.1; cases this
  · obtain ⟨⟨a, c, e, _⟩, _⟩ := h; cases e
  · obtain ⟨⟨a, c, e, _⟩, _⟩ := h; cases e
  · obtain ⟨⟨a, e, _⟩, _⟩ := h; cases e
  · obtain ⟨_, _, xs, f1, ho, _⟩ := h; obtain ⟨a, c, e, _⟩ := ownsRow_slice ho; cases e
  · obtain ⟨_, _, b0, arr, f1, e, _⟩ := h; cases e
  · obtain ⟨arr, e, _⟩ := h; cases e
  · simp [isVal] at hv
  · obtain ⟨⟨bo, row, a, n, c, _, _, e⟩, _⟩ := h; cases e
  · obtain ⟨⟨b0, row, _, e⟩, _⟩ := h; cases e
  · obtain ⟨⟨bo, row, g, fs, cs, _, _, e⟩, _⟩ := h; cases e

/-- A value's cells, and its shape. -/
theorem VR_cells {v : AV} {cv : Value} {f : Cnt} (hv : isVal v = true) (h : VR P w Φ σ ρ v cv f) : shp cv = shA v ∧ CR P w Φ σ ρ (cellsOf v) cv.cells.toList f := by
  have one : ∀ {v : AV}, cellsOf v = [v] → shA v = none → VR P w Φ σ ρ v cv f → shp cv = none → cv.cells.toList = [cv] → shp cv = shA v ∧ CR P w Φ σ ρ (cellsOf v) cv.cells.toList f := by
    intro v h1 h2 h3 h4 h5
    rw [h1, h2, h4, h5]
    refine ⟨rfl, ?_⟩
    have := CR_cons h3 (CR_nil (P := P) (w := w) (Φ := Φ) (σ := σ) (ρ := ρ))
    simpa using this
  have h0 := h
  cases v <;> simp only [VR] at h
  · simp [isVal] at hv
  · simp [isVal] at hv
  · obtain ⟨rfl, _⟩ := h; exact one rfl rfl h0 rfl rfl
  · obtain ⟨rfl, _⟩ := h; exact one rfl rfl h0 rfl rfl
  · obtain ⟨rfl, _⟩ := h; exact one rfl rfl h0 rfl rfl
  · obtain ⟨vs, rfl, _⟩ := h; exact one rfl rfl h0 rfl rfl
  · obtain ⟨rfl, _⟩ := h; exact one rfl rfl h0 rfl rfl
  · obtain ⟨⟨a, c, rfl, _⟩, _⟩ := h; exact one rfl rfl h0 rfl rfl
  · obtain ⟨⟨a, c, rfl, _⟩, _⟩ := h; exact one rfl rfl h0 rfl rfl
  · obtain ⟨⟨a, rfl, _⟩, _⟩ := h; exact one rfl rfl h0 rfl rfl
  · obtain ⟨_, _, xs, f1, ho, _⟩ := h; obtain ⟨a, c, rfl, _⟩ := ownsRow_slice ho; exact one rfl rfl h0 rfl rfl
  · obtain ⟨_, _, b0, arr, f1, rfl, _⟩ := h; exact one rfl rfl h0 rfl rfl
  · obtain ⟨arr, rfl, h1⟩ := h
    exact ⟨by simp [shp, shA, CR_length h1], h1⟩
  · simp [isVal] at hv
  · obtain ⟨⟨bo, row, a, n, c, _, _, rfl⟩, _⟩ := h; exact one rfl rfl h0 rfl rfl
  · obtain ⟨⟨b0, row, _, rfl⟩, _⟩ := h; exact one rfl rfl h0 rfl rfl
  · obtain ⟨⟨bo, row, g, fs, cs, _, _, rfl⟩, _⟩ := h; exact one rfl rfl h0 rfl rfl

theorem resT_rel {V : List Nat} {n : Nat} {rv : ResultVar} {r : SRes} {e e' : Env} {v : AV} {tmps : Array Value} {f : Cnt} (hok : okRes P V n [rv] [r] = true) (hrel : CR P w Φ σ ρ e ρ f) (hl : LK V ρ e tmps) (hx : resT e r = some (v, e')) :
    ∃ cv f1 f2, (res1 tmps rv).run P w = .ok cv w ∧ VR P w Φ σ ρ v cv f1 ∧ hr v = false ∧ isVal v = true ∧ CR P w Φ σ ρ e' ρ f2 ∧ ∀ b, f1 b + f2 b ≤ f b := by
  have lkv : ∀ {j t : Nat} {cv : Value}, V[j]? = some t → ρ[j]? = some cv → cv ≠ unk → tmps.getD t undef = cv := by
    intro j t cv hj hc hne
    rcases hl j cv hc with h | ⟨t', ht, h⟩
    · exact absurd h hne
    · rw [hj] at ht; cases ht; exact h
  have drop : ∀ {j : Nat} {u : AV}, e[j]? = some u → ∃ cv f1 f2, ρ[j]? = some cv ∧ VR P w Φ σ ρ u cv f1 ∧ (∀ b, f b = f1 b + f2 b) ∧ CR P w Φ σ ρ (e.set j .dead) ρ f2 := by
    intro j u hj
    obtain ⟨cv, f1, f2, hv, hvr, hf, hset⟩ := CR_get j hrel hj
    have := hset .dead cv (fun _ => 0) (by simp [VR])
    rw [set_same hv] at this
    simp only [Nat.zero_add] at this
    exact ⟨cv, f1, f2, hv, hvr, hf, this⟩
  cases r with
  | tmp j =>
    cases rv <;> simp [okRes] at hok
    rename_i t
    simp only [resT] at hx
    split at hx
    · rename_i u hu
      split at hx
      · rename_i hc
        simp at hx
        obtain ⟨rfl, rfl⟩ := hx
        obtain ⟨cv, f1, f2, hv, hvr, hf, hset⟩ := drop hu
        refine ⟨tmps.getD t undef, f1, f2, rfl, ?_, hasRef_hr hvr hc.1, hc.2, hset, fun b => by have := hf b; omega⟩
        rw [lkv hok.1 hv (by rintro rfl; exact VR_val hc.2 hvr)]; exact hvr
      · cases hx
    · cases hx
  | cell j sz ag =>
    cases rv <;> simp [okRes] at hok
    rename_i a t
    obtain ⟨⟨⟨h1, h2⟩, h3⟩, h4⟩ := hok
    simp only [resT] at hx
    split at hx
    · rename_i s bt cs hj
      split at hx
      · rename_i hlen
        split at hx
        · rename_i u hm
          obtain ⟨hval, rfl, rfl⟩ : isVal u = true ∧ u = v ∧ e.set j .dead = e' := by simpa using hx
          obtain ⟨cv, f1, f2, hv, hvr, hf, hset⟩ := drop hj
          have hvr0 := hvr
          simp only [VR] at hvr
          obtain ⟨_, hrf, b0, arr, g1, rfl, hheap, hcr, hg⟩ := hvr
          have hus : arr.toList.length = sz := by rw [← CR_length hcr]; exact hlen
          have hr := run_loadVar (P := P) (w := w) (ad := ⟨b0, 0, none⟩) h3 (by cases ag <;> simpa using h4) hus (fun i u hi => by
            rw [add_lit, cell_of_row w b0 _ arr bt (0, 0) hheap]
            simpa using hi)
          refine ⟨_, g1, f2, ?_, mkv_rel2 hm hcr, hr_mkv hrf hm, hval, hset, fun b => by have := hf b; have := hg b; omega⟩
          simp only [res1]
          rw [lkv h1 hv (by simp)]
          simpa [asAddr] using hr
        · cases hx
      · cases hx
    · cases hx

theorem okRes_cons {V : List Nat} {n : Nat} {rv : ResultVar} {rvs : List ResultVar} {r : SRes} {rs : List SRes} (h : okRes P V n (rv :: rvs) (r :: rs) = true) : okRes P V n [rv] [r] = true ∧ okRes P V n rvs rs = true := by
  cases rv <;> cases r <;> simp [okRes] at h ⊢
  · exact ⟨h.1, h.2⟩
  · exact ⟨h.1, h.2⟩

theorem resX_rel {V : List Nat} {n : Nat} {tmps : Array Value} : ∀ {rvs : List ResultVar} {rs : List SRes} {e : Env} {vs : List AV} {f : Cnt}, okRes P V n rvs rs = true → CR P w Φ σ ρ e ρ f → LK V ρ e tmps → resX e rs = some vs →
    ∃ cvs f1, (rvs.mapM (res1 tmps)).run P w = .ok cvs w ∧ CR P w Φ σ ρ vs cvs f1 ∧ hrs vs = false ∧ (∀ v ∈ vs, isVal v = true) ∧ ∀ b, f1 b ≤ f b
  | [], [], e, vs, f, hok, hrel, hl, hx => by
    simp [resX] at hx; subst hx
    exact ⟨[], fun _ => 0, by simp, CR_nil, rfl, by simp, fun b => Nat.zero_le _⟩
  | rv :: rvs, r :: rs, e, vs, f, hok, hrel, hl, hx => by
    obtain ⟨hok1, hok2⟩ := okRes_cons hok
    simp only [resX] at hx
    split at hx
    · rename_i v e' h1
      split at hx
      · rename_i vs' h2
        simp at hx; subst hx
        obtain ⟨cv, f1, f2, k1, k2, k3, k4, k5, k6⟩ := resT_rel hok1 hrel hl h1
        obtain ⟨cvs, g1, m1, m2, m3, m4, m5⟩ := resX_rel (tmps := tmps) hok2 k5 (fun j cv hj => hl j cv hj) h2
        refine ⟨cv :: cvs, _, ?_, CR_cons k2 m2, by simp [hrs, k3, m3], ?_, fun b => ?_⟩
        · rw [List.mapM_cons, Sem.run_bind, k1]
          simp only [Result.andThen_ok]
          rw [Sem.run_bind, m1]
          simp
        · intro v' hv'
          rcases List.mem_cons.1 hv' with rfl | h
          · exact k4
          · exact m4 _ h
        · have := k6 b
          have := m5 b
          show f1 b + g1 b ≤ f b
          omega
      · cases hx
    · cases hx
  | [], _ :: _, e, vs, f, hok, _, _, _ => by simp [okRes] at hok
  | rv :: _, [], e, vs, f, hok, _, _, _ => by cases rv <;> simp [okRes] at hok

theorem resY_rel {V : List Nat} {n : Nat} {tmps : Array Value} : ∀ {rvs : List ResultVar} {rs : List SRes} {e e2 : Env} {vs : List AV} {f : Cnt}, okRes P V n rvs rs = true → CR P w Φ σ ρ e ρ f → LK V ρ e tmps → resY e rs = some (vs, e2) →
    ∃ cvs f1 f2, (rvs.mapM (res1 tmps)).run P w = .ok cvs w ∧ CR P w Φ σ ρ vs cvs f1 ∧ hrs vs = false ∧ (∀ v ∈ vs, isVal v = true) ∧ CR P w Φ σ ρ e2 ρ f2 ∧ ∀ b, f1 b + f2 b ≤ f b
  | [], [], e, e2, vs, f, hok, hrel, hl, hx => by
    simp [resY] at hx; obtain ⟨rfl, rfl⟩ := hx
    exact ⟨[], fun _ => 0, f, by simp, CR_nil, rfl, by simp, hrel, fun b => by simp⟩
  | rv :: rvs, r :: rs, e, e2, vs, f, hok, hrel, hl, hx => by
    obtain ⟨hok1, hok2⟩ := okRes_cons hok
    simp only [resY] at hx
    split at hx
    · rename_i v e' h1
      split at hx
      · rename_i vs' e3 h2
        simp at hx; obtain ⟨rfl, rfl⟩ := hx
        obtain ⟨cv, f1, f2, k1, k2, k3, k4, k5, k6⟩ := resT_rel hok1 hrel hl h1
        obtain ⟨cvs, g1, g2, m1, m2, m3, m4, m5, m6⟩ := resY_rel (tmps := tmps) hok2 k5 (fun j cv hj => hl j cv hj) h2
        refine ⟨cv :: cvs, _, g2, ?_, CR_cons k2 m2, by simp [hrs, k3, m3], ?_, m5, fun b => ?_⟩
        · rw [List.mapM_cons, Sem.run_bind, k1]
          simp only [Result.andThen_ok]
          rw [Sem.run_bind, m1]
          simp
        · intro v' hv'
          rcases List.mem_cons.1 hv' with rfl | h
          · exact k4
          · exact m4 _ h
        · have := k6 b
          have := m6 b
          show f1 b + g1 b + g2 b ≤ f b
          omega
      · cases hx
    · cases hx
  | [], _ :: _, e, e2, vs, f, hok, _, _, _ => by simp [okRes] at hok
  | rv :: _, [], e, e2, vs, f, hok, _, _, _ => by cases rv <;> simp [okRes] at hok

theorem isS_rel {s : Nat} {v : AV} {cv : Value} {f : Cnt} (hs : s ≠ 0) (hv : isS s v = true) (h : VR P w Φ σ ρ v cv f) : σ s = cv ∧ hr v = false := by
  cases v <;> simp [isS] at hv
  · subst hv; simp only [VR] at h; exact ⟨h.1 hs, by simpa [hr] using h.2.1⟩
  · subst hv; simp only [VR] at h; exact ⟨h.1 hs, by simpa [hr] using h.2.1⟩
theorem takeL_rel {s : Nat} (hs : s ≠ 0) : ∀ {cs cs' : List AV} {v : AV} {vs : List Value} {f : Cnt}, takeL s cs = some (v, cs') → CR P w Φ σ ρ cs vs f →
    ∃ cv f1 f2, VR P w Φ σ ρ v cv f1 ∧ σ s = cv ∧ hr v = false ∧ CR P w Φ σ ρ cs' vs f2 ∧ (∀ b, f b = f1 b + f2 b) ∧ (hrs cs = false → hrs cs' = false) ∧ ((∀ c ∈ cs, isRef1 c = true ∨ hr c = false) → ∀ c ∈ cs', isRef1 c = true ∨ hr c = false)
  | [], cs', v, vs, f, ht, h => by simp [takeL] at ht
  | c :: cs, cs', v, vs, f, ht, h => by
    simp only [CR] at h
    obtain ⟨cv, vs', f1, f2, rfl, h1, h2, hf⟩ := h
    simp only [takeL] at ht
    split at ht
    · rename_i hc
      simp only [Option.some.injEq, Prod.mk.injEq] at ht
      obtain ⟨rfl, rfl⟩ := ht
      obtain ⟨k1, k2⟩ := isS_rel hs hc h1
      refine ⟨cv, f1, _, h1, k1, k2, CR_cons (v := cv) (c := .gone) (f1 := fun _ => 0) (by unfold VR; exact fun _ => rfl) h2, fun b => by show f b = f1 b + (0 + f2 b); rw [hf b]; omega, ?_, ?_⟩
      · intro hh; simp only [hrs, Bool.or_eq_false_iff] at hh ⊢; exact ⟨rfl, hh.2⟩
      · intro hh c hc
        rcases List.mem_cons.1 hc with rfl | hc
        · exact .inr rfl
        · exact hh c (by simp [hc])
    · split at ht
      · rename_i v' cs1 h3
        simp only [Option.some.injEq, Prod.mk.injEq] at ht
        obtain ⟨rfl, rfl⟩ := ht
        obtain ⟨cw, g1, g2, k1, k2, k3, k4, k5, k6, k7⟩ := takeL_rel hs h3 h2
        refine ⟨cw, g1, _, k1, k2, k3, CR_cons h1 k4, fun b => by show f b = g1 b + (f1 b + g2 b); rw [hf b, k5 b]; omega, ?_, ?_⟩
        · intro hh; simp only [hrs, Bool.or_eq_false_iff] at hh ⊢; exact ⟨hh.1, k6 hh.2⟩
        · intro hh c hc
          rcases List.mem_cons.1 hc with rfl | hc
          · exact hh _ (by simp)
          · exact k7 (fun c hc => hh c (by simp [hc])) c hc
      · cases ht
theorem takeI_rel {s : Nat} (hs : s ≠ 0) {c c' v : AV} {cv : Value} {f : Cnt} (ht : takeI s c = some (v, c')) (h : VR P w Φ σ ρ c cv f) :
    ∃ cw f1 f2, VR P w Φ σ ρ v cw f1 ∧ σ s = cw ∧ hr v = false ∧ VR P w Φ σ ρ c' cv f2 ∧ (∀ b, f b = f1 b + f2 b) := by
  cases c with
  | bx t k cs =>
    simp only [takeI] at ht
    split at ht
    · rename_i v' cs1 h3
      simp only [Option.some.injEq, Prod.mk.injEq] at ht
      obtain ⟨rfl, rfl⟩ := ht
      simp only [VR] at h
      obtain ⟨hst, hx, b0, arr, f1, e, hg, hcr, hb⟩ := h
      obtain ⟨cw, g1, g2, k1, k2, k3, k4, k5, k6, _⟩ := takeL_rel hs h3 hcr
      refine ⟨cw, g1, fun b => (if b = b0 then 1 else 0) + g2 b, k1, k2, k3, ?_, fun b => by show f b = g1 b + ((if b = b0 then 1 else 0) + g2 b); rw [hb b, k5 b]; omega⟩
      simp only [VR]
      exact ⟨hst, k6 hx, b0, arr, g2, e, hg, k4, fun _ => rfl⟩
    · cases ht
  | agg cs =>
    simp only [takeI] at ht
    split at ht
    · rename_i v' cs1 h3
      simp only [Option.some.injEq, Prod.mk.injEq] at ht
      obtain ⟨rfl, rfl⟩ := ht
      simp only [VR] at h
      obtain ⟨arr, e, hcr⟩ := h
      obtain ⟨cw, g1, g2, k1, k2, k3, k4, k5, k6, _⟩ := takeL_rel hs h3 hcr
      refine ⟨cw, g1, g2, k1, k2, k3, ?_, k5⟩
      simp only [VR]
      exact ⟨arr, e, k4⟩
    · cases ht
  | fn g cs =>
    simp only [takeI] at ht
    split at ht
    · rename_i v' cs1 h3
      simp only [Option.some.injEq, Prod.mk.injEq] at ht
      obtain ⟨rfl, rfl⟩ := ht
      simp only [VR] at h
      obtain ⟨vs, e, hq, hcr⟩ := h
      obtain ⟨cw, g1, g2, k1, k2, k3, k4, k5, k6, k7⟩ := takeL_rel hs h3 hcr
      refine ⟨cw, g1, g2, k1, k2, k3, ?_, k5⟩
      simp only [VR]
      exact ⟨vs, e, k7 hq, k4⟩
    · cases ht
  | _ => simp [takeI] at ht
theorem takeE_rel {s : Nat} (hs : s ≠ 0) : ∀ {e e' : List AV} {v : AV} {vs : List Value} {f : Cnt}, takeE s e = some (v, e') → CR P w Φ σ ρ e vs f →
    ∃ cv f1 f2, VR P w Φ σ ρ v cv f1 ∧ σ s = cv ∧ hr v = false ∧ CR P w Φ σ ρ e' vs f2 ∧ (∀ b, f b = f1 b + f2 b)
  | [], e', v, vs, f, ht, h => by simp [takeE] at ht
  | c :: cs, e', v, vs, f, ht, h => by
    simp only [CR] at h
    obtain ⟨cv, vs', f1, f2, rfl, h1, h2, hf⟩ := h
    simp only [takeE] at ht
    split at ht
    · rename_i hc
      simp only [Option.some.injEq, Prod.mk.injEq] at ht
      obtain ⟨rfl, rfl⟩ := ht
      obtain ⟨k1, k2⟩ := isS_rel hs hc h1
      exact ⟨cv, f1, _, h1, k1, k2, CR_cons (v := cv) (c := .gone) (f1 := fun _ => 0) (by unfold VR; exact fun _ => rfl) h2, fun b => by show f b = f1 b + (0 + f2 b); rw [hf b]; omega⟩
    · split at ht
      · rename_i v' c' h3
        simp only [Option.some.injEq, Prod.mk.injEq] at ht
        obtain ⟨rfl, rfl⟩ := ht
        obtain ⟨cw, g1, g2, k1, k2, k3, k4, k5⟩ := takeI_rel hs h3 h1
        exact ⟨cw, g1, _, k1, k2, k3, CR_cons k4 h2, fun b => by show f b = g1 b + (g2 b + f2 b); rw [hf b, k5 b]; omega⟩
      · split at ht
        · rename_i v' cs1 h3
          simp only [Option.some.injEq, Prod.mk.injEq] at ht
          obtain ⟨rfl, rfl⟩ := ht
          obtain ⟨cw, g1, g2, k1, k2, k3, k4, k5⟩ := takeE_rel hs h3 h2
          exact ⟨cw, g1, _, k1, k2, k3, CR_cons h1 k4, fun b => by show f b = g1 b + (f1 b + g2 b); rw [hf b, k5 b]; omega⟩
        · cases ht
theorem outsX_rel : ∀ {ss : List Nat} {e : List AV} {os : List AV} {vs : List Value} {f : Cnt}, (∀ s ∈ ss, s ≠ 0) → outsX e ss = some os → CR P w Φ σ ρ e vs f →
    ∃ f1 f2 e', CR P w Φ σ ρ os (ss.map σ) f1 ∧ hrs os = false ∧ CR P w Φ σ ρ e' vs f2 ∧ os.length = ss.length ∧ (∀ b, f b = f1 b + f2 b)
  | [], e, os, vs, f, hs, ho, h => by
    simp [outsX] at ho; subst ho
    exact ⟨fun _ => 0, f, e, CR_nil, rfl, h, rfl, fun b => by simp⟩
  | s :: ss, e, os, vs, f, hs, ho, h => by
    simp only [outsX] at ho
    split at ho
    · rename_i v e1 h1
      split at ho
      · rename_i os1 h2
        simp only [Option.some.injEq] at ho
        subst ho
        obtain ⟨cv, g1, g2, k1, k2, k3, k4, k5⟩ := takeE_rel (hs s (by simp)) h1 h
        obtain ⟨m1, m2, e2, n1, n2, n3, n4, n5⟩ := outsX_rel (fun s hs' => hs s (by simp [hs'])) h2 k4
        refine ⟨fun b => g1 b + m1 b, m2, e2, ?_, by simp [hrs, k3, n2], n3, by simp [n4], fun b => ?_⟩
        · simp only [List.map_cons, k2]; exact CR_cons k1 n1
        · show f b = g1 b + m1 b + m2 b; rw [k5 b, n5 b]; omega
      · cases ho
    · cases ho

theorem flat_rel : ∀ {vs : List AV} {cvs : List Value} {f : Cnt}, CR P w Φ σ ρ vs cvs f → (∀ v ∈ vs, isVal v = true) → cvs.map shp = vs.map shA ∧ CR P w Φ σ ρ (vs.flatMap cellsOf) (flatV cvs) f
  | [], cvs, f, h, _ => by
    simp only [CR] at h
    obtain ⟨rfl, hf⟩ := h
    exact ⟨rfl, by simp only [List.flatMap_nil, CR]; exact ⟨rfl, hf⟩⟩
  | v :: vs, cvs, f, h, hv => by
    simp only [CR] at h
    obtain ⟨cv, cvs', f1, f2, rfl, h1, h2, hf⟩ := h
    obtain ⟨a1, a2⟩ := VR_cells (hv v (by simp)) h1
    obtain ⟨b1, b2⟩ := flat_rel h2 (fun u hu => hv u (by simp [hu]))
    refine ⟨by simp [a1, b1], ?_⟩
    have := CR_append a2 b2
    rw [show f = fun b => f1 b + f2 b from funext hf]
    simpa [flatV] using this
theorem hrs_flat : ∀ {vs : List AV}, hrs vs = false → hrs (vs.flatMap cellsOf) = false
  | [], _ => rfl
  | v :: vs, h => by
    simp only [hrs, Bool.or_eq_false_iff] at h
    rw [List.flatMap_cons, hrs_append, hrs_flat h.2]
    have : hrs (cellsOf v) = false := by
      cases v <;> simp only [cellsOf, hrs, Bool.or_false] <;> first | exact h.1 | (simpa only [hr] using h.1)
    simp [this]

/-- The value that a function hands back. -/
theorem tup_rel {vs : List AV} {cvs : List Value} {f : Cnt} (h : CR P w Φ σ ρ vs cvs f) (hr0 : hrs vs = false) (hv : ∀ v ∈ vs, isVal v = true) :
    VR P w Φ σ ρ (tupOf vs) (if h : cvs.toArray.size = 1 then cvs.toArray[0] else .tuple cvs.toArray) f ∧ hr (tupOf vs) = false := by
  have hl := CR_length h
  match vs, cvs, hl with
  | [v], [cv], _ =>
    simp only [CR] at h
    obtain ⟨cv', _, f1, f2, he, h1, ⟨_, h2⟩, hf⟩ := h
    simp at he
    obtain ⟨rfl, rfl⟩ := he
    have : f = f1 := funext fun b => by have := hf b; have := h2 b; omega
    subst this
    exact ⟨by simpa [tupOf] using h1, by simpa [tupOf, hrs] using hr0⟩
  | [], [], _ =>
    simp only [CR] at h
    refine ⟨?_, rfl⟩
    simp only [tupOf, List.size_toArray, List.length_nil, VR]
    exact ⟨#[], by simp, rfl, by simp [CR, flatV]; exact h.2⟩
  | v1 :: v2 :: vs, c1 :: c2 :: cvs, _ =>
    obtain ⟨a1, a2⟩ := flat_rel h hv
    refine ⟨?_, ?_⟩
    · rw [dif_neg (by simp)]
      show VR P w Φ σ ρ (.tup _ _) _ f
      simp only [VR]
      exact ⟨_, rfl, by simpa using a1, by simpa using a2⟩
    · simpa [tupOf, hr] using hrs_flat hr0

/-- From the walk of a body. -/
theorem Fn_introM {ss : List Nat} {os : List AV} {g : Nat} {fn : Func} {V : List Nat} {sc : SCode} {rs : List SRes} {args : List AV} {res : AV} (hf : P.funcs[g]? = some fn) (hok : okFn P fn V sc rs args.length = true)
    (h : ∃ ex e, Runs P V.length sc (args ++ deads (V.length - args.length)) ex e ∧ (ex = .normal ∨ ex = .ret) ∧ ∃ vs e2, resY e rs = some (vs, e2) ∧ tupOf vs = res ∧ outsX e2 ss = some os) (hss : ∀ s ∈ ss, s ≠ 0) : Says P g args res (ss.zip os) := by
  intro w Φ σ cargs fa hrel hhr hinv
  simp only [okFn, Bool.and_eq_true, decide_eq_true_eq, beq_iff_eq] at hok
  obtain ⟨⟨⟨⟨⟨hc, hnd⟩, htake⟩, hkV⟩, hkn⟩, hres⟩ := hok
  cases hb : fn.body with
  | none => simp [hb] at hc
  | some c =>
    simp only [hb] at hc
    obtain ⟨ex, e, hruns, hex, vs, e2, hvs, rfl, hos⟩ := h
    have hlen : cargs.size = args.length := by rw [← Array.length_toList, ← CR_length hrel]
    have hV : V.Nodup := nodupB_spec hnd
    have hst : St P ⟨w, Φ, fa, σ⟩ V fn.ntmps (args ++ deads (V.length - args.length)) (cargs.toList ++ List.replicate (V.length - args.length) unk) (cargs ++ Array.replicate (fn.ntmps - cargs.size) undef) w Φ fa := by
      refine ⟨?_, fun j cv hj => ?_, hinv, Ext.refl _ _, fun _ h => h, fun b h => .inl h, fun b h => .inl h, by simp; omega⟩
      · have h1 := CR_stab w Φ (cargs.toList ++ List.replicate (V.length - args.length) unk) (fun _ _ => rfl) (fun _ h => h) _ _ _ hhr (fun _ _ => rfl) hrel
        have := CR_append h1 (CR_undef (P := P) (w := w) (Φ := Φ) (σ := σ) (ρ := cargs.toList ++ List.replicate (V.length - args.length) unk) (V.length - args.length))
        simpa using this
      · by_cases hjl : j < args.length
        · right
          refine ⟨j, ?_, ?_⟩
          · have : (V.take args.length)[j]? = some j := by rw [htake]; simp [hjl]
            rw [List.getElem?_take, if_pos hjl] at this
            exact this
          · rw [List.getElem?_append_left (by simp; omega)] at hj
            rw [Array.getD_eq_getD_getElem?, Array.getElem?_append_left (by omega)]
            simp at hj
            simp [hj]
        · left
          rw [List.getElem?_append_right (by simp; omega), List.getElem?_replicate] at hj
          split at hj
          · simp at hj; exact hj.symm
          · cases hj
    refine calls_of_wp hf hb (wp_mono ((Runs_sound (C := ⟨w, Φ, fa, σ⟩) rfl hruns (by simp [deads]; omega)).wp c hc _ _ _ _ _ hst) ?_)
    rintro ex' a w' ⟨rfl, ρ', tmps', Φ', f', rfl, hst'⟩
    obtain ⟨cvs, f1, f2, k1, k2, k3, k4, k6, k5⟩ := resY_rel hres hst'.rel hst'.lk hvs
    obtain ⟨m1, m2, e3, n1, n2, n3, n4, n5⟩ := outsX_rel hss hos k6
    have z1 : (ss.zip os).map (·.2) = os := List.map_snd_zip (by omega)
    have z2 : (ss.zip os).map (fun p => σ p.1) = ss.map σ := by
      have : (ss.zip os).map (fun p => σ p.1) = ((ss.zip os).map (·.1)).map σ := by simp
      rw [this, List.map_fst_zip (by omega)]
    have hrun : (results fn tmps').run P w' = .ok (if h : cvs.toArray.size = 1 then cvs.toArray[0] else .tuple cvs.toArray) w' := by
      have e1 : results fn tmps' = (do let vs ← fn.results.mapM (res1 tmps'); pure (if h : vs.size = 1 then vs[0] else .tuple vs)) := rfl
      rw [e1, Sem.run_bind]
      have e2 : fn.results.mapM (res1 tmps') = List.toArray <$> fn.results.toList.mapM (res1 tmps') := by
        rw [Array.mapM_eq_mapM_toList]
      rw [e2, Sem.run_map, k1]
      rfl
    obtain ⟨t1, t2⟩ := tup_rel k2 k3 k4
    have fin : ∃ v, (results fn tmps').run P w' = .ok v w' ∧ ∃ (cv : Value) (Φ' : Nat → Prop) (f1 f2 : Cnt), Ending.returned v = .returned cv ∧ Ext w w' fa ∧ (∀ b, Φ b → Φ' b) ∧ (∀ b, Φ' b → Φ b ∨ 1 ≤ fa b ∨ w.heap.size ≤ b) ∧
        VR P w' Φ' σ [] (tupOf vs) cv f1 ∧ hr (tupOf vs) = false ∧ CR P w' Φ' σ [] ((ss.zip os).map (·.2)) ((ss.zip os).map fun p => σ p.1) f2 ∧ hrs ((ss.zip os).map (·.2)) = false ∧
        Inv P w' Φ' (fun b => f1 b + f2 b) ∧ (∀ b, 1 ≤ f1 b + f2 b → 1 ≤ fa b ∨ w.heap.size ≤ b) := by
      refine ⟨_, hrun, _, Φ', f1, m1, rfl, hst'.ext, hst'.sub, hst'.new, stab w' Φ' [] (fun _ _ => rfl) (fun _ h => h) _ _ _ t2 (fun _ _ => rfl) t1, t2, ?_, by rw [z1]; exact n2, hst'.inv.le (fun b => by show f1 b + m1 b ≤ _; have := k5 b; have := n5 b; omega), fun b hb => hst'.own b (by have := k5 b; have := n5 b; omega)⟩
      rw [z1, z2]
      exact CR_stab w' Φ' [] (fun _ _ => rfl) (fun _ h => h) _ _ _ n2 (fun _ _ => rfl) n1
    rcases hex with rfl | rfl
    · exact ⟨rfl, fin⟩
    · exact ⟨rfl, fin⟩
theorem resX_of : ∀ {rs : List SRes} {e : Env} {vs : List AV}, resX e rs = some vs → ∃ e2, resY e rs = some (vs, e2)
  | [], e, vs, h => by simp [resX] at h; subst h; exact ⟨e, rfl⟩
  | r :: rs, e, vs, h => by
    simp only [resX] at h
    split at h
    · rename_i v e' h1
      split at h
      · rename_i vs' h2
        simp at h; subst h
        obtain ⟨e2, h3⟩ := resX_of h2
        exact ⟨e2, by simp only [resY, h1, h3]⟩
      · cases h
    · cases h
theorem Fn_intro {g : Nat} {fn : Func} {V : List Nat} {sc : SCode} {rs : List SRes} {args : List AV} {res : AV} (hf : P.funcs[g]? = some fn) (hok : okFn P fn V sc rs args.length = true)
    (h : ∃ ex e, Runs P V.length sc (args ++ deads (V.length - args.length)) ex e ∧ (ex = .normal ∨ ex = .ret) ∧ ∃ vs, resX e rs = some vs ∧ tupOf vs = res) : Says P g args res [] := by
  obtain ⟨ex, e, h1, h2, vs, h3, h4⟩ := h
  obtain ⟨e2, h5⟩ := resX_of h3
  exact Fn_introM (ss := []) (os := []) hf hok ⟨ex, e, h1, h2, vs, e2, h5, h4, rfl⟩ (by simp)
end
end Go.AM
