/- What is seen of arguments while a call lasts. -/
import Derived.Test.YtodlnccdpbpokaaDoorAmStep
set_option linter.unusedSimpArgs false
set_option linter.unusedVariables false
set_option linter.unusedSectionVars false
namespace Go.AM
open Go
section
variable {P : Program}
theorem frzs_FC {w : World} {Φ : Nat → Prop} {σ : Nat → Value} {ρ : List Value} (Φ' : Nat → Prop) (hsub : ∀ b, Φ b → Φ' b) : ∀ {cs cs' : List AV} {vs : List Value} {f : Cnt} {ad : Addr} {j : Nat}, frzs cs = some cs' → CR P w Φ σ ρ cs vs f → (∀ b, 1 ≤ f b → Φ' b) →
    (∀ i u, vs[i]? = some u → w.cell? (ad.add (j + i)) = some u) → Φ' ad.block → FC P w Φ' σ ρ cs' (some ad) j
  | [], cs', vs, f, ad, j, hz, _, _, _, _ => by simp [frzs] at hz; subst hz; simp only [FC]
  | c :: cs, cs', vs, f, ad, j, hz, hc, hf, hcell, hb => by
    simp only [frzs] at hz
    cases h1 : frzC c with
    | none => simp [h1] at hz
    | some c' =>
      cases h2 : frzs cs with
      | none => simp [h1, h2] at hz
      | some cs1 =>
        simp [h1, h2] at hz; subst hz
        simp only [CR] at hc
        obtain ⟨v, vs', f1, f2, rfl, hv, hcs, hff⟩ := hc
        obtain ⟨k1, k2⟩ := frz_rel Φ' hsub _ _ _ _ h1 (fun b hb => hf b (by have := hff b; omega)) hv
        simp only [FC]
        refine ⟨⟨ad, v, rfl, hb, by simpa using hcell 0 v rfl, k1, k2⟩, frzs_FC Φ' hsub h2 hcs (fun b hb => hf b (by have := hff b; omega)) (fun i u hi => ?_) hb⟩
        have := hcell (i + 1) u (by simpa using hi)
        rwa [show j + 1 + i = j + (i + 1) by omega]

/-- A frozen copy of what is owned: its relation, where the owned blocks count as frozen. -/
theorem snapC_rel {w : World} {Φ : Nat → Prop} {σ : Nat → Value} {ρ : List Value} {e : Env} {f : Cnt} (h : CR P w Φ σ ρ e ρ f) (hsep : ∀ b, f b ≤ 1) {c c' : AV} {live : Bool} {cv : Value} (hs : snapC e c = some (c', live))
    (hv : VR P w Φ σ ρ c cv (fun _ => 0)) (Φ' : Nat → Prop) (hsub : ∀ b, Φ b → Φ' b) (hΦ : live = true → ∀ b, 1 ≤ f b → Φ' b) : isFz c' = true ∧ ∀ (ρ' : List Value) (g : Cnt), (∀ b, g b = 0) → VR P w Φ' σ ρ' c' cv g := by
  have fz : ∀ {c : AV}, isFz c = true → VR P w Φ σ ρ c cv (fun _ => 0) → ∀ (ρ' : List Value) (g : Cnt), (∀ b, g b = 0) → VR P w Φ' σ ρ' c cv g := by
    intro c hc hv ρ' g hg
    rw [Zf hg]
    exact stab w Φ' ρ' (fun _ _ => rfl) hsub c cv _ (isFz_hr hc) (fun _ _ => rfl) hv
  cases c with
  | ps r p o =>
    simp only [snapC] at hs
    split at hs
    · rename_i row hrow
      split at hs
      · rename_i s t n cs hro
        split at hs
        · rename_i v hfz
          simp at hs
          obtain ⟨rfl, rfl⟩ := hs
          simp only [VR] at hv
          obtain ⟨⟨bo, row0, a, n0, c0, hw, hv0, rfl⟩, _⟩ := hv
          obtain ⟨bo', cvs, f1, f2, hw', hcr, hf, _, _⟩ := env_focus h hsep hrow
          rw [hw] at hw'
          obtain ⟨rfl, rfl⟩ : bo = bo' ∧ row0 = cvs := by simpa using hw'
          obtain ⟨cv, g1, g2, hcv, hvr, hff, _⟩ := CR_get o hcr hro
          obtain ⟨hcv0, _⟩ := get_take_lt hcv
          rw [hv0] at hcv0
          obtain rfl := Option.some.inj hcv0
          obtain ⟨k1, k2⟩ := frz_rel Φ' hsub _ _ _ _ hfz (fun b hb => hΦ rfl b (by have := hf b; have := hff b; omega)) hvr
          refine ⟨k1, fun ρ' g hg => ?_⟩
          exact stab w Φ' ρ' (fun _ _ => rfl) (fun _ h => h) _ _ _ (isFz_hr k1) (fun _ _ => rfl) (k2 g hg)
        · cases hs
      · cases hs
    · cases hs
  | pp r p o =>
    simp only [snapC] at hs
    split at hs
    · cases hs
    · rename_i hp
      split at hs
      · rename_i row hrow
        split at hs
        · rename_i cs hcs
          simp at hs
          obtain ⟨rfl, rfl⟩ := hs
          simp only [VR] at hv
          obtain ⟨⟨b0, row0, hw, rfl⟩, _⟩ := hv
          obtain ⟨bo', cvs, f1, f2, hw', hcr, hf, _, hblk⟩ := env_focus h hsep hrow
          rw [hw] at hw'
          obtain ⟨rfl, rfl⟩ : some b0 = bo' ∧ row0 = cvs := by simpa using hw'
          obtain ⟨b, tt, arr, e2, hheap, rfl, hb2, _⟩ := hblk hp
          obtain rfl := Option.some.inj e2
          refine ⟨rfl, fun ρ' g hg => ?_⟩
          have hfc := frzs_FC (P := P) (w := w) (σ := σ) (ρ := ρ) Φ' hsub hcs hcr (fun b hb => hΦ rfl b (by have := hf b; omega)) (ad := ⟨b0, 0, none⟩) (j := 0) (fun i u hi => by
            rw [add_lit, cell_of_row w b0 _ arr tt (0, 0) hheap]
            have := (get_take_lt hi).1
            simpa using this) (hΦ rfl b0 (by have := hf b0; omega))
          have hfd := FC_drop o hfc
          have : VR P w Φ' σ ρ (.rp (cs.drop o)) (.pointer (some ⟨b0, o, none⟩)) g := by
            simp only [VR]
            exact ⟨⟨_, rfl, by simpa [add_lit] using hfd⟩, hg⟩
          exact stab w Φ' ρ' (fun _ _ => rfl) (fun _ h => h) _ _ _ rfl (fun _ _ => rfl) this
        · cases hs
      · cases hs
  | osl s t n cs =>
    cases n with
    | succ n => simp [snapC, isFz] at hs
    | zero => cases cs with
      | cons c cs => simp [snapC, isFz] at hs
      | nil =>
        simp [snapC] at hs
        obtain ⟨rfl, rfl⟩ := hs
        simp only [VR] at hv
        obtain ⟨_, _, xs, f1, ho, _, _⟩ := hv
        obtain ⟨a, c, rfl, h1, h2, _⟩ := ownsRow_slice ho
        refine ⟨rfl, fun ρ' g hg => ?_⟩
        simp only [VR]
        exact ⟨⟨a, c, rfl, h1, by simpa using h2, by simp only [FC]⟩, hg⟩
  | int k n => simp [snapC, isFz] at hs; obtain ⟨rfl, rfl⟩ := hs; exact ⟨rfl, fz rfl hv⟩
  | bool b => simp [snapC, isFz] at hs; obtain ⟨rfl, rfl⟩ := hs; exact ⟨rfl, fz rfl hv⟩
  | str s => simp [snapC, isFz] at hs; obtain ⟨rfl, rfl⟩ := hs; exact ⟨rfl, fz rfl hv⟩
  | nilf => simp [snapC, isFz] at hs; obtain ⟨rfl, rfl⟩ := hs; exact ⟨rfl, fz rfl hv⟩
  | nsl t => simp [snapC, isFz] at hs; obtain ⟨rfl, rfl⟩ := hs; exact ⟨rfl, fz rfl hv⟩
  | rsl n cs => simp [snapC, isFz] at hs; obtain ⟨rfl, rfl⟩ := hs; exact ⟨rfl, fz rfl hv⟩
  | rp cs => simp [snapC, isFz] at hs; obtain ⟨rfl, rfl⟩ := hs; exact ⟨rfl, fz rfl hv⟩
  | fn g cs => cases cs with
    | nil => simp [snapC, isFz] at hs; obtain ⟨rfl, rfl⟩ := hs; exact ⟨rfl, fz rfl hv⟩
    | cons c cs => simp [snapC, isFz] at hs
  | _ => simp [snapC, isFz] at hs

theorem snapCs_rel {w : World} {Φ : Nat → Prop} {σ : Nat → Value} {ρ : List Value} {e : Env} {f : Cnt} (h : CR P w Φ σ ρ e ρ f) (hsep : ∀ b, f b ≤ 1) (Φ' : Nat → Prop) (hsub : ∀ b, Φ b → Φ' b) :
    ∀ {cs cs' : List AV} {live : Bool} {vs : List Value}, snapCs e cs = some (cs', live) → CR P w Φ σ ρ cs vs (fun _ => 0) → (live = true → ∀ b, 1 ≤ f b → Φ' b) → hrs cs' = false ∧ ∀ (ρ' : List Value), CR P w Φ' σ ρ' cs' vs (fun _ => 0)
  | [], cs', live, vs, hs, hc, _ => by
    simp [snapCs] at hs
    obtain ⟨rfl, rfl⟩ := hs
    simp only [CR] at hc
    obtain ⟨rfl, _⟩ := hc
    exact ⟨rfl, fun ρ' => CR_nil⟩
  | c :: cs, cs', live, vs, hs, hc, hΦ => by
    simp only [snapCs] at hs
    cases h1 : snapC e c with
    | none => simp [h1] at hs
    | some x =>
      obtain ⟨c1, b1⟩ := x
      cases h2 : snapCs e cs with
      | none => simp [h1, h2] at hs
      | some y =>
        obtain ⟨cs1, b2⟩ := y
        simp [h1, h2] at hs
        obtain ⟨rfl, rfl⟩ := hs
        simp only [CR] at hc
        obtain ⟨v, vs', f1, f2, rfl, hv, hcs, hff⟩ := hc
        have z1 : f1 = fun _ => 0 := funext fun b => by have : 0 = f1 b + f2 b := hff b; omega
        have z2 : f2 = fun _ => 0 := funext fun b => by have : 0 = f1 b + f2 b := hff b; omega
        subst z1; subst z2
        obtain ⟨k1, k2⟩ := snapC_rel h hsep h1 hv Φ' hsub (fun hb => hΦ (by simp [hb]))
        obtain ⟨m1, m2⟩ := snapCs_rel h hsep Φ' hsub h2 hcs (fun hb => hΦ (by simp [hb]))
        refine ⟨by simp only [hrs, Bool.or_eq_false_iff]; exact ⟨isFz_hr k1, m1⟩, fun ρ' => ?_⟩
        have := CR_cons (k2 ρ' (fun _ => 0) (fun _ => rfl)) (m2 ρ')
        simpa using this

theorem snapC_fz {e : Env} {c c' : AV} {b : Bool} (h : snapC e c = some (c', b)) : isFz c' = true := by
  have frz : ∀ {v v' : AV}, frzC v = some v' → isFz v' = true := by
    intro v v' h
    cases v with
    | osl s t n cs => simp only [frzC] at h; split at h <;> simp at h; subst h; rfl
    | bx s t cs => simp only [frzC] at h; split at h <;> simp at h; subst h; rfl
    | fn g cs => cases cs <;> simp [frzC] at h; subst h; rfl
    | _ => simp [frzC] at h <;> (subst h; rfl)
  cases c with
  | ps r p o =>
    simp only [snapC] at h
    split at h
    · split at h
      · split at h
        · rename_i hz; simp at h; rw [← h.1]; exact frz hz
        · cases h
      · cases h
    · cases h
  | pp r p o =>
    simp only [snapC] at h
    split at h
    · cases h
    · split at h
      · split at h
        · simp at h; rw [← h.1]; rfl
        · cases h
      · cases h
  | osl s t n cs =>
    cases n <;> cases cs <;> simp [snapC, isFz] at h
    rw [← h.1]; rfl
  | fn g cs => cases cs <;> simp [snapC, isFz] at h; rw [← h.1]; rfl
  | _ => simp [snapC, isFz] at h <;> (rw [← h.1]; rfl)
theorem isFz_noSt {c : AV} (h : isFz c = true) : noSt c = true := by
  cases c <;> simp [isFz, noSt] at h ⊢
  rename_i g cs; cases cs <;> simp [noSts] at h ⊢
theorem snapCs_fz : ∀ {e : Env} {cs cs' : List AV} {b : Bool}, snapCs e cs = some (cs', b) → noSts cs' = true
  | e, [], cs', b, h => by simp [snapCs] at h; rw [h.1]; rfl
  | e, c :: cs, cs', b, h => by
    simp only [snapCs] at h
    split at h
    · rename_i h1
      split at h
      · rename_i h2
        simp at h; rw [← h.1]
        simp [noSts, isFz_noSt (snapC_fz h1), snapCs_fz h2]
      · cases h
    · cases h
theorem snapV_noSt {e : Env} {v v' : AV} {b : Bool} (h : snapV e v = some (v', b)) : noSt v' = true := by
  cases v with
  | agg cs =>
    simp only [snapV] at h
    split at h
    · rename_i h1; simp at h; rw [← h.1]; simpa [noSt] using snapCs_fz h1
    · cases h
  | pf r p o =>
    simp only [snapV] at h
    split at h
    · split at h
      · split at h
        · split at h
          · rename_i h1; simp at h; rw [← h.1]; simpa [noSt] using snapCs_fz h1
          · cases h
        · cases h
      · cases h
    · cases h
  | _ => exact isFz_noSt (snapC_fz (by simpa only [snapV] using h))
/-- What may be captured owns nothing itself. -/
theorem capOk_zero {P : Program} {w : World} {Φ : Nat → Prop} {σ : Nat → Value} {ρ : List Value} : ∀ {cs : List AV} {vs : List Value} {f1 : Cnt}, cs.all capOk = true → CR P w Φ σ ρ cs vs f1 → ∀ x, f1 x = 0 := by
  intro cs
  induction cs with
  | nil => intro vs f1 _ h2 x; simp only [CR] at h2; exact h2.2 x
  | cons c cs ih =>
    intro vs f1 h1 h2 x
    simp only [List.all_cons, Bool.and_eq_true] at h1
    simp only [CR] at h2
    obtain ⟨v, vs', k1, k2, rfl, hv, hcs, hff⟩ := h2
    have := ih h1.2 hcs x
    have hc0 : k1 x = 0 := by
      have h0 := h1.1
      cases c with
      | fn g1 cs1 => cases cs1 with
        | nil => simp only [VR] at hv; obtain ⟨_, _, _, hv⟩ := hv; simp only [CR] at hv; exact hv.2 x
        | cons _ _ => simp [capOk, isRef1, isFz] at h0
      | osl s t n cs0 => simp [capOk, isRef1, isFz] at h0
      | bx s t cs0 => simp [capOk, isRef1, isFz] at h0
      | agg cs0 => simp [capOk, isRef1, isFz] at h0
      | tup sh cs0 => simp [capOk, isRef1, isFz] at h0
      | dead => simp [capOk, isRef1, isFz] at h0
      | gone => simp [capOk, isRef1, isFz] at h0
      | _ => simp only [VR] at hv; exact hv.2 x
    have := hff x; omega

theorem snapV_rel {w : World} {Φ : Nat → Prop} {σ : Nat → Value} {ρ : List Value} {e : Env} {f : Cnt} (h : CR P w Φ σ ρ e ρ f) (hsep : ∀ b, f b ≤ 1) (Φ' : Nat → Prop) (hsub : ∀ b, Φ b → Φ' b)
    {v v' : AV} {live : Bool} {cv : Value} (hs : snapV e v = some (v', live)) (hv : VR P w Φ σ ρ v cv (fun _ => 0)) (hΦ : live = true → ∀ b, 1 ≤ f b → Φ' b) : hr v' = false ∧ ∀ (ρ' : List Value), VR P w Φ' σ ρ' v' cv (fun _ => 0) := by
  have one : snapC e v = some (v', live) → hr v' = false ∧ ∀ (ρ' : List Value), VR P w Φ' σ ρ' v' cv (fun _ => 0) := fun hs => by
    obtain ⟨k1, k2⟩ := snapC_rel h hsep hs hv Φ' hsub hΦ
    exact ⟨isFz_hr k1, fun ρ' => k2 ρ' _ (fun _ => rfl)⟩
  cases v with
  | agg cs =>
    simp only [snapV] at hs
    split at hs
    · rename_i cs' b h1
      simp at hs
      obtain ⟨rfl, rfl⟩ := hs
      simp only [VR] at hv
      obtain ⟨arr, rfl, hc⟩ := hv
      obtain ⟨m1, m2⟩ := snapCs_rel h hsep Φ' hsub h1 hc hΦ
      refine ⟨by simpa only [hr] using m1, fun ρ' => ?_⟩
      simp only [VR]
      exact ⟨arr, rfl, m2 ρ'⟩
    · cases hs
  | pf r p o =>
    simp only [snapV] at hs
    split at hs
    · rename_i hpo
      obtain ⟨rfl, rfl⟩ := hpo
      split at hs
      · rename_i g caps hr0
        split at hs
        · rename_i hcap
          split at hs
          · rename_i cs' b h1
            simp only [Option.some.injEq, Prod.mk.injEq] at hs
            obtain ⟨rfl, rfl⟩ := hs
            obtain ⟨cv', f1, f2, hcv, hvr, hf, _⟩ := CR_get r h hr0
            simp only [VR] at hvr
            obtain ⟨vs, rfl, hq, hcr⟩ := hvr
            have hz := capOk_zero hcap hcr
            simp only [VR] at hv
            obtain ⟨⟨bo, row, g0, fs, cs, hw, hv0, rfl⟩, _⟩ := hv
            have e2 : rowOf ρ r = [.func (.func g) #[] vs] := by simp [rowOf, hcv, cellsV]
            rw [e2] at hw
            simp only [walk, Option.some.injEq, Prod.mk.injEq] at hw
            obtain ⟨rfl, rfl⟩ := hw
            simp at hv0
            obtain ⟨rfl, rfl, rfl⟩ := hv0
            obtain ⟨m1, m2⟩ := snapCs_rel h hsep Φ' hsub h1 (by rw [← Zf hz]; exact hcr) hΦ
            refine ⟨by simpa only [hr] using m1, fun ρ' => ?_⟩
            simp only [VR]
            exact ⟨_, rfl, fun c hc => .inr (hrs_mem m1 c hc), m2 ρ'⟩
          · cases hs
        · cases hs
      · cases hs
    · cases hs
  | _ => exact one (by simpa only [snapV] using hs)

theorem prepX_rel {w : World} {Φ : Nat → Prop} {σ : Nat → Value} {ρ : List Value} {ν : List Nat} {e : Env} {f : Cnt} {a : Act} (h : CR P w Φ σ ρ e ρ f) (hl : LK ν ρ e a.tmps) (hsep : ∀ b, f b ≤ 1) (Φ' : Nat → Prop) (hsub : ∀ b, Φ b → Φ' b) :
    ∀ {xs : List Operand} {ys : List Opd} {avs : List AV} {live : Bool}, okXs ν xs ys = true → prepX e ys = some (avs, live) → (live = true → ∀ b, 1 ≤ f b → Φ' b) →
      hrs avs = false ∧ ∀ (ρ' : List Value), CR P w Φ' σ ρ' avs (xs.map a.eval) (fun _ => 0)
  | [], [], avs, live, _, hp, _ => by
    simp [prepX] at hp
    obtain ⟨rfl, rfl⟩ := hp
    exact ⟨rfl, fun ρ' => CR_nil⟩
  | x :: xs, y :: ys, avs, live, hx, hp, hΦ => by
    simp only [okXs, Bool.and_eq_true] at hx
    simp only [prepX] at hp
    cases h1 : ev e y with
    | none => simp [h1] at hp
    | some v =>
      cases h2 : snapV e v with
      | none => simp [h1, h2] at hp
      | some z =>
        obtain ⟨v', b1⟩ := z
        cases h3 : prepX e ys with
        | none => simp [h1, h2, h3] at hp
        | some u =>
          obtain ⟨vs, b2⟩ := u
          simp [h1, h2, h3] at hp
          obtain ⟨rfl, rfl⟩ := hp
          obtain ⟨k1, k2⟩ := snapV_rel h hsep Φ' hsub h2 (ev_rel h hl hx.1 h1 _ (fun _ => rfl)) (fun hb => hΦ (by simp [hb]))
          obtain ⟨m1, m2⟩ := prepX_rel h hl hsep Φ' hsub hx.2 h3 (fun hb => hΦ (by simp [hb]))
          refine ⟨by simp only [hrs, Bool.or_eq_false_iff]; exact ⟨k1, m1⟩, fun ρ' => ?_⟩
          have := CR_cons (k2 ρ') (m2 ρ')
          simpa using this
  | [], _ :: _, _, _, hx, _, _ => by simp [okXs] at hx
  | _ :: _, [], _, _, hx, _, _ => by simp [okXs] at hx

/-- Is it the name of a function with a Go body? -/
def plainFn (P : Program) (g : Nat) : Bool :=
  match P.funcs[g]? with
  | some fn => fn.body.isSome && !(fn.name == "runtime.NumGoroutine")
  | none => false
/-- A call through a function value. -/
theorem run_callv {w : World} {a : Act} {o : Oper} {c : Call} {x : Operand} {g : Nat} {vs : Array Value} (ho : o.op = .call c) (hc : c.callee = .value x) (hv : a.eval x = .func (.func g) #[] vs) (hg : plainFn P g = true) :
    (execOp a.eval o).run P w = .ok (.enter g (c.args.map a.eval ++ vs)) w := by
  unfold plainFn at hg
  split at hg
  · rename_i fn hfn
    simp only [Bool.and_eq_true, Bool.not_eq_true', beq_eq_false_iff_ne] at hg
    obtain ⟨hb, hn⟩ := hg
    simp [execOp, ho, resolve, hc, hv, Deferred.ofValue, invoke, callFunc, hfn, hn]
    intro h0; rw [h0] at hb; cases hb
  · cases hg

theorem run_call {w : World} {a : Act} {o : Oper} {c : Call} {g : Nat} (ho : o.op = .call c) (hc : c.callee = .value (.func g)) (hg : plainFn P g = true) : (execOp a.eval o).run P w = .ok (.enter g (c.args.map a.eval)) w := by
  unfold plainFn at hg
  split at hg
  · rename_i fn hfn
    simp only [Bool.and_eq_true, Bool.not_eq_true', beq_eq_false_iff_ne] at hg
    obtain ⟨hb, hn⟩ := hg
    simp [execOp, ho, resolve, hc, Act.eval, Deferred.ofValue, invoke, callFunc, hfn, hn]
    intro h0; rw [h0] at hb; cases hb
  · cases hg

end
end Go.AM
