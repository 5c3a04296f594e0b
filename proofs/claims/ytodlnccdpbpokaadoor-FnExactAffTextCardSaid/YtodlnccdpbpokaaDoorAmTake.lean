/- Reading an operand; taking what it names. -/
import Derived.Test.YtodlnccdpbpokaaDoorAmEnv
set_option linter.unusedSimpArgs false
set_option linter.unusedVariables false
namespace Go.AM
open Go
section
variable {P : Program} {w : World} {Φ : Nat → Prop} {σ : Nat → Value} {ρ : List Value}

theorem walk_snoc : ∀ (p : List Nat) (bo : Option Nat) (vs : List Value) (k : Nat) (bo' : Option Nat) (row : List Value) (v : Value) (b : Nat) (row' : List Value),
    walk w bo vs p = some (bo', row) → row[k]? = some v → hblk v = some b → brow w b = some row' → walk w bo vs (p ++ [k]) = some (some b, row')
  | [], bo, vs, k, bo', row, v, b, row', h, hk, hb, hr => by
    simp only [walk, Option.some.injEq, Prod.mk.injEq] at h
    obtain ⟨rfl, rfl⟩ := h
    simp [walk, hk, hb, hr]
  | o :: p, bo, vs, k, bo', row, v, b, row', h, hk, hb, hr => by
    simp only [walk] at h
    cases h1 : vs[o]? with
    | none => simp [h1] at h
    | some u =>
      cases h2 : hblk u with
      | none => simp [h1, h2] at h
      | some b1 =>
        cases h3 : brow w b1 with
        | none => simp [h1, h2, h3] at h
        | some r1 =>
          simp only [h1, h2, h3] at h
          simp only [List.cons_append, walk, h1, h2, h3]
          exact walk_snoc p _ _ k bo' row v b row' h hk hb hr

theorem walk_snoc_inv : ∀ (p : List Nat) (bo : Option Nat) (vs : List Value) (k : Nat) (bo' : Option Nat) (row' : List Value),
    walk w bo vs (p ++ [k]) = some (bo', row') → ∃ bo1 row v b, walk w bo vs p = some (bo1, row) ∧ row[k]? = some v ∧ hblk v = some b ∧ brow w b = some row' ∧ bo' = some b
  | [], bo, vs, k, bo', row', h => by
    simp only [List.nil_append, walk] at h
    cases h1 : vs[k]? with
    | none => simp [h1] at h
    | some u =>
      cases h2 : hblk u with
      | none => simp [h1, h2] at h
      | some b1 =>
        cases h3 : brow w b1 with
        | none => simp [h1, h2, h3] at h
        | some r1 =>
          simp [h1, h2, h3] at h
          obtain ⟨rfl, rfl⟩ := h
          exact ⟨bo, vs, u, b1, by simp [walk], h1, h2, h3, rfl⟩
  | o :: p, bo, vs, k, bo', row', h => by
    simp only [List.cons_append, walk] at h
    cases h1 : vs[o]? with
    | none => simp [h1] at h
    | some u =>
      cases h2 : hblk u with
      | none => simp [h1, h2] at h
      | some b1 =>
        cases h3 : brow w b1 with
        | none => simp [h1, h2, h3] at h
        | some r1 =>
          simp only [h1, h2, h3] at h
          obtain ⟨bo1, row, v, b, k1, k2, k3, k4, k5⟩ := walk_snoc_inv p _ _ k bo' row' h
          exact ⟨bo1, row, v, b, by simp only [walk, h1, h2, h3]; exact k1, k2, k3, k4, k5⟩

theorem lz1_rel {r : Nat} {p : List Nat} {o : Nat} {bo : Option Nat} {row : List Value} {c : AV} {cv : Value} {g : Cnt}
    (hw : walk w none (rowOf ρ r) p = some (bo, row)) (hr : row[o]? = some cv) (h : VR P w Φ σ ρ c cv g) (f : Cnt) (hf : ∀ b, f b = 0) : VR P w Φ σ ρ (lz1 r p o c) cv f := by
  cases c with
  | osl s t n cs =>
    simp only [VR] at h; obtain ⟨_, _, xs, f1, ho, _⟩ := h
    obtain ⟨a, c, rfl, _⟩ := ownsRow_slice ho
    simp only [lz1, VR]
    exact ⟨⟨bo, row, a, n, c, hw, hr, rfl⟩, hf⟩
  | bx s t cs =>
    simp only [VR] at h; obtain ⟨_, _, b0, arr, f1, rfl, hg, _⟩ := h
    simp only [lz1, VR]
    exact ⟨⟨b0, arr.toList, walk_snoc _ _ _ _ _ _ _ _ _ hw hr rfl (by simp [brow, hg]), rfl⟩, hf⟩
  | fn g0 cs =>
    cases cs with
    | nil => simp only [VR] at h; obtain ⟨vs, rfl, _, h⟩ := h; simp only [CR] at h; simp only [lz1, VR]; exact ⟨vs, rfl, by simp, by simp only [CR]; exact ⟨h.1, hf⟩⟩
    | cons c cs =>
      simp only [VR] at h; obtain ⟨vs, rfl, h⟩ := h
      simp only [lz1, VR]
      exact ⟨⟨bo, row, _, _, _, hw, hr, rfl⟩, hf⟩
  | dead => simpa only [lz1, VR] using hf
  | gone => simpa only [lz1, VR] using hf
  | int k n => simp only [lz1, VR] at h ⊢; exact ⟨h.1, hf⟩
  | bool t => simp only [lz1, VR] at h ⊢; exact ⟨h.1, hf⟩
  | str s => simp only [lz1, VR] at h ⊢; exact ⟨h.1, hf⟩
  | nilf => simp only [lz1, VR] at h ⊢; exact ⟨h.1, hf⟩
  | nsl t => simp only [lz1, VR] at h ⊢; exact ⟨h.1, hf⟩
  | rsl n cs => simp only [lz1, VR] at h ⊢; exact ⟨h.1, hf⟩
  | rp cs => simp only [lz1, VR] at h ⊢; exact ⟨h.1, hf⟩
  | ps r p o => simp only [lz1, VR] at h ⊢; exact ⟨h.1, hf⟩
  | pp r p o => simp only [lz1, VR] at h ⊢; exact ⟨h.1, hf⟩
  | pf r p o => simp only [lz1, VR] at h ⊢; exact ⟨h.1, hf⟩
  | agg cs => simpa only [lz1, VR] using hf
  | tup sh cs => simpa only [lz1, VR] using hf

theorem lzc_rel {r : Nat} {p : List Nat} {bo : Option Nat} {row : List Value} (hw : walk w none (rowOf ρ r) p = some (bo, row)) :
    ∀ (cs : List AV) (o : Nat) (vs : List Value) (g f : Cnt), CR P w Φ σ ρ cs vs g → (∀ i v, vs[i]? = some v → row[o + i]? = some v) → (∀ b, f b = 0) → CR P w Φ σ ρ (lzc r p o cs) vs f
  | [], o, vs, g, f, h, _, hf => by simp only [lzc, CR] at h ⊢; exact ⟨h.1, hf⟩
  | c :: cs, o, vs, g, f, h, hr, hf => by
    simp only [CR] at h
    obtain ⟨v, vs', f1, f2, rfl, h1, h2, _⟩ := h
    have k1 := lz1_rel (o := o) hw (by simpa using hr 0 v rfl) h1 (fun _ => 0) (fun _ => rfl)
    have k2 := lzc_rel hw cs (o + 1) vs' f2 (fun _ => 0) h2 (fun i u hi => by have := hr (i + 1) u (by simpa using hi); rwa [show o + 1 + i = o + (i + 1) by omega]) (fun _ => rfl)
    have := CR_cons k1 k2
    simp only [lzc]
    rw [Zf hf]; simpa using this

theorem lzv_rel {e : Env} {f : Cnt} {j : Nat} {v : AV} (h : CR P w Φ σ ρ e ρ f) (hj : e[j]? = some v) : ∃ cv, ρ[j]? = some cv ∧ ∀ g, (∀ b, g b = 0) → VR P w Φ σ ρ (lzv j v) cv g := by
  obtain ⟨cv, f1, f2, hcv, hvr, hf, _⟩ := CR_get j h hj
  refine ⟨cv, hcv, fun g hg => ?_⟩
  have hro : rowOf ρ j = cellsV cv := by simp [rowOf, hcv]
  have hw : walk w none (rowOf ρ j) [] = some (none, cellsV cv) := by rw [hro]; rfl
  have one : ∀ (h : VR P w Φ σ ρ v cv f1), cellsV cv = [cv] → VR P w Φ σ ρ (lz1 j [] 0 v) cv g := fun h e => lz1_rel hw (by rw [e]; rfl) h g hg
  cases v with
  | agg cs =>
    simp only [VR] at hvr; obtain ⟨arr, rfl, h1⟩ := hvr
    simp only [lzv, VR]
    exact ⟨arr, rfl, lzc_rel hw cs 0 _ _ _ h1 (fun i v hi => by simpa [cellsV] using hi) hg⟩
  | tup sh cs => simpa only [lzv, VR] using hg
  | dead => simpa only [lzv, lz1, VR] using hg
  | gone => simpa only [lzv, lz1, VR] using hg
  | int k n => exact one hvr (by simp only [VR] at hvr; rw [hvr.1]; rfl)
  | bool t => exact one hvr (by simp only [VR] at hvr; rw [hvr.1]; rfl)
  | str s => exact one hvr (by simp only [VR] at hvr; rw [hvr.1]; rfl)
  | nilf => exact one hvr (by simp only [VR] at hvr; rw [hvr.1]; rfl)
  | nsl t => exact one hvr (by simp only [VR] at hvr; obtain ⟨⟨a, c, rfl, _⟩, _⟩ := hvr; rfl)
  | fn g0 cs => exact one hvr (by simp only [VR] at hvr; obtain ⟨vs, rfl, _⟩ := hvr; rfl)
  | rsl n cs => exact one hvr (by simp only [VR] at hvr; obtain ⟨⟨a, c, rfl, _⟩, _⟩ := hvr; rfl)
  | rp cs => exact one hvr (by simp only [VR] at hvr; obtain ⟨⟨a, rfl, _⟩, _⟩ := hvr; rfl)
  | osl s t n cs => exact one hvr (by simp only [VR] at hvr; obtain ⟨_, _, xs, f1, ho, _⟩ := hvr; obtain ⟨a, c, rfl, _⟩ := ownsRow_slice ho; rfl)
  | bx s t cs => exact one hvr (by simp only [VR] at hvr; obtain ⟨_, _, b0, arr, f1, rfl, _⟩ := hvr; rfl)
  | ps r p o => exact one hvr (by simp only [VR] at hvr; obtain ⟨⟨bo, row, a, n, c, _, _, rfl⟩, _⟩ := hvr; rfl)
  | pp r p o => exact one hvr (by simp only [VR] at hvr; obtain ⟨⟨b0, row, _, rfl⟩, _⟩ := hvr; rfl)
  | pf r p o => exact one hvr (by simp only [VR] at hvr; obtain ⟨⟨bo, row, g, fs, cs, _, _, rfl⟩, _⟩ := hvr; rfl)

theorem hr_osl {s t n : Nat} {cs : List AV} {cv : Value} {f : Cnt} (h : VR P w Φ σ ρ (.osl s t n cs) cv f) : hr (.osl s t n cs) = false := by
  simp only [VR] at h; simpa only [hr] using h.2.1
theorem hr_bx {s t : Nat} {cs : List AV} {cv : Value} {f : Cnt} (h : VR P w Φ σ ρ (.bx s t cs) cv f) : hr (.bx s t cs) = false := by
  simp only [VR] at h; simpa only [hr] using h.2.1

theorem takeC_rel {e : Env} {f : Cnt} {c c' : AV} {e' : Env} {cv : Value} {g : Cnt} (h : CR P w Φ σ ρ e ρ f) (hsep : ∀ b, f b ≤ 1) (hc : VR P w Φ σ ρ c cv g) (ht : takeC e c = some (c', e')) :
    ∃ f1 f2 : Cnt, VR P w Φ σ ρ c' cv f1 ∧ CR P w Φ σ ρ e' ρ f2 ∧ (∀ b, f b + g b = f1 b + f2 b) ∧ e'.length = e.length := by
  have same : takeC e c = some (c, e) → ∃ f1 f2 : Cnt, VR P w Φ σ ρ c' cv f1 ∧ CR P w Φ σ ρ e' ρ f2 ∧ (∀ b, f b + g b = f1 b + f2 b) ∧ e'.length = e.length := by
    intro h1
    rw [h1] at ht
    simp only [Option.some.injEq, Prod.mk.injEq] at ht
    obtain ⟨rfl, rfl⟩ := ht
    exact ⟨g, f, hc, h, fun b => Nat.add_comm _ _, rfl⟩
  have slen : ∀ r p row, (setRowE e r p row).length = e.length := by
    intro r p row; unfold setRowE; split <;> simp
  cases c with
  | ps r p o =>
    simp only [takeC] at ht
    cases hrow : rowE e r p with
    | none => simp [hrow] at ht
    | some row =>
      cases ho : row[o]? with
      | none => simp [hrow, ho] at ht
      | some u =>
        cases u with
        | osl s t n cs =>
          simp [hrow, ho] at ht
          obtain ⟨rfl, rfl⟩ := ht
          simp only [VR] at hc
          obtain ⟨⟨bo, row0, a, n0, c0, hw, hv, rfl⟩, hg⟩ := hc
          obtain ⟨bo', cvs, f1, f2, hw', hcr, hf, hup, hblk⟩ := env_focus h hsep hrow
          rw [hw] at hw'
          obtain ⟨rfl, rfl⟩ : bo = bo' ∧ row0 = cvs := by simpa using hw'
          obtain ⟨cv, g1, g2, hcv, hvr, hff, hset⟩ := CR_get o hcr ho
          obtain ⟨hcv0, holt⟩ := get_take_lt hcv
          obtain rfl : cv = Value.slice a n0 c0 := by rw [hv] at hcv0; exact (Option.some.inj hcv0).symm
          have k := hset .gone (Value.slice a n0 c0) (fun _ => 0) (by unfold VR; exact fun _ => rfl)
          rw [set_same (α := Value) hcv] at k
          have k2 := hup (row.set o .gone) _ (by simp) (fun hp => by
            obtain ⟨b, t, arr, _, _, _, _, hh⟩ := hblk hp
            exact hrs_set hh o (by simp [hr])) k
          refine ⟨g1, _, hvr, k2, fun b => ?_, slen _ _ _⟩
          show f b + g b = g1 b + (0 + g2 b + f2 b)
          rw [hg b, hf b, hff b]; omega
        | _ => simp [hrow, ho] at ht
  | pp r p o =>
    simp only [takeC] at ht
    split at ht
    · rename_i ho
      cases hk : p.getLast? with
      | none => simp [hk] at ht
      | some k =>
        obtain ⟨q, rfl⟩ := List.getLast?_eq_some_iff.1 hk
        simp only [List.dropLast_concat] at ht
        cases hrow : rowE e r q with
        | none => simp [hk, hrow] at ht
        | some row =>
          cases hk1 : row[k]? with
          | none => simp [hk, hrow, hk1] at ht
          | some u =>
            cases u with
            | bx s t cs =>
              simp [hk, hrow, hk1] at ht
              obtain ⟨rfl, rfl⟩ := ht
              simp only [VR] at hc
              obtain ⟨⟨b0, row0, hw, rfl⟩, hg⟩ := hc
              obtain ⟨bo1, row1, v, b, hw1, hv1, hb1, hbr, e1⟩ := walk_snoc_inv _ _ _ _ _ _ hw
              obtain ⟨bo', cvs, f1, f2, hw', hcr, hf, hup, hblk2⟩ := env_focus h hsep hrow
              rw [hw1] at hw'
              obtain ⟨rfl, rfl⟩ : bo1 = bo' ∧ row1 = cvs := by simpa using hw'
              obtain ⟨cv, g1, g2, hcv, hvr, hff, hset⟩ := CR_get k hcr hk1
              obtain ⟨hcv0, holt⟩ := get_take_lt hcv
              obtain rfl : v = cv := by rw [hv1] at hcv0; exact Option.some.inj hcv0
              have hvp : v = Value.pointer (some ⟨b0, 0, none⟩) := by
                have h0 := hvr
                simp only [VR] at h0
                obtain ⟨_, _, b2, arr, f1', rfl, _⟩ := h0
                simp [hblk] at hb1
                simp at e1
                rw [hb1, e1]
              subst ho
              have k3 := hset .gone v (fun _ => 0) (by unfold VR; exact fun _ => rfl)
              rw [set_same (α := Value) hcv] at k3
              have k2 := hup (row.set k .gone) _ (by simp) (fun hp => by
                obtain ⟨b, t, arr, _, _, _, _, hh⟩ := hblk2 hp
                exact hrs_set hh k (by simp [hr])) k3
              refine ⟨g1, _, by rw [← hvp]; exact hvr, k2, fun b => ?_, slen _ _ _⟩
              show f b + g b = g1 b + (0 + g2 b + f2 b)
              rw [hg b, hf b, hff b]; omega
            | _ => simp [hk, hrow, hk1] at ht
    · cases ht
  | pf r p o => simp [takeC] at ht
  | int k n => exact same rfl
  | bool b => exact same rfl
  | str s => exact same rfl
  | nilf => exact same rfl
  | nsl t => exact same rfl
  | rsl n cs => exact same rfl
  | rp cs => exact same rfl
  | fn g0 cs => cases cs with
    | nil => exact same rfl
    | cons c cs => simp [takeC] at ht
  | osl s t n cs =>
    cases n with
    | succ n => simp [takeC] at ht
    | zero => cases cs with
      | nil => exact same rfl
      | cons c cs => simp [takeC] at ht
  | dead => simp [takeC] at ht
  | gone => simp [takeC] at ht
  | bx s t cs => simp [takeC] at ht
  | agg cs => simp [takeC] at ht
  | tup sh cs => simp [takeC] at ht

theorem takeCs_rel : ∀ {cs cs' : List AV} {e e' : Env} {f : Cnt} {vs : List Value} {g : Cnt}, CR P w Φ σ ρ e ρ f → (∀ b, f b ≤ 1) → CR P w Φ σ ρ cs vs g → (∀ b, g b = 0) → takeCs e cs = some (cs', e') →
    ∃ f1 f2 : Cnt, CR P w Φ σ ρ cs' vs f1 ∧ CR P w Φ σ ρ e' ρ f2 ∧ (∀ b, f b = f1 b + f2 b) ∧ e'.length = e.length
  | [], cs', e, e', f, vs, g, h, hsep, hc, hg, ht => by
    simp [takeCs] at ht
    obtain ⟨rfl, rfl⟩ := ht
    simp only [CR] at hc
    exact ⟨fun _ => 0, f, by unfold CR; exact ⟨hc.1, fun _ => rfl⟩, h, fun b => by simp, rfl⟩
  | c :: cs, cs', e, e', f, vs, g, h, hsep, hc, hg, ht => by
    simp only [CR] at hc
    obtain ⟨v, vs', g1, g2, rfl, h1, h2, hgg⟩ := hc
    simp only [takeCs] at ht
    cases ht1 : takeC e c with
    | none => simp [ht1] at ht
    | some x =>
      obtain ⟨c1, e1⟩ := x
      cases ht2 : takeCs e1 cs with
      | none => simp [ht1, ht2] at ht
      | some y =>
        obtain ⟨cs1, e2⟩ := y
        simp [ht1, ht2] at ht
        obtain ⟨rfl, rfl⟩ := ht
        obtain ⟨k1, k2, hv, he, hf, hl⟩ := takeC_rel h hsep h1 ht1
        have z1 : ∀ b, g1 b = 0 := fun b => by have := hg b; have := hgg b; omega
        have z2 : ∀ b, g2 b = 0 := fun b => by have := hg b; have := hgg b; omega
        obtain ⟨m1, m2, hcs, he2, hf2, hl2⟩ := takeCs_rel he (fun b => by have := hsep b; have := hf b; have := z1 b; omega) h2 z2 ht2
        refine ⟨_, m2, CR_cons hv hcs, he2, fun b => ?_, hl2.trans hl⟩
        show f b = k1 b + m1 b + m2 b
        have := hf b; have := hf2 b; have := z1 b; omega

theorem takeC_hr {e e' : Env} {c c' : AV} {cv : Value} {f : Cnt} (ht : takeC e c = some (c', e')) (hv : VR P w Φ σ ρ c' cv f) : hr c' = false := by
  have hz : ∀ {s t n cs}, c' = .osl s t n cs → hr c' = false := fun h => by subst h; exact hr_osl hv
  cases c with
  | ps r p o =>
    simp only [takeC] at ht
    split at ht
    · split at ht
      · simp at ht; exact hz ht.1.symm
      · cases ht
    · cases ht
  | pp r p o =>
    simp only [takeC] at ht
    split at ht
    · split at ht
      · split at ht
        · split at ht
          · simp at ht; obtain ⟨rfl, _⟩ := ht; exact hr_bx hv
          · cases ht
        · cases ht
      · cases ht
    · cases ht
  | osl s t n cs =>
    cases n with
    | succ n => simp [takeC] at ht
    | zero => cases cs with
      | nil => simp [takeC] at ht; obtain ⟨rfl, _⟩ := ht; exact hr_osl hv
      | cons c cs => simp [takeC] at ht
  | fn g0 cs => cases cs with
    | nil => simp [takeC] at ht; obtain ⟨rfl, _⟩ := ht; rfl
    | cons c cs => simp [takeC] at ht
  | _ => simp [takeC] at ht <;> (obtain ⟨rfl, _⟩ := ht; rfl)

theorem takeCs_hr : ∀ {cs cs' : List AV} {e e' : Env} {vs : List Value} {f : Cnt}, takeCs e cs = some (cs', e') → CR P w Φ σ ρ cs' vs f → hrs cs' = false
  | [], cs', e, e', vs, f, ht, hv => by simp [takeCs] at ht; obtain ⟨rfl, _⟩ := ht; rfl
  | c :: cs, cs', e, e', vs, f, ht, hv => by
    simp only [takeCs] at ht
    cases ht1 : takeC e c with
    | none => simp [ht1] at ht
    | some x =>
      obtain ⟨c1, e1⟩ := x
      cases ht2 : takeCs e1 cs with
      | none => simp [ht1, ht2] at ht
      | some y =>
        obtain ⟨cs1, e2⟩ := y
        simp [ht1, ht2] at ht
        obtain ⟨rfl, rfl⟩ := ht
        simp only [CR] at hv
        obtain ⟨v, vs', f1, f2, rfl, h1, h2, _⟩ := hv
        simp only [hrs, Bool.or_eq_false_iff]
        exact ⟨takeC_hr ht1 h1, takeCs_hr ht2 h2⟩
end
end Go.AM
