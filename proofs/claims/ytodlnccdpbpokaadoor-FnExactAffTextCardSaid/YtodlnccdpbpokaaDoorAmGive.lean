/- Given away for a call's time, and given back. -/
import Derived.Test.YtodlnccdpbpokaaDoorAmSnap
set_option linter.unusedSimpArgs false
set_option linter.unusedVariables false
set_option linter.unusedSectionVars false
namespace Go.AM
open Go

section
variable {P : Program} {w : World} {Φ : Nat → Prop} {σ : Nat → Value} {ρ : List Value}

/-- What has no stamp does not look at the stamps. -/
theorem sig (σ' : Nat → Value) : ∀ (v : AV) (cv : Value) (f : Cnt), (noSt v = true ∨ isFz v = true) → VR P w Φ σ ρ v cv f → VR P w Φ σ' ρ v cv f := by
  intro v
  induction v using AV.rec (motive_2 := fun cs => (∀ (vs : List Value) (f : Cnt), noSts cs = true → CR P w Φ σ ρ cs vs f → CR P w Φ σ' ρ cs vs f) ∧
      (∀ a j, FC P w Φ σ ρ cs a j → FC P w Φ σ' ρ cs a j)) with
  | dead => intro cv f _ h; simpa only [VR] using h
  | gone => intro cv f _ h; simpa only [VR] using h
  | int k n => intro cv f _ h; simpa only [VR] using h
  | bool t => intro cv f _ h; simpa only [VR] using h
  | str s => intro cv f _ h; simpa only [VR] using h
  | nilf => intro cv f _ h; simpa only [VR] using h
  | nsl t => intro cv f _ h; simpa only [VR] using h
  | ps r p o => intro cv f _ h; simpa only [VR] using h
  | pp r p o => intro cv f _ h; simpa only [VR] using h
  | pf r p o => intro cv f _ h; simpa only [VR] using h
  | fn g cs ih =>
    intro cv f hn h
    simp only [VR] at h ⊢
    obtain ⟨vs, e, hq, h⟩ := h
    refine ⟨vs, e, hq, ?_⟩
    rcases hn with hn | hn
    · exact ih.1 _ _ (by simpa [noSt] using hn) h
    · cases cs with
      | nil => simpa only [CR] using h
      | cons c cs => simp [isFz] at hn
  | rsl n cs ih =>
    intro cv f hn h
    simp only [VR] at h ⊢
    obtain ⟨⟨a, c, e, h1, h0, h⟩, hz⟩ := h
    exact ⟨⟨a, c, e, h1, h0, ih.2 _ _ h⟩, hz⟩
  | rp cs ih =>
    intro cv f hn h
    simp only [VR] at h ⊢
    obtain ⟨⟨a, e, h⟩, hz⟩ := h
    exact ⟨⟨a, e, ih.2 _ _ h⟩, hz⟩
  | osl s t n cs ih =>
    intro cv f hn h
    rcases hn with hn | hn
    · simp only [noSt, Bool.and_eq_true, beq_iff_eq] at hn
      simp only [VR] at h ⊢
      obtain ⟨_, hx, xs, f1, ho, h, hb⟩ := h
      exact ⟨fun h0 => absurd hn.1 h0, hx, xs, f1, ho, ih.1 _ _ hn.2 h, hb⟩
    · simp [isFz] at hn
  | bx s t cs ih =>
    intro cv f hn h
    rcases hn with hn | hn
    · simp only [noSt, Bool.and_eq_true, beq_iff_eq] at hn
      simp only [VR] at h ⊢
      obtain ⟨_, hx, b0, arr, f1, e, hg, h, hb⟩ := h
      exact ⟨fun h0 => absurd hn.1 h0, hx, b0, arr, f1, e, hg, ih.1 _ _ hn.2 h, hb⟩
    · simp [isFz] at hn
  | agg cs ih =>
    intro cv f hn h
    rcases hn with hn | hn
    · simp only [VR] at h ⊢
      obtain ⟨arr, e, h⟩ := h
      exact ⟨arr, e, ih.1 _ _ (by simpa [noSt] using hn) h⟩
    · simp [isFz] at hn
  | tup sh cs ih =>
    intro cv f hn h
    rcases hn with hn | hn
    · simp only [VR] at h ⊢
      obtain ⟨arr, e, hs, h⟩ := h
      exact ⟨arr, e, hs, ih.1 _ _ (by simpa [noSt] using hn) h⟩
    · simp [isFz] at hn
  | nil => exact ⟨fun vs f _ h => by simpa only [CR] using h, fun a j _ => by simp only [FC]⟩
  | cons c cs ihc ihs =>
    refine ⟨fun vs f hn h => ?_, fun a j h => ?_⟩
    · simp only [noSts, Bool.and_eq_true] at hn
      simp only [CR] at h ⊢
      obtain ⟨v, vs', f1, f2, e, h1, h2, hb⟩ := h
      exact ⟨v, vs', f1, f2, e, ihc _ _ (.inl hn.1) h1, ihs.1 _ _ hn.2 h2, hb⟩
    · simp only [FC] at h ⊢
      obtain ⟨⟨ad, u, e, hp, hc, hz, hv⟩, h⟩ := h
      exact ⟨⟨ad, u, e, hp, hc, hz, fun f hf => ihc _ _ (.inr hz) (hv f hf)⟩, ihs.2 _ _ h⟩
theorem sigs (σ' : Nat → Value) : ∀ {cs : List AV} {vs : List Value} {f : Cnt}, noSts cs = true → CR P w Φ σ ρ cs vs f → CR P w Φ σ' ρ cs vs f
  | [], vs, f, _, h => by simpa only [CR] using h
  | c :: cs, vs, f, hn, h => by
    simp only [noSts, Bool.and_eq_true] at hn
    simp only [CR] at h ⊢
    obtain ⟨v, vs', f1, f2, e, h1, h2, hb⟩ := h
    exact ⟨v, vs', f1, f2, e, sig σ' _ _ _ (.inl hn.1) h1, sigs σ' hn.2 h2, hb⟩

/-- The new stamps. -/
def Stm (σ' : Nat → Value) (s : Nat) (ks : List Value) : Prop := ∀ i v, ks[i]? = some v → σ' (s + i) = v
theorem Stm.left {σ' : Nat → Value} {s : Nat} {a b : List Value} (h : Stm σ' s (a ++ b)) : Stm σ' s a := fun i v hi => h i v (by rw [List.getElem?_append_left (List.getElem?_eq_some_iff.1 hi).1]; exact hi)
theorem Stm.right {σ' : Nat → Value} {s : Nat} {a b : List Value} (h : Stm σ' s (a ++ b)) : Stm σ' (s + a.length) b := fun i v hi => by
  have := h (a.length + i) v (by rw [List.getElem?_append_right (by omega)]; simpa using hi)
  rwa [← Nat.add_assoc] at this

/-- The places, with what stands there. -/
def BkR (w : World) (ρ : List Value) (σ : Nat → Value) : List Bk → List Value → Prop
  | [], vs => vs = []
  | .pl r p o s :: bs, vs => ∃ v vs', vs = v :: vs' ∧ (∃ bo row, walk w none (rowOf ρ r) p = some (bo, row) ∧ row[o]? = some v) ∧ (s ≠ 0 → σ s = v) ∧ BkR w ρ σ bs vs'
  | .cl r g ss :: bs, vs => ∃ us vs', vs = us ++ vs' ∧ us.length = ss.length ∧ ρ[r]? = some (.func (.func g) #[] us.toArray) ∧ (∀ (i s : Nat) (u : Value), ss[i]? = some s → us[i]? = some u → s ≠ 0 → σ s = u) ∧ BkR w ρ σ bs vs'
  | .sl r s :: bs, vs => ∃ v vs', vs = v :: vs' ∧ ρ[r]? = some v ∧ (s ≠ 0 → σ s = v) ∧ BkR w ρ σ bs vs'
theorem BkR_length : ∀ {bs : List Bk} {vs : List Value}, BkR w ρ σ bs vs → vs.length = nB bs
  | [], vs, h => by simp only [BkR] at h; simp [h, nB]
  | .pl r p o s :: bs, vs, h => by
    simp only [BkR] at h
    obtain ⟨v, vs', rfl, _, _, h⟩ := h
    simp [nB, BkR_length h]
  | .cl r g ss :: bs, vs, h => by
    simp only [BkR] at h
    obtain ⟨us, vs', rfl, h1, _, _, h⟩ := h
    simp [nB, BkR_length h, h1]; omega
  | .sl r s :: bs, vs, h => by
    simp only [BkR] at h
    obtain ⟨v, vs', rfl, _, _, h⟩ := h
    simp [nB, BkR_length h]
theorem BkR_append : ∀ {as bs : List Bk} {us vs : List Value}, BkR w ρ σ as us → BkR w ρ σ bs vs → BkR w ρ σ (as ++ bs) (us ++ vs)
  | [], bs, us, vs, h, h' => by simp only [BkR] at h; subst h; simpa using h'
  | .pl r p o s :: as, bs, us, vs, h, h' => by
    simp only [BkR] at h
    obtain ⟨v, vs', rfl, h1, h2, h⟩ := h
    simp only [List.cons_append, BkR]
    exact ⟨v, _, rfl, h1, h2, BkR_append h h'⟩
  | .cl r g ss :: as, bs, us, vs, h, h' => by
    simp only [BkR] at h
    obtain ⟨u1, vs', rfl, h1, h2, h3, h⟩ := h
    simp only [List.cons_append, BkR]
    exact ⟨u1, _, by simp, h1, h2, h3, BkR_append h h'⟩
  | .sl r s :: as, bs, us, vs, h, h' => by
    simp only [BkR] at h
    obtain ⟨v, vs', rfl, h1, h2, h⟩ := h
    simp only [List.cons_append, BkR]
    exact ⟨v, _, rfl, h1, h2, BkR_append h h'⟩
theorem bkOf_rel {e : Env} {f : Cnt} {r o s0 : Nat} {p : List Nat} {bo : Option Nat} {row : List Value} {v : Value} (h : CR P w Φ σ ρ e ρ f) (hw : walk w none (rowOf ρ r) p = some (bo, row)) (hv : row[o]? = some v) (hs : s0 ≠ 0 → σ s0 = v) : BkR w ρ σ [bkOf e r p o s0] [v] := by
  unfold bkOf
  by_cases hc : p = [] ∧ o = 0 ∧ ownS e r = true
  · rw [if_pos hc]
    obtain ⟨rfl, rfl, hm⟩ := hc
    refine ⟨v, [], rfl, ?_, hs, rfl⟩
    simp only [walk, Option.some.injEq, Prod.mk.injEq] at hw
    obtain ⟨_, rfl⟩ := hw
    unfold ownS at hm
    split at hm
    · rename_i s t n cs he
      obtain ⟨cv, f1, f2, hcv, hvr, _, _⟩ := CR_get r h he
      simp only [VR] at hvr
      obtain ⟨_, _, xs, g1, ho, _, _⟩ := hvr
      obtain ⟨ao, c, e1, _⟩ := ownsRow_slice ho
      subst e1
      simp [rowOf, hcv, cellsV] at hv
      rw [hcv, hv]
    · rename_i s t cs he
      obtain ⟨cv, f1, f2, hcv, hvr, _, _⟩ := CR_get r h he
      simp only [VR] at hvr
      obtain ⟨_, _, b0, arr, g1, e1, _⟩ := hvr
      subst e1
      simp [rowOf, hcv, cellsV] at hv
      rw [hcv, hv]
    · cases hm
  · rw [if_neg hc]
    exact ⟨v, [], rfl, ⟨bo, row, hw, hv⟩, hs, rfl⟩
theorem nB_append {a b : List Bk} : nB (a ++ b) = nB a + nB b := by
  induction a with
  | nil => simp [nB]
  | cons x a ih => cases x <;> simp [nB, ih] <;> omega

abbrev GiveR (P : Program) (w : World) (Φ : Nat → Prop) (σ : Nat → Value) (ρ : List Value) (e : Env) (f : Cnt) (s : Nat) (c' : List AV) (cvs : List Value) (e' : Env) (b : List Bk) : Prop :=
  ∃ f1 f2 ks, BkR w ρ σ b ks ∧ (∀ σ', Stm σ' s ks → CR P w Φ σ' [] c' cvs f1) ∧ hrs c' = false ∧ CR P w Φ σ ρ e' ρ f2 ∧ (∀ x, f x = f1 x + f2 x) ∧ e'.length = e.length

theorem slen {e : Env} {r : Nat} {p : List Nat} {row : List AV} : (setRowE e r p row).length = e.length := by unfold setRowE; split <;> simp

theorem giveC_rel {e : Env} {f : Cnt} {s : Nat} {c c' : AV} {e' : Env} {b : List Bk} {cv : Value} (h : CR P w Φ σ ρ e ρ f) (hsep : ∀ b, f b ≤ 1) (hc : VR P w Φ σ ρ c cv (fun _ => 0)) (ht : giveC e s c = some (c', e', b)) :
    GiveR P w Φ σ ρ e f s [c'] [cv] e' b := by
  have fz : ∀ {c : AV}, isFz c = true → VR P w Φ σ ρ c cv (fun _ => 0) → giveC e s c = some (c', e', b) → giveC e s c = some (c, e, []) → GiveR P w Φ σ ρ e f s [c'] [cv] e' b := by
    intro c hz hc h1 h2
    rw [h2] at h1
    simp only [Option.some.injEq, Prod.mk.injEq] at h1
    obtain ⟨rfl, rfl, rfl⟩ := h1
    refine ⟨fun _ => 0, f, [], rfl, fun σ' _ => CR_one ?_, by simp [hrs, isFz_hr hz], h, fun x => by simp, rfl⟩
    exact stab w Φ [] (fun _ _ => rfl) (fun _ h => h) _ _ _ (isFz_hr hz) (fun _ _ => rfl) (sig σ' _ _ _ (.inr hz) hc)
  have dflt : ∀ {c : AV}, giveC e s c = (if isFz c = true then some (c, e, []) else none) → VR P w Φ σ ρ c cv (fun _ => 0) → giveC e s c = some (c', e', b) → GiveR P w Φ σ ρ e f s [c'] [cv] e' b := by
    intro c h1 hc h2
    by_cases hz : isFz c = true
    · exact fz hz hc h2 (by rw [h1, if_pos hz])
    · rw [h1, if_neg hz] at h2; cases h2
  cases c with
  | ps r p o =>
    simp only [giveC] at ht
    split at ht
    · rename_i row hrow
      split at ht
      · rename_i s0 t n cs hro
        split at ht
        · rename_i hns
          simp only [Option.some.injEq, Prod.mk.injEq] at ht
          obtain ⟨rfl, rfl, rfl⟩ := ht
          have htk : takeC e (.ps r p o) = some (.osl s0 t n cs, setRowE e r p (row.set o .gone)) := by simp only [takeC, hrow, hro]
          obtain ⟨f1, f2, k1, k2, k3, k4⟩ := takeC_rel h hsep hc htk
          simp only [VR] at hc
          obtain ⟨⟨bo, row0, a0, n0, c0, hw, hv, rfl⟩, _⟩ := hc
          have k1' := k1
          simp only [VR] at k1
          obtain ⟨hst, hx, xs, g1, ho, hcr, hb⟩ := k1
          refine ⟨f1, f2, [.slice a0 n0 c0], bkOf_rel h hw hv hst, fun σ' hs => CR_one ?_, by simp [hrs, hr, hx], k2, fun x => by have := k3 x; omega, k4⟩
          simp only [VR]
          refine ⟨fun _ => by have := hs 0 _ rfl; simpa using this, hx, xs, g1, ho, ?_, hb⟩
          exact CR_stab w Φ [] (fun _ _ => rfl) (fun _ h => h) _ _ _ hx (fun _ _ => rfl) (sigs σ' hns hcr)
        · cases ht
      · cases ht
    · cases ht
  | pp r p o =>
    simp only [giveC] at ht
    split at ht
    · rename_i ho; subst ho
      split at ht
      · rename_i k hk
        split at ht
        · rename_i row hrow
          split at ht
          · rename_i s0 t cs hro
            split at ht
            · rename_i hns
              simp only [Option.some.injEq, Prod.mk.injEq] at ht
              obtain ⟨rfl, rfl, rfl⟩ := ht
              have htk : takeC e (.pp r p 0) = some (.bx s0 t cs, setRowE e r p.dropLast (row.set k .gone)) := by simp only [takeC, if_true, hk, hrow, hro]
              obtain ⟨f1, f2, k1, k2, k3, k4⟩ := takeC_rel h hsep hc htk
              obtain ⟨q, rfl⟩ := List.getLast?_eq_some_iff.1 hk
              simp only [List.dropLast_concat] at hrow ⊢ k2 k4
              simp only [VR] at hc
              obtain ⟨⟨b0, row0, hw, rfl⟩, _⟩ := hc
              obtain ⟨bo1, row1, v, b, hw1, hv1, hb1, hbr, e1⟩ := walk_snoc_inv _ _ _ _ _ _ hw
              obtain ⟨bo', cvs, q1, q2, hw', hcr, hf, _, _⟩ := env_focus h hsep hrow
              rw [hw1] at hw'
              obtain ⟨rfl, rfl⟩ : bo1 = bo' ∧ row1 = cvs := by simpa using hw'
              obtain ⟨u, g1, g2, hcv, hvr, hff, hset⟩ := CR_get k hcr hro
              obtain ⟨hcv0, holt⟩ := get_take_lt hcv
              rw [hv1] at hcv0
              obtain rfl := Option.some.inj hcv0
              simp only [VR] at hvr
              obtain ⟨_, _, b2, _, _, rfl, _⟩ := hvr
              simp only [hblk, Option.some.injEq] at hb1 e1
              subst hb1; subst e1
              simp only [VR] at k1
              obtain ⟨hst, hx, b2, arr, g3, e2, hg, hcr2, hb⟩ := k1
              refine ⟨f1, f2, [_], bkOf_rel h hw1 hv1 hst, fun σ' hs => CR_one ?_, by simp [hrs, hr, hx], k2, fun x => by have := k3 x; omega, k4⟩
              simp only [VR]
              refine ⟨fun _ => by have := hs 0 _ rfl; simpa using this, hx, b2, arr, g3, e2, hg, ?_, hb⟩
              exact CR_stab w Φ [] (fun _ _ => rfl) (fun _ h => h) _ _ _ hx (fun _ _ => rfl) (sigs σ' hns hcr2)
            · cases ht
          · cases ht
        · cases ht
      · cases ht
    · cases ht
  | pf r p o => simp [giveC] at ht
  | dead => exact dflt (by simp only [giveC]) hc ht
  | gone => exact dflt (by simp only [giveC]) hc ht
  | int k n => exact dflt (by simp only [giveC]) hc ht
  | bool t => exact dflt (by simp only [giveC]) hc ht
  | str s => exact dflt (by simp only [giveC]) hc ht
  | fn g cs => exact dflt (by simp only [giveC]) hc ht
  | nilf => exact dflt (by simp only [giveC]) hc ht
  | nsl t => exact dflt (by simp only [giveC]) hc ht
  | rsl n cs => exact dflt (by simp only [giveC]) hc ht
  | rp cs => exact dflt (by simp only [giveC]) hc ht
  | osl s t n cs => exact dflt (by simp only [giveC]) hc ht
  | bx s t cs => exact dflt (by simp only [giveC]) hc ht
  | agg cs => exact dflt (by simp only [giveC]) hc ht
  | tup sh cs => exact dflt (by simp only [giveC]) hc ht

theorem giveCs_rel : ∀ {cs cs' : List AV} {e e' : Env} {f : Cnt} {s : Nat} {b : List Bk} {cvs : List Value}, CR P w Φ σ ρ e ρ f → (∀ b, f b ≤ 1) → CR P w Φ σ ρ cs cvs (fun _ => 0) → giveCs e s cs = some (cs', e', b) →
    GiveR P w Φ σ ρ e f s cs' cvs e' b
  | [], cs', e, e', f, s, b, cvs, h, hsep, hc, ht => by
    simp only [giveCs, Option.some.injEq, Prod.mk.injEq] at ht
    obtain ⟨rfl, rfl, rfl⟩ := ht
    simp only [CR] at hc
    obtain ⟨rfl, _⟩ := hc
    exact ⟨fun _ => 0, f, [], rfl, fun σ' _ => CR_nil, rfl, h, fun x => by simp, rfl⟩
  | c :: cs, cs', e, e', f, s, b, cvs, h, hsep, hc, ht => by
    simp only [giveCs] at ht
    split at ht
    · rename_i c' e1 b1 h1
      split at ht
      · rename_i cs1 e2 b2 h2
        simp only [Option.some.injEq, Prod.mk.injEq] at ht
        obtain ⟨rfl, rfl, rfl⟩ := ht
        simp only [CR] at hc
        obtain ⟨v, vs', g1, g2, rfl, hv, hcs, hff⟩ := hc
        have z1 : g1 = fun _ => 0 := funext fun b => by have : 0 = g1 b + g2 b := hff b; omega
        have z2 : g2 = fun _ => 0 := funext fun b => by have : 0 = g1 b + g2 b := hff b; omega
        subst z1; subst z2
        obtain ⟨f1, f2, ks, q1, q2, q3, q4, q5, q6⟩ := giveC_rel h hsep hv h1
        obtain ⟨m1, m2, ms, p1, p2, p3, p4, p5, p6⟩ := giveCs_rel q4 (fun b => by have := hsep b; have := q5 b; omega) hcs h2
        refine ⟨fun x => f1 x + m1 x, m2, ks ++ ms, BkR_append q1 p1, fun σ' hs => ?_, ?_, p4, fun x => by show f x = f1 x + m1 x + m2 x; have := q5 x; have := p5 x; omega, p6.trans q6⟩
        · have a1 := q2 σ' hs.left
          have a2 := p2 σ' (by have := hs.right; rwa [BkR_length q1] at this)
          exact CR_cons (CR_one_inv a1) a2
        · simp only [hrs, Bool.or_eq_false_iff, Bool.or_false] at q3 ⊢
          exact ⟨q3, p3⟩
      · cases ht
    · cases ht

theorem stampL_rel : ∀ {cs cs' : List AV} {s : Nat} {ss : List Nat} {vs : List Value} {f : Cnt}, stampL s cs = some (cs', ss) → CR P w Φ σ ρ cs vs f →
    (∀ σ', Stm σ' s vs → CR P w Φ σ' [] cs' vs f) ∧ hrs cs' = false ∧ vs.length = ss.length ∧ ∀ (i s : Nat) (u : Value), ss[i]? = some s → vs[i]? = some u → s ≠ 0 → σ s = u
  | [], cs', s, ss, vs, f, ht, hc => by
    simp only [stampL, Option.some.injEq, Prod.mk.injEq] at ht
    obtain ⟨rfl, rfl⟩ := ht
    simp only [CR] at hc
    obtain ⟨rfl, hf⟩ := hc
    exact ⟨fun σ' _ => by simp only [CR]; exact ⟨trivial, hf⟩, rfl, rfl, fun i s u h => by simp at h⟩
  | c :: cs, cs', s, ss, vs, f, ht, hc => by
    simp only [CR] at hc
    obtain ⟨v, vs', f1, f2, rfl, hv, hcs, hff⟩ := hc
    rw [show f = fun x => f1 x + f2 x from funext hff]
    have fin : ∀ {c2 : AV} {cs2 : List AV} {s0 : Nat} {ss2 : List Nat}, stampL (s + 1) cs = some (cs2, ss2) → (∀ σ', σ' s = v → VR P w Φ σ' [] c2 v f1) → hr c2 = false → (s0 ≠ 0 → σ s0 = v) →
        (∀ σ', Stm σ' s (v :: vs') → CR P w Φ σ' [] (c2 :: cs2) (v :: vs') (fun x => f1 x + f2 x)) ∧ hrs (c2 :: cs2) = false ∧ (v :: vs').length = (s0 :: ss2).length ∧ ∀ (i s : Nat) (u : Value), (s0 :: ss2)[i]? = some s → (v :: vs')[i]? = some u → s ≠ 0 → σ s = u := by
      intro c2 cs2 s0 ss2 h1 h2 h3 h4
      obtain ⟨a1, a2, a3, a4⟩ := stampL_rel h1 hcs
      refine ⟨fun σ' hs => CR_cons (h2 σ' (by have := hs 0 v rfl; simpa using this)) (a1 σ' fun i u hi => by
        have := hs (i + 1) u (by simpa using hi)
        rwa [show s + 1 + i = s + (i + 1) by omega]), by simp only [hrs, h3, a2]; rfl, by simp [a3], ?_⟩
      intro i s1 u hi hu
      cases i with
      | zero => simp at hi hu; subst hi; subst hu; exact h4
      | succ i => simp at hi hu; exact a4 i s1 u hi hu
    cases c with
    | osl s0 t n cs0 =>
      simp only [stampL] at ht
      split at ht
      · rename_i hns
        split at ht
        · rename_i r' ss2 h1
          simp only [Option.some.injEq, Prod.mk.injEq] at ht
          obtain ⟨rfl, rfl⟩ := ht
          simp only [VR] at hv
          obtain ⟨hst, hx, xs, g1, ho, hcr, hb⟩ := hv
          refine fin h1 (fun σ' hs => ?_) (by simp [hr, hx]) hst
          simp only [VR]
          exact ⟨fun _ => hs, hx, xs, g1, ho, CR_stab w Φ [] (fun _ _ => rfl) (fun _ h => h) _ _ _ hx (fun _ _ => rfl) (sigs σ' hns hcr), hb⟩
        · cases ht
      · cases ht
    | bx s0 t cs0 =>
      simp only [stampL] at ht
      split at ht
      · rename_i hns
        split at ht
        · rename_i r' ss2 h1
          simp only [Option.some.injEq, Prod.mk.injEq] at ht
          obtain ⟨rfl, rfl⟩ := ht
          simp only [VR] at hv
          obtain ⟨hst, hx, b2, arr, g3, e2, hg, hcr2, hb⟩ := hv
          refine fin h1 (fun σ' hs => ?_) (by simp [hr, hx]) hst
          simp only [VR]
          exact ⟨fun _ => hs, hx, b2, arr, g3, e2, hg, CR_stab w Φ [] (fun _ _ => rfl) (fun _ h => h) _ _ _ hx (fun _ _ => rfl) (sigs σ' hns hcr2), hb⟩
        · cases ht
      · cases ht
    | _ => simp [stampL] at ht

theorem giveF_rel {e : Env} {f : Cnt} {s r g : Nat} {cs' : List AV} {e' : Env} {b : List Bk} (h : CR P w Φ σ ρ e ρ f) (hsep : ∀ b, f b ≤ 1) (ht : giveF e s r = some (g, cs', e', b)) :
    ∃ vs : Array Value, ρ[r]? = some (.func (.func g) #[] vs) ∧ GiveR P w Φ σ ρ e f s cs' vs.toList e' b := by
  unfold giveF at ht
  split at ht
  · rename_i g0 caps hr0
    obtain ⟨cv, f1, f2, hcv, hvr, hf, hset⟩ := CR_get r h hr0
    simp only [VR] at hvr
    obtain ⟨vs, rfl, hq, hcr⟩ := hvr
    split at ht
    · rename_i hh
      split at ht
      · rename_i cs1 e1 b1 h1
        simp only [Option.some.injEq, Prod.mk.injEq] at ht
        obtain ⟨rfl, rfl, rfl, rfl⟩ := ht
        -- captured: references and frozen things only, else nothing could be given
        have hz : ∀ {cs cs2 : List AV} {e1 e2 : Env} {s : Nat} {b : List Bk} {vs : List Value} {f1 : Cnt}, giveCs e1 s cs = some (cs2, e2, b) → CR P w Φ σ ρ cs vs f1 → ∀ x, f1 x = 0 := by
          intro cs
          induction cs with
          | nil => intro cs2 e1 e2 s b vs f1 _ h2 x; simp only [CR] at h2; exact h2.2 x
          | cons c cs ih =>
            intro cs2 e1 e2 s b vs f1 h1 h2 x
            simp only [giveCs] at h1
            split at h1
            · rename_i c' e3 b3 h3
              split at h1
              · rename_i cs3 e4 b4 h4
                simp only [CR] at h2
                obtain ⟨v, vs', k1, k2, rfl, hv, hcs, hff⟩ := h2
                have := ih h4 hcs x
                have hc0 : k1 x = 0 := by
                  cases c <;> simp only [giveC, isFz] at h3 <;> simp only [VR] at hv <;> first
                    | exact hv x
                    | exact hv.2 x
                    | (rename_i g1 cs1; cases cs1 with
                       | nil => obtain ⟨_, _, _, hv⟩ := hv; simp only [CR] at hv; exact hv.2 x
                       | cons _ _ => simp at h3)
                    | simp at h3
                have := hff x; omega
              · cases h1
            · cases h1
        have hz1 := hz h1 hcr
        exact ⟨vs, hcv, giveCs_rel h hsep (by rw [← Zf hz1]; exact hcr) h1⟩
      · cases ht
    · split at ht
      · rename_i hh cs1 ss h1
        simp only [Option.some.injEq, Prod.mk.injEq] at ht
        obtain ⟨rfl, rfl, rfl, rfl⟩ := ht
        obtain ⟨a1, a2, a3, a4⟩ := stampL_rel h1 hcr
        have k := hset .gone (.func (.func g0) #[] vs) (fun _ => 0) (by unfold VR; exact fun _ => rfl)
        rw [set_same hcv] at k
        refine ⟨vs, hcv, f1, f2, vs.toList, ⟨vs.toList, [], by simp, a3, by simpa using hcv, a4, rfl⟩, a1, a2, ?_, hf, by simp⟩
        have e1 : (fun b => 0 + f2 b) = f2 := funext fun b => by simp
        rwa [e1] at k
      · cases ht
  · cases ht

theorem giveV_rel {e : Env} {f : Cnt} {s : Nat} {v v' : AV} {e' : Env} {b : List Bk} {cv : Value} (h : CR P w Φ σ ρ e ρ f) (hsep : ∀ b, f b ≤ 1) (hc : VR P w Φ σ ρ v cv (fun _ => 0)) (ht : giveV e s v = some (v', e', b)) :
    GiveR P w Φ σ ρ e f s [v'] [cv] e' b := by
  cases v with
  | agg cs =>
    simp only [giveV] at ht
    split at ht
    · rename_i cs' e1 b1 h1
      simp only [Option.some.injEq, Prod.mk.injEq] at ht
      obtain ⟨rfl, rfl, rfl⟩ := ht
      simp only [VR] at hc
      obtain ⟨arr, rfl, hcr⟩ := hc
      obtain ⟨f1, f2, ks, q1, q2, q3, q4, q5, q6⟩ := giveCs_rel h hsep hcr h1
      refine ⟨f1, f2, ks, q1, fun σ' hs => CR_one ?_, by simp [hrs, hr, q3], q4, q5, q6⟩
      simp only [VR]
      exact ⟨arr, rfl, q2 σ' hs⟩
    · cases ht
  | pf r p o =>
    simp only [giveV] at ht
    split at ht
    · rename_i hpo
      obtain ⟨rfl, rfl⟩ := hpo
      split at ht
      · rename_i g cs' e1 b1 h1
        simp only [Option.some.injEq, Prod.mk.injEq] at ht
        obtain ⟨rfl, rfl, rfl⟩ := ht
        obtain ⟨vs, hcv, f1, f2, ks, q1, q2, q3, q4, q5, q6⟩ := giveF_rel h hsep h1
        simp only [VR] at hc
        obtain ⟨⟨bo, row, g0, fs, cs, hw, hv, rfl⟩, _⟩ := hc
        have e1 : cellsV (.func (.func g) #[] vs) = [.func (.func g) #[] vs] := rfl
        have e2 : rowOf ρ r = [.func (.func g) #[] vs] := by simp [rowOf, hcv, cellsV]
        rw [e2] at hw
        simp only [walk, Option.some.injEq, Prod.mk.injEq] at hw
        obtain ⟨rfl, rfl⟩ := hw
        simp at hv
        obtain ⟨rfl, rfl, rfl⟩ := hv
        refine ⟨f1, f2, ks, q1, fun σ' hs => CR_one ?_, by simp [hrs, hr, q3], q4, q5, q6⟩
        simp only [VR]
        exact ⟨_, rfl, fun c hc => .inr (hrs_mem q3 c hc), q2 σ' hs⟩
      · cases ht
    · cases ht
  | _ => exact giveC_rel h hsep hc (by simpa only [giveV] using ht)
end
end Go.AM
