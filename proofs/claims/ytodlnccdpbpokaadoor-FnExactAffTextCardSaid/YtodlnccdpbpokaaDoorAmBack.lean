/- Given back. -/
import Derived.Test.YtodlnccdpbpokaaDoorAmGive
set_option linter.unusedSimpArgs false
set_option linter.unusedVariables false
set_option linter.unusedSectionVars false
namespace Go.AM
open Go

section
variable {P : Program} {w w' : World} {Φ Φ' : Nat → Prop} {σ : Nat → Value} {ρ : List Value}

theorem walk_stab : ∀ (p : List Nat) {cs : List AV} {vs : List Value} {f : Cnt} {row : List AV} (bo : Option Nat), CR P w Φ σ ρ cs (vs.take cs.length) f → rowAt cs p = some row → (∀ b, 1 ≤ f b → w'.heap[b]? = w.heap[b]?) →
    walk w' bo vs p = walk w bo vs p
  | [], cs, vs, f, row, bo, _, _, _ => by simp only [walk]
  | o :: p, cs, vs, f, row, bo, h, hr, hw => by
    simp only [rowAt] at hr
    split at hr
    · rename_i v hv
      split at hr
      · rename_i ics hi
        obtain ⟨cv, f1, f2, hcv, hvr, hf, _⟩ := CR_get o h hv
        obtain ⟨hcv0, _⟩ := get_take_lt hcv
        obtain ⟨b, t, arr, h1, e1, e2, hcr, hg, _, _⟩ := inner_rel hi hvr
        have hb : w'.heap[b]? = w.heap[b]? := hw b (by have := hf b; have := hg b; simp at this; omega)
        have hbr : brow w b = some arr.toList := by simp [brow, e2]
        have hbr' : brow w' b = some arr.toList := by simp [brow, hb, e2]
        simp only [walk, hcv0, e1, hbr, hbr']
        exact walk_stab p (some b) hcr hr (fun x hx => hw x (by have := hf x; have := hg x; omega))
      · cases hr
    · cases hr

theorem walk_stabE {e : Env} {f : Cnt} {r : Nat} {p : List Nat} {row : List AV} (h : CR P w Φ σ ρ e ρ f) (hrow : rowE e r p = some row) (hw : ∀ b, 1 ≤ f b → w'.heap[b]? = w.heap[b]?) :
    walk w' none (rowOf ρ r) p = walk w none (rowOf ρ r) p := by
  obtain ⟨v, hv, hd, hg, hra⟩ := rowE_some hrow
  obtain ⟨cv, f1, f2, hcv, hvr, hf, _⟩ := CR_get r h hv
  have hcr := cells_rel hd hg hvr
  have hro : rowOf ρ r = cellsV cv := by simp [rowOf, hcv]
  rw [hro]
  refine walk_stab (P := P) (Φ := Φ) (σ := σ) (ρ := ρ) p none (f := f1) ?_ hra (fun b hb => hw b (by have := hf b; omega))
  rw [CR_length hcr, List.take_length]; exact hcr

theorem BkR_stab {e : Env} {f : Cnt} (h : CR P w Φ σ ρ e ρ f) (hw : ∀ b, 1 ≤ f b → w'.heap[b]? = w.heap[b]?) : ∀ {bs : List Bk} {ks : List Value}, bksOk e bs = true → BkR w ρ σ bs ks → BkR w' ρ σ bs ks
  | [], ks, _, hb => hb
  | .pl r p o s :: bs, ks, hok, hb => by
    simp only [bksOk, List.all_cons, Bool.and_eq_true] at hok
    simp only [BkR] at hb ⊢
    obtain ⟨v, vs', e1, ⟨bo, row, h1, h2⟩, h3, h4⟩ := hb
    obtain ⟨row', hr'⟩ := Option.isSome_iff_exists.1 hok.1
    exact ⟨v, vs', e1, ⟨bo, row, by rw [walk_stabE h hr' hw]; exact h1, h2⟩, h3, BkR_stab h hw hok.2 h4⟩
  | .cl r g ss :: bs, ks, hok, hb => by
    simp only [bksOk, List.all_cons, Bool.and_eq_true] at hok
    simp only [BkR] at hb ⊢
    obtain ⟨us, vs', e1, h1, h2, h3, h4⟩ := hb
    exact ⟨us, vs', e1, h1, h2, h3, BkR_stab h hw hok.2 h4⟩
  | .sl r s :: bs, ks, hok, hb => by
    simp only [bksOk, List.all_cons, Bool.and_eq_true] at hok
    simp only [BkR] at hb ⊢
    obtain ⟨v, vs', e1, h1, h3, h4⟩ := hb
    exact ⟨v, vs', e1, h1, h3, BkR_stab h hw hok.2 h4⟩

theorem reSt_rel {σ' : Nat → Value} {ρ' : List Value} {s : Nat} {v : AV} {cv : Value} {f : Cnt} (h : VR P w Φ σ' ρ' v cv f) (hi : inSt v = true) (hs : s ≠ 0 → σ s = cv) : VR P w Φ σ ρ (reSt s v) cv f ∧ hr (reSt s v) = false := by
  cases v <;> simp [inSt] at hi
  · simp only [VR] at h
    exact ⟨by simpa only [reSt, VR] using h, rfl⟩
  · simp only [VR] at h
    obtain ⟨_, hx, xs, f1, ho, hcr, hb⟩ := h
    refine ⟨?_, by simp [reSt, hr, hx]⟩
    simp only [reSt, VR]
    exact ⟨hs, hx, xs, f1, ho, CR_stab w Φ ρ (fun _ _ => rfl) (fun _ h => h) _ _ _ hx (fun _ _ => rfl) (sigs σ hi hcr), hb⟩
  · simp only [VR] at h
    obtain ⟨_, hx, b0, arr, f1, e, hg, hcr, hb⟩ := h
    refine ⟨?_, by simp [reSt, hr, hx]⟩
    simp only [reSt, VR]
    exact ⟨hs, hx, b0, arr, f1, e, hg, CR_stab w Φ ρ (fun _ _ => rfl) (fun _ h => h) _ _ _ hx (fun _ _ => rfl) (sigs σ hi hcr), hb⟩

theorem reSts_rel {σ' : Nat → Value} {ρ' : List Value} : ∀ {ss : List Nat} {vs : List AV} {cvs : List Value} {f : Cnt}, CR P w Φ σ' ρ' vs cvs f → vs.all inSt = true → vs.length = ss.length →
    (∀ (i s : Nat) (u : Value), ss[i]? = some s → cvs[i]? = some u → s ≠ 0 → σ s = u) → CR P w Φ σ ρ (reSts ss vs) cvs f ∧ hrs (reSts ss vs) = false
  | [], [], cvs, f, h, _, _, _ => by simp only [reSts]; exact ⟨by simpa only [CR] using h, rfl⟩
  | s :: ss, v :: vs, cvs, f, h, hi, hl, hs => by
    simp only [CR] at h
    obtain ⟨cv, cvs', f1, f2, rfl, h1, h2, hf⟩ := h
    simp only [List.all_cons, Bool.and_eq_true] at hi
    obtain ⟨a1, a2⟩ := reSt_rel h1 hi.1 (hs 0 s cv rfl rfl)
    obtain ⟨b1, b2⟩ := reSts_rel h2 hi.2 (by simpa using hl) (fun i s u h3 h4 => hs (i + 1) s u (by simpa using h3) (by simpa using h4))
    rw [show f = fun x => f1 x + f2 x from funext hf]
    simp only [reSts]
    exact ⟨CR_cons a1 b1, by simp [hrs, a2, b2]⟩
  | [], _ :: _, _, _, _, _, hl, _ => by simp at hl
  | _ :: _, [], _, _, _, _, hl, _ => by simp at hl

theorem putBks_rel {σ' : Nat → Value} {e : Env} {f : Cnt} (h : CR P w Φ σ ρ e ρ f) : ∀ {bs : List Bk} {outs : List AV} {ks : List Value} {fo : Cnt} {e2 : Env}, CR P w Φ σ' [] outs ks fo → outs.all inSt = true → (∀ b, f b + fo b ≤ 1) → BkR w ρ σ bs ks →
    putBks e bs outs = some e2 → ∃ f', CR P w Φ σ ρ e2 ρ f' ∧ (∀ b, f' b ≤ f b + fo b)
  | [], outs, ks, fo, e2, ho, hi, hsep, hb, hp => by
    cases outs with
    | nil => simp only [putBks, Option.some.injEq] at hp; subst hp; exact ⟨f, h, fun b => by omega⟩
    | cons o outs => simp [putBks] at hp
  | .pl r p o s :: bs, outs, ks, fo, e2, ho, hi, hsep, hb, hp => by
    cases outs with
    | nil => simp [putBks] at hp
    | cons v vs =>
      simp only [BkR] at hb
      obtain ⟨cv, cvs', rfl, ⟨bo, row, hw, hrow⟩, hs, hb⟩ := hb
      simp only [CR] at ho
      obtain ⟨cv2, cvs2, g1, g2, he, h1, h2, hg⟩ := ho
      obtain ⟨rfl, rfl⟩ : cv = cv2 ∧ cvs' = cvs2 := by simpa using he
      simp only [List.all_cons, Bool.and_eq_true] at hi
      simp only [putBks] at hp
      split at hp
      · rename_i e1 he1
        obtain ⟨f1, hf1, hle1⟩ := putBks_rel h h2 hi.2 (fun b => by have := hsep b; have := hg b; omega) hb he1
        split at hp
        · rename_i rw1 hrw1
          split at hp
          · rename_i hgone
            simp only [Option.some.injEq] at hp
            subst hp
            have hsep1 : ∀ b, f1 b ≤ 1 := fun b => by have := hsep b; have := hg b; have := hle1 b; omega
            obtain ⟨bo', cvs, q1, q2, hw', hcr, hf, hset, hpn⟩ := env_focus hf1 hsep1 hrw1
            rw [hw] at hw'
            obtain ⟨rfl, rfl⟩ : bo = bo' ∧ row = cvs := by simpa using hw'
            obtain ⟨u, p1, p2, hu, hvu, hpp, hset2⟩ := CR_get o hcr hgone
            obtain ⟨hu0, _⟩ := get_take_lt hu
            rw [hrow] at hu0
            obtain rfl := Option.some.inj hu0
            obtain ⟨a1, a2⟩ := reSt_rel (σ := σ) (ρ := ρ) h1 hi.1 hs
            have k := hset2 _ _ _ a1
            rw [set_same hu] at k
            have k2 := hset (rw1.set o (reSt s v)) _ (by simp) (fun hp => by
              obtain ⟨b, t, arr, _, _, _, _, hh⟩ := hpn hp
              exact hrs_set hh o a2) k
            refine ⟨_, k2, fun b => ?_⟩
            show g1 b + p2 b + q2 b ≤ f b + fo b
            have := hf b; have := hpp b; have := hle1 b; have := hg b
            omega
          · cases hp
        · cases hp
      · cases hp
  | .sl r s :: bs, outs, ks, fo, e2, ho, hi, hsep, hb, hp => by
    cases outs with
    | nil => simp [putBks] at hp
    | cons v vs =>
      simp only [BkR] at hb
      obtain ⟨cv, cvs', rfl, hr0, hs, hb⟩ := hb
      simp only [CR] at ho
      obtain ⟨cv2, cvs2, g1, g2, he, h1, h2, hg⟩ := ho
      obtain ⟨rfl, rfl⟩ : cv = cv2 ∧ cvs' = cvs2 := by simpa using he
      simp only [List.all_cons, Bool.and_eq_true] at hi
      simp only [putBks] at hp
      split at hp
      · rename_i e1 he1
        obtain ⟨f1, hf1, hle1⟩ := putBks_rel h h2 hi.2 (fun b => by have := hsep b; have := hg b; omega) hb he1
        split at hp
        · rename_i hgone
          simp only [Option.some.injEq] at hp
          subst hp
          obtain ⟨a1, a2⟩ := reSt_rel (σ := σ) (ρ := ρ) h1 hi.1 hs
          obtain ⟨u, p1, p2, hu, hvu, hpp, hset2⟩ := CR_get r hf1 hgone
          rw [hr0] at hu
          obtain rfl := Option.some.inj hu
          have k := hset2 _ _ _ a1
          rw [set_same hr0] at k
          refine ⟨_, k, fun b => ?_⟩
          show g1 b + p2 b ≤ f b + fo b
          have := hpp b; have := hle1 b; have := hg b
          omega
        · cases hp
      · cases hp
  | .cl r g ss :: bs, outs, ks, fo, e2, ho, hi, hsep, hb, hp => by
    simp only [BkR] at hb
    obtain ⟨us, cvs', rfl, hul, hr0, hs, hb⟩ := hb
    have hp' : (if ss.length ≤ outs.length then putCl (putBks e bs (outs.drop ss.length)) r g ss outs else none) = some e2 := by
      cases outs <;> simpa only [putBks] using hp
    split at hp'
    · rename_i hlen
      unfold putCl at hp'
      split at hp'
      · rename_i e1 he1
        split at hp'
        · rename_i hgone
          simp only [Option.some.injEq] at hp'
          subst hp'
          obtain ⟨m1, m2, c1, c2, hm⟩ := CR_take_drop ss.length ho
          rw [List.take_left' hul] at c1
          rw [List.drop_left' hul] at c2
          have hi1 : (outs.take ss.length).all inSt = true := List.all_eq_true.2 fun x hx => List.all_eq_true.1 hi x (List.mem_of_mem_take hx)
          have hi2 : (outs.drop ss.length).all inSt = true := List.all_eq_true.2 fun x hx => List.all_eq_true.1 hi x (List.mem_of_mem_drop hx)
          obtain ⟨f1, hf1, hle1⟩ := putBks_rel h c2 hi2 (fun b => by have := hsep b; have := hm b; omega) hb he1
          obtain ⟨a1, a2⟩ := reSts_rel (σ := σ) (ρ := ρ) c1 hi1 (by simp; omega) hs
          obtain ⟨u, p1, p2, hu, hvu, hpp, hset2⟩ := CR_get r hf1 hgone
          rw [hr0] at hu
          obtain rfl := Option.some.inj hu
          have k := hset2 (.fn g (reSts ss (outs.take ss.length))) (.func (.func g) #[] us.toArray) m1 (by
            simp only [VR]
            exact ⟨_, rfl, fun c hc => .inr (hrs_mem a2 c hc), by simpa using a1⟩)
          rw [set_same hr0] at k
          refine ⟨_, k, fun b => ?_⟩
          show m1 b + p2 b ≤ f b + fo b
          have := hpp b; have := hle1 b; have := hm b
          omega
        · cases hp'
      · cases hp'
    · cases hp'

/-! ### The arguments -/
/-- The concrete arguments: those given, and the others. -/
theorem give1_rel {ν : List Nat} {a : Act} : ∀ {args : List (Opd × Bool)} {xs : List Operand} {e e' : Env} {f : Cnt} {s : Nat} {b : List Bk} {vs : List (Option AV)}, CR P w Φ σ ρ e ρ f → LK ν ρ e a.tmps → (∀ b, f b ≤ 1) → okXs ν xs (args.map (·.1)) = true →
    give1 e s args = some (e', b, vs) → ∃ f1 f2 ks, BkR w ρ σ b ks ∧ CR P w Φ σ ρ e' ρ f2 ∧ (∀ x, f x = f1 x + f2 x) ∧ e'.length = e.length ∧
      ∀ (e2 : Env) (f3 : Cnt) (Φ' : Nat → Prop) (avs : List AV) (live : Bool) (σ' : Nat → Value), CR P w Φ σ ρ e2 ρ f3 → (∀ b, f3 b ≤ 1) → (∀ b, Φ b → Φ' b) → give2 e2 args vs = some (avs, live) → (live = true → ∀ b, 1 ≤ f3 b → Φ' b) → Stm σ' s ks →
        CR P w Φ' σ' [] avs (xs.map a.eval) f1 ∧ hrs avs = false
  | [], xs, e, e', f, s, b, vs, h, hl, hsep, hx, ht => by
    cases xs with
    | cons x xs => simp [okXs] at hx
    | nil =>
      simp only [give1, Option.some.injEq, Prod.mk.injEq] at ht
      obtain ⟨rfl, rfl, rfl⟩ := ht
      refine ⟨fun _ => 0, f, [], rfl, h, fun x => by simp, rfl, fun e2 f3 Φ' avs live σ' _ _ _ hg _ _ => ?_⟩
      simp only [give2, Option.some.injEq, Prod.mk.injEq] at hg
      obtain ⟨rfl, rfl⟩ := hg
      exact ⟨CR_nil, rfl⟩
  | (y, false) :: args, xs, e, e', f, s, b, vs, h, hl, hsep, hx, ht => by
    cases xs with
    | nil => simp [okXs] at hx
    | cons x xs =>
      simp only [List.map_cons, okXs, Bool.and_eq_true] at hx
      simp only [give1] at ht
      split at ht
      · rename_i e1 b1 vs1 h1
        simp only [Option.some.injEq, Prod.mk.injEq] at ht
        obtain ⟨rfl, rfl, rfl⟩ := ht
        obtain ⟨f1, f2, ks, q1, q2, q3, q4, q5⟩ := give1_rel h hl hsep hx.2 h1
        refine ⟨f1, f2, ks, q1, q2, q3, q4, fun e2 f3 Φ' avs live σ' hc2 hs3 hsub hg hlv hst => ?_⟩
        simp only [give2] at hg
        split at hg
        · rename_i v hv
          split at hg
          · rename_i v' b2 hv2
            split at hg
            · rename_i us b3 hg2
              simp only [Option.some.injEq, Prod.mk.injEq] at hg
              obtain ⟨rfl, rfl⟩ := hg
              obtain ⟨a1, a2⟩ := q5 e2 f3 Φ' us b3 σ' hc2 hs3 hsub hg2 (fun hb => hlv (by simp [hb])) hst
              obtain ⟨k1, k2⟩ := snapV_rel hc2 hs3 Φ' hsub hv2 (ev_rel (a := a) hc2 (fun j cv hj => hl j cv hj) hx.1 hv _ (fun _ => rfl)) (fun hb => hlv (by simp [hb]))
              have k3 := k2 []
              have k4 : VR P w Φ' σ' [] v' (a.eval x) (fun _ => 0) := sig σ' _ _ _ (.inl (snapV_noSt hv2)) k3
              refine ⟨?_, by simp [hrs, k1, a2]⟩
              have := CR_cons k4 a1
              simpa using this
            · cases hg
          · cases hg
        · cases hg
      · cases ht
  | (y, true) :: args, xs, e, e', f, s, b, vs, h, hl, hsep, hx, ht => by
    cases xs with
    | nil => simp [okXs] at hx
    | cons x xs =>
      simp only [List.map_cons, okXs, Bool.and_eq_true] at hx
      simp only [give1] at ht
      split at ht
      · rename_i v hv
        split at ht
        · rename_i v' e1 b1 h1
          split at ht
          · rename_i e2 b2 vs2 h2
            simp only [Option.some.injEq, Prod.mk.injEq] at ht
            obtain ⟨rfl, rfl, rfl⟩ := ht
            obtain ⟨g1, g2, ks, p1, p2, p3, p4, p5, p6⟩ := giveV_rel h hsep (ev_rel h hl hx.1 hv _ (fun _ => rfl)) h1
            obtain ⟨f1, f2, ms, q1, q2, q3, q4, q5⟩ := give1_rel p4 (fun j cv hj => hl j cv hj) (fun b => by have := hsep b; have := p5 b; omega) hx.2 h2
            refine ⟨fun x => g1 x + f1 x, f2, ks ++ ms, BkR_append p1 q1, q2, fun x => by show f x = g1 x + f1 x + f2 x; have := p5 x; have := q3 x; omega, q4.trans p6, fun e3 f3 Φ' avs live σ' hc2 hs3 hsub hg hlv hst => ?_⟩
            simp only [give2] at hg
            split at hg
            · rename_i us b3 hg2
              simp only [Option.some.injEq, Prod.mk.injEq] at hg
              obtain ⟨rfl, rfl⟩ := hg
              obtain ⟨a1, a2⟩ := q5 e3 f3 Φ' us b3 σ' hc2 hs3 hsub hg2 hlv (by have := hst.right; rwa [BkR_length p1] at this)
              have k1 := CR_one_inv (p2 σ' hst.left)
              have k2 : hr v' = false := by simpa [hrs] using p3
              exact ⟨CR_cons (stab w Φ' [] (fun _ _ => rfl) hsub _ _ _ k2 (fun _ _ => rfl) k1) a1, by simp [hrs, k2, a2]⟩
            · cases hg
          · cases ht
        · cases ht
      · cases ht

theorem isFz_capOk {c : AV} (h : isFz c = true) : capOk c = true := by simp [capOk, h]
theorem allFz_hrs : ∀ {cs : List AV}, cs.all isFz = true → hrs cs = false ∧ noSts cs = true
  | [], _ => ⟨rfl, rfl⟩
  | c :: cs, h => by
    simp only [List.all_cons, Bool.and_eq_true] at h
    obtain ⟨h1, h2⟩ := allFz_hrs h.2
    exact ⟨by simp [hrs, isFz_hr h.1, h1], by simp [noSts, isFz_noSt h.1, h2]⟩

theorem pf_eval {e : Env} {f : Cnt} {r g : Nat} {caps : List AV} {cv : Value} (h : CR P w Φ σ ρ e ρ f) (hr0 : e[r]? = some (.fn g caps)) (hv : VR P w Φ σ ρ (.pf r [] 0) cv (fun _ => 0)) :
    ∃ (vs : Array Value) (f1 f2 : Cnt), ρ[r]? = some (.func (.func g) #[] vs) ∧ cv = .func (.func g) #[] vs ∧ CR P w Φ σ ρ caps vs.toList f1 ∧ ∀ b, f b = f1 b + f2 b := by
  obtain ⟨cv', f1, f2, hcv, hvr, hf, _⟩ := CR_get r h hr0
  simp only [VR] at hvr
  obtain ⟨vs, rfl, hq, hcr⟩ := hvr
  simp only [VR] at hv
  obtain ⟨⟨bo, row, g0, fs, cs, hw, hv0, rfl⟩, _⟩ := hv
  have e2 : rowOf ρ r = [.func (.func g) #[] vs] := by simp [rowOf, hcv, cellsV]
  rw [e2] at hw
  simp only [walk, Option.some.injEq, Prod.mk.injEq] at hw
  obtain ⟨rfl, rfl⟩ := hw
  simp at hv0
  obtain ⟨rfl, rfl, rfl⟩ := hv0
  exact ⟨_, f1, f2, hcv, rfl, hcr, hf⟩

theorem calleeC_rel {ν : List Nat} {a : Act} {e : Env} {f : Cnt} {y : Operand} {x : Opd} {g : Nat} {caps : List AV} (h : CR P w Φ σ ρ e ρ f) (hl : LK ν ρ e a.tmps) (hx : okX ν y x = true) (ht : calleeC e x = some (g, caps)) :
    ∃ vs : Array Value, a.eval y = .func (.func g) #[] vs ∧ hrs caps = false ∧ noSts caps = true ∧ ∀ (Φ' : Nat → Prop) (σ' : Nat → Value) (ρ' : List Value), (∀ b, Φ b → Φ' b) → CR P w Φ' σ' ρ' caps vs.toList (fun _ => 0) := by
  unfold calleeC at ht
  split at ht
  · rename_i g0 hv
    simp only [Option.some.injEq, Prod.mk.injEq] at ht
    obtain ⟨rfl, rfl⟩ := ht
    have := ev_rel (a := a) h hl hx hv _ (fun _ => rfl)
    simp only [VR, CR] at this
    obtain ⟨vs, e1, _, e2, _⟩ := this
    exact ⟨vs, e1, rfl, rfl, fun _ _ _ _ => by rw [e2]; exact CR_nil⟩
  · rename_i r p o hv
    split at ht
    · rename_i hpo
      obtain ⟨rfl, rfl⟩ := hpo
      split at ht
      · rename_i g0 caps0 hr0
        split at ht
        · rename_i hz
          simp only [Option.some.injEq, Prod.mk.injEq] at ht
          obtain ⟨rfl, rfl⟩ := ht
          obtain ⟨vs, f1, f2, h1, h2, h3, h4⟩ := pf_eval h hr0 (ev_rel (a := a) h hl hx hv _ (fun _ => rfl))
          obtain ⟨k1, k2⟩ := allFz_hrs hz
          have h0 := capOk_zero (List.all_eq_true.2 fun c hc => isFz_capOk (List.all_eq_true.1 hz c hc)) h3
          refine ⟨vs, h2, k1, k2, fun Φ' σ' ρ' hs => ?_⟩
          rw [Zf h0] at h3
          exact sigs σ' k2 (CR_stab w Φ' ρ' (fun _ _ => rfl) hs _ _ _ k1 (fun _ _ => rfl) h3)
        · cases ht
      · cases ht
    · cases ht
  · cases ht

theorem calleeM_rel {ν : List Nat} {a : Act} {e e' : Env} {f : Cnt} {s : Nat} {b : List Bk} {y : Operand} {x : Opd} {g : Nat} {caps : List AV} (h : CR P w Φ σ ρ e ρ f) (hl : LK ν ρ e a.tmps) (hsep : ∀ b, f b ≤ 1) (hx : okX ν y x = true) (ht : calleeM e s x = some (g, caps, e', b)) :
    ∃ vs : Array Value, a.eval y = .func (.func g) #[] vs ∧ GiveR P w Φ σ ρ e f s caps vs.toList e' b := by
  unfold calleeM at ht
  split at ht
  · rename_i g0 caps0 hc
    simp only [Option.some.injEq, Prod.mk.injEq] at ht
    obtain ⟨rfl, rfl, rfl, rfl⟩ := ht
    obtain ⟨vs, h1, h2, h3, h4⟩ := calleeC_rel h hl hx hc
    exact ⟨vs, h1, fun _ => 0, f, [], rfl, fun σ' _ => h4 Φ σ' [] (fun _ h => h), h2, h, fun x => by simp, rfl⟩
  · split at ht
    · rename_i r p o hv
      split at ht
      · rename_i hpo
        obtain ⟨rfl, rfl⟩ := hpo
        obtain ⟨vs, h1, h2⟩ := giveF_rel h hsep ht
        have hv2 := ev_rel (a := a) h hl hx hv _ (fun _ => rfl)
        have : ∃ caps0, e[r]? = some (.fn g caps0) := by
          unfold giveF at ht
          split at ht
          · rename_i g0 caps0 hr0
            refine ⟨caps0, ?_⟩
            rw [hr0]
            split at ht
            · split at ht
              · simp only [Option.some.injEq, Prod.mk.injEq] at ht; rw [ht.1]
              · cases ht
            · split at ht
              · simp only [Option.some.injEq, Prod.mk.injEq] at ht; rw [ht.1]
              · cases ht
          · cases ht
        obtain ⟨caps0, hr0⟩ := this
        obtain ⟨vs2, f1, f2, k1, k2, _, _⟩ := pf_eval h hr0 hv2
        rw [h1] at k1
        obtain rfl : vs = vs2 := by simpa using k1
        exact ⟨vs, k2, h2⟩
      · cases ht
    · cases ht
end
end Go.AM
