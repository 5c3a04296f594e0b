/- Walking code: rules. -/
import Derived.Test.YtodlnccdpbpokaaDoorAmFn
set_option linter.unusedSimpArgs false
set_option linter.unusedVariables false
set_option linter.unusedSectionVars false
namespace Go.AM
open Go

/-- It runs, and so. -/
def W (P : Program) (m : Nat) (sc : SCode) (e : Env) (Q : Exit → Env → Prop) : Prop := ∃ ex e2, Runs P m sc e ex e2 ∧ Q ex e2

section
variable {P : Program} {m : Nat} {Q : Exit → Env → Prop} {e : Env}

theorem OpW_ex {k : Nat} {so : SOpr} {e : Env} {Q : Env → Prop} (h : OpW P m k so e Q) : ∃ e2, OpW P m k so e (fun e1 => e1 = e2) ∧ Q e2 := by
  unfold OpW at h
  split at h
  · rename_i s hk
    split at h
    · rename_i v e' hx
      split at h
      · rename_i e2 hp
        exact ⟨e2, by unfold OpW; rw [hk]; simp only [hx, hp], h⟩
      · cases h
    · cases h
  · rename_i g args fr hk
    split at h
    · rename_i avs live hp
      obtain ⟨res, h1, h2, h⟩ := h
      split at h
      · rename_i v hv
        split at h
        · rename_i e2 hp2
          exact ⟨e2, by unfold OpW; rw [hk]; simp only [hp]; exact ⟨res, h1, h2, by rw [hv]; simp only [hp2]⟩, h⟩
        · cases h
      · cases h
    · cases h
  · rename_i x args hk
    split at h
    · rename_i g caps avs live hc hp
      obtain ⟨hpl, res, h1, h2, h⟩ := h
      split at h
      · rename_i e2 hp2
        exact ⟨e2, by unfold OpW; rw [hk]; simp only [hc, hp]; exact ⟨hpl, res, h1, h2, by simp only [hp2]⟩, h⟩
      · cases h
    · cases h
  · rename_i x args hk
    split at h
    · rename_i e1 b1 vs h1
      split at h
      · rename_i g caps e2 b2 h2
        split at h
        · rename_i avs live h3
          obtain ⟨q1, q2, res, outs, q3, q4, h⟩ := h
          split at h
          · rename_i e3 h4
            split at h
            · rename_i e4 h5
              exact ⟨e4, by unfold OpW; rw [hk]; simp only [h1, h2, h3]; exact ⟨q1, q2, res, outs, q3, q4, by simp only [h4, h5]⟩, h⟩
            · cases h
          · cases h
        · cases h
      · cases h
    · cases h
theorem OpW_imp {k : Nat} {so : SOpr} {e : Env} {Q Q' : Env → Prop} (hQ : ∀ e, Q e → Q' e) (h : OpW P m k so e Q) : OpW P m k so e Q' := by
  unfold OpW at h ⊢
  split at h
  · split at h
    · split at h
      · exact hQ _ h
      · cases h
    · cases h
  · split at h
    · obtain ⟨res, h1, h2, h⟩ := h
      refine ⟨res, h1, h2, ?_⟩
      split at h
      · split at h
        · exact hQ _ h
        · cases h
      · cases h
    · cases h
  · split at h
    · obtain ⟨hpl, res, h1, h2, h⟩ := h
      refine ⟨hpl, res, h1, h2, ?_⟩
      split at h
      · exact hQ _ h
      · cases h
    · cases h
  · split at h
    · split at h
      · split at h
        · obtain ⟨q1, q2, res, outs, q3, q4, h⟩ := h
          refine ⟨q1, q2, res, outs, q3, q4, ?_⟩
          split at h
          · split at h
            · exact hQ _ h
            · cases h
          · cases h
        · cases h
      · cases h
    · cases h
theorem SRun_ex : ∀ {sos : List SOpr} {k : Nat} {e : Env} {Q : Env → Prop}, SRun P m k sos e Q → ∃ e2, SRun P m k sos e (fun e1 => e1 = e2) ∧ Q e2
  | [], k, e, Q, h => ⟨e, by simp only [SRun], by simpa only [SRun] using h⟩
  | so :: sos, k, e, Q, h => by
    simp only [SRun] at h
    split at h
    · rename_i hg
      obtain ⟨e1, h1, h2⟩ := OpW_ex h
      obtain ⟨e2, h3, h4⟩ := SRun_ex h2
      exact ⟨e2, by simp only [SRun, hg]; exact OpW_imp (fun e he => by rw [he]; exact h3) h1, h4⟩
    · rename_i s b hg
      split at h
      · rename_i hb
        obtain ⟨e1, h1, h2⟩ := OpW_ex h
        obtain ⟨e2, h3, h4⟩ := SRun_ex h2
        exact ⟨e2, by simp only [SRun, hg, hb]; exact OpW_imp (fun e he => by rw [he]; exact h3) h1, h4⟩
      · rename_i hb
        obtain ⟨e2, h3, h4⟩ := SRun_ex h
        exact ⟨e2, by simp only [SRun, hg, hb]; exact h3, h4⟩
      · cases h
theorem DRunB_imp : ∀ {sos : List SOpr} {info : List (List Bool × Option (List Nat))} {acc : List AV} {Q Q' : List AV → Prop}, (∀ vs, Q vs → Q' vs) → DRunB P e sos info acc Q → DRunB P e sos info acc Q'
  | [], info, acc, Q, Q', hQ, h => by simp only [DRunB] at h ⊢; exact hQ _ h
  | so :: sos, [], acc, Q, Q', hQ, h => by simp only [DRunB] at h
  | so :: sos, (bs, some j) :: info, acc, Q, Q', hQ, h => by
    simp only [DRunB] at h ⊢
    obtain ⟨hd, h⟩ := h
    refine ⟨hd, ?_⟩
    split at h
    · exact OpC_imp (fun u hu => DRunB_imp (fun vs hv => ⟨hv.1, hQ _ hv.2⟩) hu) h
    · split at h
      · exact OpC_imp (fun u hu => DRunB_imp (fun vs hv => ⟨hv.1, hQ _ hv.2⟩) hu) h
      · exact DRunB_imp hQ h
      · cases h
  | so :: sos, (bs, none) :: info, acc, Q, Q', hQ, h => by
    simp only [DRunB] at h ⊢
    obtain ⟨hd, h⟩ := h
    refine ⟨hd, ?_⟩
    split at h
    · exact OpV_imp (fun u hu => DRunB_imp hQ hu) h
    · split at h
      · exact OpV_imp (fun u hu => DRunB_imp hQ hu) h
      · exact DRunB_imp hQ h
      · cases h
theorem DRunB_ex : ∀ {sos : List SOpr} {info : List (List Bool × Option (List Nat))} {acc : List AV} {Q : List AV → Prop}, DRunB P e sos info acc Q → ∃ vs, DRunB P e sos info acc (fun us => us = vs) ∧ Q vs
  | [], info, acc, Q, h => ⟨acc, by simp only [DRunB], by simpa only [DRunB] using h⟩
  | so :: sos, [], acc, Q, h => by simp only [DRunB] at h
  | so :: sos, (bs, some j) :: info, acc, Q, h => by
    simp only [DRunB] at h
    obtain ⟨hd, h⟩ := h
    split at h
    · rename_i hg
      obtain ⟨v, h1, h2⟩ := OpC_ex h
      obtain ⟨vs, h3, h4⟩ := DRunB_ex h2
      exact ⟨vs, by simp only [DRunB, hg]; exact ⟨hd, OpC_imp (fun u hu => by rw [hu]; exact DRunB_imp (fun us hus => by subst hus; exact ⟨h4.1, rfl⟩) h3) h1⟩, h4.2⟩
    · rename_i s b hg
      split at h
      · rename_i hb
        obtain ⟨v, h1, h2⟩ := OpC_ex h
        obtain ⟨vs, h3, h4⟩ := DRunB_ex h2
        exact ⟨vs, by simp only [DRunB, hg, hb]; exact ⟨hd, OpC_imp (fun u hu => by rw [hu]; exact DRunB_imp (fun us hus => by subst hus; exact ⟨h4.1, rfl⟩) h3) h1⟩, h4.2⟩
      · rename_i hb
        obtain ⟨vs, h3, h4⟩ := DRunB_ex h
        exact ⟨vs, by simp only [DRunB, hg, hb]; exact ⟨hd, h3⟩, h4⟩
      · cases h
  | so :: sos, (bs, none) :: info, acc, Q, h => by
    simp only [DRunB] at h
    obtain ⟨hd, h⟩ := h
    split at h
    · rename_i hg
      obtain ⟨v, h1, h2⟩ := OpV_ex h
      obtain ⟨vs, h3, h4⟩ := DRunB_ex h2
      exact ⟨vs, by simp only [DRunB, hg]; exact ⟨hd, OpV_imp (fun u hu => by rw [hu]; exact h3) h1⟩, h4⟩
    · rename_i s b hg
      split at h
      · rename_i hb
        obtain ⟨v, h1, h2⟩ := OpV_ex h
        obtain ⟨vs, h3, h4⟩ := DRunB_ex h2
        exact ⟨vs, by simp only [DRunB, hg, hb]; exact ⟨hd, OpV_imp (fun u hu => by rw [hu]; exact h3) h1⟩, h4⟩
      · rename_i hb
        obtain ⟨vs, h3, h4⟩ := DRunB_ex h
        exact ⟨vs, by simp only [DRunB, hg, hb]; exact ⟨hd, h3⟩, h4⟩
      · cases h

/-- What must be shown of code without a loop; a loop is left as it is. -/
def wpS (P : Program) (m : Nat) : SCode → Env → (Exit → Env → Prop) → Prop
  | .skip, e, Q => Q .normal e
  | .reg _ ops, e, Q => SRun P m 0 ops (e ++ deads ops.length) fun e2 => endOk m e2 = true ∧ Q .normal (e2.take m)
  | .bad, _, _ => False
  | .dreg _ ops _ t _ info fin, e, Q => DRunB P e (ops.take t) info [] fun vs => SRun P m t (ops.drop t) (e ++ maskB fin vs ++ deads (ops.length - t)) fun e2 => endOk m e2 = true ∧ Q .normal (e2.take m)
  | .dregm j k _ ops _ t _ info fin, e, Q => (e.any hasRef = false ∧ e[j]? = some .dead) ∧ DRunB P e (ops.take t) info [] fun vs => SRun P m t (ops.drop t) (e ++ maskB fin vs ++ deads (ops.length - t)) fun e2 => endOk m e2 = true ∧ match mvEnd m j k e2 with
    | some e3 => Q .normal e3
    | none => False
  | .seq a b, e, Q => wpS P m a e fun ex e1 => match ex with
    | .normal => wpS P m b e1 Q
    | ex => Q ex e1
  | .cond x a b, e, Q => match ev e x with
    | some (.bool t) => (t = true → wpS P m a (dropS x e) Q) ∧ (t = false → wpS P m b (dropS x e) Q)
    | _ => False
  | .condk x a b, e, Q => match ev e x with
    | some (.bool t) => (t = true → wpS P m a e Q) ∧ (t = false → wpS P m b e Q)
    | _ => False
  | .block id b, e, Q => wpS P m b e fun ex e1 => Q (outOf id ex) e1
  | .loop b, e, Q => W P m (.loop b) e Q
  | .exit id, e, Q => Q (.exit id) e
  | .ret, e, Q => Q .ret e

theorem wpS_sound : ∀ {sc : SCode} {e : Env} {Q : Exit → Env → Prop}, wpS P m sc e Q → W P m sc e Q
  | .skip, e, Q, h => ⟨_, _, .skip, h⟩
  | .reg D ops, e, Q, h => by
    obtain ⟨e2, h1, h2, h3⟩ := SRun_ex h
    exact ⟨_, _, .reg h1 h2, h3⟩
  | .bad, e, Q, h => h.elim
  | .dreg D ops sees t cons info fin, e, Q, h => by
    obtain ⟨vs, h1, h2⟩ := DRunB_ex h
    obtain ⟨e2, h3, h4, h5⟩ := SRun_ex h2
    exact ⟨_, _, .dreg (DRunB_imp (fun us hu => by subst hu; exact h3) h1) h4, h5⟩
  | .dregm j k D ops sees t cons info fin, e, Q, h => by
    obtain ⟨h0, h⟩ := h
    obtain ⟨vs, h1, h2⟩ := DRunB_ex h
    obtain ⟨e2, h3, h4, h5⟩ := SRun_ex h2
    cases hm : mvEnd m j k e2 with
    | none => rw [hm] at h5; exact h5.elim
    | some e3 =>
      rw [hm] at h5
      exact ⟨_, _, .dregm h0 (DRunB_imp (fun us hu => by subst hu; exact h3) h1) h4 hm, h5⟩
  | .seq a b, e, Q, h => by
    obtain ⟨ex, e1, h1, h2⟩ := wpS_sound (sc := a) (by simpa only [wpS] using h)
    cases ex with
    | normal =>
      obtain ⟨ex2, e2, h3, h4⟩ := wpS_sound (sc := b) h2
      exact ⟨_, _, .seq h1 h3, h4⟩
    | _ => exact ⟨_, _, .seqOut h1 (by simp), h2⟩
  | .cond x a b, e, Q, h => by
    simp only [wpS] at h
    split at h
    · rename_i t hx
      cases t
      · obtain ⟨ex, e1, h1, h2⟩ := wpS_sound (sc := b) (h.2 rfl)
        exact ⟨_, _, .cond (t := false) hx h1, h2⟩
      · obtain ⟨ex, e1, h1, h2⟩ := wpS_sound (sc := a) (h.1 rfl)
        exact ⟨_, _, .cond (t := true) hx h1, h2⟩
    · cases h
  | .condk x a b, e, Q, h => by
    simp only [wpS] at h
    split at h
    · rename_i t hx
      cases t
      · obtain ⟨ex, e1, h1, h2⟩ := wpS_sound (sc := b) (h.2 rfl)
        exact ⟨_, _, .condk (t := false) hx h1, h2⟩
      · obtain ⟨ex, e1, h1, h2⟩ := wpS_sound (sc := a) (h.1 rfl)
        exact ⟨_, _, .condk (t := true) hx h1, h2⟩
    · cases h
  | .block id b, e, Q, h => by
    obtain ⟨ex, e1, h1, h2⟩ := wpS_sound (sc := b) (by simpa only [wpS] using h)
    exact ⟨_, _, .block h1, h2⟩
  | .loop b, e, Q, h => h
  | .exit id, e, Q, h => ⟨_, _, .exit, h⟩
  | .ret, e, Q, h => ⟨_, _, .ret, h⟩

/-- One round. -/
theorem W_loop {b : SCode} {e : Env} {Q : Exit → Env → Prop} (h : wpS P m b e fun ex e1 => match ex with
    | .normal => W P m (.loop b) e1 Q
    | ex => Q ex e1) : W P m (.loop b) e Q := by
  obtain ⟨ex, e1, h1, h2⟩ := wpS_sound h
  cases ex with
  | normal =>
    obtain ⟨ex2, e2, h3, h4⟩ := h2
    exact ⟨_, _, .loop h1 h3, h4⟩
  | _ => exact ⟨_, _, .loopOut h1 (by simp), h2⟩

theorem SRun_imp : ∀ {sos : List SOpr} {k : Nat} {e : Env} {Q Q' : Env → Prop}, (∀ e, Q e → Q' e) → SRun P m k sos e Q → SRun P m k sos e Q'
  | [], k, e, Q, Q', hQ, h => by simp only [SRun] at h ⊢; exact hQ _ h
  | so :: sos, k, e, Q, Q', hQ, h => by
    simp only [SRun] at h ⊢
    split at h
    · exact OpW_imp (fun e he => SRun_imp hQ he) h
    · split at h
      · exact OpW_imp (fun e he => SRun_imp hQ he) h
      · exact SRun_imp hQ h
      · cases h
theorem W_imp0 {sc : SCode} {e : Env} {Q Q' : Exit → Env → Prop} (hQ : ∀ ex e, Q ex e → Q' ex e) (h : W P m sc e Q) : W P m sc e Q' := by
  obtain ⟨ex, e2, h1, h2⟩ := h
  exact ⟨ex, e2, h1, hQ _ _ h2⟩
theorem wpS_imp : ∀ {sc : SCode} {e : Env} {Q Q' : Exit → Env → Prop}, (∀ ex e, Q ex e → Q' ex e) → wpS P m sc e Q → wpS P m sc e Q'
  | .skip, e, Q, Q', hQ, h => hQ _ _ h
  | .reg D ops, e, Q, Q', hQ, h => SRun_imp (fun e h => ⟨h.1, hQ _ _ h.2⟩) h
  | .bad, e, Q, Q', hQ, h => h.elim
  | .dreg D ops sees t cons info fin, e, Q, Q', hQ, h => DRunB_imp (fun vs h => SRun_imp (fun e h => ⟨h.1, hQ _ _ h.2⟩) h) h
  | .dregm j k D ops sees t cons info fin, e, Q, Q', hQ, h => ⟨h.1, DRunB_imp (fun vs h => SRun_imp (fun e h => ⟨h.1, by have := h.2; revert this; cases mvEnd m j k e with | none => exact id | some e3 => exact hQ _ _⟩) h) h.2⟩
  | .seq a b, e, Q, Q', hQ, h => by
    simp only [wpS] at h ⊢
    refine wpS_imp (sc := a) (fun ex e h => ?_) h
    cases ex with
    | normal => exact wpS_imp (sc := b) hQ h
    | _ => exact hQ _ _ h
  | .cond x a b, e, Q, Q', hQ, h => by
    simp only [wpS] at h ⊢
    split at h
    · exact ⟨fun t => wpS_imp (sc := a) hQ (h.1 t), fun t => wpS_imp (sc := b) hQ (h.2 t)⟩
    · cases h
  | .condk x a b, e, Q, Q', hQ, h => by
    simp only [wpS] at h ⊢
    split at h
    · exact ⟨fun t => wpS_imp (sc := a) hQ (h.1 t), fun t => wpS_imp (sc := b) hQ (h.2 t)⟩
    · cases h
  | .block id b, e, Q, Q', hQ, h => by
    simp only [wpS] at h ⊢
    exact wpS_imp (sc := b) (fun ex e h => hQ _ _ h) h
  | .loop b, e, Q, Q', hQ, h => W_imp0 hQ h
  | .exit id, e, Q, Q', hQ, h => hQ _ _ h
  | .ret, e, Q, Q', hQ, h => hQ _ _ h
theorem W_loop' {l b : SCode} {e : Env} {Q : Exit → Env → Prop} (hl : l = .loop b) (h : wpS P m b e fun ex e1 => match ex with
    | .normal => W P m l e1 Q
    | ex => Q ex e1) : W P m l e Q := by
  subst hl; exact W_loop h
theorem wpS_loop {l b : SCode} {e : Env} {Q : Exit → Env → Prop} (hl : l = .loop b) : wpS P m l e Q = W P m l e Q := by
  subst hl; rfl

theorem W_imp {sc : SCode} {e : Env} {Q Q' : Exit → Env → Prop} (hQ : ∀ ex e, Q ex e → Q' ex e) (h : W P m sc e Q) : W P m sc e Q' := by
  obtain ⟨ex, e2, h1, h2⟩ := h
  exact ⟨ex, e2, h1, hQ _ _ h2⟩

/-- What a body must bring. -/
def EndsW (rs : List SRes) (res : AV) (ex : Exit) (e : Env) : Prop := (ex = .normal ∨ ex = .ret) ∧ (resX e rs).map tupOf = some res

theorem Fn_of_wp {g : Nat} {fn : Func} {V : List Nat} {sc : SCode} {rs : List SRes} {args : List AV} {res : AV} (hf : P.funcs[g]? = some fn) (hok : okFn P fn V sc rs args.length = true)
    (h : wpS P V.length sc (args ++ deads (V.length - args.length)) (EndsW rs res)) : Says P g args res [] := by
  obtain ⟨ex, e2, h1, h2, h3⟩ := wpS_sound h
  rw [Option.map_eq_some_iff] at h3
  exact Fn_intro hf hok ⟨ex, e2, h1, h2, h3⟩

/-- The same where the result is known in part. -/
theorem Fn_ex {g : Nat} {fn : Func} {V : List Nat} {sc : SCode} {rs : List SRes} {args : List AV} {R : AV → Prop} (hf : P.funcs[g]? = some fn) (hok : okFn P fn V sc rs args.length = true)
    (h : wpS P V.length sc (args ++ deads (V.length - args.length)) fun ex e => ∃ res, R res ∧ EndsW rs res ex e) : ∃ res, R res ∧ Says P g args res [] := by
  obtain ⟨ex, e2, h1, res, hR, h2, h3⟩ := wpS_sound h
  rw [Option.map_eq_some_iff] at h3
  exact ⟨res, hR, Fn_intro hf hok ⟨ex, e2, h1, h2, h3⟩⟩
/-- The result, and what bears the stamps. -/
def resO (e : Env) (rs : List SRes) (ss : List Nat) : Option (AV × List AV) := match resY e rs with
  | some (vs, e2) => match outsX e2 ss with
    | some os => some (tupOf vs, os)
    | none => none
  | none => none
def EndsM (rs : List SRes) (ss : List Nat) (res : AV) (os : List AV) (ex : Exit) (e : Env) : Prop := (ex = .normal ∨ ex = .ret) ∧ resO e rs ss = some (res, os)
/-- A function that is given something. -/
theorem Fn_of_wpM {g : Nat} {fn : Func} {V : List Nat} {sc : SCode} {rs : List SRes} {args : List AV} {res : AV} (ss : List Nat) (os : List AV) (hf : P.funcs[g]? = some fn) (hok : okFn P fn V sc rs args.length = true) (hss : ∀ s ∈ ss, s ≠ 0)
    (h : wpS P V.length sc (args ++ deads (V.length - args.length)) (EndsM rs ss res os)) : Says P g args res (ss.zip os) := by
  obtain ⟨ex, e2, h1, h2, h3⟩ := wpS_sound h
  unfold resO at h3
  split at h3
  · rename_i vs e3 h4
    split at h3
    · rename_i os' h5
      simp only [Option.some.injEq, Prod.mk.injEq] at h3
      obtain ⟨rfl, rfl⟩ := h3
      exact Fn_introM hf hok ⟨ex, e2, h1, h2, vs, e3, h4, rfl, h5⟩ hss
    · cases h3
  · cases h3

theorem W_forget {sc : SCode} {Q : Exit → Env → Prop} : ∀ {js : List Nat} {e : Env}, W P m sc (js.foldl (fun e j => e.set j .dead) e) Q → W P m sc e Q
  | [], e, h => h
  | j :: js, e, h => by
    obtain ⟨ex, e2, h1, h2⟩ := W_forget (js := js) (e := e.set j .dead) h
    exact ⟨ex, e2, .forget j h1, h2⟩
/-- The same, where some slots are forgotten at each round's end. -/
theorem W_rangeF {l b : SCode} {Q : Exit → Env → Prop} (hl : l = .loop b) (js : List Nat) (E : Nat → Env) (I : Nat → Prop) (n : Nat) (hstep : ∀ i, i < n → I i → wpS P m b (E i) fun ex e => match ex with
      | .normal => js.foldl (fun e j => e.set j .dead) e = E (i + 1) ∧ I (i + 1)
      | ex => Q ex e) (hlast : I n → wpS P m b (E n) fun ex e => match ex with
      | .normal => False
      | ex => Q ex e) : ∀ i, i ≤ n → I i → W P m l (E i) Q := by
  intro i hi hI
  induction h : n - i generalizing i with
  | zero =>
    obtain rfl : i = n := by omega
    subst hl
    exact W_loop (wpS_imp (fun ex e h => by cases ex <;> first | exact h.elim | exact h) (hlast hI))
  | succ k ih =>
    subst hl
    refine W_loop (wpS_imp (fun ex e h => ?_) (hstep i (by omega) hI))
    cases ex with
    | normal => simp only at h ⊢; refine W_forget (js := js) ?_; rw [h.1]; exact ih (i + 1) (by omega) h.2 (by omega)
    | _ => exact h
/-- A loop that counts: the environment of each round, what is known of it, the way out. -/
theorem W_range {l b : SCode} {Q : Exit → Env → Prop} (hl : l = .loop b) (E : Nat → Env) (I : Nat → Prop) (n : Nat) (hstep : ∀ i, i < n → I i → wpS P m b (E i) fun ex e => match ex with
      | .normal => e = E (i + 1) ∧ I (i + 1)
      | ex => Q ex e) (hlast : I n → wpS P m b (E n) fun ex e => match ex with
      | .normal => False
      | ex => Q ex e) : ∀ i, i ≤ n → I i → W P m l (E i) Q := by
  intro i hi hI
  induction h : n - i generalizing i with
  | zero =>
    obtain rfl : i = n := by omega
    subst hl
    exact W_loop (wpS_imp (fun ex e h => by cases ex <;> first | exact h.elim | exact h) (hlast hI))
  | succ k ih =>
    subst hl
    refine W_loop (wpS_imp (fun ex e h => ?_) (hstep i (by omega) hI))
    cases ex with
    | normal => simp only at h ⊢; rw [h.1]; exact ih (i + 1) (by omega) h.2 (by omega)
    | _ => exact h
end
end Go.AM
