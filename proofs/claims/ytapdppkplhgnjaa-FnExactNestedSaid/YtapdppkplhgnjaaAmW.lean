/- Walking code: rules. -/
import Derived.Test.YtapdppkplhgnjaaAmFn
set_option linter.unusedSimpArgs false
set_option linter.unusedVariables false
set_option linter.unusedSectionVars false
namespace Go.AM
open Go

/-- It runs, and so. -/
def W (P : Program) (m : Nat) (sc : SCode) (e : Env) (Q : Exit → Env → Prop) : Prop := ∃ ex e2, Runs P m sc e ex e2 ∧ Q ex e2

section
variable {P : Program} {m : Nat} {Q : Exit → Env → Prop} {e : Env}

theorem OpW_ex {k : Nat} {so : SOpr} {e : Env} {Q : Env → Prop} (h : OpW P m k so e Q) : ∃ e2, OpW P m k so e (fun e1 => e1 = e2) ∧ Q e2 := by
  unfold OpW at h
  split at h
  · rename_i s hk
    split at h
    · rename_i v e' hx
      split at h
      · rename_i e2 hp
        exact ⟨e2, by unfold OpW; rw [hk]; simp only [hx, hp], h⟩
      · cases h
    · cases h
  · rename_i g args fr hk
    split at h
    · rename_i avs live hp
      obtain ⟨res, h1, h2, h⟩ := h
      split at h
      · rename_i v hv
        split at h
        · rename_i e2 hp2
          exact ⟨e2, by unfold OpW; rw [hk]; simp only [hp]; exact ⟨res, h1, h2, by rw [hv]; simp only [hp2]⟩, h⟩
        · cases h
      · cases h
    · cases h
theorem OpW_imp {k : Nat} {so : SOpr} {e : Env} {Q Q' : Env → Prop} (hQ : ∀ e, Q e → Q' e) (h : OpW P m k so e Q) : OpW P m k so e Q' := by
  unfold OpW at h ⊢
  split at h
  · split at h
    · split at h
      · exact hQ _ h
      · cases h
    · cases h
  · split at h
    · obtain ⟨res, h1, h2, h⟩ := h
      refine ⟨res, h1, h2, ?_⟩
      split at h
      · split at h
        · exact hQ _ h
        · cases h
      · cases h
    · cases h
theorem SRun_ex : ∀ {sos : List SOpr} {k : Nat} {e : Env} {Q : Env → Prop}, SRun P m k sos e Q → ∃ e2, SRun P m k sos e (fun e1 => e1 = e2) ∧ Q e2
  | [], k, e, Q, h => ⟨e, by simp only [SRun], by simpa only [SRun] using h⟩
  | so :: sos, k, e, Q, h => by
    simp only [SRun] at h
    split at h
    · rename_i hg
      obtain ⟨e1, h1, h2⟩ := OpW_ex h
      obtain ⟨e2, h3, h4⟩ := SRun_ex h2
      exact ⟨e2, by simp only [SRun, hg]; exact OpW_imp (fun e he => by rw [he]; exact h3) h1, h4⟩
    · rename_i s b hg
      split at h
      · rename_i b' hb
        split at h
        · rename_i hbb
          obtain ⟨e1, h1, h2⟩ := OpW_ex h
          obtain ⟨e2, h3, h4⟩ := SRun_ex h2
          exact ⟨e2, by simp only [SRun, hg, hb, if_pos hbb]; exact OpW_imp (fun e he => by rw [he]; exact h3) h1, h4⟩
        · rename_i hbb
          obtain ⟨e2, h3, h4⟩ := SRun_ex h
          exact ⟨e2, by simp only [SRun, hg, hb, if_neg hbb]; exact h3, h4⟩
      · cases h
theorem DRun_ex : ∀ {sos : List SOpr} {sees : List (List Nat)} {acc : List AV} {Q : List AV → Prop}, DRun P e sos sees acc Q → ∃ vs, DRun P e sos sees acc (fun us => us = vs) ∧ Q vs
  | [], sees, acc, Q, h => ⟨acc, by simp only [DRun], by simpa only [DRun] using h⟩
  | so :: sos, sees, acc, Q, h => by
    simp only [DRun] at h
    obtain ⟨hd, h⟩ := h
    split at h
    · rename_i hg
      obtain ⟨v, h1, h2⟩ := OpV_ex h
      obtain ⟨vs, h3, h4⟩ := DRun_ex h2
      exact ⟨vs, by simp only [DRun, hg]; exact ⟨hd, OpV_imp (fun u hu => by rw [hu]; exact h3) h1⟩, h4⟩
    · rename_i s b hg
      split at h
      · rename_i b' hb
        split at h
        · rename_i hbb
          obtain ⟨v, h1, h2⟩ := OpV_ex h
          obtain ⟨vs, h3, h4⟩ := DRun_ex h2
          exact ⟨vs, by simp only [DRun, hg, hb, if_pos hbb]; exact ⟨hd, OpV_imp (fun u hu => by rw [hu]; exact h3) h1⟩, h4⟩
        · rename_i hbb
          obtain ⟨vs, h3, h4⟩ := DRun_ex h
          exact ⟨vs, by simp only [DRun, hg, hb, if_neg hbb]; exact ⟨hd, h3⟩, h4⟩
      · cases h
theorem DRun_imp : ∀ {sos : List SOpr} {sees : List (List Nat)} {acc : List AV} {Q Q' : List AV → Prop}, (∀ vs, Q vs → Q' vs) → DRun P e sos sees acc Q → DRun P e sos sees acc Q'
  | [], sees, acc, Q, Q', hQ, h => by simp only [DRun] at h ⊢; exact hQ _ h
  | so :: sos, sees, acc, Q, Q', hQ, h => by
    simp only [DRun] at h ⊢
    obtain ⟨hd, h⟩ := h
    refine ⟨hd, ?_⟩
    split at h
    · exact OpV_imp (fun u hu => DRun_imp hQ hu) h
    · split at h
      · split at h
        · rename_i hbb; rw [if_pos hbb]; exact OpV_imp (fun u hu => DRun_imp hQ hu) h
        · rename_i hbb; rw [if_neg hbb]; exact DRun_imp hQ h
      · cases h

/-- What must be shown of code without a loop; a loop is left as it is. -/
def wpS (P : Program) (m : Nat) : SCode → Env → (Exit → Env → Prop) → Prop
  | .skip, e, Q => Q .normal e
  | .reg _ ops, e, Q => SRun P m 0 ops (e ++ deads ops.length) fun e2 => endOk m e2 = true ∧ Q .normal (e2.take m)
  | .dreg _ ops sees t, e, Q => DRun P e (ops.take t) sees [] fun vs => SRun P m t (ops.drop t) (e ++ vs ++ deads (ops.length - t)) fun e2 => endOk m e2 = true ∧ Q .normal (e2.take m)
  | .seq a b, e, Q => wpS P m a e fun ex e1 => match ex with
    | .normal => wpS P m b e1 Q
    | ex => Q ex e1
  | .cond x a b, e, Q => match ev e x with
    | some (.bool t) => (t = true → wpS P m a (dropS x e) Q) ∧ (t = false → wpS P m b (dropS x e) Q)
    | _ => False
  | .block id b, e, Q => wpS P m b e fun ex e1 => Q (outOf id ex) e1
  | .loop b, e, Q => W P m (.loop b) e Q
  | .exit id, e, Q => Q (.exit id) e
  | .ret, e, Q => Q .ret e

theorem wpS_sound : ∀ {sc : SCode} {e : Env} {Q : Exit → Env → Prop}, wpS P m sc e Q → W P m sc e Q
  | .skip, e, Q, h => ⟨_, _, .skip, h⟩
  | .reg D ops, e, Q, h => by
    obtain ⟨e2, h1, h2, h3⟩ := SRun_ex h
    exact ⟨_, _, .reg h1 h2, h3⟩
  | .dreg D ops sees t, e, Q, h => by
    obtain ⟨vs, h1, h2⟩ := DRun_ex h
    obtain ⟨e2, h3, h4, h5⟩ := SRun_ex h2
    exact ⟨_, _, .dreg (DRun_imp (fun us hu => by subst hu; exact h3) h1) h4, h5⟩
  | .seq a b, e, Q, h => by
    obtain ⟨ex, e1, h1, h2⟩ := wpS_sound (sc := a) (by simpa only [wpS] using h)
    cases ex with
    | normal =>
      obtain ⟨ex2, e2, h3, h4⟩ := wpS_sound (sc := b) h2
      exact ⟨_, _, .seq h1 h3, h4⟩
    | _ => exact ⟨_, _, .seqOut h1 (by simp), h2⟩
  | .cond x a b, e, Q, h => by
    simp only [wpS] at h
    split at h
    · rename_i t hx
      cases t
      · obtain ⟨ex, e1, h1, h2⟩ := wpS_sound (sc := b) (h.2 rfl)
        exact ⟨_, _, .cond (t := false) hx h1, h2⟩
      · obtain ⟨ex, e1, h1, h2⟩ := wpS_sound (sc := a) (h.1 rfl)
        exact ⟨_, _, .cond (t := true) hx h1, h2⟩
    · cases h
  | .block id b, e, Q, h => by
    obtain ⟨ex, e1, h1, h2⟩ := wpS_sound (sc := b) (by simpa only [wpS] using h)
    exact ⟨_, _, .block h1, h2⟩
  | .loop b, e, Q, h => h
  | .exit id, e, Q, h => ⟨_, _, .exit, h⟩
  | .ret, e, Q, h => ⟨_, _, .ret, h⟩

/-- One round. -/
theorem W_loop {b : SCode} {e : Env} {Q : Exit → Env → Prop} (h : wpS P m b e fun ex e1 => match ex with
    | .normal => W P m (.loop b) e1 Q
    | ex => Q ex e1) : W P m (.loop b) e Q := by
  obtain ⟨ex, e1, h1, h2⟩ := wpS_sound h
  cases ex with
  | normal =>
    obtain ⟨ex2, e2, h3, h4⟩ := h2
    exact ⟨_, _, .loop h1 h3, h4⟩
  | _ => exact ⟨_, _, .loopOut h1 (by simp), h2⟩

theorem W_loop' {l b : SCode} {e : Env} {Q : Exit → Env → Prop} (hl : l = .loop b) (h : wpS P m b e fun ex e1 => match ex with
    | .normal => W P m l e1 Q
    | ex => Q ex e1) : W P m l e Q := by
  subst hl; exact W_loop h
theorem wpS_loop {l b : SCode} {e : Env} {Q : Exit → Env → Prop} (hl : l = .loop b) : wpS P m l e Q = W P m l e Q := by
  subst hl; rfl

theorem W_imp {sc : SCode} {e : Env} {Q Q' : Exit → Env → Prop} (hQ : ∀ ex e, Q ex e → Q' ex e) (h : W P m sc e Q) : W P m sc e Q' := by
  obtain ⟨ex, e2, h1, h2⟩ := h
  exact ⟨ex, e2, h1, hQ _ _ h2⟩

/-- What a body must bring. -/
def EndsW (rs : List SRes) (res : AV) (ex : Exit) (e : Env) : Prop := (ex = .normal ∨ ex = .ret) ∧ (resX e rs).map tupOf = some res

theorem Fn_of_wp {g : Nat} {fn : Func} {V : List Nat} {sc : SCode} {rs : List SRes} {args : List AV} {res : AV} (hf : P.funcs[g]? = some fn) (hok : okFn P fn V sc rs args.length = true)
    (h : wpS P V.length sc (args ++ deads (V.length - args.length)) (EndsW rs res)) : Says P g args res [] := by
  obtain ⟨ex, e2, h1, h2, h3⟩ := wpS_sound h
  rw [Option.map_eq_some_iff] at h3
  exact Fn_intro hf hok ⟨ex, e2, h1, h2, h3⟩

/-- The same where the result is known in part. -/
theorem Fn_ex {g : Nat} {fn : Func} {V : List Nat} {sc : SCode} {rs : List SRes} {args : List AV} {R : AV → Prop} (hf : P.funcs[g]? = some fn) (hok : okFn P fn V sc rs args.length = true)
    (h : wpS P V.length sc (args ++ deads (V.length - args.length)) fun ex e => ∃ res, R res ∧ EndsW rs res ex e) : ∃ res, R res ∧ Says P g args res [] := by
  obtain ⟨ex, e2, h1, res, hR, h2, h3⟩ := wpS_sound h
  rw [Option.map_eq_some_iff] at h3
  exact ⟨res, hR, Fn_intro hf hok ⟨ex, e2, h1, h2, h3⟩⟩
end
end Go.AM
