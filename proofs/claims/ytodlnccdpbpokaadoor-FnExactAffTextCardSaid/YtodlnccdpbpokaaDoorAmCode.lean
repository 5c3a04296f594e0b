/- Regions and code: what must be shown of the abstract machine, and that it suffices. -/
import Derived.Test.YtodlnccdpbpokaaDoorAmBack
set_option linter.unusedSimpArgs false
set_option linter.unusedVariables false
set_option linter.unusedSectionVars false
namespace Go.AM
open Go

/-- What a body's walk began with. -/
structure Cx where
  w0 : World
  Φ0 : Nat → Prop
  fa : Cnt
  σ : Nat → Value

structure St (P : Program) (C : Cx) (ν : List Nat) (n : Nat) (e : Env) (ρ : List Value) (tmps : Array Value) (w : World) (Φ : Nat → Prop) (f : Cnt) : Prop where
  rel : CR P w Φ C.σ ρ e ρ f
  lk : LK ν ρ e tmps
  inv : Inv P w Φ f
  ext : Ext C.w0 w C.fa
  sub : ∀ b, C.Φ0 b → Φ b
  new : ∀ b, Φ b → C.Φ0 b ∨ 1 ≤ C.fa b ∨ C.w0.heap.size ≤ b
  own : ∀ b, 1 ≤ f b → 1 ≤ C.fa b ∨ C.w0.heap.size ≤ b
  size : tmps.size = n

theorem Ext.trans {w0 w w' : World} {fa f : Cnt} (h : Ext w0 w fa) (h' : Ext w w' f) (ho : ∀ b, 1 ≤ f b → 1 ≤ fa b ∨ w0.heap.size ≤ b) : Ext w0 w' fa :=
  ⟨h'.os.trans h.os, h'.tape.trans h.tape, h'.output.trans h.output, Nat.le_trans h.size h'.size, fun b hb h0 => by
    rw [h'.block b (Nat.lt_of_lt_of_le hb h.size) (by
      have := ho b
      by_cases h1 : 1 ≤ f b
      · rcases this h1 with h2 | h2 <;> omega
      · omega)]
    exact h.block b hb h0⟩

section
variable {P : Program} {C : Cx} {ν : List Nat} {n : Nat} {e : Env} {ρ : List Value} {tmps : Array Value} {w : World} {Φ : Nat → Prop} {f : Cnt}

theorem nodup_inj : ∀ {l : List Nat} {i j t : Nat}, l.Nodup → l[i]? = some t → l[j]? = some t → i = j
  | [], i, j, t, _, h, _ => by simp at h
  | x :: l, 0, 0, t, _, _, _ => rfl
  | x :: l, 0, j + 1, t, hn, h, h' => by
    simp at h h'; subst h
    exact absurd (List.mem_of_getElem? h') (List.nodup_cons.1 hn).1
  | x :: l, i + 1, 0, t, hn, h, h' => by
    simp at h h'; subst h'
    exact absurd (List.mem_of_getElem? h) (List.nodup_cons.1 hn).1
  | x :: l, i + 1, j + 1, t, hn, h, h' => by
    simp at h h'
    rw [nodup_inj (List.nodup_cons.1 hn).2 h h']

theorem LK_set {d t : Nat} {cv : Value} (hl : LK ν ρ e tmps) (hν : ν.Nodup) (hd : ν[d]? = some t) (ht : t < tmps.size) (e' : Env) : LK ν (ρ.set d cv) e' (tmps.setIfInBounds t cv) := by
  intro j u hj
  by_cases hjd : d = j
  · subst hjd
    rw [List.getElem?_set] at hj
    simp at hj
    obtain ⟨_, rfl⟩ := hj
    exact .inr ⟨t, hd, by simp [ht]⟩
  · rw [List.getElem?_set_ne hjd] at hj
    rcases hl j u hj with rfl | ⟨t', h1, h2⟩
    · exact .inl rfl
    · refine .inr ⟨t', h1, ?_⟩
      have hne : t ≠ t' := by
        rintro rfl
        exact hjd (nodup_inj hν hd h1)
      rw [← h2]
      simp [Array.getD_eq_getD_getElem?, Array.getElem?_setIfInBounds_ne hne]

theorem St_inv {w' : World} {v : AV} {cv : Value} {e' : Env} (hst : St P C ν n e ρ tmps w Φ f) {f1 f2 : Cnt} (hext : Ext w w' f)
    (hsep : ∀ b, f1 b + f2 b ≤ 1) (hown : ∀ b, 1 ≤ f1 b + f2 b → (1 ≤ f b ∨ w.heap.size ≤ b) ∧ b < w'.heap.size) {g : Cnt} (hg : ∀ b, g b ≤ f1 b + f2 b) :
    Inv P w' Φ g ∧ Ext C.w0 w' C.fa ∧ (∀ b, 1 ≤ g b → 1 ≤ C.fa b ∨ C.w0.heap.size ≤ b) := by
  refine ⟨⟨fun b => Nat.le_trans (hg b) (hsep b), fun b hb => (hown b (Nat.le_trans hb (hg b))).2, fun b hb => Nat.lt_of_lt_of_le (hst.inv.fz b hb) hext.size, fun b hb => ?_, tabs_keep hst.inv.tab (fun b hb => hext.block b (hst.inv.fz b hb) (hst.inv.apart b hb)) (fun _ h => h)⟩, hst.ext.trans hext hst.own, fun b hb => ?_⟩
  · by_cases h1 : 1 ≤ g b
    · rcases (hown b (Nat.le_trans h1 (hg b))).1 with h2 | h2
      · have := hst.inv.apart b hb; omega
      · have := hst.inv.fz b hb; omega
    · omega
  · rcases (hown b (Nat.le_trans hb (hg b))).1 with h2 | h2
    · exact hst.own b h2
    · exact .inr (Nat.le_trans hst.ext.size h2)

theorem Inv.le {P : Program} {w : World} {Φ : Nat → Prop} {f g : Cnt} (h : Inv P w Φ f) (hg : ∀ b, g b ≤ f b) : Inv P w Φ g :=
  ⟨fun b => Nat.le_trans (hg b) (h.sep b), fun b hb => h.lt b (Nat.le_trans hb (hg b)), h.fz, fun b hb => by have := h.apart b hb; have := hg b; omega, h.tab⟩

/-- A value without a reference into slot j does not look at slot j. -/
theorem VR_refOk {P : Program} {w : World} {Φ : Nat → Prop} {σ : Nat → Value} {ρ : List Value} {j : Nat} {x : Value} {c : AV} {v : Value} {f : Cnt} (h : VR P w Φ σ ρ c v f) (hc : refOk j c = true) : VR P w Φ σ (ρ.set j x) c v f := by
  have other : isRef c = false → VR P w Φ σ (ρ.set j x) c v f := fun hr => stab w Φ (ρ.set j x) (fun _ _ => rfl) (fun _ h => h) c v f (isRef_hr h hr) (fun _ _ => rfl) h
  cases c with
  | ps r p o =>
    simp only [refOk, bne_iff_ne] at hc
    simp only [VR] at h ⊢
    rw [rowOf_set hc]; exact h
  | pp r p o =>
    simp only [refOk, bne_iff_ne] at hc
    simp only [VR] at h ⊢
    rw [rowOf_set hc]; exact h
  | pf r p o =>
    simp only [refOk, bne_iff_ne] at hc
    simp only [VR] at h ⊢
    rw [rowOf_set hc]; exact h
  | _ => exact other (by simpa [refOk] using hc)
theorem CR_refOk {P : Program} {w : World} {Φ : Nat → Prop} {σ : Nat → Value} {ρ : List Value} {j : Nat} {x : Value} : ∀ {cs : List AV} {vs : List Value} {f : Cnt}, CR P w Φ σ ρ cs vs f → cs.all (refOk j) = true → CR P w Φ σ (ρ.set j x) cs vs f
  | [], vs, f, h, _ => by simpa only [CR] using h
  | c :: cs, vs, f, h, ha => by
    simp only [List.all_cons, Bool.and_eq_true] at ha
    simp only [CR] at h ⊢
    obtain ⟨v, vs', f1, f2, e, h1, h2, hb⟩ := h
    exact ⟨v, vs', f1, f2, e, VR_refOk h1 ha.1, CR_refOk h2 ha.2, hb⟩
theorem VR_valOk {P : Program} {w : World} {Φ : Nat → Prop} {σ : Nat → Value} {ρ : List Value} {j : Nat} {x : Value} {c : AV} {v : Value} {f : Cnt} (h : VR P w Φ σ ρ c v f) (hc : valOk j c = true) : VR P w Φ σ (ρ.set j x) c v f := by
  cases c with
  | agg cs => simp only [VR] at h ⊢; obtain ⟨arr, e, h⟩ := h; exact ⟨arr, e, CR_refOk h hc⟩
  | tup sh cs => simp only [VR] at h ⊢; obtain ⟨arr, e, hs, h⟩ := h; exact ⟨arr, e, hs, CR_refOk h hc⟩
  | _ => exact VR_refOk h hc
theorem killJ_rel {P : Program} {w : World} {Φ : Nat → Prop} {σ : Nat → Value} {ρ : List Value} {j : Nat} {x : Value} : ∀ {e : List AV} {vs : List Value} {f : Cnt}, CR P w Φ σ ρ e vs f → ∃ f', CR P w Φ σ (ρ.set j x) (killJ j e) vs f' ∧ ∀ b, f' b ≤ f b
  | [], vs, f, h => ⟨f, by simpa [killJ, CR] using h, fun b => Nat.le_refl _⟩
  | v :: e, vs, f, h => by
    simp only [CR] at h
    obtain ⟨cv, vs', f1, f2, rfl, h1, h2, hf⟩ := h
    obtain ⟨f', k1, k2⟩ := killJ_rel (j := j) (x := x) h2
    simp only [killJ, List.map_cons]
    by_cases hr0 : valOk j v = true
    · rw [if_pos hr0]
      exact ⟨_, CR_cons (VR_valOk h1 hr0) k1, fun b => by show f1 b + f' b ≤ f b; have := hf b; have := k2 b; omega⟩
    · rw [if_neg hr0]
      exact ⟨_, CR_cons (f1 := fun _ => 0) (by unfold VR; exact fun _ => rfl) k1, fun b => by show 0 + f' b ≤ f b; have := hf b; have := k2 b; omega⟩
theorem killJ_length (j : Nat) (e : Env) : (killJ j e).length = e.length := by simp [killJ]
/-- The slots behind an operation. -/
theorem St_put {w' : World} {Φ' : Nat → Prop} {v : AV} {cv : Value} {e' e2 : Env} {m k : Nat} {dst : Option Nat} {odst : Option Nat} {f1 f2 : Cnt} (hlk : LK ν ρ e tmps) (hsize : tmps.size = n)
    (hv : VR P w' Φ' C.σ ρ v cv f1) (he : CR P w' Φ' C.σ ρ e' ρ f2) (hinv : Inv P w' Φ' (fun b => f1 b + f2 b)) (hext : Ext C.w0 w' C.fa) (hsub : ∀ b, C.Φ0 b → Φ' b) (hnew : ∀ b, Φ' b → C.Φ0 b ∨ 1 ≤ C.fa b ∨ C.w0.heap.size ≤ b)
    (hown : ∀ b, 1 ≤ f1 b + f2 b → 1 ≤ C.fa b ∨ C.w0.heap.size ≤ b) (hν : ν.Nodup) (hp : putV m k dst v e' = some e2)
    (hund : ρ[m + k]? = some unk) (hd : (dst = none ∧ ((odst = none ∧ cv = unk) ∨ ∃ t, odst = some t ∧ ν[m + k]? = some t ∧ t < n)) ∨ ∃ j t, dst = some j ∧ odst = some t ∧ ν[j]? = some t ∧ t < n ∧ j < ρ.length ∧ j ≠ m + k) :
    ∃ ρ2 g, St P C ν n e2 ρ2 (match odst with | some t => tmps.setIfInBounds t cv | none => tmps) w' Φ' g ∧ ρ2.length = ρ.length ∧ (∀ i, i ≠ m + k → m ≤ i → ρ2[i]? = ρ[i]?) := by
  have hel : e'.length = ρ.length := CR_length he
  have hlen : m + k < ρ.length := (List.getElem?_eq_some_iff.1 hund).1
  rcases hd with ⟨rfl, hd⟩ | ⟨j, t, rfl, rfl, hj, ht, hjl, hjk⟩
  · simp only [putV, Option.some.injEq] at hp
    subst hp
    obtain ⟨g, hg1, hg2⟩ := CR_set (CR_known (x := cv) hund _ _ _ he) (VR_known (x := cv) hund _ _ _ hv) (i := m + k) (by omega)
    refine ⟨ρ.set (m + k) cv, g, ⟨hg1, ?_, hinv.le hg2, hext, hsub, hnew, fun b hb => hown b (Nat.le_trans hb (hg2 b)), ?_⟩, by simp, fun i hi _ => by rw [List.getElem?_set_ne (by omega)]⟩
    · rcases hd with ⟨rfl, rfl⟩ | ⟨t, rfl, h1, h2⟩
      · intro j u hj
        by_cases hjd : m + k = j
        · subst hjd
          rw [List.getElem?_set] at hj
          simp at hj
          exact .inl hj.2.symm
        · rw [List.getElem?_set_ne hjd] at hj
          exact hlk j u hj
      · exact LK_set hlk hν h1 (by rw [hsize]; exact h2) _
    · rcases hd with ⟨rfl, rfl⟩ | ⟨t, rfl, h1, h2⟩
      · exact hsize
      · simpa using hsize
  · simp only [putV] at hp
    split at hp
    · rename_i hc
      obtain ⟨hjm, hrf⟩ := hc
      simp only [Option.some.injEq] at hp
      subst hp
      obtain ⟨f2', k1, k2⟩ := killJ_rel (j := j) (x := cv) he
      have hvr : hr v = false := hasRef_hr hv hrf
      have s1 := stab w' Φ' (ρ.set j cv) (fun _ _ => rfl) (fun _ h => h) v cv f1 hvr (fun _ _ => rfl) hv
      obtain ⟨g, hg1, hg2⟩ := CR_set k1 s1 (i := j) (by rw [killJ_length]; omega)
      have hle : ∀ b, g b ≤ f1 b + f2 b := fun b => by have := hg2 b; have := k2 b; omega
      refine ⟨ρ.set j cv, g, ⟨hg1, LK_set hlk hν hj (by rw [hsize]; exact ht) _, hinv.le hle, hext, hsub, hnew, fun b hb => hown b (Nat.le_trans hb (hle b)), by simpa using hsize⟩, by simp, fun i hi hmi => by rw [List.getElem?_set_ne (by omega)]⟩
    · cases hp
end

/-! ### Regions -/

/-- What is to be shown of an operation. -/
def OpW (P : Program) (m k : Nat) (so : SOpr) (e : Env) (Q : Env → Prop) : Prop :=
  match so.k with
  | .op s => match opx e s with
    | some (v, e') => match putV m k so.dst v e' with
      | some e2 => Q e2
      | none => False
    | none => False
  | .call g args fr => match prepX e args with
    | some (avs, live) => ∃ res, Says P g avs res [] ∧ (live = true → noFrz res = true) ∧
        match (if fr then frz res else some res) with
        | some v => match putV m k so.dst v e with
          | some e2 => Q e2
          | none => False
        | none => False
    | none => False
  | .callv x args => match calleeC e x, prepX e args with
    | some (g, caps), some (avs, live) => plainFn P g = true ∧ ∃ res, Says P g (avs ++ caps) res [] ∧ (live = true → noFrz res = true) ∧
        match putV m k so.dst res e with
        | some e2 => Q e2
        | none => False
    | _, _ => False
  | .callm x args => match give1 e 1 args with
    | some (e1, b1, vs) => match calleeM e1 (1 + nB b1) x with
      | some (g, caps, e2, b2) => match give2 e2 args vs with
        | some (avs, live) => plainFn P g = true ∧ bksOk e2 (b1 ++ b2) = true ∧ ∃ res outs, Says P g (avs ++ caps) res (num 1 outs) ∧ outOk (nB (b1 ++ b2)) live res outs = true ∧
            match putBks (killE e2) (b1 ++ b2) outs with
            | some e3 => match putV m k so.dst res e3 with
              | some e4 => Q e4
              | none => False
            | none => False
        | none => False
      | none => False
    | none => False

/-- What an operation yields that is not wanted. -/
abbrev skipV : AV := .tup [] []
/-- The slots where an operation is not wanted. -/
def skE (m k : Nat) (e : Env) : SK → Env
  | .op (.store _ _ _ _) => e.set (m + k) .dead
  | _ => e.set (m + k) skipV
/-- What is known of an operation that is not wanted. -/
def skV : SK → AV
  | .op (.store _ _ _ _) => .dead
  | _ => skipV
theorem skE_eq {m k : Nat} {e : Env} {sk : SK} : skE m k e sk = e.set (m + k) (skV sk) := by
  unfold skE skV
  split <;> simp_all
/-- Is an operation wanted: what its guard holds. -/
def wantX (b : Bool) : Option AV → Option Bool
  | some (.bool b') => some (b' == b)
  | some (.tup [] []) => some false
  | _ => none
def SRun (P : Program) (m : Nat) : Nat → List SOpr → Env → (Env → Prop) → Prop
  | _, [], e, Q => Q e
  | k, so :: rest, e, Q => match so.guard with
    | none => OpW P m k so e fun e' => SRun P m (k + 1) rest e' Q
    | some (s, b) => match wantX b e[s]? with
      | some true => OpW P m k so e fun e' => SRun P m (k + 1) rest e' Q
      | some false => SRun P m (k + 1) rest (skE m k e so.k) Q
      | none => False

def okOpr (P : Program) (V D : List Nat) (n k : Nat) (ops : Array Oper) (o : Oper) (so : SOpr) : Bool :=
  (match so.dst with
   | none => (match o.dst with | some t => D[k]? == some t && decide (t < n) | none => (match so.k with | .op (.store _ _ _ _) => true | _ => false))
   | some j => decide (j < V.length) && (match o.dst with | some t => V[j]? == some t && decide (t < n) | none => false) && so.guard.isNone) &&
  (match o.guard, so.guard with
   | none, none => true
   | some (j, b), some (s, b') => b == b' && s == V.length + j && decide (j < k) && (match ops[j]? with | some oj => (match oj.dst with | some t => D[j]? == some t && decide (t < n) | none => false) | none => false)
   | _, _ => false) &&
  (match so.k with
   | .op s => okOp P (V ++ D) o.op s
   | .call g args _ => (match o.op with
     | .call c => (match c.callee with
       | .value (.func g') => g == g' && plainFn P g && okXs (V ++ D) c.args.toList args
       | _ => false)
     | _ => false)
   | .callv x args => (match o.op with
     | .call c => (match c.callee with
       | .value y => okX (V ++ D) y x && okXs (V ++ D) c.args.toList args
       | _ => false)
     | _ => false)
   | .callm x args => (match o.op with
     | .call c => (match c.callee with
       | .value y => okX (V ++ D) y x && okXs (V ++ D) c.args.toList (args.map (·.1))
       | _ => false)
     | _ => false))
def okOprs (P : Program) (V D : List Nat) (n : Nat) (ops : Array Oper) : Nat → List Oper → List SOpr → Bool
  | _, [], [] => true
  | k, o :: os, so :: sos => okOpr P V D n k ops o so && okOprs P V D n ops (k + 1) os sos
  | _, _, _ => false

section
variable {P : Program} {C : Cx} {V D : List Nat} {n : Nat}

/-- The world behind a call that wrote nothing of ours: the slots stand as they did. -/
theorem call_step {ν : List Nat} {e : Env} {ρ : List Value} {tmps : Array Value} {w : World} {Φ : Nat → Prop} {f : Cnt} (hst : St P C ν n e ρ tmps w Φ f) {g : Nat} {cargs : List Value} {avs : List AV} {live : Bool} {res : AV}
    (hx : ∀ (Φ' : Nat → Prop), (∀ b, Φ b → Φ' b) → (live = true → ∀ b, 1 ≤ f b → Φ' b) → hrs avs = false ∧ ∀ (ρ' : List Value), CR P w Φ' C.σ ρ' avs cargs (fun _ => 0)) (hfn : Says P g avs res []) (hnf : live = true → noFrz res = true) :
    Calls P g cargs.toArray w fun en w' => ∃ (cv : Value) (Φ' : Nat → Prop) (f1 : Cnt), en = .returned cv ∧ Ext w w' (fun _ => 0) ∧ VR P w' Φ' C.σ ρ res cv f1 ∧ hr res = false ∧ CR P w' Φ' C.σ ρ e ρ f ∧
      Inv P w' Φ' (fun b => f1 b + f b) ∧ (∀ b, 1 ≤ f1 b → w.heap.size ≤ b) ∧ (∀ b, Φ b → Φ' b) ∧ (∀ b, Φ' b → Φ b ∨ w.heap.size ≤ b) := by
  cases live with
  | false =>
    obtain ⟨m1, m2⟩ := hx Φ (fun _ h => h) (fun h => by cases h)
    refine (hfn w Φ C.σ _ (fun _ => 0) (by simpa using m2 []) m1 ⟨fun b => by simp, fun b h => by simp at h, hst.inv.fz, fun b _ => rfl, hst.inv.tab⟩).mono ?_
    rintro en w' ⟨cv, Φ', f1, f2, he, hext, hs1, hs2, hv, hhr, ho, _, hinv, hnew⟩
    simp only [List.map_nil, CR] at ho
    have hΦ' : ∀ b, Φ' b → Φ b ∨ w.heap.size ≤ b := fun b hb => by rcases hs2 b hb with h | h | h; exact .inl h; simp at h; exact .inr h
    have hblk : ∀ b, b < w.heap.size → w'.heap[b]? = w.heap[b]? := fun b hb => hext.block b hb rfl
    have hf1 : ∀ b, 1 ≤ f1 b → w.heap.size ≤ b := fun b hb => by rcases hnew b (by omega) with h | h; simp at h; exact h
    have hrel' := CR_ext2 hblk hst.inv.fz _ _ _ (fun b hb => hst.inv.lt b hb) hst.rel
    have hrel : CR P w' Φ' C.σ ρ e ρ f := by
      have all : ∀ (cs : List AV) (vs : List Value) (f : Cnt), CR P w' Φ C.σ ρ cs vs f → CR P w' Φ' C.σ ρ cs vs f := by
        intro cs
        induction cs with
        | nil => intro vs f h; simpa only [CR] using h
        | cons c cs ih =>
          intro vs f h
          simp only [CR] at h ⊢
          obtain ⟨v, vs', f1, f2, e, h1, h2, hb⟩ := h
          refine ⟨v, vs', f1, f2, e, stab2 w' Φ' ρ (fun _ _ => rfl) hs1 ?_ ?_ ?_ _ _ _ (fun _ _ => rfl) h1, ih _ _ h2, hb⟩
          · intro r p o cv f h; simpa only [VR] using h
          · intro r p o cv f h; simpa only [VR] using h
          · intro r p o cv f h; simpa only [VR] using h
      exact all _ _ _ hrel'
    refine ⟨cv, Φ', f1, he, hext, stab w' Φ' ρ (fun _ _ => rfl) (fun _ h => h) _ _ _ hhr (fun _ _ => rfl) hv, hhr, hrel, ?_, hf1, hs1, hΦ'⟩
    refine ⟨fun b => ?_, fun b hb => ?_, hinv.fz, fun b hb => ?_, hinv.tab⟩
    · show f1 b + f b ≤ 1
      have := hinv.sep b
      have := hst.inv.sep b
      by_cases h1 : 1 ≤ f1 b
      · have := hf1 b h1
        have : ¬ 1 ≤ f b := fun h => by have := hst.inv.lt b h; omega
        have : f1 b + f2 b ≤ 1 := hinv.sep b
        omega
      · omega
    · have hb' : 1 ≤ f1 b + f b := hb
      by_cases h1 : 1 ≤ f1 b
      · exact hinv.lt b (by show 1 ≤ f1 b + f2 b; omega)
      · exact Nat.lt_of_lt_of_le (hst.inv.lt b (by omega)) hext.size
    · show f1 b + f b = 0
      have : f1 b + f2 b = 0 := hinv.apart b hb
      rcases hΦ' b hb with h | h
      · have := hst.inv.apart b h; omega
      · have : ¬ 1 ≤ f b := fun h' => by have := hst.inv.lt b h'; omega
        omega
  | true =>
    have hnf := hnf rfl
    obtain ⟨m1, m2⟩ := hx (fun b => Φ b ∨ 1 ≤ f b) (fun _ h => .inl h) (fun _ b h => .inr h)
    refine (hfn w (fun b => Φ b ∨ 1 ≤ f b) C.σ _ (fun _ => 0) (by simpa using m2 []) m1 ⟨fun b => by simp, fun b h => by simp at h, fun b hb => by rcases hb with h | h; exact hst.inv.fz b h; exact hst.inv.lt b h, fun b _ => rfl, tabs_keep hst.inv.tab (fun _ _ => rfl) (fun _ h => .inl h)⟩).mono ?_
    rintro en w' ⟨cv, Φ', f1, f2, he, hext, hs1, hs2, hv, hhr, ho, _, hinv, hnew⟩
    have hblk : ∀ b, b < w.heap.size → w'.heap[b]? = w.heap[b]? := fun b hb => hext.block b hb rfl
    have hf1 : ∀ b, 1 ≤ f1 b → w.heap.size ≤ b := fun b hb => by rcases hnew b (by omega) with h | h; simp at h; exact h
    have hrel' := CR_ext2 hblk hst.inv.fz _ _ _ (fun b hb => hst.inv.lt b hb) hst.rel
    have hv' := noFrz_any Φ _ _ _ hnf hv
    refine ⟨cv, Φ, f1, he, hext, stab w' Φ ρ (fun _ _ => rfl) (fun _ h => h) _ _ _ hhr (fun _ _ => rfl) hv', hhr, hrel', ?_, hf1, fun _ h => h, fun _ h => .inl h⟩
    refine ⟨fun b => ?_, fun b hb => ?_, fun b hb => Nat.lt_of_lt_of_le (hst.inv.fz b hb) hext.size, fun b hb => ?_, tabs_keep hst.inv.tab (fun b hb => hblk b (hst.inv.fz b hb)) (fun _ h => h)⟩
    · show f1 b + f b ≤ 1
      have : f1 b + f2 b ≤ 1 := hinv.sep b
      have := hst.inv.sep b
      by_cases h1 : 1 ≤ f1 b
      · have := hf1 b h1
        have : ¬ 1 ≤ f b := fun h => by have := hst.inv.lt b h; omega
        omega
      · omega
    · have hb' : 1 ≤ f1 b + f b := hb
      by_cases h1 : 1 ≤ f1 b
      · exact hinv.lt b (by show 1 ≤ f1 b + f2 b; omega)
      · exact Nat.lt_of_lt_of_le (hst.inv.lt b (by omega)) hext.size
    · show f1 b + f b = 0
      have h0 := hst.inv.apart b hb
      have : ¬ 1 ≤ f1 b := fun h => by have := hf1 b h; have := hst.inv.fz b hb; omega
      omega

theorem num_fst : ∀ (s : Nat) (vs : List AV), (num s vs).map (·.2) = vs
  | _, [] => rfl
  | s, v :: vs => by simp [num, num_fst (s + 1) vs]
theorem num_snd {σ' : Nat → Value} : ∀ {s : Nat} {vs : List AV} {ks : List Value}, Stm σ' s ks → vs.length = ks.length → (num s vs).map (fun p => σ' p.1) = ks
  | _, [], [], _, _ => rfl
  | s, v :: vs, k :: ks, h, hl => by
    simp only [num, List.map_cons]
    have h0 := h 0 k rfl
    rw [Nat.add_zero] at h0
    rw [h0, num_snd (s := s + 1) (fun i u hi => by have := h (i + 1) u (by simpa using hi); rwa [show s + 1 + i = s + (i + 1) by omega]) (by simpa using hl)]
  | _, [], _ :: _, _, hl => by simp at hl
  | _, _ :: _, [], _, hl => by simp at hl
theorem noFrzs_any {w : World} {Φ : Nat → Prop} {σ : Nat → Value} {ρ : List Value} (Φ' : Nat → Prop) : ∀ {cs : List AV} {vs : List Value} {f : Cnt}, noFrzs cs = true → CR P w Φ σ ρ cs vs f → CR P w Φ' σ ρ cs vs f
  | [], vs, f, _, h => by simpa only [CR] using h
  | c :: cs, vs, f, hn, h => by
    simp only [noFrzs, Bool.and_eq_true] at hn
    simp only [CR] at h ⊢
    obtain ⟨v, vs', f1, f2, e, h1, h2, hb⟩ := h
    exact ⟨v, vs', f1, f2, e, noFrz_any Φ' _ _ _ hn.1 h1, noFrzs_any Φ' hn.2 h2, hb⟩

/-- The world behind a call that was given something. -/
theorem callm_step {ν : List Nat} {e e1 e2 e3 : Env} {ρ : List Value} {tmps : Array Value} {w : World} {Φ : Nat → Prop} {f : Cnt} (hst : St P C ν n e ρ tmps w Φ f) {xs : List Operand} {y : Operand} {x : Opd} {args : List (Opd × Bool)} {b1 b2 : List Bk} {vs : List (Option AV)}
    {g : Nat} {caps avs outs : List AV} {live : Bool} {res : AV} (hx : okXs ν xs (args.map (·.1)) = true) (hxy : okX ν y x = true) (h1 : give1 e 1 args = some (e1, b1, vs)) (h2 : calleeM e1 (1 + nB b1) x = some (g, caps, e2, b2)) (h3 : give2 e2 args vs = some (avs, live))
    (hbk : bksOk e2 (b1 ++ b2) = true) (hfn : Says P g (avs ++ caps) res (num 1 outs)) (hok : outOk (nB (b1 ++ b2)) live res outs = true) (hput : putBks (killE e2) (b1 ++ b2) outs = some e3) :
    ∃ cs : Array Value, Act.eval ⟨tmps, []⟩ y = .func (.func g) #[] cs ∧ Calls P g (xs.map (Act.eval ⟨tmps, []⟩) ++ cs.toList).toArray w fun en w' => ∃ (cv : Value) (Φ' : Nat → Prop) (f1 f' : Cnt), en = .returned cv ∧ Ext w w' f ∧ VR P w' Φ' C.σ ρ res cv f1 ∧ hr res = false ∧
      CR P w' Φ' C.σ ρ e3 ρ f' ∧ Inv P w' Φ' (fun b => f1 b + f' b) ∧ (∀ b, 1 ≤ f1 b + f' b → 1 ≤ f b ∨ w.heap.size ≤ b) ∧ (∀ b, Φ b → Φ' b) ∧ (∀ b, Φ' b → Φ b ∨ 1 ≤ f b ∨ w.heap.size ≤ b) := by
  obtain ⟨f1, f2, ks, q1, q2, q3, q4, q5⟩ := give1_rel (a := ⟨tmps, []⟩) hst.rel hst.lk hst.inv.sep hx h1
  obtain ⟨cs, hev, m1, m2, ms, p1, p2, p3, p4, p5, p6⟩ := calleeM_rel (a := ⟨tmps, []⟩) q2 (fun j cv hj => hst.lk j cv hj) (fun b => by have := hst.inv.sep b; have := q3 b; omega) hxy h2
  refine ⟨cs, hev, ?_⟩
  have hff : ∀ b, f b = f1 b + m1 b + m2 b := fun b => by have := q3 b; have := p5 b; omega
  have hbr := BkR_append q1 p1
  have hlen := BkR_length hbr
  simp only [outOk, Bool.and_eq_true, beq_iff_eq, Bool.or_eq_true, Bool.not_eq_true'] at hok
  obtain ⟨⟨⟨hol, hrs0⟩, hin⟩, hlv⟩ := hok
  -- the stamps
  let σ' : Nat → Value := fun s => (ks ++ ms).getD (s - 1) undef
  have hσ : Stm σ' 1 (ks ++ ms) := fun i v hi => by
    show (ks ++ ms).getD (1 + i - 1) undef = v
    rw [show 1 + i - 1 = i by omega, List.getD_eq_getElem?_getD, hi]; rfl
  have hσ2 : Stm σ' (1 + nB b1) ms := by have := hσ.right; rwa [BkR_length q1] at this
  have hlive : ∃ Φ1 : Nat → Prop, (∀ b, Φ b → Φ1 b) ∧ (live = true → ∀ b, 1 ≤ m2 b → Φ1 b) ∧ (∀ b, Φ1 b → Φ b ∨ (live = true ∧ 1 ≤ m2 b)) := by
    cases live with
    | false => exact ⟨Φ, fun _ h => h, (fun h => by cases h), fun b h => .inl h⟩
    | true => exact ⟨fun b => Φ b ∨ 1 ≤ m2 b, fun b h => .inl h, fun _ b h => .inr h, fun b h => h.imp id (fun h => ⟨rfl, h⟩)⟩
  obtain ⟨Φ1, hs1, hs2, hs3⟩ := hlive
  obtain ⟨a1, a2⟩ := q5 e2 m2 Φ1 avs live σ' p4 (fun b => by have := hst.inv.sep b; have := hff b; omega) hs1 h3 hs2 hσ.left
  have a3 := CR_stab w Φ1 [] (fun _ _ => rfl) hs1 _ _ _ p3 (fun _ _ => rfl) (p2 σ' hσ2)
  have hinv1 : Inv P w Φ1 (fun b => f1 b + m1 b) := by
    refine ⟨fun b => ?_, fun b hb => ?_, fun b hb => ?_, fun b hb => ?_, tabs_keep hst.inv.tab (fun _ _ => rfl) hs1⟩
    · show f1 b + m1 b ≤ 1
      have := hst.inv.sep b; have := hff b; omega
    · have hb' : 1 ≤ f1 b + m1 b := hb
      exact hst.inv.lt b (by have := hff b; omega)
    · rcases hs3 b hb with h | ⟨_, h⟩
      · exact hst.inv.fz b h
      · exact hst.inv.lt b (by have := hff b; omega)
    · show f1 b + m1 b = 0
      rcases hs3 b hb with h | ⟨_, h⟩
      · have := hst.inv.apart b h; have := hff b; omega
      · have := hst.inv.sep b; have := hff b; omega
  refine (hfn w Φ1 σ' _ (fun b => f1 b + m1 b) (by simpa using CR_append a1 a3) (by rw [hrs_append, a2, p3]; rfl) hinv1).mono ?_
  rintro en w' ⟨cv, Φ2, r1, r2, rfl, hext, t1, t2, hv, hhr, ho, hhro, hinv, hnw⟩
  rw [num_fst] at ho hhro
  rw [num_snd hσ (by rw [hol, hlen])] at ho
  -- what did not change
  have hblk : ∀ b, 1 ≤ m2 b → w'.heap[b]? = w.heap[b]? := fun b hb => hext.block b (hst.inv.lt b (by have := hff b; omega)) (by
    show f1 b + m1 b = 0
    have := hst.inv.sep b; have := hff b; omega)
  have hblk2 : ∀ b, Φ b → w'.heap[b]? = w.heap[b]? := fun b hb => hext.block b (hst.inv.fz b hb) (by
    show f1 b + m1 b = 0
    have := hst.inv.apart b hb; have := hff b; omega)
  have hbr2 := BkR_stab p4 hblk hbk hbr
  obtain ⟨k2, kc, kle, khr⟩ := killE_rel p4
  -- which blocks are frozen behind it
  have hΦ3 : ∃ Φ3 : Nat → Prop, (∀ b, Φ b → Φ3 b) ∧ (∀ b, Φ3 b → Φ b ∨ 1 ≤ f b ∨ w.heap.size ≤ b) ∧ (∀ b, Φ3 b → Φ2 b) ∧ (∀ b, Φ3 b → m2 b = 0) ∧ VR P w' Φ3 σ' [] res cv r1 ∧ CR P w' Φ3 σ' [] outs (ks ++ ms) r2 := by
    cases live with
    | false =>
      refine ⟨Φ2, fun b hb => t1 b (hs1 b hb), fun b hb => ?_, fun _ h => h, fun b hb => ?_, hv, ho⟩
      · rcases t2 b hb with h | h | h
        · rcases hs3 b h with h | ⟨h, _⟩
          · exact .inl h
          · cases h
        · have h' : 1 ≤ f1 b + m1 b := h
          exact .inr (.inl (by have := hff b; omega))
        · exact .inr (.inr h)
      · rcases t2 b hb with h | h | h
        · rcases hs3 b h with h | ⟨h, _⟩
          · have := hst.inv.apart b h; have := hff b; omega
          · cases h
        · have h' : 1 ≤ f1 b + m1 b := h
          have := hst.inv.sep b; have := hff b; omega
        · have : ¬ 1 ≤ m2 b := fun h' => by have := hst.inv.lt b (by have := hff b; omega); omega
          omega
    | true =>
      rcases hlv with h | ⟨h4, h5⟩
      · cases h
      · exact ⟨Φ, fun _ h => h, fun b h => .inl h, fun b h => t1 b (hs1 b h), fun b hb => by have := hst.inv.apart b hb; have := hff b; omega, noFrz_any Φ _ _ _ h4 hv, noFrzs_any Φ h5 ho⟩
  obtain ⟨Φ3, w1, w2, w3, w4, w5, w6⟩ := hΦ3
  have hsepo : ∀ b, k2 b + r2 b ≤ 1 ∧ k2 b + (r1 b + r2 b) ≤ 1 := by
    intro b
    have := kle b
    have h8 : r1 b + r2 b ≤ 1 := hinv.sep b
    by_cases h7 : 1 ≤ k2 b
    · have h9 : ¬ 1 ≤ r1 b + r2 b := fun h => by
        rcases hnw b h with h | h
        · have h' : 1 ≤ f1 b + m1 b := h
          have := hst.inv.sep b; have := hff b; omega
        · have := hst.inv.lt b (by have := hff b; omega); omega
      have := hst.inv.sep b; have := hff b
      omega
    · omega
  have hce : CR P w' Φ3 C.σ ρ (killE e2) ρ k2 := CR_stab w' Φ3 ρ hblk2 w1 _ _ _ khr (fun b hb => hblk b (by have := kle b; omega)) kc
  obtain ⟨f', c1, c2⟩ := putBks_rel hce w6 hin (fun b => (hsepo b).1) hbr2 hput
  refine ⟨cv, Φ3, r1, f', rfl, ⟨hext.os, hext.tape, hext.output, hext.size, fun b hb h0 => hext.block b hb (by show f1 b + m1 b = 0; have := hff b; omega)⟩, ?_, hhr, c1, ⟨fun b => ?_, fun b hb => ?_, fun b hb => hinv.fz b (w3 b hb), fun b hb => ?_, tabs_keep hst.inv.tab hblk2 w1⟩, fun b hb => ?_, w1, w2⟩
  · exact stab w' Φ3 ρ (fun _ _ => rfl) (fun _ h => h) _ _ _ hhr (fun _ _ => rfl) (sig C.σ _ _ _ (.inl hrs0) w5)
  · show r1 b + f' b ≤ 1
    have := c2 b; have := (hsepo b).2; omega
  · have hb' : 1 ≤ r1 b + f' b := hb
    have := c2 b
    by_cases h1 : 1 ≤ r1 b + r2 b
    · exact hinv.lt b h1
    · exact Nat.lt_of_lt_of_le (hst.inv.lt b (by have := kle b; have := hff b; omega)) hext.size
  · show r1 b + f' b = 0
    have := c2 b; have := kle b; have := w4 b hb
    have : r1 b + r2 b = 0 := hinv.apart b (w3 b hb)
    omega
  · have := c2 b
    by_cases h1 : 1 ≤ r1 b + r2 b
    · rcases hnw b h1 with h | h
      · have h' : 1 ≤ f1 b + m1 b := h
        exact .inl (by have := hff b; omega)
      · exact .inr h
    · exact .inl (by have := kle b; have := hff b; omega)

theorem frz_top {w : World} {Φ : Nat → Prop} {σ : Nat → Value} {ρ : List Value} (Φ' : Nat → Prop) (hsub : ∀ b, Φ b → Φ' b) {v v' : AV} {cv : Value} {f : Cnt} (hz : frz v = some v') (hv : VR P w Φ σ ρ v cv f) (hf : ∀ b, 1 ≤ f b → Φ' b) :
    VR P w Φ' σ ρ v' cv (fun _ => 0) ∧ hr v' = false := by
  have list : ∀ (cs cs' : List AV) (vs : List Value) (f : Cnt), frzs cs = some cs' → CR P w Φ σ ρ cs vs f → (∀ b, 1 ≤ f b → Φ' b) → CR P w Φ' σ ρ cs' vs (fun _ => 0) ∧ hrs cs' = false := by
    intro cs
    induction cs with
    | nil => intro cs' vs f hz hc _; simp [frzs] at hz; subst hz; simp only [CR] at hc; obtain ⟨rfl, _⟩ := hc; exact ⟨CR_nil, rfl⟩
    | cons c cs ih =>
      intro cs' vs f hz hc hf
      simp only [frzs] at hz
      cases h1 : frzC c with
      | none => simp [h1] at hz
      | some c' =>
        cases h2 : frzs cs with
        | none => simp [h1, h2] at hz
        | some cs1 =>
          simp [h1, h2] at hz; subst hz
          simp only [CR] at hc
          obtain ⟨v, vs', f1, f2, rfl, hv, hcs, hff⟩ := hc
          obtain ⟨k1, k2⟩ := frz_rel Φ' hsub _ _ _ _ h1 (fun b hb => hf b (by have := hff b; omega)) hv
          obtain ⟨m1, m2⟩ := ih _ _ _ h2 hcs (fun b hb => hf b (by have := hff b; omega))
          refine ⟨?_, by simp only [hrs, Bool.or_eq_false_iff]; exact ⟨isFz_hr k1, m2⟩⟩
          have := CR_cons (k2 (fun _ => 0) (fun _ => rfl)) m1
          simpa using this
  have one : frzC v = some v' → VR P w Φ' σ ρ v' cv (fun _ => 0) ∧ hr v' = false := fun hz => by
    obtain ⟨k1, k2⟩ := frz_rel Φ' hsub _ _ _ _ hz hf hv
    exact ⟨k2 _ (fun _ => rfl), isFz_hr k1⟩
  cases v with
  | agg cs =>
    simp only [frz] at hz
    split at hz
    · rename_i cs' h1
      simp at hz; subst hz
      simp only [VR] at hv ⊢
      obtain ⟨arr, rfl, hc⟩ := hv
      obtain ⟨m1, m2⟩ := list _ _ _ _ h1 hc hf
      exact ⟨⟨arr, rfl, m1⟩, by simpa only [hr] using m2⟩
    · cases hz
  | tup sh cs =>
    simp only [frz] at hz
    split at hz
    · rename_i cs' h1
      simp at hz; subst hz
      simp only [VR] at hv ⊢
      obtain ⟨arr, rfl, hs, hc⟩ := hv
      obtain ⟨m1, m2⟩ := list _ _ _ _ h1 hc hf
      exact ⟨⟨arr, rfl, hs, m1⟩, by simpa only [hr] using m2⟩
    · cases hz
  | _ => exact one (by simpa only [frz] using hz)

theorem okOpr_parts {k : Nat} {ops : Array Oper} {o : Oper} {so : SOpr} (h : okOpr P V D n k ops o so = true) :
    ((so.dst = none ∧ ((∃ t, o.dst = some t ∧ D[k]? = some t ∧ t < n) ∨ (o.dst = none ∧ ∃ a b c d, so.k = .op (.store a b c d)))) ∨ ∃ j t, so.dst = some j ∧ o.dst = some t ∧ V[j]? = some t ∧ t < n ∧ so.guard = none) ∧
    ((o.guard = none ∧ so.guard = none) ∨ ∃ j b oj t, o.guard = some (j, b) ∧ so.guard = some (V.length + j, b) ∧ j < k ∧ ops[j]? = some oj ∧ oj.dst = some t ∧ D[j]? = some t ∧ t < n) ∧
    ((∃ s, so.k = .op s ∧ okOp P (V ++ D) o.op s = true) ∨ (∃ g args fr c, so.k = .call g args fr ∧ o.op = .call c ∧ c.callee = .value (.func g) ∧ plainFn P g = true ∧ okXs (V ++ D) c.args.toList args = true) ∨ (∃ x args c y, so.k = .callv x args ∧ o.op = .call c ∧ c.callee = .value y ∧ okX (V ++ D) y x = true ∧ okXs (V ++ D) c.args.toList args = true) ∨
      ∃ x args c y, so.k = .callm x args ∧ o.op = .call c ∧ c.callee = .value y ∧ okX (V ++ D) y x = true ∧ okXs (V ++ D) c.args.toList (args.map (·.1)) = true) := by
  unfold okOpr at h
  simp only [Bool.and_eq_true] at h
  obtain ⟨⟨h1, h2⟩, h3⟩ := h
  refine ⟨?_, ?_, ?_⟩
  · cases hd : so.dst with
    | none =>
      rw [hd] at h1
      left
      refine ⟨rfl, ?_⟩
      cases ho : o.dst with
      | some t =>
        simp [ho] at h1
        exact .inl ⟨t, rfl, h1.1, h1.2⟩
      | none =>
        simp only [ho] at h1
        refine .inr ⟨rfl, ?_⟩
        split at h1
        · rename_i a b c d hk; exact ⟨_, _, _, _, hk⟩
        · cases h1
    | some j =>
      rw [hd] at h1
      right
      cases ho : o.dst with
      | none => simp [ho] at h1
      | some t =>
        simp [ho] at h1
        obtain ⟨⟨_, h4, h5⟩, h6⟩ := h1
        exact ⟨j, t, rfl, rfl, h4, h5, h6⟩
  · cases hg : o.guard with
    | none =>
      cases hg2 : so.guard with
      | none => exact .inl ⟨rfl, rfl⟩
      | some x => simp [hg, hg2] at h2
    | some x =>
      obtain ⟨j, b⟩ := x
      cases hg2 : so.guard with
      | none => simp [hg, hg2] at h2
      | some y =>
        obtain ⟨s, b'⟩ := y
        simp only [hg, hg2, Bool.and_eq_true, beq_iff_eq, decide_eq_true_eq] at h2
        obtain ⟨⟨⟨rfl, rfl⟩, hjk⟩, h4⟩ := h2
        right
        cases hoj : ops[j]? with
        | none => simp [hoj] at h4
        | some oj =>
          cases ht : oj.dst with
          | none => simp [hoj, ht] at h4
          | some t =>
            simp [hoj, ht] at h4
            exact ⟨j, b, oj, t, rfl, rfl, hjk, hoj, ht, h4.1, h4.2⟩
  · cases hk : so.k with
    | op s => simp only [hk] at h3; exact .inl ⟨s, rfl, h3⟩
    | call g args fr =>
      simp only [hk] at h3
      right
      split at h3
      · rename_i c ho
        split at h3
        · rename_i g' hc
          simp only [Bool.and_eq_true, beq_iff_eq] at h3
          obtain ⟨⟨rfl, h4⟩, h5⟩ := h3
          exact .inl ⟨g, args, fr, c, rfl, ho, hc, h4, h5⟩
        · cases h3
      · cases h3
    | callv x args =>
      simp only [hk] at h3
      right; right; left
      split at h3
      · rename_i c ho
        split at h3
        · rename_i y hc
          simp only [Bool.and_eq_true] at h3
          exact ⟨x, args, c, y, rfl, ho, hc, h3.1, h3.2⟩
        · cases h3
      · cases h3
    | callm x args =>
      simp only [hk] at h3
      right; right; right
      split at h3
      · rename_i c ho
        split at h3
        · rename_i y hc
          simp only [Bool.and_eq_true] at h3
          exact ⟨x, args, c, y, rfl, ho, hc, h3.1, h3.2⟩
        · cases h3
      · cases h3

/-- Operation number k, if it is wanted. -/
def OprW (P : Program) (m k : Nat) (so : SOpr) (e : Env) (Q : Env → Prop) : Prop :=
  match so.guard with
  | none => OpW P m k so e Q
  | some (s, b) => match wantX b e[s]? with
    | some true => OpW P m k so e Q
    | some false => Q (skE m k e so.k)
    | none => False

theorem wantX_some {b c : Bool} {v : Option AV} (h : wantX b v = some c) : (∃ b', v = some (.bool b') ∧ (b' == b) = c) ∨ (v = some (.tup [] []) ∧ c = false) := by
  unfold wantX at h
  split at h
  · exact .inl ⟨_, rfl, Option.some.inj h⟩
  · exact .inr ⟨rfl, (Option.some.inj h).symm⟩
  · cases h
/-- One operation of a region. -/
theorem opr_step {ops : Array Oper} {QQ : Exit → Act → World → Prop} {QE : Env → Prop} {K : Act → World → Prop} (hν : (V ++ D).Nodup) {k : Nat} {o : Oper} {so : SOpr} {e : Env} {ρ : List Value} {tmps : Array Value} {w : World} {Φ : Nat → Prop} {f : Cnt}
    (hok1 : okOpr P V D n k ops o so = true) (hst : St P C (V ++ D) n e ρ tmps w Φ f) (hslot : ρ[V.length + k]? = some unk) (h : OprW P V.length k so e QE)
    (hK : ∀ e2 ρ2 tmps2 w2 Φ2 g, St P C (V ++ D) n e2 ρ2 tmps2 w2 Φ2 g → ρ2.length = ρ.length → (∀ i, i ≠ V.length + k → V.length ≤ i → ρ2[i]? = ρ[i]?) → QE e2 → K ⟨tmps2, []⟩ w2) :
    if Region.wanted o (yielded ops tmps) then o.wp P ⟨tmps, []⟩ w K QQ else K ((⟨tmps, []⟩ : Act).put o.dst undef) w := by
  obtain ⟨hdst, hguard, hk⟩ := okOpr_parts hok1
  have hlen : V.length + k < ρ.length := (List.getElem?_eq_some_iff.1 hslot).1
  have hνD : ∀ {j t : Nat}, D[j]? = some t → (V ++ D)[V.length + j]? = some t := fun h => by rw [List.getElem?_append_right (by omega)]; simpa using h
  have hνV : ∀ {j t : Nat}, V[j]? = some t → (V ++ D)[j]? = some t := fun h => by rw [List.getElem?_append_left (List.getElem?_eq_some_iff.1 h).1]; exact h
  -- where the value goes
  have hd : ∀ cv : Value, (o.dst = none → cv = unk) → (so.dst = none ∧ ((o.dst = none ∧ cv = unk) ∨ ∃ t, o.dst = some t ∧ (V ++ D)[V.length + k]? = some t ∧ t < n)) ∨ ∃ j t, so.dst = some j ∧ o.dst = some t ∧ (V ++ D)[j]? = some t ∧ t < n ∧ j < ρ.length ∧ j ≠ V.length + k := by
    intro cv hcv
    rcases hdst with ⟨h1, h2⟩ | ⟨j, t, h1, h2, h3, h4, _⟩
    · left
      refine ⟨h1, ?_⟩
      rcases h2 with ⟨t, h3, h4, h5⟩ | ⟨h3, _⟩
      · exact .inr ⟨t, h3, hνD h4, h5⟩
      · exact .inl ⟨h3, hcv h3⟩
    · right
      have := (List.getElem?_eq_some_iff.1 h3).1
      exact ⟨j, t, h1, h2, hνV h3, h4, by omega, by omega⟩
  have hnodst : (∀ a b c d, so.k ≠ .op (.store a b c d)) → o.dst ≠ none := by
    intro hns hdn
    rcases hdst with ⟨_, ⟨t, h3, _⟩ | ⟨_, q1, q2, q3, q4, hk⟩⟩ | ⟨j, t, _, h2, _⟩
    · rw [hdn] at h3; cases h3
    · exact hns _ _ _ _ hk
    · rw [hdn] at h2; cases h2
  -- an operation that runs
  have run : (OpW P V.length k so e QE) → o.wp P ⟨tmps, []⟩ w K QQ := by
    intro h
    have next : ∀ {w' : World} {Φ' : Nat → Prop} {v : AV} {cv : Value} {e' e2 : Env} {f1 f2 : Cnt}, VR P w' Φ' C.σ ρ v cv f1 → CR P w' Φ' C.σ ρ e' ρ f2 → Inv P w' Φ' (fun b => f1 b + f2 b) → Ext C.w0 w' C.fa → (∀ b, C.Φ0 b → Φ' b) →
        (∀ b, Φ' b → C.Φ0 b ∨ 1 ≤ C.fa b ∨ C.w0.heap.size ≤ b) → (∀ b, 1 ≤ f1 b + f2 b → 1 ≤ C.fa b ∨ C.w0.heap.size ≤ b) → putV V.length k so.dst v e' = some e2 → (o.dst = none → cv = unk) → QE e2 →
        K ((⟨tmps, []⟩ : Act).put o.dst cv) w' := by
      intro w' Φ' v cv e' e2 f1 f2 hv he hinv hext hsub hnew hown hp hcv hrun
      obtain ⟨ρ2, g, hst2, hl2, hu2⟩ := St_put hst.lk hst.size hv he hinv hext hsub hnew hown hν hp hslot (hd cv hcv)
      have hput : (⟨tmps, []⟩ : Act).put o.dst cv = ⟨(match o.dst with | some t => tmps.setIfInBounds t cv | none => tmps), []⟩ := by
        cases o.dst <;> rfl
      rw [hput]
      exact hK _ _ _ _ _ _ hst2 hl2 hu2 hrun
    unfold OpW at h
    rcases hk with ⟨s, hs, hoks⟩ | ⟨g, args, fr, c, hs, ho, hc, hpl, hx⟩ | ⟨x, args, c, y, hs, ho, hc, hxy, hx⟩ | ⟨x, args, c, y, hs, ho, hc, hxy, hx⟩
    · rw [hs] at h
      simp only at h
      split at h
      · rename_i v e' hx
        split at h
        · rename_i e2 hp
          obtain ⟨r, cv, w', hr, hrv, hstep⟩ := op_step (a := ⟨tmps, []⟩) hst.rel hst.lk hst.inv hoks hx
          obtain ⟨f1, f2, hv, he, hsep, hown⟩ := hstep.rel
          have hcv : o.dst = none → cv = unk := by
            intro hdn
            rcases hdst with ⟨_, ⟨t, h3, _⟩ | ⟨_, q1, q2, q3, q4, hk⟩⟩ | ⟨j, t, _, h2, _⟩
            · rw [hdn] at h3; cases h3
            · rw [hs] at hk
              cases hk
              rcases hrv with rfl | ⟨_, h, _⟩
              · obtain ⟨w2, hr2, _⟩ := s_store (a := ⟨tmps, []⟩) hst.rel hst.lk hst.inv hoks hx
                rw [hr] at hr2; cases hr2
              · exact h
            · rw [hdn] at h2; cases h2
          obtain ⟨cv2, hv, hcv, hrv⟩ : ∃ cv2, VR P w' Φ C.σ ρ v cv2 f1 ∧ (o.dst = none → cv2 = unk) ∧ (r = .value cv2 ∨ (r = .skip ∧ ∀ t, o.dst = some t → cv2 = undef)) := by
            rcases hrv with h1 | ⟨h1, _, h2⟩
            · exact ⟨cv, hv, hcv, .inl h1⟩
            · subst h2
              have hv0 : ∀ u, VR P w' Φ C.σ ρ .dead u f1 := fun u => by simpa only [VR] using hv
              cases ho : o.dst with
              | none => exact ⟨unk, hv0 _, (fun _ => rfl), .inr ⟨h1, (fun t h => nomatch h)⟩⟩
              | some t => exact ⟨undef, hv0 _, (fun h => nomatch h), .inr ⟨h1, fun _ _ => rfl⟩⟩
          have hnx := next hv he (Inv.le ⟨hsep, fun b hb => (hown b hb).2, fun b hb => Nat.lt_of_lt_of_le (hst.inv.fz b hb) hstep.ext.size, fun b hb => by
              by_cases h1 : 1 ≤ f1 b + f2 b
              · rcases (hown b h1).1 with h2 | h2
                · have := hst.inv.apart b hb; omega
                · have := hst.inv.fz b hb; omega
              · omega, tabs_keep hst.inv.tab (fun b hb => hstep.ext.block b (hst.inv.fz b hb) (hst.inv.apart b hb)) (fun _ h => h)⟩ (fun b => Nat.le_refl _)) (hst.ext.trans hstep.ext hst.own) hst.sub hst.new (fun b hb => by
              rcases (hown b hb).1 with h2 | h2
              · exact hst.own b h2
              · exact .inr (Nat.le_trans hst.ext.size h2)) hp hcv h
          unfold Oper.wp
          rw [hr]
          rcases hrv with rfl | ⟨rfl, hun⟩
          · exact hnx
          · have : (⟨tmps, []⟩ : Act).put o.dst undef = (⟨tmps, []⟩ : Act).put o.dst cv2 := by
              cases ho : o.dst with
              | none => rfl
              | some t => rw [hun t ho]
            show K ((⟨tmps, []⟩ : Act).put o.dst undef) w'
            rw [this]; exact hnx
        · cases h
      · cases h
    · rw [hs] at h
      simp only at h
      split at h
      · rename_i avs live hp
        obtain ⟨res, hfn, hnf, h⟩ := h
        have hcall := call_step hst (cargs := c.args.toList.map (Act.eval ⟨tmps, []⟩)) (fun Φ' hs hlv => prepX_rel (a := ⟨tmps, []⟩) hst.rel hst.lk hst.inv.sep Φ' hs hx hp hlv) hfn hnf
        unfold Oper.wp
        rw [run_call ho hc hpl]
        have hargs : c.args.map (Act.eval ⟨tmps, []⟩) = (c.args.toList.map (Act.eval ⟨tmps, []⟩)).toArray := by
          apply Array.ext'; simp
        rw [Oper.upon_enter, hargs]
        refine hcall.mono ?_
        rintro en w' ⟨cv, Φ', f1, rfl, hext, hv, hhr, hrel, hinv, hf1, hs1, hs2⟩
        have hodst : o.dst ≠ none := by
          intro hdn
          rcases hdst with ⟨_, ⟨t, h3, _⟩ | ⟨_, q1, q2, q3, q4, hk⟩⟩ | ⟨j, t, _, h2, _⟩
          · rw [hdn] at h3; cases h3
          · rw [hs] at hk; cases hk
          · rw [hdn] at h2; cases h2
        have hext2 : Ext C.w0 w' C.fa := hst.ext.trans ⟨hext.os, hext.tape, hext.output, hext.size, fun b hb _ => hext.block b hb rfl⟩ hst.own
        have hown2 : ∀ b, 1 ≤ f1 b + f b → 1 ≤ C.fa b ∨ C.w0.heap.size ≤ b := fun b hb => by
          by_cases h1 : 1 ≤ f1 b
          · exact .inr (Nat.le_trans hst.ext.size (hf1 b h1))
          · exact hst.own b (by omega)
        have hnew2 : ∀ b, Φ' b → C.Φ0 b ∨ 1 ≤ C.fa b ∨ C.w0.heap.size ≤ b := fun b hb => by
          rcases hs2 b hb with h | h
          · exact hst.new b h
          · exact .inr (.inr (Nat.le_trans hst.ext.size h))
        split at h
        · rename_i v hvres
          split at h
          · rename_i e2 hp2
            cases fr with
            | false =>
              simp at hvres; subst hvres
              exact next hv hrel hinv hext2 (fun b hb => hs1 b (hst.sub b hb)) hnew2 hown2 hp2 (fun h => absurd h hodst) h
            | true =>
              simp at hvres
              obtain ⟨hv2, _⟩ := frz_top (fun b => Φ' b ∨ 1 ≤ f1 b) (fun b h => .inl h) hvres hv (fun b h => .inr h)
              have hrel2 : CR P w' (fun b => Φ' b ∨ 1 ≤ f1 b) C.σ ρ e ρ f := by
                have all : ∀ (cs : List AV) (vs : List Value) (f : Cnt), CR P w' Φ' C.σ ρ cs vs f → CR P w' (fun b => Φ' b ∨ 1 ≤ f1 b) C.σ ρ cs vs f := by
                  intro cs
                  induction cs with
                  | nil => intro vs f h; simpa only [CR] using h
                  | cons c cs ih =>
                    intro vs f h
                    simp only [CR] at h ⊢
                    obtain ⟨v, vs', g1, g2, e, h1, h2, hb⟩ := h
                    refine ⟨v, vs', g1, g2, e, stab2 w' (fun b => Φ' b ∨ 1 ≤ f1 b) ρ (fun _ _ => rfl) (fun b h => .inl h) ?_ ?_ ?_ _ _ _ (fun _ _ => rfl) h1, ih _ _ h2, hb⟩
                    · intro r p o cv f h; simpa only [VR] using h
                    · intro r p o cv f h; simpa only [VR] using h
                    · intro r p o cv f h; simpa only [VR] using h
                exact all _ _ _ hrel
              refine next hv2 hrel2 ⟨fun b => ?_, fun b hb => ?_, fun b hb => ?_, fun b hb => ?_, tabs_keep hinv.tab (fun _ _ => rfl) (fun _ h => .inl h)⟩ hext2 (fun b hb => .inl (hs1 b (hst.sub b hb))) (fun b hb => ?_) (fun b hb => ?_) hp2 (fun h => absurd h hodst) h
              · show 0 + f b ≤ 1
                have : f1 b + f b ≤ 1 := hinv.sep b; omega
              · have hb' : 1 ≤ 0 + f b := hb
                exact hinv.lt b (by show 1 ≤ f1 b + f b; omega)
              · rcases hb with h | h
                · exact hinv.fz b h
                · exact hinv.lt b (by show 1 ≤ f1 b + f b; omega)
              · show 0 + f b = 0
                rcases hb with h | h
                · have : f1 b + f b = 0 := hinv.apart b h; omega
                · have : f1 b + f b ≤ 1 := hinv.sep b; omega
              · rcases hb with h | h
                · exact hnew2 b h
                · exact .inr (.inr (Nat.le_trans hst.ext.size (hf1 b h)))
              · have hb' : 1 ≤ 0 + f b := hb
                exact hst.own b (by omega)
          · cases h
        · cases h
      · cases h
    · rw [hs] at h
      simp only at h
      split at h
      · rename_i g caps avs live hcal hp
        obtain ⟨hpl, res, hfn, hnf, h⟩ := h
        obtain ⟨vs, hev, hcr1, hcr2, hcr3⟩ := calleeC_rel (a := ⟨tmps, []⟩) hst.rel hst.lk hxy hcal
        have hcall := call_step hst (cargs := c.args.toList.map (Act.eval ⟨tmps, []⟩) ++ vs.toList) (fun Φ' hs hlv => by
          obtain ⟨m1, m2⟩ := prepX_rel (a := ⟨tmps, []⟩) hst.rel hst.lk hst.inv.sep Φ' hs hx hp hlv
          refine ⟨by rw [hrs_append, m1, hcr1]; rfl, fun ρ' => ?_⟩
          have := CR_append (m2 ρ') (hcr3 Φ' C.σ ρ' hs)
          simpa using this) hfn hnf
        unfold Oper.wp
        rw [run_callv ho hc hev hpl]
        have hargs : c.args.map (Act.eval ⟨tmps, []⟩) ++ vs = (c.args.toList.map (Act.eval ⟨tmps, []⟩) ++ vs.toList).toArray := by
          apply Array.ext'; simp
        rw [Oper.upon_enter, hargs]
        refine hcall.mono ?_
        rintro en w' ⟨cv, Φ', f1, rfl, hext, hv, hhr, hrel, hinv, hf1, hs1, hs2⟩
        have hodst := hnodst (fun a b c d hk => by rw [hs] at hk; cases hk)
        have hext2 : Ext C.w0 w' C.fa := hst.ext.trans ⟨hext.os, hext.tape, hext.output, hext.size, fun b hb _ => hext.block b hb rfl⟩ hst.own
        have hown2 : ∀ b, 1 ≤ f1 b + f b → 1 ≤ C.fa b ∨ C.w0.heap.size ≤ b := fun b hb => by
          by_cases h1 : 1 ≤ f1 b
          · exact .inr (Nat.le_trans hst.ext.size (hf1 b h1))
          · exact hst.own b (by omega)
        have hnew2 : ∀ b, Φ' b → C.Φ0 b ∨ 1 ≤ C.fa b ∨ C.w0.heap.size ≤ b := fun b hb => by
          rcases hs2 b hb with h | h
          · exact hst.new b h
          · exact .inr (.inr (Nat.le_trans hst.ext.size h))
        split at h
        · rename_i e2 hp2
          exact next hv hrel hinv hext2 (fun b hb => hs1 b (hst.sub b hb)) hnew2 hown2 hp2 (fun h => absurd h hodst) h
        · cases h
      · cases h
    · rw [hs] at h
      simp only at h
      split at h
      · rename_i e1 b1 vs h1
        split at h
        · rename_i g caps e2 b2 h2
          split at h
          · rename_i avs live h3
            obtain ⟨hpl, hbk, res, outs, hfn, hok, h⟩ := h
            split at h
            · rename_i e3 hput
              split at h
              · rename_i e4 hp2
                obtain ⟨vs, hev, hcall⟩ := callm_step hst hx hxy h1 h2 h3 hbk hfn hok hput
                unfold Oper.wp
                rw [run_callv ho hc hev hpl]
                have hargs : c.args.map (Act.eval ⟨tmps, []⟩) ++ vs = (c.args.toList.map (Act.eval ⟨tmps, []⟩) ++ vs.toList).toArray := by
                  apply Array.ext'; simp
                rw [Oper.upon_enter, hargs]
                refine hcall.mono ?_
                rintro en w' ⟨cv, Φ', f1, f', rfl, hext, hv, hhr, hrel, hinv, hnw, hs1, hs2⟩
                have hodst := hnodst (fun a b c d hk => by rw [hs] at hk; cases hk)
                refine next hv hrel hinv (hst.ext.trans hext hst.own) (fun b hb => hs1 b (hst.sub b hb)) (fun b hb => ?_) (fun b hb => ?_) hp2 (fun h => absurd h hodst) h
                · rcases hs2 b hb with h | h | h
                  · exact hst.new b h
                  · rcases hst.own b h with h | h
                    · exact .inr (.inl h)
                    · exact .inr (.inr h)
                  · exact .inr (.inr (Nat.le_trans hst.ext.size h))
                · rcases hnw b hb with h | h
                  · exact hst.own b h
                  · exact .inr (Nat.le_trans hst.ext.size h)
              · cases h
            · cases h
          · cases h
        · cases h
      · cases h
  unfold OprW at h
  rcases hguard with ⟨hg1, hg2⟩ | ⟨j, b, oj, t, hg1, hg2, hjk, hoj, hojd, hDj, htn⟩
  · rw [hg2] at h
    rw [if_pos (by simp [Region.wanted, hg1])]
    exact run h
  · rw [hg2] at h
    simp only at h
    have hyb : ∀ b', e[V.length + j]? = some (.bool b') → yielded ops tmps j = some b' := by
      intro b' he
      obtain ⟨cv, q1, q2, hcv, hvr, _, _⟩ := CR_get _ hst.rel he
      obtain rfl := VR_bool hvr
      rcases hst.lk _ _ hcv with hu | ⟨t', ht', htv⟩
      · cases hu
      · rw [hνD hDj] at ht'
        obtain rfl := Option.some.inj ht'
        have : tmps[t]? = some (.bool b') := by
          have hlt : t < tmps.size := by rw [hst.size]; exact htn
          rw [Array.getD_eq_getD_getElem?, Array.getElem?_eq_getElem hlt] at htv
          rw [Array.getElem?_eq_getElem hlt]
          simpa using htv
        simp [yielded, hoj, hojd, this]
    have hyu : e[V.length + j]? = some (.tup [] []) → yielded ops tmps j = none := by
      intro he
      obtain ⟨cv, q1, q2, hcv, hvr, _, _⟩ := CR_get _ hst.rel he
      have hcu : cv = undef := by
        simp only [VR] at hvr
        obtain ⟨arr, rfl, hs, _⟩ := hvr
        have : arr = #[] := Array.toList_inj.1 (by simpa using hs)
        subst this; rfl
      subst hcu
      rcases hst.lk _ _ hcv with hu | ⟨t', ht', htv⟩
      · cases hu
      · rw [hνD hDj] at ht'
        obtain rfl := Option.some.inj ht'
        have hlt : t < tmps.size := by rw [hst.size]; exact htn
        rw [Array.getD_eq_getD_getElem?, Array.getElem?_eq_getElem hlt] at htv
        have : tmps[t]? = some undef := by rw [Array.getElem?_eq_getElem hlt]; simpa using htv
        simp [yielded, hoj, hojd, this, undef]
    split at h
    · rename_i he
      rcases wantX_some he with ⟨b', he', hb⟩ | ⟨_, hb⟩
      · have hb : b' = b := by simpa using hb
        rw [hb] at he'
        rw [if_pos (by simp only [Region.wanted, hg1, hyb b he']; simp)]
        exact run h
      · cases hb
    · rename_i he
      have hnw : Region.wanted o (yielded ops tmps) = false := by
        rcases wantX_some he with ⟨b', he', hb⟩ | ⟨he', _⟩
        · have hb : b' ≠ b := by simpa using hb
          simp only [Region.wanted, hg1, hyb b' he']
          simpa using hb
        · simp only [Region.wanted, hg1, hyu he']; rfl
      rw [if_neg (by rw [hnw]; simp)]
      have hsd : so.dst = none := by
        rcases hdst with ⟨h1, _⟩ | ⟨j, t, _, _, _, _, h5⟩
        · exact h1
        · rw [h5] at hg2; cases hg2
      have hput : (⟨tmps, []⟩ : Act).put o.dst undef = ⟨(match o.dst with | some t => tmps.setIfInBounds t undef | none => tmps), []⟩ := by cases o.dst <;> rfl
      rw [hput]
      have key : ∀ (v : AV) (cv : Value), VR P w Φ C.σ ρ v cv (fun _ => 0) → e.set (V.length + k) v = skE V.length k e so.k → (o.dst = none → cv = unk) → (∀ t, o.dst = some t → cv = undef) → K ⟨(match o.dst with | some t => tmps.setIfInBounds t undef | none => tmps), []⟩ w := by
        intro v cv hv hsk h1 h2
        have e0 : (fun b => (fun _ => 0) b + f b) = f := funext fun b => by simp
        obtain ⟨ρ2, g, hst2, hl2, hu2⟩ := St_put (C := C) (e2 := e.set (V.length + k) v) (dst := so.dst) (odst := o.dst) hst.lk hst.size hv hst.rel (by rw [e0]; exact hst.inv) hst.ext hst.sub hst.new (fun b hb => hst.own b (by simpa using hb)) hν (by rw [hsd]; rfl) hslot (hd cv h1)
        rw [hsk] at hst2
        have e1 : ∀ od : Option Nat, (∀ t, od = some t → cv = undef) → (match od with | some t => tmps.setIfInBounds t cv | none => tmps) = (match od with | some t => tmps.setIfInBounds t undef | none => tmps) := by
          intro od h2
          cases od with
          | none => rfl
          | some t => simp only [h2 t rfl]
        have hst3 := (e1 o.dst h2) ▸ hst2
        exact hK _ ρ2 _ w Φ g hst3 hl2 hu2 h
      have hVd : ∀ cv, VR P w Φ C.σ ρ .dead cv (fun _ => 0) := fun cv => by simp [VR]
      have hVs : VR P w Φ C.σ ρ skipV undef (fun _ => 0) := by simp [VR, CR, flatV, undef]
      rcases hdst with ⟨_, ⟨t2, h3, h4, h5⟩ | ⟨h3, a, b, c, d, hks⟩⟩ | ⟨j, t, h2, _⟩
      · by_cases hs : ∃ a b c d, so.k = .op (.store a b c d)
        · obtain ⟨a, b, c, d, hs⟩ := hs
          exact key .dead undef (hVd _) (by rw [hs]; rfl) (fun h => by rw [h3] at h; cases h) (fun _ _ => rfl)
        · refine key skipV undef hVs ?_ (fun h => by rw [h3] at h; cases h) (fun _ _ => rfl)
          unfold skE
          split
          · rename_i hk0; exact absurd ⟨_, _, _, _, hk0⟩ hs
          · rfl
      · exact key .dead unk (hVd _) (by rw [hks]; rfl) (fun _ => rfl) (fun t h => by rw [h3] at h; cases h)
      · rw [hsd] at h2; cases h2
    · cases h

theorem SRun_cons {m k : Nat} {so : SOpr} {sos : List SOpr} {e : Env} {Q : Env → Prop} (h : SRun P m k (so :: sos) e Q) : OprW P m k so e fun e' => SRun P m (k + 1) sos e' Q := by
  unfold OprW
  simp only [SRun] at h
  exact h

/-- A region without a draw. -/
theorem SRun_sound {ops : Array Oper} {QQ : Exit → Act → World → Prop} {Q : Env → Prop} (hν : (V ++ D).Nodup)
    (hQ : ∀ e ρ tmps w Φ f, St P C (V ++ D) n e ρ tmps w Φ f → Q e → QQ .normal ⟨tmps, []⟩ w) :
    ∀ (sos : List SOpr) (os : List Oper) (k : Nat) (e : Env) (ρ : List Value) (tmps : Array Value) (w : World) (Φ : Nat → Prop) (f : Cnt), okOprs P V D n ops k os sos = true → St P C (V ++ D) n e ρ tmps w Φ f → e.length = V.length + (k + sos.length) →
      (∀ i, V.length + k ≤ i → i < ρ.length → ρ[i]? = some unk) → SRun P V.length k sos e Q → wpList P ops QQ os ⟨tmps, []⟩ w
  | [], os, k, e, ρ, tmps, w, Φ, f, hok, hst, hlen, hund, h => by
    cases os with
    | nil => exact wpList_nil (hQ _ _ _ _ _ _ hst (by simpa only [SRun] using h))
    | cons o os => simp [okOprs] at hok
  | so :: sos, os, k, e, ρ, tmps, w, Φ, f, hok, hst, hlen, hund, h => by
    cases os with
    | nil => simp [okOprs] at hok
    | cons o os =>
      simp only [okOprs, Bool.and_eq_true] at hok
      obtain ⟨hok1, hok2⟩ := hok
      have hρl : e.length = ρ.length := CR_length hst.rel
      simp only [List.length_cons] at hlen
      have hslot : ρ[V.length + k]? = some unk := hund _ (Nat.le_refl _) (by omega)
      have := opr_step (QQ := QQ) (ops := ops) (K := wpList P ops QQ os) hν hok1 hst hslot (SRun_cons h) (fun e2 ρ2 tmps2 w2 Φ2 g hst2 hl2 hu2 hrun =>
        SRun_sound hν hQ sos os (k + 1) e2 ρ2 _ w2 Φ2 g hok2 hst2 (by rw [CR_length hst2.rel, hl2, ← hρl]; omega) (fun i hi hi2 => by
          rw [hu2 i (by omega) (by omega)]
          exact hund i (by omega) (by omega)) hrun)
      unfold wpList
      split
      · rename_i hw; rw [if_pos hw] at this; exact .inl this
      · rename_i hw; rw [if_neg hw] at this; exact this
end
end Go.AM
