/- Code: what the abstract machine does, and that the program does it. -/
import Derived.Test.YtodlnccdpbpokaaDoorAmDraw
import Derived.LoopN
set_option linter.unusedSimpArgs false
set_option linter.unusedVariables false
set_option linter.unusedSectionVars false
namespace Go.AM
open Go

def deads (n : Nat) : Env := List.replicate n .dead
/-- A condition's slot is used once. -/
def endOk (m : Nat) (e : Env) : Bool := decide (m ≤ e.length) && !((e.take m).any hasRef)
/-- What came up in slot k of the region moves to slot j. -/
def mvEnd (m j k : Nat) (e : Env) : Option Env := match e[m + k]? with
  | some v => if hasRef v then none else some ((e.take m).set j v)
  | none => none
def outOf (id : Nat) : Exit → Exit
  | .exit i => if i = id then .normal else .exit i
  | ex => ex

inductive Runs (P : Program) (m : Nat) : SCode → Env → Exit → Env → Prop where
  | skip {e : Env} : Runs P m .skip e .normal e
  | reg {D : List Nat} {ops : List SOpr} {e e2 : Env} (h : SRun P m 0 ops (e ++ deads ops.length) (fun e1 => e1 = e2)) (hr : endOk m e2 = true) : Runs P m (.reg D ops) e .normal (e2.take m)
  | dreg {D : List Nat} {ops : List SOpr} {sees : List (List Nat)} {t : Nat} {cons : List (Nat × Nat)} {info : List (List Bool × Option (List Nat))} {fin : List Bool} {e e2 : Env} (h : DRunB P e (ops.take t) info [] fun vs => SRun P m t (ops.drop t) (e ++ maskB fin vs ++ deads (ops.length - t)) (fun e1 => e1 = e2))
      (hr : endOk m e2 = true) : Runs P m (.dreg D ops sees t cons info fin) e .normal (e2.take m)
  | dregm {j k : Nat} {D : List Nat} {ops : List SOpr} {sees : List (List Nat)} {t : Nat} {cons : List (Nat × Nat)} {info : List (List Bool × Option (List Nat))} {fin : List Bool} {e e2 e3 : Env} (hd : (e.any hasRef = false ∧ e[j]? = some .dead)) (h : DRunB P e (ops.take t) info [] fun vs => SRun P m t (ops.drop t) (e ++ maskB fin vs ++ deads (ops.length - t)) (fun e1 => e1 = e2))
      (hr : endOk m e2 = true) (hv : mvEnd m j k e2 = some e3) : Runs P m (.dregm j k D ops sees t cons info fin) e .normal e3
  | seq {a b : SCode} {e e1 e2 : Env} {ex : Exit} (h1 : Runs P m a e .normal e1) (h2 : Runs P m b e1 ex e2) : Runs P m (.seq a b) e ex e2
  | seqOut {a b : SCode} {e e1 : Env} {ex : Exit} (h1 : Runs P m a e ex e1) (hx : ex ≠ .normal) : Runs P m (.seq a b) e ex e1
  | cond {x : Opd} {a b : SCode} {e e2 : Env} {ex : Exit} {t : Bool} (hx : ev e x = some (.bool t)) (h : Runs P m (if t then a else b) (dropS x e) ex e2) : Runs P m (.cond x a b) e ex e2
  | condk {x : Opd} {a b : SCode} {e e2 : Env} {ex : Exit} {t : Bool} (hx : ev e x = some (.bool t)) (h : Runs P m (if t then a else b) e ex e2) : Runs P m (.condk x a b) e ex e2
  | block {id : Nat} {b : SCode} {e e2 : Env} {ex : Exit} (h : Runs P m b e ex e2) : Runs P m (.block id b) e (outOf id ex) e2
  | loop {b : SCode} {e e1 e2 : Env} {ex : Exit} (h1 : Runs P m b e .normal e1) (h2 : Runs P m (.loop b) e1 ex e2) : Runs P m (.loop b) e ex e2
  | loopOut {b : SCode} {e e1 : Env} {ex : Exit} (h1 : Runs P m b e ex e1) (hx : ex ≠ .normal) : Runs P m (.loop b) e ex e1
  | exit {id : Nat} {e : Env} : Runs P m (.exit id) e (.exit id) e
  | ret {e : Env} : Runs P m .ret e .ret e
  | forget {sc : SCode} {e e2 : Env} {ex : Exit} (j : Nat) (h : Runs P m sc (e.set j .dead) ex e2) : Runs P m sc e ex e2

def nodupB : List Nat → Bool
  | [] => true
  | x :: xs => !(xs.contains x) && nodupB xs
theorem nodupB_spec : ∀ {l : List Nat}, nodupB l = true → l.Nodup
  | [], _ => List.nodup_nil
  | x :: xs, h => by
    simp only [nodupB, Bool.and_eq_true, Bool.not_eq_true'] at h
    exact List.nodup_cons.2 ⟨by simpa using h.1, nodupB_spec h.2⟩

def okCode (P : Program) (V : List Nat) (n : Nat) : Code → SCode → Bool
  | .skip, .skip => true
  | .region _ ops false, .reg D sops => nodupB (V ++ D) && (D.length == sops.length) && okOprs P V D n ops 0 ops.toList sops
  | .region _ ops true, .dreg D sops sees t cons info fin => nodupB (V ++ D) && (D.length == sops.length) && okOprs P V D n ops 0 ops.toList sops && okSee ops sees t && decide (t ≤ sops.length) && P.follows .mixedOrders && okConsB cons sees t && okInfo cons sees t info fin
  | .region _ ops true, .dregm j k D sops sees t cons info fin => decide (j < V.length) && (V[j]? == D[k]?) && decide (k < D.length) && nodupB (V.set j (n + 999) ++ D) && (D.length == sops.length) && okOprs P (V.set j (n + 999)) D n ops 0 ops.toList sops && okSee ops sees t && decide (t ≤ sops.length) && P.follows .mixedOrders && okConsB cons sees t && okInfo cons sees t info fin
  | _, .bad => true
  | .seq a b, .seq a' b' => okCode P V n a a' && okCode P V n b b'
  | .cond c a b, .cond x a' b' => okX V c x && okCode P V n a a' && okCode P V n b b'
  | .cond c a b, .condk x a' b' => okX V c x && okCode P V n a a' && okCode P V n b b'
  | .block i b, .block i' b' => i == i' && okCode P V n b b'
  | .loop b, .loop b' => okCode P V n b b'
  | .exit i, .exit i' => i == i'
  | .ret, .ret => true
  | _, _ => false

def Post (P : Program) (C : Cx) (V : List Nat) (n : Nat) (ex : Exit) (e : Env) (ex' : Exit) (a : Act) (w : World) : Prop :=
  ex' = ex ∧ ∃ ρ tmps Φ f, a = ⟨tmps, []⟩ ∧ St P C V n e ρ tmps w Φ f

section
variable {P : Program} {C : Cx} {V D : List Nat} {n : Nat}

theorem CR_undef {w : World} {Φ : Nat → Prop} {σ : Nat → Value} {ρ : List Value} : ∀ k, CR P w Φ σ ρ (deads k) (List.replicate k unk) (fun _ => 0)
  | 0 => CR_nil
  | k + 1 => by
    have h : VR P w Φ σ ρ .dead unk (fun _ => 0) := by simp [VR]
    simpa [deads, List.replicate_succ] using CR_cons h (CR_undef k)

/-- Slots behind the slots there are. -/
theorem VR_more {w : World} {Φ : Nat → Prop} {σ : Nat → Value} {ρ : List Value} (x : List Value) (v : AV) (cv : Value) (g : Cnt) (h : VR P w Φ σ ρ v cv g) : VR P w Φ σ (ρ ++ x) v cv g := by
  have low : ∀ {r : Nat} {row}, rowOf ρ r = row → row ≠ [] → rowOf (ρ ++ x) r = row := by
    intro r row h hne
    unfold rowOf at h ⊢
    cases hr : ρ[r]? with
    | none => simp [hr] at h; exact absurd h hne
    | some v => rw [List.getElem?_append_left (List.getElem?_eq_some_iff.1 hr).1, hr]; simpa [hr] using h
  have hne : ∀ {r p bo row}, walk w none (rowOf ρ r) p = some (bo, row) → (row ≠ [] ∨ ∃ b, bo = some b) → rowOf ρ r ≠ [] := by
    rintro r p bo row hw hor h
    rw [h] at hw
    cases p with
    | nil => simp [walk] at hw; obtain ⟨rfl, rfl⟩ := hw; rcases hor with h | ⟨b, h⟩ <;> simp at h
    | cons o p => simp [walk] at hw
  refine stab2 w Φ (ρ ++ x) (fun _ _ => rfl) (fun _ h => h) ?_ ?_ ?_ v cv g (fun _ _ => rfl) h
  · intro r p o cv f h
    simp only [VR] at h ⊢
    obtain ⟨⟨bo, row, a, n, c, hw, h1, h2⟩, hz⟩ := h
    have := hne hw (.inl (by rintro rfl; simp at h1))
    exact ⟨⟨bo, row, a, n, c, by rw [low rfl this]; exact hw, h1, h2⟩, hz⟩
  · intro r p o cv f h
    simp only [VR] at h ⊢
    obtain ⟨⟨b0, row, hw, h1⟩, hz⟩ := h
    have := hne hw (.inr ⟨b0, rfl⟩)
    exact ⟨⟨b0, row, by rw [low rfl this]; exact hw, h1⟩, hz⟩
  · intro r p o cv f h
    simp only [VR] at h ⊢
    obtain ⟨⟨bo, row, g, fs, cs, hw, h1, h2⟩, hz⟩ := h
    have := hne hw (.inl (by rintro rfl; simp at h1))
    exact ⟨⟨bo, row, g, fs, cs, by rw [low rfl this]; exact hw, h1, h2⟩, hz⟩
theorem CR_more {w : World} {Φ : Nat → Prop} {σ : Nat → Value} {ρ : List Value} (x : List Value) : ∀ (cs : List AV) (vs : List Value) (g : Cnt), CR P w Φ σ ρ cs vs g → CR P w Φ σ (ρ ++ x) cs vs g
  | [], vs, g, h => by simpa only [CR] using h
  | c :: cs, vs, g, h => by
    simp only [CR] at h ⊢
    obtain ⟨v, vs', f1, f2, e, h1, h2, hb⟩ := h
    exact ⟨v, vs', f1, f2, e, VR_more x _ _ _ h1, CR_more x _ _ _ h2, hb⟩

/-- Into a region. -/
theorem St_in {e : Env} {ρ : List Value} {tmps : Array Value} {w : World} {Φ : Nat → Prop} {f : Cnt} (h : St P C V n e ρ tmps w Φ f) (hl : e.length = V.length) (k : Nat) :
    St P C (V ++ D) n (e ++ deads k) (ρ ++ List.replicate k unk) tmps w Φ f := by
  refine ⟨?_, ?_, h.inv, h.ext, h.sub, h.new, h.own, h.size⟩
  · have := CR_append (CR_more (List.replicate k unk) _ _ _ h.rel) (CR_undef (P := P) (w := w) (Φ := Φ) (σ := C.σ) (ρ := ρ ++ List.replicate k unk) k)
    simpa using this
  · intro j cv hj
    have hρ : ρ.length = V.length := by rw [← CR_length h.rel, hl]
    by_cases hjl : j < ρ.length
    · rw [List.getElem?_append_left hjl] at hj
      rcases h.lk j cv hj with h1 | ⟨t, ht, h2⟩
      · exact .inl h1
      · exact .inr ⟨t, by rw [List.getElem?_append_left (by omega)]; exact ht, h2⟩
    · rw [List.getElem?_append_right (by omega), List.getElem?_replicate] at hj
      split at hj
      · simp at hj; exact .inl hj.symm
      · cases hj

theorem CR_refree {w : World} {Φ : Nat → Prop} {σ : Nat → Value} {ρ : List Value} : ∀ {cs : List AV} {vs : List Value} {f : Cnt}, CR P w Φ σ ρ cs vs f → cs.any hasRef = false → hrs cs = false
  | [], vs, f, _, _ => rfl
  | c :: cs, vs, f, h, ha => by
    simp only [CR] at h
    obtain ⟨v, vs', f1, f2, rfl, h1, h2, _⟩ := h
    simp only [List.any_cons, Bool.or_eq_false_iff] at ha
    simp only [hrs, Bool.or_eq_false_iff]
    exact ⟨hasRef_hr h1 ha.1, CR_refree h2 ha.2⟩

/-- Out of a region. -/
theorem St_out {e : Env} {ρ : List Value} {tmps : Array Value} {w : World} {Φ : Nat → Prop} {f : Cnt} (h : St P C (V ++ D) n e ρ tmps w Φ f) (hr : (e.take V.length).any hasRef = false) :
    ∃ f', St P C V n (e.take V.length) (ρ.take V.length) tmps w Φ f' := by
  obtain ⟨f1, f2, h1, h2, hf⟩ := CR_take_drop V.length h.rel
  refine ⟨f1, CR_stab w Φ _ (fun _ _ => rfl) (fun _ h => h) _ _ _ (CR_refree h1 hr) (fun _ _ => rfl) h1, fun j cv hj => ?_, h.inv.le (fun b => by have := hf b; omega), h.ext, h.sub, h.new, fun b hb => h.own b (by have := hf b; omega), h.size⟩
  rw [List.getElem?_take] at hj
  split at hj
  · rename_i hjl
    rcases h.lk j cv hj with h1 | ⟨t, ht, h2⟩
    · exact .inl h1
    · exact .inr ⟨t, by rw [List.getElem?_append_left hjl] at ht; exact ht, h2⟩
  · cases hj

theorem St_drawn {e : Env} {ρ : List Value} {tmps : Array Value} {w : World} {Φ : Nat → Prop} {f : Cnt} (h : St P C V n e ρ tmps w Φ f) : St P C V n e ρ tmps { w with drawn := w.drawn + 1 } Φ f :=
  ⟨CR_ext2 (w := w) (w' := { w with drawn := w.drawn + 1 }) (fun _ _ => rfl) h.inv.fz _ _ _ h.inv.lt h.rel, h.lk, ⟨h.inv.sep, h.inv.lt, h.inv.fz, h.inv.apart, tabs_keep h.inv.tab (fun _ _ => rfl) (fun _ h => h)⟩, h.ext.trans ⟨rfl, rfl, rfl, Nat.le_refl _, fun _ _ _ => rfl⟩ h.own, h.sub, h.new, h.own, h.size⟩

theorem deads_getElem {k i : Nat} {ρ : List Value} (h1 : ρ.length ≤ i) (h2 : i < ρ.length + k) : (ρ ++ List.replicate k unk)[i]? = some unk := by
  rw [List.getElem?_append_right h1, List.getElem?_replicate, if_pos (by omega)]

theorem cnt_none {t k : Nat} : cntU (Array.replicate k false) t = t := by
  induction t with
  | zero => rfl
  | succ t ih =>
    simp only [cntU, ih]
    by_cases h : t < k
    · simp [h]
    · simp [Array.getElem?_eq_none, h]

theorem endOk_spec {m : Nat} {e : Env} (h : endOk m e = true) : (e.take m).length = m ∧ (e.take m).any hasRef = false := by
  simp only [endOk, Bool.and_eq_true, decide_eq_true_eq, Bool.not_eq_true'] at h
  exact ⟨by simp; omega, h.2⟩

theorem dropS_length {x : Opd} {e : Env} : (dropS x e).length = e.length := by cases x <;> simp [dropS]

theorem okCode_loop {c : Code} {b : SCode} (h : okCode P V n c (.loop b) = true) : ∃ c', c = .loop c' ∧ okCode P V n c' b = true := by
  cases c <;> simp [okCode] at h
  · exact ⟨_, rfl, h⟩

/-- What was shown of a run. -/
structure RunsOk (P : Program) (C : Cx) (V : List Nat) (n : Nat) (sc : SCode) (e : Env) (ex : Exit) (e2 : Env) : Prop where
  len : e2.length = V.length
  wp : ∀ (c : Code), okCode P V n c sc = true → ∀ ρ tmps w Φ f, St P C V n e ρ tmps w Φ f → c.wp P (Post P C V n ex e2) ⟨tmps, []⟩ w
  loop : ∀ b, sc = .loop b → ∃ k, ∀ (c : Code), okCode P V n c b = true → ∀ ρ tmps w Φ f, St P C V n e ρ tmps w Φ f → Code.rounds P c (Post P C V n ex e2) k ⟨tmps, []⟩ w

/-- A region that draws its order. -/
theorem dreg_sound {D : List Nat} {ops : List SOpr} {sees : List (List Nat)} {t : Nat} {cons : List (Nat × Nat)} {info : List (List Bool × Option (List Nat))} {fin : List Bool} {e e2 : Env} {id : Nat} {os : Array Oper} {ρ : List Value} {tmps : Array Value} {w : World} {Φ : Nat → Prop} {f : Cnt}
    {Q : Exit → Act → World → Prop} (hl : e.length = V.length) (hnd : nodupB (V ++ D) = true) (hok : okOprs P V D n os 0 os.toList ops = true) (hsee : okSee os sees t = true) (ht : t ≤ ops.length) (hmix : P.follows .mixedOrders = true) (hco : okConsB cons sees t = true) (hinf : okInfo cons sees t info fin = true)
    (hst : St P C V n e ρ tmps w Φ f) (h : DRunB P e (ops.take t) info [] fun vs => SRun P V.length t (ops.drop t) (e ++ maskB fin vs ++ deads (ops.length - t)) (fun e1 => e1 = e2))
    (hQ : ∀ ρ1 tmps1 w1 Φ1 f1, St P C (V ++ D) n e2 ρ1 tmps1 w1 Φ1 f1 → Q .normal ⟨tmps1, []⟩ w1) : (Code.region id os true).wp P Q ⟨tmps, []⟩ w := by
  simp only [okInfo, Bool.and_eq_true, List.all_eq_true, List.mem_range, beq_iff_eq] at hinf
  replace h := DRunB_DRun (cons := cons) (S := sees) (sees := sees) (fun i hi => by simpa using hinf.1 i (by simp at hi; omega)) h
  have hρ : ρ.length = V.length := by rw [← CR_length hst.rel]; omega
  have hos : os.size = ops.length := by have := okOprs_length hok; simpa using this
  obtain ⟨vs, hvl, ⟨ws, hws⟩, htail, hvals⟩ := DRun_vals h
  simp only [List.length_nil, Nat.zero_add, List.length_take] at hvl
  have hvt : vs.length = t := by omega
  rw [hinf.2, List.range_eq_range', maskB_P hvt] at htail
  have hst0 := St_drawn (St_in (D := D) hst (by omega) ops.length)
  refine wp_region_any hmix (draw_head (C := C) (Q := fun e1 => e1 = e2) (e := e) (vs := vs) (nodupB_spec hnd) hok hsee hco (by omega) (by omega) hvt (fun e1 ρ1 tmps1 w1 Φ1 f1 hst1 he1 => ?_) (fun k so hk hso => ?_) ?_ os.size _ (ρ ++ List.replicate ops.length unk) tmps _ Φ f (by simp) (fun j _ hj => by simp [hj]) (by rw [cnt_none]; omega)
    (fun y hy hly => by simp [hy] at hly) ?_ (fun j hj _ => deads_getElem (by omega) (by omega)))
  · subst he1
    exact hQ _ _ _ _ _ hst1
  · have := hvals k so (by rw [List.getElem?_take, if_pos hk]; exact hso)
    simpa using this
  · rw [hos]; exact htail
  · have : envP e (vis cons (Array.replicate os.size false)) vs (os.size - t) = e ++ deads ops.length := by
      have hmask : maskP (vis cons (Array.replicate os.size false)) 0 vs = deads t := by
        apply List.ext_getElem?
        intro i
        rw [maskP_get]
        simp only [deads, List.getElem?_replicate, Nat.zero_add]
        by_cases hi : i < t
        · rw [if_pos hi, List.getElem?_eq_getElem (by omega)]
          have : vis cons (Array.replicate os.size false) i = false := by simp [vis, show i < os.size by omega]
          simp [this]
        · rw [if_neg hi, List.getElem?_eq_none (by omega)]; rfl
      rw [envP, hmask, deads, deads, List.append_assoc, List.replicate_append_replicate, hos]
      congr 2
      omega
    rw [this]
    exact hst0

theorem any_hrs {e : Env} {ρ : List Value} {w : World} {Φ : Nat → Prop} {σ : Nat → Value} {f : Cnt} (h : CR P w Φ σ ρ e ρ f) (hr : e.any hasRef = false) : hrs e = false := CR_refree h hr
/-- A slot of which nothing is known may stand for another temporary. -/
theorem St_dummy {e : Env} {ρ : List Value} {tmps : Array Value} {w : World} {Φ : Nat → Prop} {f : Cnt} {j : Nat} (h : St P C V n e ρ tmps w Φ f) (hl : e.length = V.length) (hr : e.any hasRef = false) (hd : e[j]? = some .dead) :
    St P C (V.set j (n + 999)) n e (ρ.set j unk) tmps w Φ f := by
  have s := CR_stab w Φ (ρ.set j unk) (fun _ _ => rfl) (fun _ h => h) _ _ _ (CR_refree h.rel hr) (fun _ _ => rfl) h.rel
  obtain ⟨cv, f1, f2, hcv, hv, hf, hset⟩ := CR_get j s hd
  have z : ∀ b, f1 b = 0 := by simpa only [VR] using hv
  have s2 := hset .dead unk (fun _ => 0) (by simp [VR])
  have e1 : e.set j .dead = e := by
    apply List.ext_getElem?
    intro i
    rw [List.getElem?_set]
    split
    · rename_i h; subst h
      have hj := (List.getElem?_eq_some_iff.1 hd).1
      rw [if_pos hj, hd]
    · rfl
  rw [e1, show (fun b => 0 + f2 b) = f from funext fun b => by have := hf b; have := z b; omega] at s2
  refine ⟨s2, fun i u hi => ?_, h.inv, h.ext, h.sub, h.new, h.own, h.size⟩
  rw [List.getElem?_set] at hi
  split at hi
  · split at hi
    · exact .inl (Option.some.inj hi).symm
    · cases hi
  · rename_i hne
    rcases h.lk i u hi with h1 | ⟨t, ht, h2⟩
    · exact .inl h1
    · exact .inr ⟨t, by rw [List.getElem?_set_ne hne]; exact ht, h2⟩
/-- What lies in a slot of the region is moved to a variable that has the same temporary. -/
theorem St_moved {e : Env} {ρ : List Value} {tmps : Array Value} {w : World} {Φ : Nat → Prop} {f : Cnt} {j k x : Nat} {v : AV} (h : St P C (V.set j x ++ D) n e ρ tmps w Φ f) (hr : (e.take V.length).any hasRef = false) (hj : j < V.length) (hjk : V[j]? = D[k]?) (hk : k < D.length)
    (hv : e[V.length + k]? = some v) (hvr : hasRef v = false) : ∃ ρ' f', St P C V n ((e.take V.length).set j v) ρ' tmps w Φ f' := by
  obtain ⟨f1, f2, h1, h2, hf⟩ := CR_take_drop V.length h.rel
  obtain ⟨cv, g1, g2, hcv, hvr1, hg, _⟩ := CR_get k h2 (by rw [List.getElem?_drop]; exact hv)
  have hcv' : ρ[V.length + k]? = some cv := by rw [List.getElem?_drop] at hcv; exact hcv
  have s1 := CR_stab w Φ ((ρ.take V.length).set j cv) (fun _ _ => rfl) (fun _ h => h) _ _ _ (CR_refree h1 hr) (fun _ _ => rfl) h1
  have s2 := stab w Φ ((ρ.take V.length).set j cv) (fun _ _ => rfl) (fun _ h => h) v cv g1 (hasRef_hr hvr1 hvr) (fun _ _ => rfl) hvr1
  have hlen : V.length ≤ e.length := by have := (List.getElem?_eq_some_iff.1 hv).1; omega
  obtain ⟨g, hg1, hg2⟩ := CR_set s1 s2 (i := j) (by simp; omega)
  have hle : ∀ b, g b ≤ f b := fun b => by have := hg2 b; have := hf b; have := hg b; omega
  refine ⟨(ρ.take V.length).set j cv, g, ⟨hg1, fun i u hi => ?_, h.inv.le hle, h.ext, h.sub, h.new, fun b hb => h.own b (Nat.le_trans hb (hle b)), h.size⟩⟩
  rw [List.getElem?_set] at hi
  split at hi
  · rename_i hij
    subst hij
    split at hi
    · have hu := Option.some.inj hi
      subst hu
      rcases h.lk _ _ hcv' with h1 | ⟨t, ht, h2⟩
      · exact .inl h1
      · refine .inr ⟨t, ?_, h2⟩
        rw [List.getElem?_append_right (by simp)] at ht
        simp at ht
        rw [hjk]; exact ht
    · cases hi
  · rename_i hne
    rw [List.getElem?_take] at hi
    split at hi
    · rename_i hil
      rcases h.lk i u hi with h1 | ⟨t, ht, h2⟩
      · exact .inl h1
      · rw [List.getElem?_append_left (by simpa using hil), List.getElem?_set_ne hne] at ht
        exact .inr ⟨t, ht, h2⟩
    · cases hi

theorem Runs_sound {m : Nat} (hm : m = V.length) {sc : SCode} {e e2 : Env} {ex : Exit} (h : Runs P m sc e ex e2) : e.length = m → RunsOk P C V n sc e ex e2 := by
  induction h with
  | skip =>
    intro hl
    refine ⟨by omega, fun c hc ρ tmps w Φ f hst => ?_, fun b hb => by cases hb⟩
    cases c <;> simp [okCode] at hc
    · exact wp_skip ⟨rfl, ρ, tmps, Φ, f, rfl, hst⟩
  | reg h hr =>
    rename_i D ops e e2
    intro hl
    obtain ⟨h1, h2⟩ := endOk_spec hr
    refine ⟨by omega, fun c hc ρ tmps w Φ f hst => ?_, fun b hb => by cases hb⟩
    cases c <;> try (simp [okCode] at hc; done)
    rename_i id os dr
    cases dr <;> simp [okCode] at hc
    obtain ⟨⟨hnd, hDl⟩, hok⟩ := hc
    have hρ : ρ.length = V.length := by rw [← CR_length hst.rel]; omega
    refine wp_region_list (SRun_sound (C := C) (nodupB_spec hnd) (Q := fun e1 => e1 = e2) (fun e1 ρ1 tmps1 w1 Φ1 f1 hst1 he1 => ?_) ops os.toList 0 _ _ tmps w Φ f hok (St_in hst (by omega) ops.length) (by simp [deads]; omega) (fun i hi hi2 => ?_) (by rw [← hm]; exact h))
    · subst he1
      rw [hm] at h2 ⊢
      obtain ⟨f', hst'⟩ := St_out hst1 h2
      exact ⟨rfl, _, _, _, _, rfl, hst'⟩
    · simp at hi2
      exact deads_getElem (by omega) (by omega)
  | dreg h hr =>
    rename_i D ops sees t cons info fin e e2
    intro hl
    obtain ⟨h1, h2⟩ := endOk_spec hr
    refine ⟨by omega, fun c hc ρ tmps w Φ f hst => ?_, fun b hb => by cases hb⟩
    cases c <;> try (simp [okCode] at hc; done)
    rename_i id os dr
    cases dr <;> simp [okCode] at hc
    obtain ⟨⟨⟨⟨⟨⟨⟨hnd, hDl⟩, hok⟩, hsee⟩, ht⟩, hmix⟩, hco⟩, hinf⟩ := hc
    simp only [okInfo, Bool.and_eq_true, List.all_eq_true, List.mem_range, beq_iff_eq] at hinf
    refine dreg_sound (e2 := e2) (by omega) hnd hok hsee ht hmix hco (by simpa [okInfo] using hinf) hst (hm ▸ h) fun ρ1 tmps1 w1 Φ1 f1 hst1 => ?_
    rw [hm] at h2 ⊢
    obtain ⟨f', hst'⟩ := St_out hst1 h2
    exact ⟨rfl, _, _, _, _, rfl, hst'⟩
  | dregm hd h hr hv =>
    rename_i j k D ops sees t cons info fin e e2 e3
    intro hl
    obtain ⟨h1, h2⟩ := endOk_spec hr
    unfold mvEnd at hv
    split at hv
    · rename_i v hkv
      split at hv
      · cases hv
      · rename_i hvr
        simp only [Option.some.injEq] at hv
        subst hv
        refine ⟨by rw [List.length_set]; omega, fun c hc ρ tmps w Φ f hst => ?_, fun b hb => by cases hb⟩
        cases c <;> try (simp [okCode] at hc; done)
        rename_i id os dr
        cases dr <;> simp [okCode] at hc
        obtain ⟨⟨⟨⟨⟨⟨⟨⟨⟨⟨hj, hjk⟩, hk⟩, hnd⟩, hDl⟩, hok⟩, hsee⟩, ht⟩, hmix⟩, hco⟩, hinf⟩ := hc
        have hst' := St_dummy hst (by omega) hd.1 hd.2
        refine dreg_sound (e2 := e2) (by simp; omega) hnd hok hsee ht hmix hco (by simpa [okInfo] using hinf) hst' (by simpa [hm] using h) fun ρ1 tmps1 w1 Φ1 f1 hst1 => ?_
        rw [hm] at h2 hkv ⊢
        obtain ⟨ρ2, f', hst2⟩ := St_moved hst1 h2 hj hjk hk hkv (by simpa using hvr)
        exact ⟨rfl, _, _, _, _, rfl, hst2⟩
    · cases hv
  | seq h1 h2 ih1 ih2 =>
    rename_i a b e e1 e2 ex
    intro hl
    have i1 := ih1 hl
    have i2 := ih2 (by rw [i1.len, hm])
    refine ⟨i2.len, fun c hc ρ tmps w Φ f hst => ?_, fun b hb => by cases hb⟩
    cases c <;> try (simp [okCode] at hc; done)
    · rename_i x y
      simp only [okCode, Bool.and_eq_true] at hc
      refine wp_seq (wp_mono (i1.wp x hc.1 ρ tmps w Φ f hst) ?_)
      rintro ex' a' w' ⟨rfl, ρ1, tmps1, Φ1, f1, rfl, hst1⟩
      exact i2.wp y hc.2 ρ1 tmps1 w' Φ1 f1 hst1
  | seqOut h1 hx ih1 =>
    rename_i a b e e1 ex
    intro hl
    have i1 := ih1 hl
    refine ⟨i1.len, fun c hc ρ tmps w Φ f hst => ?_, fun b hb => by cases hb⟩
    cases c <;> try (simp [okCode] at hc; done)
    · rename_i x y
      simp only [okCode, Bool.and_eq_true] at hc
      refine wp_seq (wp_mono (i1.wp x hc.1 ρ tmps w Φ f hst) ?_)
      rintro ex' a' w' ⟨rfl, hrest⟩
      cases ex' <;> first | exact absurd rfl hx | exact ⟨rfl, hrest⟩
  | cond hx h ih =>
    rename_i x a b e e2 ex t
    intro hl
    have i1 := ih (by rw [dropS_length, hl])
    refine ⟨i1.len, fun c hc ρ tmps w Φ f hst => ?_, fun b hb => by cases hb⟩
    cases c <;> try (simp [okCode] at hc; done)
    · rename_i cx y z
      simp only [okCode, Bool.and_eq_true] at hc
      obtain ⟨⟨hc1, hc2⟩, hc3⟩ := hc
      have hv := VR_bool (ev_rel (a := ⟨tmps, []⟩) hst.rel hst.lk hc1 hx (fun _ => 0) (fun _ => rfl))
      obtain ⟨f', hst'⟩ := St_drop (x := x) hst
      refine wp_cond hv ?_
      cases t
      · exact i1.wp z hc3 ρ tmps w Φ f' hst'
      · exact i1.wp y hc2 ρ tmps w Φ f' hst'
  | condk hx h ih =>
    rename_i x a b e e2 ex t
    intro hl
    have i1 := ih hl
    refine ⟨i1.len, fun c hc ρ tmps w Φ f hst => ?_, fun b hb => by cases hb⟩
    cases c <;> try (simp [okCode] at hc; done)
    · rename_i cx y z
      simp only [okCode, Bool.and_eq_true] at hc
      obtain ⟨⟨hc1, hc2⟩, hc3⟩ := hc
      have hv := VR_bool (ev_rel (a := ⟨tmps, []⟩) hst.rel hst.lk hc1 hx (fun _ => 0) (fun _ => rfl))
      refine wp_cond hv ?_
      cases t
      · exact i1.wp z hc3 ρ tmps w Φ f hst
      · exact i1.wp y hc2 ρ tmps w Φ f hst
  | block h ih =>
    rename_i id b e e2 ex
    intro hl
    have i1 := ih hl
    refine ⟨i1.len, fun c hc ρ tmps w Φ f hst => ?_, fun b hb => by cases hb⟩
    cases c <;> try (simp [okCode] at hc; done)
    · rename_i id' y
      simp only [okCode, Bool.and_eq_true, beq_iff_eq] at hc
      obtain ⟨rfl, hc⟩ := hc
      refine wp_block (wp_mono (i1.wp y hc ρ tmps w Φ f hst) ?_)
      rintro ex' a' w' ⟨rfl, hrest⟩
      cases ex' <;> try exact ⟨rfl, hrest⟩
      rename_i i
      simp only [Exit.inBlock, outOf]
      split
      · exact ⟨rfl, hrest⟩
      · exact ⟨rfl, hrest⟩
  | loop h1 h2 ih1 ih2 =>
    rename_i b e e1 e2 ex
    intro hl
    have i1 := ih1 hl
    have i2 := ih2 (by rw [i1.len, hm])
    obtain ⟨k, hk⟩ := i2.loop b rfl
    have go : ∀ (c : Code), okCode P V n c b = true → ∀ ρ tmps w Φ f, St P C V n e ρ tmps w Φ f → Code.rounds P c (Post P C V n ex e2) (k + 1) ⟨tmps, []⟩ w := by
      intro c hc ρ tmps w Φ f hst
      rw [rounds_succ]
      refine wp_mono (i1.wp c hc ρ tmps w Φ f hst) ?_
      rintro ex' a' w' ⟨rfl, ρ1, tmps1, Φ1, f1, rfl, hst1⟩
      exact hk c hc ρ1 tmps1 w' Φ1 f1 hst1
    refine ⟨i2.len, fun c hc ρ tmps w Φ f hst => ?_, fun b' hb => ?_⟩
    · obtain ⟨c', rfl, hc'⟩ := okCode_loop hc
      exact wp_loop_rounds (k + 1) (go c' hc' ρ tmps w Φ f hst)
    · cases hb; exact ⟨k + 1, go⟩
  | loopOut h1 hx ih1 =>
    rename_i b e e1 ex
    intro hl
    have i1 := ih1 hl
    have go : ∀ (c : Code), okCode P V n c b = true → ∀ ρ tmps w Φ f, St P C V n e ρ tmps w Φ f → Code.rounds P c (Post P C V n ex e1) 1 ⟨tmps, []⟩ w := by
      intro c hc ρ tmps w Φ f hst
      rw [rounds_succ]
      refine wp_mono (i1.wp c hc ρ tmps w Φ f hst) ?_
      rintro ex' a' w' ⟨rfl, hrest⟩
      cases ex' <;> first | exact absurd rfl hx | exact ⟨rfl, hrest⟩
    refine ⟨i1.len, fun c hc ρ tmps w Φ f hst => ?_, fun b' hb => ?_⟩
    · obtain ⟨c', rfl, hc'⟩ := okCode_loop hc
      exact wp_loop_rounds 1 (go c' hc' ρ tmps w Φ f hst)
    · cases hb; exact ⟨1, go⟩
  | forget j h1 ih1 =>
    intro hl
    have i1 := ih1 (by simpa using hl)
    refine ⟨i1.len, fun c hc ρ tmps w Φ f hst => ?_, fun b hb => ?_⟩
    · obtain ⟨f', hst'⟩ := St_drop (x := .slot j) hst
      exact i1.wp c hc ρ tmps w Φ f' hst'
    · obtain ⟨k, hk⟩ := i1.loop b hb
      refine ⟨k, fun c hc ρ tmps w Φ f hst => ?_⟩
      obtain ⟨f', hst'⟩ := St_drop (x := .slot j) hst
      exact hk c hc ρ tmps w Φ f' hst'
  | exit =>
    intro hl
    refine ⟨by omega, fun c hc ρ tmps w Φ f hst => ?_, fun b hb => by cases hb⟩
    cases c <;> try (simp [okCode] at hc; done)
    · simp [okCode] at hc; subst hc
      exact wp_exit ⟨rfl, ρ, tmps, Φ, f, rfl, hst⟩
  | ret =>
    intro hl
    refine ⟨by omega, fun c hc ρ tmps w Φ f hst => ?_, fun b hb => by cases hb⟩
    cases c <;> try (simp [okCode] at hc; done)
    · exact wp_ret ⟨rfl, ρ, tmps, Φ, f, rfl, hst⟩
end
end Go.AM
