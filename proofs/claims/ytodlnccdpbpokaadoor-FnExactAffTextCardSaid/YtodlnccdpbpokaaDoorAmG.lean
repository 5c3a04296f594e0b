/- Walking with a stack of what is still to be done, in place of functions. -/
import Derived.Test.YtodlnccdpbpokaaDoorAmData
set_option linter.unusedSimpArgs false
set_option linter.unusedVariables false
set_option linter.unusedSectionVars false
namespace Go.AM
open Go

inductive Fr where
  | sq (b : SCode)
  | bl (id : Nat)
  | mv (j k : Nat)
def runK (P : Program) (m : Nat) : List Fr → (Exit → Env → Prop) → Exit → Env → Prop
  | [], Q, ex, e => Q ex e
  | .sq b :: K, Q, ex, e => match ex with
    | .normal => wpS P m b e (runK P m K Q)
    | ex => runK P m K Q ex e
  | .bl id :: K, Q, ex, e => runK P m K Q (outOf id ex) e
  | .mv _ _ :: K, Q, ex, e => False
def R (P : Program) (m : Nat) (ex : Exit) (e : Env) (K : List Fr) (Q : Exit → Env → Prop) : Prop := runK P m K Q ex e
def G (P : Program) (m : Nat) (sc : SCode) (e : Env) (K : List Fr) (Q : Exit → Env → Prop) : Prop := wpS P m sc e (runK P m K Q)
def CondG (P : Program) (m : Nat) (a b : SCode) (e : Env) (K : List Fr) (Q : Exit → Env → Prop) : Option AV → Prop
  | some (.bool t) => (t = true → G P m a e K Q) ∧ (t = false → G P m b e K Q)
  | _ => False
/-- A region's end. -/
def endS (P : Program) (m : Nat) (e : Env) (Q : Exit → Env → Prop) : List Fr → Prop
  | .mv j k :: K => endOk m e = true ∧ match mvEnd m j k e with
    | some e3 => R P m .normal e3 K Q
    | none => False
  | K => endOk m e = true ∧ R P m .normal (e.take m) K Q
/-- Operations one behind the other. -/
def S (P : Program) (m k : Nat) (ops : List SOpr) (e : Env) (K : List Fr) (Q : Exit → Env → Prop) : Prop := SRun P m k ops e fun e2 => endS P m e2 Q K
def T3 (P : Program) (m k : Nat) (rest : List SOpr) (K : List Fr) (Q : Exit → Env → Prop) : Option Env → Prop
  | some e2 => S P m (k + 1) rest e2 K Q
  | none => False
def T2 (P : Program) (m k : Nat) (d : Option Nat) (rest : List SOpr) (K : List Fr) (Q : Exit → Env → Prop) : Option (AV × Env) → Prop
  | some (v, e) => T3 P m k rest K Q (putV m k d v e)
  | none => False
/-- A call, as it stands: to be answered by what is known of the function. -/
def CallG (P : Program) (m k : Nat) (d : Option Nat) (rest : List SOpr) (e : Env) (K : List Fr) (Q : Exit → Env → Prop) (fr : Bool) (g : Nat) : Option (List AV × Bool) → Prop
  | some (avs, live) => ∃ res, Says P g avs res [] ∧ (live = true → noFrz res = true) ∧
      match (if fr then frz res else some res) with
      | some v => T3 P m k rest K Q (putV m k d v e)
      | none => False
  | none => False
def CallV (P : Program) (m k : Nat) (d : Option Nat) (rest : List SOpr) (e : Env) (K : List Fr) (Q : Exit → Env → Prop) : Option (Nat × List AV) → Option (List AV × Bool) → Prop
  | some (g, caps), some (avs, live) => plainFn P g = true ∧ ∃ res, Says P g (avs ++ caps) res [] ∧ (live = true → noFrz res = true) ∧ T3 P m k rest K Q (putV m k d res e)
  | _, _ => False
/-- What a call is given: the slots meanwhile, the places to give back to, the function, its arguments. -/
def giveX (e : Env) (x : Opd) (args : List (Opd × Bool)) : Option (Env × List Bk × Nat × List AV × Bool) := match give1 e 1 args with
  | some (e1, b1, vs) => match calleeM e1 (1 + nB b1) x with
    | some (g, caps, e2, b2) => match give2 e2 args vs with
      | some (avs, live) => some (e2, b1 ++ b2, g, avs ++ caps, live)
      | none => none
    | none => none
  | none => none
def CallM (P : Program) (m k : Nat) (d : Option Nat) (rest : List SOpr) (K : List Fr) (Q : Exit → Env → Prop) : Option (Env × List Bk × Nat × List AV × Bool) → Prop
  | some (e2, bs, g, avs, live) => plainFn P g = true ∧ bksOk e2 bs = true ∧ ∃ res outs, Says P g avs res (num 1 outs) ∧ outOk (nB bs) live res outs = true ∧
      match putBks (killE e2) bs outs with
      | some e3 => T3 P m k rest K Q (putV m k d res e3)
      | none => False
  | none => False
def GuardS (P : Program) (m k : Nat) (b : Bool) (so : SOpr) (rest : List SOpr) (e : Env) (K : List Fr) (Q : Exit → Env → Prop) : Option AV → Prop
  | some (.bool t) => if t = b then S P m k (so :: rest) e K Q else S P m (k + 1) rest (skE m k e so.k) K Q
  | some (.tup [] []) => S P m (k + 1) rest (skE m k e so.k) K Q
  | _ => False
/-- Operations in any order. -/
def DS (P : Program) (m : Nat) (lf : Bool) (e : Env) (ops : List SOpr) (info : List (List Bool × Option (List Nat))) (acc : List AV) (fin : List Bool) (t : Nat) (tail : List SOpr) (r : Nat) (K : List Fr) (Q : Exit → Env → Prop) : Prop :=
  DRunB P e ops info acc fun vs => (lf = true → (e ++ vs).all (liveV e) = true) ∧ S P m t tail (e ++ maskB fin vs ++ deads r) K Q
def D2 (P : Program) (m : Nat) (lf : Bool) (e : Env) (ops : List SOpr) (info : List (List Bool × Option (List Nat))) (acc : List AV) (fin : List Bool) (t : Nat) (tail : List SOpr) (r : Nat) (K : List Fr) (Q : Exit → Env → Prop) : Option (AV × Env) → Prop
  | some (v, _) => isDead v = false ∧ DS P m lf e ops info (acc ++ [v]) fin t tail r K Q
  | none => False
def DCons (P : Program) (m : Nat) (lf : Bool) (e em : Env) (d : List Nat) (ops : List SOpr) (info : List (List Bool × Option (List Nat))) (acc : List AV) (fin : List Bool) (t : Nat) (tail : List SOpr) (r : Nat) (K : List Fr) (Q : Exit → Env → Prop) : Option (AV × Env) → Prop
  | some (v, e1) => isDead v = false ∧ killS e1 d = killS em d ∧ DS P m lf e ops info (acc ++ [v]) fin t tail r K Q
  | none => False
def CallD (P : Program) (m : Nat) (lf : Bool) (e : Env) (ops : List SOpr) (info : List (List Bool × Option (List Nat))) (acc : List AV) (fin : List Bool) (t : Nat) (tail : List SOpr) (r : Nat) (K : List Fr) (Q : Exit → Env → Prop) (fr : Bool) (g : Nat) : Option (List AV × Bool) → Prop
  | some (avs, live) => ∃ res, Says P g avs res [] ∧ (live = true → noFrz res = true) ∧
      match (if fr then frz res else some res) with
      | some v => isDead v = false ∧ DS P m lf e ops info (acc ++ [v]) fin t tail r K Q
      | none => False
  | none => False
def CallDV (P : Program) (m : Nat) (lf : Bool) (e : Env) (ops : List SOpr) (info : List (List Bool × Option (List Nat))) (acc : List AV) (fin : List Bool) (t : Nat) (tail : List SOpr) (r : Nat) (K : List Fr) (Q : Exit → Env → Prop) : Option (Nat × List AV) → Option (List AV × Bool) → Prop
  | some (g, caps), some (avs, live) => plainFn P g = true ∧ ∃ res, Says P g (avs ++ caps) res [] ∧ (live = true → noFrz res = true) ∧ isDead res = false ∧ DS P m lf e ops info (acc ++ [res]) fin t tail r K Q
  | _, _ => False
def GuardD (P : Program) (m : Nat) (lf : Bool) (b : Bool) (so : SOpr) (e : Env) (ops : List SOpr) (bs : List Bool) (c : Option (List Nat)) (info : List (List Bool × Option (List Nat))) (acc : List AV) (fin : List Bool) (t : Nat) (tail : List SOpr) (r : Nat) (K : List Fr) (Q : Exit → Env → Prop) : Option AV → Prop
  | some (.bool x) => if x = b then DS P m lf e (so :: ops) ((bs, c) :: info) acc fin t tail r K Q else DS P m lf e ops info (acc ++ [skV so.k]) fin t tail r K Q
  | some (.tup [] []) => DS P m lf e ops info (acc ++ [skV so.k]) fin t tail r K Q
  | _ => False

section
variable {P : Program} {m k : Nat} {e e' : Env} {K : List Fr} {Q : Exit → Env → Prop}
@[simp] theorem G_seq {a b : SCode} : G P m (.seq a b) e K Q = G P m a e (.sq b :: K) Q := rfl
@[simp] theorem G_block {id : Nat} {b : SCode} : G P m (.block id b) e K Q = G P m b e (.bl id :: K) Q := rfl
@[simp] theorem G_skip : G P m .skip e K Q = R P m .normal e K Q := rfl
@[simp] theorem G_exit {i : Nat} : G P m (.exit i) e K Q = R P m (.exit i) e K Q := rfl
@[simp] theorem G_ret : G P m .ret e K Q = R P m .ret e K Q := rfl
@[simp] theorem G_bad : G P m .bad e K Q = False := rfl
@[simp] theorem G_cond {x : Opd} {a b : SCode} : G P m (.cond x a b) e K Q = CondG P m a b (dropS x e) K Q (ev e x) := by
  unfold G CondG
  simp only [wpS, G]
  split <;> rename_i h <;> split <;> simp_all
@[simp] theorem G_condk {x : Opd} {a b : SCode} : G P m (.condk x a b) e K Q = CondG P m a b e K Q (ev e x) := by
  unfold G CondG
  simp only [wpS, G]
  split <;> rename_i h <;> split <;> simp_all
@[simp] theorem CondG_t {a b : SCode} : CondG P m a b e K Q (some (.bool true)) = G P m a e K Q := by simp [CondG]
@[simp] theorem CondG_f {a b : SCode} : CondG P m a b e K Q (some (.bool false)) = G P m b e K Q := by simp [CondG]
@[simp low] theorem CondG_b {a b : SCode} {t : Bool} : CondG P m a b e K Q (some (.bool t)) = ((t = true → G P m a e K Q) ∧ (t = false → G P m b e K Q)) := rfl
@[simp] theorem R_nil {ex : Exit} : R P m ex e [] Q = Q ex e := rfl
@[simp] theorem R_n {b : SCode} : R P m .normal e (.sq b :: K) Q = G P m b e K Q := rfl
@[simp] theorem R_x {i : Nat} {b : SCode} : R P m (.exit i) e (.sq b :: K) Q = R P m (.exit i) e K Q := rfl
@[simp] theorem R_r {b : SCode} : R P m .ret e (.sq b :: K) Q = R P m .ret e K Q := rfl
@[simp] theorem R_bn {i : Nat} : R P m .normal e (.bl i :: K) Q = R P m .normal e K Q := rfl
@[simp] theorem R_br {i : Nat} : R P m .ret e (.bl i :: K) Q = R P m .ret e K Q := rfl
@[simp] theorem R_bx {i j : Nat} : R P m (.exit j) e (.bl i :: K) Q = R P m (if j = i then .normal else .exit j) e K Q := rfl
@[simp] theorem G_reg1 {D : List Nat} {ops : List SOpr} : G P m (.reg D ops) e [] Q = S P m 0 ops (e ++ deads ops.length) [] Q := rfl
@[simp] theorem G_reg2 {D : List Nat} {ops : List SOpr} {b : SCode} : G P m (.reg D ops) e (.sq b :: K) Q = S P m 0 ops (e ++ deads ops.length) (.sq b :: K) Q := rfl
@[simp] theorem G_reg3 {D : List Nat} {ops : List SOpr} {id : Nat} : G P m (.reg D ops) e (.bl id :: K) Q = S P m 0 ops (e ++ deads ops.length) (.bl id :: K) Q := rfl
theorem S_nil0 : S P m k [] e K Q = endS P m e Q K := rfl
@[simp] theorem S_nil1 : S P m k [] e [] Q = (endOk m e = true ∧ R P m .normal (e.take m) [] Q) := rfl
@[simp] theorem S_nil2 {b : SCode} : S P m k [] e (.sq b :: K) Q = (endOk m e = true ∧ R P m .normal (e.take m) (.sq b :: K) Q) := rfl
@[simp] theorem S_nil3 {id : Nat} : S P m k [] e (.bl id :: K) Q = (endOk m e = true ∧ R P m .normal (e.take m) (.bl id :: K) Q) := rfl
def Mv (P : Program) (m : Nat) (K : List Fr) (Q : Exit → Env → Prop) : Option Env → Prop
  | some e3 => R P m .normal e3 K Q
  | none => False
@[simp] theorem Mv_some : Mv P m K Q (some e) = R P m .normal e K Q := rfl
@[simp] theorem S_nil4 {j k' : Nat} : S P m k [] e (.mv j k' :: K) Q = (endOk m e = true ∧ Mv P m K Q (mvEnd m j k' e)) := by
  simp only [S_nil0, endS]
  cases mvEnd m j k' e <;> rfl
@[simp] theorem S_op {s : SOp} {d : Option Nat} {rest : List SOpr} : S P m k (⟨.op s, d, none⟩ :: rest) e K Q = T2 P m k d rest K Q (opx e s) := by
  simp only [S, SRun, OpW]
  cases h : opx e s with
  | none => rfl
  | some x => obtain ⟨v, e1⟩ := x; simp only [T2]; cases putV m k d v e1 <;> rfl
@[simp] theorem S_guard {sk : SK} {d : Option Nat} {s : Nat} {b : Bool} {rest : List SOpr} : S P m k (⟨sk, d, some (s, b)⟩ :: rest) e K Q = GuardS P m k b ⟨sk, d, none⟩ rest e K Q e[s]? := by
  simp only [S, SRun, GuardS]
  cases h : e[s]? with
  | none => rfl
  | some v =>
    cases v with
    | bool t => cases t <;> cases b <;> rfl
    | tup sh cs => cases sh <;> cases cs <;> rfl
    | _ => rfl
@[simp] theorem GuardS_b {b t : Bool} {so : SOpr} {rest : List SOpr} : GuardS P m k b so rest e K Q (some (.bool t)) = if t = b then S P m k (so :: rest) e K Q else S P m (k + 1) rest (skE m k e so.k) K Q := rfl
@[simp] theorem GuardS_u {b : Bool} {so : SOpr} {rest : List SOpr} : GuardS P m k b so rest e K Q (some (.tup [] [])) = S P m (k + 1) rest (skE m k e so.k) K Q := rfl
@[simp] theorem T2_some {d : Option Nat} {rest : List SOpr} {v : AV} : T2 P m k d rest K Q (some (v, e)) = T3 P m k rest K Q (putV m k d v e) := rfl
@[simp] theorem T3_some {rest : List SOpr} : T3 P m k rest K Q (some e) = S P m (k + 1) rest e K Q := rfl
@[simp] theorem S_call {g : Nat} {args : List Opd} {fr : Bool} {d : Option Nat} {rest : List SOpr} : S P m k (⟨.call g args fr, d, none⟩ :: rest) e K Q = CallG P m k d rest e K Q fr g (prepX e args) := by
  simp only [S, SRun, OpW]
  cases h : prepX e args with
  | none => rfl
  | some x =>
    obtain ⟨v, l⟩ := x
    simp only [CallG, eq_iff_iff]
    refine exists_congr fun res => and_congr Iff.rfl (and_congr Iff.rfl ?_)
    cases (if fr = true then frz res else some res) with
    | none => exact Iff.rfl
    | some v => simp only; cases putV m k d v e <;> exact Iff.rfl
@[simp] theorem S_callv {x : Opd} {args : List Opd} {d : Option Nat} {rest : List SOpr} : S P m k (⟨.callv x args, d, none⟩ :: rest) e K Q = CallV P m k d rest e K Q (calleeC e x) (prepX e args) := by
  simp only [S, SRun, OpW]
  cases h : calleeC e x with
  | none => rfl
  | some y =>
    obtain ⟨g, caps⟩ := y
    cases h2 : prepX e args with
    | none => rfl
    | some z =>
      obtain ⟨v, l⟩ := z
      simp only [CallV, eq_iff_iff]
      refine and_congr Iff.rfl (exists_congr fun res => and_congr Iff.rfl (and_congr Iff.rfl ?_))
      cases putV m k d res e <;> exact Iff.rfl
@[simp] theorem S_callm {x : Opd} {args : List (Opd × Bool)} {d : Option Nat} {rest : List SOpr} : S P m k (⟨.callm x args, d, none⟩ :: rest) e K Q = CallM P m k d rest K Q (giveX e x args) := by
  simp only [S, SRun, OpW, giveX]
  cases h : give1 e 1 args with
  | none => rfl
  | some y =>
    obtain ⟨e1, b1, vs⟩ := y
    simp only
    cases h2 : calleeM e1 (1 + nB b1) x with
    | none => rfl
    | some z =>
      obtain ⟨g, caps, e2, b2⟩ := z
      simp only
      cases h3 : give2 e2 args vs with
      | none => rfl
      | some u =>
        obtain ⟨avs, live⟩ := u
        simp only [CallM, eq_iff_iff]
        refine and_congr Iff.rfl (and_congr Iff.rfl (exists_congr fun res => exists_congr fun outs => and_congr Iff.rfl (and_congr Iff.rfl ?_)))
        cases putBks (killE e2) (b1 ++ b2) outs with
        | none => exact Iff.rfl
        | some e3 => simp only; cases putV m k d res e3 <;> exact Iff.rfl
theorem DS_false {ops : List SOpr} {info : List (List Bool × Option (List Nat))} {acc : List AV} {fin : List Bool} {t : Nat} {tail : List SOpr} {r : Nat} : DS P m false e ops info acc fin t tail r K Q = DRunB P e ops info acc fun vs => S P m t tail (e ++ maskB fin vs ++ deads r) K Q := by simp [DS]
@[simp] theorem G_dreg1 {D : List Nat} {ops : List SOpr} {sees : List (List Nat)} {t : Nat} {cons : List (Nat × Nat)} {info : List (List Bool × Option (List Nat))} {fin : List Bool} :
    G P m (.dreg D ops sees t cons info fin) e [] Q = DS P m false e (ops.take t) info [] fin t (ops.drop t) (ops.length - t) [] Q := by rw [DS_false]; rfl
@[simp] theorem G_dreg2 {D : List Nat} {ops : List SOpr} {sees : List (List Nat)} {t : Nat} {cons : List (Nat × Nat)} {info : List (List Bool × Option (List Nat))} {fin : List Bool} {b : SCode} :
    G P m (.dreg D ops sees t cons info fin) e (.sq b :: K) Q = DS P m false e (ops.take t) info [] fin t (ops.drop t) (ops.length - t) (.sq b :: K) Q := by rw [DS_false]; rfl
@[simp] theorem G_dreg3 {D : List Nat} {ops : List SOpr} {sees : List (List Nat)} {t : Nat} {cons : List (Nat × Nat)} {info : List (List Bool × Option (List Nat))} {fin : List Bool} {id : Nat} :
    G P m (.dreg D ops sees t cons info fin) e (.bl id :: K) Q = DS P m false e (ops.take t) info [] fin t (ops.drop t) (ops.length - t) (.bl id :: K) Q := by rw [DS_false]; rfl
@[simp] theorem G_dregm {j k : Nat} {D : List Nat} {ops : List SOpr} {sees : List (List Nat)} {t : Nat} {cons : List (Nat × Nat)} {info : List (List Bool × Option (List Nat))} {fin : List Bool} :
    G P m (.dregm j k D ops sees t cons info fin) e K Q = ((e.any hasRef = false ∧ e[j]? = some .dead) ∧ DS P m false e (ops.take t) info [] fin t (ops.drop t) (ops.length - t) (.mv j k :: K) Q) := by rw [DS_false]; rfl
variable {lf : Bool} {ops : List SOpr} {bs : List Bool} {info : List (List Bool × Option (List Nat))} {acc : List AV} {fin : List Bool} {t : Nat} {tail : List SOpr} {r : Nat}
theorem DS_nil : DS P m lf e [] info acc fin t tail r K Q = ((lf = true → (e ++ acc).all (liveV e) = true) ∧ S P m t tail (e ++ maskB fin acc ++ deads r) K Q) := by
  cases info with
  | nil => rfl
  | cons x y => rfl
@[simp] theorem DS_nil0 : DS P m false e [] info acc fin t tail r K Q = S P m t tail (e ++ maskB fin acc ++ deads r) K Q := by simp [DS_nil]
@[simp] theorem DS_nil1 : DS P m true e [] info acc fin t tail r K Q = ((e ++ acc).all (liveV e) = true ∧ S P m t tail (e ++ maskB fin acc ++ deads r) K Q) := by simp [DS_nil]
@[simp] theorem DS_op {s : SOp} : DS P m lf e (⟨.op s, none, none⟩ :: ops) ((bs, none) :: info) acc fin t tail r K Q = (pureOp s = true ∧ D2 P m lf e ops info acc fin t tail r K Q (opx (e ++ maskB bs acc) s)) := by
  simp only [DS, DRunB, OpV]
  cases h : opx (e ++ maskB bs acc) s with
  | none => simp [D2]
  | some x => obtain ⟨v, e1⟩ := x; simp [D2, DS]
@[simp] theorem D2_some {v : AV} : D2 P m lf e ops info acc fin t tail r K Q (some (v, e')) = (isDead v = false ∧ DS P m lf e ops info (acc ++ [v]) fin t tail r K Q) := rfl
@[simp] theorem DS_cons {j : List Nat} {ty n : Nat} {z : List AV} {ps : List (Nat × Nat × Opd)} : DS P m lf e (⟨.op (.bsl ty n z ps), none, none⟩ :: ops) ((bs, some j) :: info) acc fin t tail r K Q = DCons P m lf e (e ++ maskB bs acc) (j.map (e.length + ·)) ops info acc fin t tail r K Q (opx (e ++ maskB bs acc) (.bsl ty n z ps)) := by
  simp only [DS, DRunB, OpC, addL_no (so := ⟨.op (.bsl ty n z ps), none, none⟩) rfl]
  cases h : opx (e ++ maskB bs acc) (.bsl ty n z ps) with
  | none => simp [DCons]
  | some x => obtain ⟨v, e1⟩ := x; simp [DCons, DS]
theorem addL_app {e : Env} {ty sz : Nat} {x y : Opd} {Q : List AV → Prop} : addL e ⟨.op (.append ty sz x y), none, none⟩ (fun vs => (lf = true → (e ++ vs).all (liveV e) = true) ∧ Q vs) = fun vs => (true = true → (e ++ vs).all (liveV e) = true) ∧ Q vs := by
  funext vs
  simp only [addL, isApp]
  apply propext
  constructor
  · rintro ⟨h1, _, h2⟩; exact ⟨h1, h2⟩
  · rintro ⟨h1, h2⟩; exact ⟨h1, fun _ => h1 trivial, h2⟩
@[simp] theorem DS_app {j : List Nat} {ty sz : Nat} {x y : Opd} : DS P m lf e (⟨.op (.append ty sz x y), none, none⟩ :: ops) ((bs, some j) :: info) acc fin t tail r K Q = DCons P m true e (e ++ maskB bs acc) (j.map (e.length + ·)) ops info acc fin t tail r K Q (appX (e ++ maskB bs acc) ty sz x y) := by
  simp only [DS, DRunB, OpC, addL_app]
  cases h : appX (e ++ maskB bs acc) ty sz x y with
  | none => simp [DCons]
  | some x => obtain ⟨v, e1⟩ := x; simp [DCons, DS]
@[simp] theorem DCons_some {em : Env} {d : List Nat} {v : AV} : DCons P m lf e em d ops info acc fin t tail r K Q (some (v, e')) = (isDead v = false ∧ killS e' d = killS em d ∧ DS P m lf e ops info (acc ++ [v]) fin t tail r K Q) := rfl
@[simp] theorem DS_guard {sk : SK} {s : Nat} {b : Bool} : DS P m lf e (⟨sk, none, some (s, b)⟩ :: ops) ((bs, none) :: info) acc fin t tail r K Q = GuardD P m lf b ⟨sk, none, none⟩ e ops bs none info acc fin t tail r K Q (e ++ maskB bs acc)[s]? := by
  simp only [DS, DRunB, true_and]
  cases h : (e ++ maskB bs acc)[s]? with
  | none => rfl
  | some v =>
    cases v with
    | bool t => cases t <;> cases b <;> simp [GuardD, DS, DRunB, OpV, wantX]
    | tup sh cs => cases sh <;> cases cs <;> simp [GuardD, DS, DRunB, OpV, wantX]
    | _ => simp [GuardD, DS, DRunB, OpV, wantX]
@[simp] theorem DS_guardC {sk : SK} {s : Nat} {b : Bool} {js : List Nat} : DS P m lf e (⟨sk, none, some (s, b)⟩ :: ops) ((bs, some js) :: info) acc fin t tail r K Q = GuardD P m lf b ⟨sk, none, none⟩ e ops bs (some js) info acc fin t tail r K Q (e ++ maskB bs acc)[s]? := by
  have hC : ∀ (E : Env) (d : List Nat) (K : AV → Prop), OpC ⟨sk, none, some (s, b)⟩ E d K = OpC ⟨sk, none, none⟩ E d K := fun _ _ _ => rfl
  have hA : ∀ (Q : List AV → Prop), addL e ⟨sk, none, some (s, b)⟩ Q = addL e ⟨sk, none, none⟩ Q := fun _ => rfl
  simp only [DS, DRunB, true_and, hC, hA]
  cases h : (e ++ maskB bs acc)[s]? with
  | none => rfl
  | some v =>
    cases v with
    | bool t => cases t <;> cases b <;> simp [GuardD, DS, DRunB, wantX]
    | tup sh cs => cases sh <;> cases cs <;> simp [GuardD, DS, DRunB, wantX]
    | _ => simp [GuardD, DS, DRunB, wantX]
@[simp] theorem GuardD_b {b x : Bool} {so : SOpr} {c : Option (List Nat)} : GuardD P m lf b so e ops bs c info acc fin t tail r K Q (some (.bool x)) = if x = b then DS P m lf e (so :: ops) ((bs, c) :: info) acc fin t tail r K Q else DS P m lf e ops info (acc ++ [skV so.k]) fin t tail r K Q := rfl
@[simp] theorem GuardD_u {b : Bool} {so : SOpr} {c : Option (List Nat)} : GuardD P m lf b so e ops bs c info acc fin t tail r K Q (some (.tup [] [])) = DS P m lf e ops info (acc ++ [skV so.k]) fin t tail r K Q := rfl
@[simp] theorem DS_call {g : Nat} {args : List Opd} {fr : Bool} : DS P m lf e (⟨.call g args fr, none, none⟩ :: ops) ((bs, none) :: info) acc fin t tail r K Q = CallD P m lf e ops info acc fin t tail r K Q fr g (prepX (e ++ maskB bs acc) args) := by
  simp only [DS, DRunB, OpV, true_and]
  cases h : prepX (e ++ maskB bs acc) args with
  | none => rfl
  | some x => obtain ⟨v, l⟩ := x; rfl
@[simp] theorem DS_callv {x : Opd} {args : List Opd} : DS P m lf e (⟨.callv x args, none, none⟩ :: ops) ((bs, none) :: info) acc fin t tail r K Q = CallDV P m lf e ops info acc fin t tail r K Q (calleeC (e ++ maskB bs acc) x) (prepX (e ++ maskB bs acc) args) := by
  simp only [DS, DRunB, OpV, true_and]
  cases h : calleeC (e ++ maskB bs acc) x with
  | none => rfl
  | some y =>
    obtain ⟨g, caps⟩ := y
    cases h2 : prepX (e ++ maskB bs acc) args with
    | none => rfl
    | some z => obtain ⟨v, l⟩ := z; rfl

/-! Calls: what is known of the function answers them. -/
theorem callG {d : Option Nat} {rest : List SOpr} {g : Nat} {avs : List AV} {live : Bool} {res : AV} (h : Says P g avs res []) (h2 : (live = true → noFrz res = true) ∧ T3 P m k rest K Q (putV m k d res e)) : CallG P m k d rest e K Q false g (some (avs, live)) :=
  ⟨res, h, h2.1, h2.2⟩
theorem callV {d : Option Nat} {rest : List SOpr} {g : Nat} {caps avs : List AV} {live : Bool} {res : AV} (hp : plainFn P g = true) (h : Says P g (avs ++ caps) res []) (h2 : (live = true → noFrz res = true) ∧ T3 P m k rest K Q (putV m k d res e)) : CallV P m k d rest e K Q (some (g, caps)) (some (avs, live)) :=
  ⟨hp, res, h, h2.1, h2.2⟩
def T4 (P : Program) (m k : Nat) (d : Option Nat) (rest : List SOpr) (K : List Fr) (Q : Exit → Env → Prop) (res : AV) : Option Env → Prop
  | some e3 => T3 P m k rest K Q (putV m k d res e3)
  | none => False
@[simp] theorem T4_some {d : Option Nat} {rest : List SOpr} {res : AV} : T4 P m k d rest K Q res (some e) = T3 P m k rest K Q (putV m k d res e) := rfl
theorem callM {d : Option Nat} {rest : List SOpr} {bs : List Bk} {g : Nat} {avs : List AV} {live : Bool} {res : AV} (outs : List AV) (hp : plainFn P g = true) (h : Says P g avs res (num 1 outs)) (h2 : bksOk e bs = true ∧ outOk (nB bs) live res outs = true ∧ T4 P m k d rest K Q res (putBks (killE e) bs outs)) :
    CallM P m k d rest K Q (some (e, bs, g, avs, live)) := by
  refine ⟨hp, h2.1, res, outs, h, h2.2.1, ?_⟩
  have := h2.2.2
  unfold T4 at this
  split at this <;> rename_i h3
  · exact this
  · exact this.elim
theorem callD {g : Nat} {avs : List AV} {live : Bool} {res : AV} (h : Says P g avs res []) (h2 : (live = true → noFrz res = true) ∧ isDead res = false ∧ DS P m lf e ops info (acc ++ [res]) fin t tail r K Q) : CallD P m lf e ops info acc fin t tail r K Q false g (some (avs, live)) :=
  ⟨res, h, h2.1, h2.2⟩
theorem callDV {g : Nat} {caps avs : List AV} {live : Bool} {res : AV} (hp : plainFn P g = true) (h : Says P g (avs ++ caps) res []) (h2 : (live = true → noFrz res = true) ∧ isDead res = false ∧ DS P m lf e ops info (acc ++ [res]) fin t tail r K Q) : CallDV P m lf e ops info acc fin t tail r K Q (some (g, caps)) (some (avs, live)) :=
  ⟨hp, res, h, h2.1, h2.2⟩

/-- A function's body. -/
theorem Fn_G {g : Nat} {fn : Func} {V : List Nat} {sc : SCode} {rs : List SRes} {args : List AV} {res : AV} (hf : P.funcs[g]? = some fn) (hok : okFn P fn V sc rs args.length = true)
    (h : G P V.length sc (args ++ deads (V.length - args.length)) [] (EndsW rs res)) : Says P g args res [] := Fn_of_wp hf hok h
theorem Fn_GM {g : Nat} {fn : Func} {V : List Nat} {sc : SCode} {rs : List SRes} {args : List AV} {res : AV} (ss : List Nat) (os : List AV) (hf : P.funcs[g]? = some fn) (hok : okFn P fn V sc rs args.length = true) (hss : ∀ s ∈ ss, s ≠ 0)
    (h : G P V.length sc (args ++ deads (V.length - args.length)) [] (EndsM rs ss res os)) : Says P g args res (ss.zip os) := Fn_of_wpM ss os hf hok hss h
theorem runK_imp {K : List Fr} {Q Q' : Exit → Env → Prop} (hQ : ∀ ex e, Q ex e → Q' ex e) : ∀ ex e, runK P m K Q ex e → runK P m K Q' ex e := by
  induction K with
  | nil => exact hQ
  | cons f K ih =>
    intro ex e h
    cases f with
    | sq b => cases ex <;> first | exact wpS_imp ih h | exact ih _ _ h
    | bl id => exact ih _ _ h
    | mv j k => exact h.elim
/-- A loop that counts. js: slots that are forgotten at each round's end. out: how it ends. -/
theorem G_loop {l b : SCode} (hl : l = .loop b) (js : List Nat) (E : Nat → Env) (I : Nat → Prop) (n : Nat) (out : Exit → Env → Prop)
    (hstep : ∀ i, i < n → I i → ∀ q : Exit → Env → Prop, (∀ e, js.foldl (fun e j => e.set j .dead) e = E (i + 1) → I (i + 1) → q .normal e) → (∀ i e, out (.exit i) e → q (.exit i) e) → (∀ e, out .ret e → q .ret e) → G P m b (E i) [] q)
    (hlast : I n → ∀ q : Exit → Env → Prop, (∀ i e, out (.exit i) e → q (.exit i) e) → (∀ e, out .ret e → q .ret e) → G P m b (E n) [] q)
    {e : Env} (hI : I 0) (he : e = E 0) (hout : ∀ ex e, out ex e → R P m ex e K Q) : G P m l e K Q := by
  subst he
  have key := W_rangeF (P := P) (m := m) (Q := fun ex e => (∃ i, ex = .exit i ∨ ex = .ret) ∧ out ex e) hl js E I n (fun i hi hI => ?_) (fun hI => ?_) 0 (Nat.zero_le _) hI
  · subst hl
    exact W_imp (fun ex e h => hout ex e h.2) key
  · exact hstep i hi hI _ (fun e h1 h2 => ⟨h1, h2⟩) (fun i e h => ⟨⟨i, .inl rfl⟩, h⟩) (fun e h => ⟨⟨0, .inr rfl⟩, h⟩)
  · exact hlast hI _ (fun i e h => ⟨⟨i, .inl rfl⟩, h⟩) (fun e h => ⟨⟨0, .inr rfl⟩, h⟩)
/-- A loop of any kind: what its slots hold, said of some state; something falls at each round. -/
theorem G_while {α : Type} {l b : SCode} (hl : l = .loop b) (js : List Nat) (E : α → Env) (μ : α → Nat) (I : α → Prop) (out : Exit → Env → Prop)
    (hstep : ∀ a, I a → ∀ q : Exit → Env → Prop, (∀ e a', js.foldl (fun e j => e.set j .dead) e = E a' → I a' → μ a' < μ a → q .normal e) → (∀ i e, out (.exit i) e → q (.exit i) e) → (∀ e, out .ret e → q .ret e) → G P m b (E a) [] q)
    (a : α) (hI : I a) {e : Env} (he : e = E a) (hout : ∀ ex e, out ex e → R P m ex e K Q) : G P m l e K Q := by
  have key : ∀ n a, μ a = n → I a → W P m l (E a) fun ex e => out ex e := by
    intro n
    induction n using Nat.strongRecOn with
    | _ n ih =>
      intro a hn hI
      subst hl
      refine W_loop (hstep a hI _ (fun e a' h1 h2 h3 => ?_) (fun i e h => h) (fun e h => h))
      refine W_forget (js := js) ?_
      rw [h1]
      exact ih _ (by omega) a' rfl h2
  subst he
  subst hl
  exact W_imp (fun ex e h => hout ex e h) (key _ a rfl hI)
end
/-- An empty slice is none, or it is not. -/
theorem Says_nil {P : Program} {g : Nat} {args : List AV} {res : AV} {outs : List (Nat × AV)} (i : Nat) (hi : args[i]? = some (.rsl 0 [])) (h : ∀ t, Says P g (args.set i (.nsl t)) res outs) : Says P g args res outs := by
  intro w Φ σ cargs fa hrel hhr hinv
  obtain ⟨cv, f1, f2, hcv, hv, hf, hset⟩ := CR_get i hrel hi
  simp only [VR] at hv
  obtain ⟨⟨a, c, rfl, _, h0, _⟩, hz⟩ := hv
  have hn : VR P w Φ σ [] (.nsl a.isNone) (.slice a 0 c) (fun _ => 0) := by
    simp only [VR]
    exact ⟨⟨a, c, rfl, by simp, fun e => (h0 e).2⟩, fun _ => by simp⟩
  have h2 := hset _ _ _ hn
  have e1 : cargs.toList.set i (.slice a 0 c) = cargs.toList := set_same hcv
  rw [e1, show (fun b => 0 + f2 b) = fa from funext fun b => by have := hf b; have := hz b; omega] at h2
  refine h a.isNone w Φ σ cargs fa h2 ?_ hinv
  have key : ∀ (l : List AV) (i : Nat), hrs l = false → hrs (l.set i (.nsl a.isNone)) = false := by
    intro l
    induction l with
    | nil => intro i _; simp [hrs]
    | cons x xs ih =>
      intro i h
      simp only [hrs, Bool.or_eq_false_iff] at h
      cases i with
      | zero => simp [hrs, hr, h.2]
      | succ i => simp [hrs, h.1, ih i h.2]
  exact key _ _ hhr

/-- Slots put anew. -/
def updE (e : Env) : List (Nat × AV) → Env
  | [] => e
  | (j, v) :: us => updE (e.set j v) us
@[simp] theorem updE_nil {e : Env} : updE e [] = e := rfl
@[simp] theorem updE_cons {e : Env} {j : Nat} {v : AV} {us : List (Nat × AV)} : updE e ((j, v) :: us) = updE (e.set j v) us := rfl
section
variable {P : Program} {m : Nat} {K : List Fr} {Q : Exit → Env → Prop}
/-- A loop that counts: u: what its slots hold ahead of round i; js: slots that are forgotten at each round's end. What is left at once goes on behind. -/
theorem G_for {l b : SCode} (hl : l = .loop b) (js : List Nat) (u : Nat → List (Nat × AV)) (I : Nat → Prop) (n : Nat) {e : Env} (hI : I 0) (he : e = updE e (u 0))
    (hstep : ∀ i, i < n → I i → ∀ q : Exit → Env → Prop, (∀ e', js.foldl (fun e j => e.set j .dead) e' = updE e (u (i + 1)) → I (i + 1) → q .normal e') → (∀ x e', R P m (.exit x) e' K Q → q (.exit x) e') → (∀ e', R P m .ret e' K Q → q .ret e') → G P m b (updE e (u i)) [] q)
    (hlast : I n → ∀ q : Exit → Env → Prop, (∀ x e', R P m (.exit x) e' K Q → q (.exit x) e') → (∀ e', R P m .ret e' K Q → q .ret e') → G P m b (updE e (u n)) [] q) : G P m l e K Q :=
  G_loop hl js (fun i => updE e (u i)) I n (fun ex e' => R P m ex e' K Q) hstep hlast hI he (fun _ _ h => h)
/-- A loop of any kind over some state. -/
theorem G_whl {α : Type} {l b : SCode} (hl : l = .loop b) (js : List Nat) (u : α → List (Nat × AV)) (μ : α → Nat) (I : α → Prop) (a : α) {e : Env} (hI : I a) (he : e = updE e (u a))
    (hstep : ∀ a, I a → ∀ q : Exit → Env → Prop, (∀ e' a', js.foldl (fun e j => e.set j .dead) e' = updE e (u a') → I a' → μ a' < μ a → q .normal e') → (∀ x e', R P m (.exit x) e' K Q → q (.exit x) e') → (∀ e', R P m .ret e' K Q → q .ret e') → G P m b (updE e (u a)) [] q) : G P m l e K Q :=
  G_while hl js (fun a => updE e (u a)) μ I (fun ex e' => R P m ex e' K Q) hstep a hI he (fun _ _ h => h)
end
/-- Less said of what is returned. -/
theorem Says_weak {P : Program} {g : Nat} {args : List AV} {res res' : AV} {outs : List (Nat × AV)} (hw : ∀ (w : World) (Φ : Nat → Prop) (σ : Nat → Value) (cv : Value) (f : Cnt), VR P w Φ σ [] res cv f → ∃ f', VR P w Φ σ [] res' cv f' ∧ ∀ b, f' b ≤ f b) (hr' : hr res' = false)
    (h : Says P g args res outs) : Says P g args res' outs := by
  intro w Φ σ cargs fa hrel hhr hinv
  refine (h w Φ σ cargs fa hrel hhr hinv).mono ?_
  rintro en w' ⟨cv, Φ', f1, f2, he, hext, h1, h2, h3, h4, h5, h6, h7, h8⟩
  obtain ⟨f', k1, k2⟩ := hw w' Φ' σ cv f1 h3
  exact ⟨cv, Φ', f', f2, he, hext, h1, h2, k1, hr', h5, h6, h7.le (fun b => by have := k2 b; show f' b + f2 b ≤ f1 b + f2 b; omega), fun b hb => h8 b (by have := k2 b; omega)⟩
/-- Of a slice that is returned nothing is said but its length. -/
theorem weak_osl {P : Program} {w : World} {Φ : Nat → Prop} {σ : Nat → Value} {ρ : List Value} {s e n : Nat} {cs : List AV} {cv : Value} {f : Cnt} (h : VR P w Φ σ ρ (.osl s e n cs) cv f) : VR P w Φ σ ρ (.rsl n []) cv (fun _ => 0) := by
  simp only [VR] at h ⊢
  obtain ⟨_, _, xs, f1, ho, _⟩ := h
  obtain ⟨a, c, e, h1, h2, _⟩ := ownsRow_slice ho
  exact ⟨⟨a, c, e, h1, h2, by simp only [FC]⟩, by simp⟩
theorem weak_rsl {P : Program} {w : World} {Φ : Nat → Prop} {σ : Nat → Value} {ρ : List Value} {n : Nat} {cs : List AV} {cv : Value} {f : Cnt} (h : VR P w Φ σ ρ (.rsl n cs) cv f) : VR P w Φ σ ρ (.rsl n []) cv f := by
  simp only [VR] at h ⊢
  obtain ⟨⟨a, c, e, h1, h2, _⟩, hz⟩ := h
  exact ⟨⟨a, c, e, h1, h2, by simp only [FC]⟩, hz⟩
/-- The first of two that are returned. -/
theorem weak_tup {P : Program} {g : Nat} {args : List AV} {u u' v : AV} {outs : List (Nat × AV)} (hw : ∀ (w : World) (Φ : Nat → Prop) (σ : Nat → Value) (cv : Value) (f : Cnt), VR P w Φ σ [] u cv f → ∃ f', VR P w Φ σ [] u' cv f' ∧ ∀ b, f' b ≤ f b) (hu : hr u' = false) (hv : hr v = false)
    (h : Says P g args (.tup [none, none] [u, v]) outs) : Says P g args (.tup [none, none] [u', v]) outs := by
  refine Says_weak (fun w Φ σ cv f hvr => ?_) (by simp [hr, hrs, hu, hv]) h
  simp only [VR, CR] at hvr ⊢
  obtain ⟨arr, rfl, hsh, v1, vs', f1, f2, e1, h1, ⟨v2, vs2, f3, f4, e2, h3, ⟨e3, z4⟩, hf2⟩, hf⟩ := hvr
  obtain ⟨f', k1, k2⟩ := hw w Φ σ v1 f1 h1
  exact ⟨fun b => f' b + f2 b, ⟨arr, rfl, hsh, v1, vs', f', f2, e1, k1, ⟨v2, vs2, f3, f4, e2, h3, ⟨e3, z4⟩, hf2⟩, fun _ => rfl⟩, fun b => by have := k2 b; have := hf b; show f' b + f2 b ≤ f b; omega⟩
attribute [simp] killS giveX mvEnd nilX skE skV
end Go.AM
