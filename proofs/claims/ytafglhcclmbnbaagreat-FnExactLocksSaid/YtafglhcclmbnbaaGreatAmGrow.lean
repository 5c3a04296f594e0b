import Derived.Test.YtafglhcclmbnbaaGreatAmData
import Derived.ChangeArms
import Derived.ProofKit
import Derived.ChangeStays
import Derived.OpenShut
import Derived.Below
import Derived.Sort.Grow
import Derived.Deep.Draws
import Derived.Lib.Join
import Derived.Shelf.Spec.SlicesGrow
set_option linter.unusedSimpArgs false
set_option linter.unusedVariables false
set_option linter.unusedSectionVars false
namespace Go.AM
open Go
inductive Fr where
 | sq (b:ae)
 | bl (id:Nat)
 | mv (j k:Nat)
def MM (P:Program) (m:Nat):List Fr→(Exit→Env→Prop)→Exit→Env→Prop
 | [],Q,ex,e=>Q ex e
 | .sq b::K,Q,ex,e=>match ex with
  | .normal=>wpS P m b e (MM P m K Q)
  | ex=>MM P m K Q ex e
 | .bl id::K,Q,ex,e=>MM P m K Q (outOf id ex) e
 | .mv _ _::K,Q,ex,e=>False
def R (P:Program) (m:Nat) (ex:Exit) (e:Env) (K:List Fr) (Q:Exit→Env→Prop):Prop:=MM P m K Q ex e
def G (P:Program) (m:Nat) (sc:ae) (e:Env) (K:List Fr) (Q:Exit→Env→Prop):Prop:=wpS P m sc e (MM P m K Q)
def auf (P:Program) (m:Nat) (j:Nat) (b:ae) (e:Env) (K:List Fr) (Q:Exit→Env→Prop):Option AV→Prop
 | some v'=>G P m b (e.set j v') K Q
 | none=>False
@[simp] theorem ate {P:Program} {m j:Nat} {b:ae} {e:Env} {K:List Fr} {Q:Exit→Env→Prop} {v':AV}:auf P m j b e K Q (some v')=G P m b (e.set j v') K Q:=rfl
def yI (P:Program) (m:Nat) (a b:ae) (e:Env) (K:List Fr) (Q:Exit→Env→Prop):Option AV→Prop
 | some (.bool t)=>(t=true→G P m a e K Q)∧(t=false→G P m b e K Q)
 | _=>False
def aub (P:Program) (m:Nat) (e:Env) (Q:Exit→Env→Prop):List Fr→Prop
 | .mv j k::K=>endOk m e=true∧match yF m j k e with
  | some e3=>R P m .normal e3 K Q
  | none=>False
 | K=>endOk m e=true∧R P m .normal (e.take m) K Q
def S (P:Program) (m k:Nat) (ops:List dJ) (e:Env) (K:List Fr) (Q:Exit→Env→Prop):Prop:=kw P m k ops e fun e2=>aub P m e2 Q K
def T3 (P:Program) (m k:Nat) (rest:List dJ) (K:List Fr) (Q:Exit→Env→Prop):Option Env→Prop
 | some e2=>S P m (k+1) rest e2 K Q
 | none=>False
def T2 (P:Program) (m k:Nat) (d:Option Nat) (rest:List dJ) (K:List Fr) (Q:Exit→Env→Prop):Option (AV × Env)→Prop
 | some (v,e)=>T3 P m k rest K Q (lu m k d v e)
 | none=>False
def MJ (P:Program) (m k:Nat) (d:Option Nat) (rest:List dJ) (e:Env) (K:List Fr) (Q:Exit→Env→Prop) (fr:Bool) (g:Nat):Option (List AV × Bool)→Prop
 | some (avs,live)=>∃ res,Says P g avs res []∧(live=true→iP res=true) ∧
   match (if fr then frz res else some res) with
   | some v=>T3 P m k rest K Q (lu m k d v e)
   | none=>False
 | none=>False
def RI (P:Program) (m k:Nat) (d:Option Nat) (rest:List dJ) (e:Env) (K:List Fr) (Q:Exit→Env→Prop):Option (Nat × List AV)→Option (List AV × Bool)→Prop
 | some (g,caps),some (avs,live)=>dZ P g=true∧∃ res,Says P g (avs++caps) res []∧(live=true→iP res=true)∧T3 P m k rest K Q (lu m k d res e)
 | _,_=>False
def Ry (e:Env) (x:Opd) (args:List (Opd × Bool)):Option (Env × List Bk × Nat × List AV × Bool):=match qO e 1 args with
 | some (e1,b1,vs)=>match mP e1 (1+nB b1) x with
  | some (g,caps,e2,b2)=>match pF e2 args vs with
   | some (avs,live)=>some (e2,b1++b2,g,avs++caps,live)
   | none=>none
  | none=>none
 | none=>none
def RN (P:Program) (m k:Nat) (d:Option Nat) (rest:List dJ) (K:List Fr) (Q:Exit→Env→Prop):Option (Env × List Bk × Nat × List AV × Bool)→Prop
 | some (e2,bs,g,avs,live)=>dZ P g=true∧tC e2 bs=true∧∃ res outs,Says P g avs res (num 1 outs)∧wE (nB bs) live res outs=true ∧
   match iZ (nH e2) bs outs with
   | some e3=>T3 P m k rest K Q (lu m k d res e3)
   | none=>False
 | none=>False
def Rz (e:Env) (x:Opd) (args:List (Opd × Bool)):Option (Env × List Bk × Nat × List AV × Bool):=match qO e 1 args with
 | some (e1,b1,vs)=>match mP e1 (1+nB b1) x with
  | some (g,caps,e2,b2)=>match pF e2 args vs with
   | some (avs,live)=>some (e2,b1++b2,g,upg e (kY e 0 args) args avs++caps,live)
   | none=>none
  | none=>none
 | none=>none
def RJ (P:Program) (m k:Nat) (d:Option Nat) (rest:List dJ) (e:Env) (K:List Fr) (Q:Exit→Env→Prop):Option (Env × List Bk × Nat × List AV × Bool)→Prop
 | some (e2,bs,g,avs,live)=>dZ P g=true∧tC e2 bs=true∧∃ res outs,kR P g avs res (num 1 outs)∧uf (nB bs) live res outs=true ∧
   match iZ (nH e2) bs outs with
   | some e3=>T3 P m k rest K Q (lu m k d (CO bs res) (oU e e3))
   | none=>False
 | none=>False
def ER (P:Program) (m k:Nat) (b:Bool) (so:dJ) (rest:List dJ) (e:Env) (K:List Fr) (Q:Exit→Env→Prop):Option AV→Prop
 | some (.bool t)=>if t=b then S P m k (so::rest) e K Q else S P m (k+1) rest (skE m k e so.k) K Q
 | some (.tup [] [])=>S P m (k+1) rest (skE m k e so.k) K Q
 | _=>False
def DS (P:Program) (m:Nat) (lf:Bool) (e:Env) (ops:List dJ) (info:List (List Bool × Option (List Nat))) (acc:List AV) (fin:List Bool) (t:Nat) (tail:List dJ) (r:Nat) (K:List Fr) (Q:Exit→Env→Prop):Prop :=
 fD P e ops info acc fun vs=>(lf=true→(e++vs).all (kW e)=true)∧S P m t tail (e++gK fin vs++gU r) K Q
def D2 (P:Program) (m:Nat) (lf:Bool) (e:Env) (ops:List dJ) (info:List (List Bool × Option (List Nat))) (acc:List AV) (fin:List Bool) (t:Nat) (tail:List dJ) (r:Nat) (K:List Fr) (Q:Exit→Env→Prop):Option (AV × Env)→Prop
 | some (v,_)=>jD v=false∧DS P m lf e ops info (acc++[v]) fin t tail r K Q
 | none=>False
def wM (P:Program) (m:Nat) (lf:Bool) (e em:Env) (d:List Nat) (ops:List dJ) (info:List (List Bool × Option (List Nat))) (acc:List AV) (fin:List Bool) (t:Nat) (tail:List dJ) (r:Nat) (K:List Fr) (Q:Exit→Env→Prop):Option (AV × Env)→Prop
 | some (v,e1)=>jD v=false∧l9 e1 d=l9 em d∧DS P m lf e ops info (acc++[v]) fin t tail r K Q
 | none=>False
def RP (P:Program) (m:Nat) (lf:Bool) (e:Env) (ops:List dJ) (info:List (List Bool × Option (List Nat))) (acc:List AV) (fin:List Bool) (t:Nat) (tail:List dJ) (r:Nat) (K:List Fr) (Q:Exit→Env→Prop) (fr:Bool) (g:Nat):Option (List AV × Bool)→Prop
 | some (avs,live)=>∃ res,Says P g avs res []∧(live=true→iP res=true) ∧
   match (if fr then frz res else some res) with
   | some v=>jD v=false∧DS P m lf e ops info (acc++[v]) fin t tail r K Q
   | none=>False
 | none=>False
def Rn (P:Program) (m:Nat) (lf:Bool) (e:Env) (ops:List dJ) (info:List (List Bool × Option (List Nat))) (acc:List AV) (fin:List Bool) (t:Nat) (tail:List dJ) (r:Nat) (K:List Fr) (Q:Exit→Env→Prop):Option (Nat × List AV)→Option (List AV × Bool)→Prop
 | some (g,caps),some (avs,live)=>dZ P g=true∧∃ res,Says P g (avs++caps) res []∧(live=true→iP res=true)∧jD res=false∧DS P m lf e ops info (acc++[res]) fin t tail r K Q
 | _,_=>False
def qj (P:Program) (m:Nat) (lf:Bool) (b:Bool) (so:dJ) (e:Env) (ops:List dJ) (bs:List Bool) (c:Option (List Nat)) (info:List (List Bool × Option (List Nat))) (acc:List AV) (fin:List Bool) (t:Nat) (tail:List dJ) (r:Nat) (K:List Fr) (Q:Exit→Env→Prop):Option AV→Prop
 | some (.bool x)=>if x=b then DS P m lf e (so::ops) ((bs,c)::info) acc fin t tail r K Q else DS P m lf e ops info (acc++[skV so.k]) fin t tail r K Q
 | some (.tup [] [])=>DS P m lf e ops info (acc++[skV so.k]) fin t tail r K Q
 | _=>False
section
variable {P : Program} {m k : Nat} {e e' : Env} {K : List Fr} {Q : Exit → Env → Prop}
@[simp] theorem aKd {a b:ae}:G P m (.seq a b) e K Q=G P m a e (.sq b::K) Q:=rfl
@[simp] theorem aGr {id:Nat} {b:ae}:G P m (.block id b) e K Q=G P m b e (.bl id::K) Q:=rfl
@[simp] theorem aGS:G P m .skip e K Q=R P m .normal e K Q:=rfl
@[simp] theorem aGW {i:Nat}:G P m (.exit i) e K Q=R P m (.exit i) e K Q:=rfl
@[simp] theorem aKe:G P m .ret e K Q=R P m .ret e K Q:=rfl
@[simp] theorem aKh:G P m .bad e K Q=False:=rfl
@[simp] theorem aGX {x:Opd} {a b:ae}:G P m (.cond x a b) e K Q=yI P m a b (yG x e) K Q (ev e x):=by
 unfold G yI
 simp only[wpS,G]<;>split<;>rename_i h<;>split<;>simp_all
@[simp] theorem aKg {j:Nat} {b:ae}:G P m (.frz j b) e K Q=auf P m j b e K Q ((e[j]?).bind ng):=by
 unfold G auf
 simp only[wpS]
 rfl
@[simp] theorem aKc {r k0 s:Nat} {p:List Nat} {b:ae}:G P m (.stp r p k0 s b) e K Q=G P m b ((stX e r p k0 s).getD e) K Q:=rfl
@[simp] theorem aKf {j r k0:Nat} {p:List Nat} {b:ae}:G P m (.lnk j r p k0 b) e K Q=G P m b ((lnX e j r p k0).getD e) K Q:=rfl
theorem aGZ {a b:ae} (h:G P m a e K Q):G P m (.alt a b) e K Q:=.inl h
theorem aGY {a b:ae} (h:G P m b e K Q):G P m (.alt a b) e K Q:=.inr h
theorem asY {D:List Nat} {ops:List dJ} {pl:Gy} (e2:Env) (h1:Eu P m ops pl (e++gU ops.length) (fun e1=>e1=e2)) (h2:endOk m e2=true) (h3:R P m .normal (e2.take m) K Q):G P m (.preg D ops pl) e K Q :=
 ⟨e2,h1,h2,h3⟩
attribute [simp] ng
@[simp] theorem aGq {x:Opd} {a b:ae}:G P m (.condk x a b) e K Q=yI P m a b e K Q (ev e x):=by
 unfold G yI
 simp only[wpS,G]<;>split<;>rename_i h<;>split<;>simp_all
@[simp] theorem aGz {a b:ae}:yI P m a b e K Q (some (.bool true))=G P m a e K Q:=by simp[yI]
@[simp] theorem aGA {a b:ae}:yI P m a b e K Q (some (.bool false))=G P m b e K Q:=by simp[yI]
@[simp low] theorem aGB {a b:ae} {t:Bool}:yI P m a b e K Q (some (.bool t))=((t=true→G P m a e K Q)∧(t=false→G P m b e K Q)):=rfl
@[simp] theorem aKb {ex:Exit}:R P m ex e [] Q=Q ex e:=rfl
@[simp] theorem R_n {b:ae}:R P m .normal e (.sq b::K) Q=G P m b e K Q:=rfl
@[simp] theorem R_x {i:Nat} {b:ae}:R P m (.exit i) e (.sq b::K) Q=R P m (.exit i) e K Q:=rfl
@[simp] theorem R_r {b:ae}:R P m .ret e (.sq b::K) Q=R P m .ret e K Q:=rfl
@[simp] theorem aKn {i:Nat}:R P m .normal e (.bl i::K) Q=R P m .normal e K Q:=rfl
@[simp] theorem aKm {i:Nat}:R P m .ret e (.bl i::K) Q=R P m .ret e K Q:=rfl
@[simp] theorem aKl {i j:Nat}:R P m (.exit j) e (.bl i::K) Q=R P m (if j=i then .normal else .exit j) e K Q:=rfl
@[simp] theorem aGV {D:List Nat} {ops:List dJ}:G P m (.reg D ops) e [] Q=S P m 0 ops (e++gU ops.length) [] Q:=rfl
@[simp] theorem aGU {D:List Nat} {ops:List dJ} {b:ae}:G P m (.reg D ops) e (.sq b::K) Q=S P m 0 ops (e++gU ops.length) (.sq b::K) Q:=rfl
@[simp] theorem aGT {D:List Nat} {ops:List dJ} {id:Nat}:G P m (.reg D ops) e (.bl id::K) Q=S P m 0 ops (e++gU ops.length) (.bl id::K) Q:=rfl
theorem asV:S P m k [] e K Q=aub P m e Q K:=rfl
@[simp] theorem aGQ:S P m k [] e [] Q=(endOk m e=true∧R P m .normal (e.take m) [] Q):=rfl
@[simp] theorem aGP {b:ae}:S P m k [] e (.sq b::K) Q=(endOk m e=true∧R P m .normal (e.take m) (.sq b::K) Q):=rfl
@[simp] theorem aGO {id:Nat}:S P m k [] e (.bl id::K) Q=(endOk m e=true∧R P m .normal (e.take m) (.bl id::K) Q):=rfl
def Mv (P:Program) (m:Nat) (K:List Fr) (Q:Exit→Env→Prop):Option Env→Prop
 | some e3=>R P m .normal e3 K Q
 | none=>False
@[simp] theorem aGl:Mv P m K Q (some e)=R P m .normal e K Q:=rfl
@[simp] theorem aGN {j k':Nat}:S P m k [] e (.mv j k'::K) Q=(endOk m e=true∧Mv P m K Q (yF m j k' e)):=by
 simp only[asV,aub]
 cases yF m j k' e<;>rfl
@[simp] theorem aKk {s:SOp} {d:Option Nat} {rest:List dJ}:S P m k (⟨.op s,d,none⟩::rest) e K Q=T2 P m k d rest K Q (opx e s):=by
 simp only[S,kw,OpW]
 cases h:opx e s with
 | none=>rfl
 | some x=>obtain⟨v,e1⟩:=x;simp only[T2];cases lu m k d v e1<;>rfl
@[simp] theorem aGh {sk:SK} {d:Option Nat} {s:Nat} {b:Bool} {rest:List dJ}:S P m k (⟨sk,d,some (s,b)⟩::rest) e K Q=ER P m k b ⟨sk,d,none⟩ rest e K Q e[s]?:=by
 simp only[S,kw,ER]
 cases h:e[s]? with
 | none=>rfl
 | some v =>
  cases v with
  | bool t=>cases t<;>cases b<;>rfl
  | tup sh cs=>cases sh<;>cases cs<;>rfl
  | _=>rfl
@[simp] theorem auD {b t:Bool} {so:dJ} {rest:List dJ}:ER P m k b so rest e K Q (some (.bool t))=if t=b then S P m k (so::rest) e K Q else S P m (k+1) rest (skE m k e so.k) K Q:=rfl
@[simp] theorem auC {b:Bool} {so:dJ} {rest:List dJ}:ER P m k b so rest e K Q (some (.tup [] []))=S P m (k+1) rest (skE m k e so.k) K Q:=rfl
@[simp] theorem aGg {d:Option Nat} {rest:List dJ} {v:AV}:T2 P m k d rest K Q (some (v,e))=T3 P m k rest K Q (lu m k d v e):=rfl
@[simp] theorem aGf {rest:List dJ}:T3 P m k rest K Q (some e)=S P m (k+1) rest e K Q:=rfl
@[simp] theorem aGR {g:Nat} {args:List Opd} {fr:Bool} {d:Option Nat} {rest:List dJ}:S P m k (⟨.call g args fr,d,none⟩::rest) e K Q=MJ P m k d rest e K Q fr g (kU e args):=by
 simp only[S,kw,OpW]
 cases h:kU e args with
 | none=>rfl
 | some x =>
  obtain⟨v,l⟩:=x
  simp only[MJ,eq_iff_iff]
  refine exists_congr fun res=>and_congr Iff.rfl (and_congr Iff.rfl ?_)
  cases (if fr=true then frz res else some res) with
  | none=>exact Iff.rfl
  | some v=>simp only;cases lu m k d v e<;>exact Iff.rfl
@[simp] theorem aGi {x:Opd} {args:List Opd} {d:Option Nat} {rest:List dJ}:S P m k (⟨.callv x args,d,none⟩::rest) e K Q=RI P m k d rest e K Q (ku e x) (kU e args):=by
 simp only[S,kw,OpW]
 cases h:ku e x with
 | none=>rfl
 | some y =>
  obtain⟨g,caps⟩:=y
  cases h2:kU e args with
  | none=>rfl
  | some z =>
   obtain⟨v,l⟩:=z
   simp only[RI,eq_iff_iff]
   refine and_congr Iff.rfl (exists_congr fun res=>and_congr Iff.rfl (and_congr Iff.rfl ?_))
   cases lu m k d res e<;>exact Iff.rfl
@[simp] theorem aGk {x:Opd} {args:List (Opd × Bool)} {d:Option Nat} {rest:List dJ}:S P m k (⟨.callm x args,d,none⟩::rest) e K Q=RN P m k d rest K Q (Ry e x args):=by
 simp only[S,kw,OpW,Ry]
 cases h:qO e 1 args with
 | none=>rfl
 | some y =>
  obtain⟨e1,b1,vs⟩:=y
  simp only
  cases h2:mP e1 (1+nB b1) x with
  | none=>rfl
  | some z =>
   obtain⟨g,caps,e2,b2⟩:=z
   simp only
   cases h3:pF e2 args vs with
   | none=>rfl
   | some u =>
    obtain⟨avs,live⟩:=u
    simp only[RN,eq_iff_iff]
    refine and_congr Iff.rfl (and_congr Iff.rfl (exists_congr fun res=>exists_congr fun outs=>and_congr Iff.rfl (and_congr Iff.rfl ?_)))
    cases iZ (nH e2) (b1++b2) outs with
    | none=>exact Iff.rfl
    | some e3=>simp only;cases lu m k d res e3<;>exact Iff.rfl
@[simp] theorem aGj {x:Opd} {args:List (Opd × Bool)} {d:Option Nat} {rest:List dJ}:S P m k (⟨.callr x args,d,none⟩::rest) e K Q=RJ P m k d rest e K Q (Rz e x args):=by
 simp only[S,kw,OpW,Rz]
 cases h:qO e 1 args with
 | none=>rfl
 | some y =>
  obtain⟨e1,b1,vs⟩:=y
  simp only
  cases h2:mP e1 (1+nB b1) x with
  | none=>rfl
  | some z =>
   obtain⟨g,caps,e2,b2⟩:=z
   simp only
   cases h3:pF e2 args vs with
   | none=>rfl
   | some u =>
    obtain⟨avs,live⟩:=u
    simp only[RJ,eq_iff_iff]
    refine and_congr Iff.rfl (and_congr Iff.rfl (exists_congr fun res=>exists_congr fun outs=>and_congr Iff.rfl (and_congr Iff.rfl ?_)))
    cases iZ (nH e2) (b1++b2) outs with
    | none=>exact Iff.rfl
    | some e3=>simp only;cases lu m k d res (oU e e3)<;>exact Iff.rfl
theorem wL {ops:List dJ} {info:List (List Bool × Option (List Nat))} {acc:List AV} {fin:List Bool} {t:Nat} {tail:List dJ} {r:Nat}:DS P m false e ops info acc fin t tail r K Q=fD P e ops info acc fun vs=>S P m t tail (e++gK fin vs++gU r) K Q:=by simp[DS]
@[simp] theorem aGp {D:List Nat} {ops:List dJ} {sees:List (List Nat)} {t:Nat} {cons:List (Nat × Nat)} {info:List (List Bool × Option (List Nat))} {fin:List Bool} :
  G P m (.dreg D ops sees t cons info fin) e [] Q=DS P m false e (ops.take t) info [] fin t (ops.drop t) (ops.length-t) [] Q:=by rw[wL];rfl
@[simp] theorem aGo {D:List Nat} {ops:List dJ} {sees:List (List Nat)} {t:Nat} {cons:List (Nat × Nat)} {info:List (List Bool × Option (List Nat))} {fin:List Bool} {b:ae} :
  G P m (.dreg D ops sees t cons info fin) e (.sq b::K) Q=DS P m false e (ops.take t) info [] fin t (ops.drop t) (ops.length-t) (.sq b::K) Q:=by rw[wL];rfl
@[simp] theorem aGn {D:List Nat} {ops:List dJ} {sees:List (List Nat)} {t:Nat} {cons:List (Nat × Nat)} {info:List (List Bool × Option (List Nat))} {fin:List Bool} {id:Nat} :
  G P m (.dreg D ops sees t cons info fin) e (.bl id::K) Q=DS P m false e (ops.take t) info [] fin t (ops.drop t) (ops.length-t) (.bl id::K) Q:=by rw[wL];rfl
@[simp] theorem aGm {j k:Nat} {D:List Nat} {ops:List dJ} {sees:List (List Nat)} {t:Nat} {cons:List (Nat × Nat)} {info:List (List Bool × Option (List Nat))} {fin:List Bool} :
  G P m (.dregm j k D ops sees t cons info fin) e K Q=(e.all (yA j)=true∧DS P m false (e.set j .dead) (ops.take t) info [] fin t (ops.drop t) (ops.length-t) (.mv j k::K) Q):=by rw[wL];rfl
variable {lf : Bool} {ops : List dJ} {bs : List Bool} {info : List (List Bool × Option (List Nat))} {acc : List AV} {fin : List Bool} {t : Nat} {tail : List dJ} {r : Nat}
theorem Rl:DS P m lf e [] info acc fin t tail r K Q=((lf=true→(e++acc).all (kW e)=true)∧S P m t tail (e++gK fin acc++gU r) K Q):=by
 cases info with
 | nil=>rfl
 | cons x y=>rfl
@[simp] theorem aGt:DS P m false e [] info acc fin t tail r K Q=S P m t tail (e++gK fin acc++gU r) K Q:=by simp[Rl]
@[simp] theorem aGs:DS P m true e [] info acc fin t tail r K Q=((e++acc).all (kW e)=true∧S P m t tail (e++gK fin acc++gU r) K Q):=by simp[Rl]
@[simp] theorem aKj {s:SOp}:DS P m lf e (⟨.op s,none,none⟩::ops) ((bs,none)::info) acc fin t tail r K Q=(BA s=true∧D2 P m lf e ops info acc fin t tail r K Q (opx (e++gK bs acc) s)):=by
 simp only[DS,fD,OpV]
 cases h:opx (e++gK bs acc) s with
 | none=>simp[D2]
 | some x=>obtain⟨v,e1⟩:=x;simp[D2,DS]
@[simp] theorem aGx {v:AV}:D2 P m lf e ops info acc fin t tail r K Q (some (v,e'))=(jD v=false∧DS P m lf e ops info (acc++[v]) fin t tail r K Q):=rfl
@[simp] theorem aGu {j:List Nat} {ty n:Nat} {z:List AV} {ps:List (Nat × Nat × Opd)}:DS P m lf e (⟨.op (.bsl ty n z ps),none,none⟩::ops) ((bs,some j)::info) acc fin t tail r K Q=wM P m lf e (e++gK bs acc) (j.map (e.length + ·)) ops info acc fin t tail r K Q (opx (e++gK bs acc) (.bsl ty n z ps)):=by
 simp only[DS,fD,OpC,JM (so:=⟨.op (.bsl ty n z ps),none,none⟩) rfl]
 cases h:opx (e++gK bs acc) (.bsl ty n z ps) with
 | none=>simp[wM]
 | some x=>obtain⟨v,e1⟩:=x;simp[wM,DS]
@[simp] theorem aGw {j:List Nat} {z:List AV} {ps:List (Nat × Nat × Opd)}:DS P m lf e (⟨.op (.bldt z ps),none,none⟩::ops) ((bs,some j)::info) acc fin t tail r K Q=wM P m lf e (e++gK bs acc) (j.map (e.length + ·)) ops info acc fin t tail r K Q (opx (e++gK bs acc) (.bldt z ps)):=by
 simp only[DS,fD,OpC,JM (so:=⟨.op (.bldt z ps),none,none⟩) rfl]
 cases h:opx (e++gK bs acc) (.bldt z ps) with
 | none=>simp[wM]
 | some x=>obtain⟨v,e1⟩:=x;simp[wM,DS]
theorem Ou {e:Env} {ty sz:Nat} {x y:Opd} {Q:List AV→Prop}:DJ e ⟨.op (.append ty sz x y),none,none⟩ (fun vs=>(lf=true→(e++vs).all (kW e)=true)∧Q vs)=fun vs=>(true=true→(e++vs).all (kW e)=true)∧Q vs:=by
 funext vs
 simp only[DJ,isApp]
 apply propext
 constructor
 ·rintro⟨h1,_,h2⟩;exact⟨h1,h2⟩
 ·rintro⟨h1,h2⟩;exact⟨h1,fun _=>h1 trivial,h2⟩
@[simp] theorem aG0 {j:List Nat} {ty sz:Nat} {x y:Opd}:DS P m lf e (⟨.op (.append ty sz x y),none,none⟩::ops) ((bs,some j)::info) acc fin t tail r K Q=wM P m true e (e++gK bs acc) (j.map (e.length + ·)) ops info acc fin t tail r K Q (Es (e++gK bs acc) ty sz x y):=by
 simp only[DS,fD,OpC,Ou]
 cases h:Es (e++gK bs acc) ty sz x y with
 | none=>simp[wM]
 | some x=>obtain⟨v,e1⟩:=x;simp[wM,DS]
@[simp] theorem acV {em:Env} {d:List Nat} {v:AV}:wM P m lf e em d ops info acc fin t tail r K Q (some (v,e'))=(jD v=false∧l9 e' d=l9 em d∧DS P m lf e ops info (acc++[v]) fin t tail r K Q):=rfl
@[simp] theorem auG {sk:SK} {s:Nat} {b:Bool}:DS P m lf e (⟨sk,none,some (s,b)⟩::ops) ((bs,none)::info) acc fin t tail r K Q=qj P m lf b ⟨sk,none,none⟩ e ops bs none info acc fin t tail r K Q (e++gK bs acc)[s]?:=by
 simp only[DS,fD,true_and]
 cases h:(e++gK bs acc)[s]? with
 | none=>rfl
 | some v =>
  cases v with
  | bool t=>cases t<;>cases b<;>simp[qj,DS,fD,OpV,kz]
  | tup sh cs=>cases sh<;>cases cs<;>simp[qj,DS,fD,OpV,kz]
  | _=>simp[qj,DS,fD,OpV,kz]
@[simp] theorem atf {sk:SK} {s:Nat} {b:Bool} {js:List Nat}:DS P m lf e (⟨sk,none,some (s,b)⟩::ops) ((bs,some js)::info) acc fin t tail r K Q=qj P m lf b ⟨sk,none,none⟩ e ops bs (some js) info acc fin t tail r K Q (e++gK bs acc)[s]?:=by
 have hC:∀ (E:Env) (d:List Nat) (K:AV→Prop),OpC ⟨sk,none,some (s,b)⟩ E d K=OpC ⟨sk,none,none⟩ E d K:=fun _ _ _=>rfl
 have hA:∀ (Q:List AV→Prop),DJ e ⟨sk,none,some (s,b)⟩ Q=DJ e ⟨sk,none,none⟩ Q:=fun _=>rfl
 simp only[DS,fD,true_and,hC,hA]
 cases h:(e++gK bs acc)[s]? with
 | none=>rfl
 | some v =>
  cases v with
  | bool t=>cases t<;>cases b<;>simp[qj,DS,fD,kz]
  | tup sh cs=>cases sh<;>cases cs<;>simp[qj,DS,fD,kz]
  | _=>simp[qj,DS,fD,kz]
@[simp] theorem auF {b x:Bool} {so:dJ} {c:Option (List Nat)}:qj P m lf b so e ops bs c info acc fin t tail r K Q (some (.bool x))=if x=b then DS P m lf e (so::ops) ((bs,c)::info) acc fin t tail r K Q else DS P m lf e ops info (acc++[skV so.k]) fin t tail r K Q:=rfl
@[simp] theorem auE {b:Bool} {so:dJ} {c:Option (List Nat)}:qj P m lf b so e ops bs c info acc fin t tail r K Q (some (.tup [] []))=DS P m lf e ops info (acc++[skV so.k]) fin t tail r K Q:=rfl
@[simp] theorem aGv {g:Nat} {args:List Opd} {fr:Bool}:DS P m lf e (⟨.call g args fr,none,none⟩::ops) ((bs,none)::info) acc fin t tail r K Q=RP P m lf e ops info acc fin t tail r K Q fr g (kU (e++gK bs acc) args):=by
 simp only[DS,fD,OpV,true_and]
 cases h:kU (e++gK bs acc) args with
 | none=>rfl
 | some x=>obtain⟨v,l⟩:=x;rfl
@[simp] theorem auH {x:Opd} {args:List Opd}:DS P m lf e (⟨.callv x args,none,none⟩::ops) ((bs,none)::info) acc fin t tail r K Q=Rn P m lf e ops info acc fin t tail r K Q (ku (e++gK bs acc) x) (kU (e++gK bs acc) args):=by
 simp only[DS,fD,OpV,true_and]
 cases h:ku (e++gK bs acc) x with
 | none=>rfl
 | some y =>
  obtain⟨g,caps⟩:=y
  cases h2:kU (e++gK bs acc) args with
  | none=>rfl
  | some z=>obtain⟨v,l⟩:=z;rfl
theorem aX {d:Option Nat} {rest:List dJ} {g:Nat} {avs:List AV} {live:Bool} {res:AV} (h:Says P g avs res []) (h2:(live=true→iP res=true)∧T3 P m k rest K Q (lu m k d res e)):MJ P m k d rest e K Q false g (some (avs,live)) :=
 ⟨res,h,h2.1,h2.2⟩
theorem adV {d:Option Nat} {rest:List dJ} {g:Nat} {avs:List AV} {live:Bool} {res:AV} (h:Says P g avs res []) (h2:(live=true→iP res=true)∧(match frz res with|some v=>T3 P m k rest K Q (lu m k d v e)|none=>False)):MJ P m k d rest e K Q true g (some (avs,live)):=by
 refine⟨res,h,h2.1,?_⟩
 have:=h2.2
 cases hf:frz res with
 | none=>rw[hf] at this;exact this.elim
 | some v=>rw[hf] at this;simpa [hf] using this
theorem axh {d:Option Nat} {rest:List dJ} {g:Nat} {caps avs:List AV} {live:Bool} {res:AV} (hp:dZ P g=true) (h:Says P g (avs++caps) res []) (h2:(live=true→iP res=true)∧T3 P m k rest K Q (lu m k d res e)):RI P m k d rest e K Q (some (g,caps)) (some (avs,live)) :=
 ⟨hp,res,h,h2.1,h2.2⟩
def T4 (P:Program) (m k:Nat) (d:Option Nat) (rest:List dJ) (K:List Fr) (Q:Exit→Env→Prop) (res:AV):Option Env→Prop
 | some e3=>T3 P m k rest K Q (lu m k d res e3)
 | none=>False
@[simp] theorem aGe {d:Option Nat} {rest:List dJ} {res:AV}:T4 P m k d rest K Q res (some e)=T3 P m k rest K Q (lu m k d res e):=rfl
theorem eF {d:Option Nat} {rest:List dJ} {bs:List Bk} {g:Nat} {avs:List AV} {live:Bool} {res:AV} (outs:List AV) (hp:dZ P g=true) (h:Says P g avs res (num 1 outs)) (h2:tC e bs=true∧wE (nB bs) live res outs=true∧T4 P m k d rest K Q res (iZ (nH e) bs outs)) :
  RN P m k d rest K Q (some (e,bs,g,avs,live)):=by
 refine⟨hp,h2.1,res,outs,h,h2.2.1,?_⟩
 have:=h2.2.2
 unfold T4 at this
 split at this<;>rename_i h3
 ·exact this
 ·exact this.elim
def T5 (P:Program) (m k:Nat) (d:Option Nat) (rest:List dJ) (e:Env) (K:List Fr) (Q:Exit→Env→Prop) (res:AV):Option Env→Prop
 | some e3=>T3 P m k rest K Q (lu m k d res (oU e e3))
 | none=>False
@[simp] theorem aGd {d:Option Nat} {rest:List dJ} {res:AV} {e3:Env}:T5 P m k d rest e K Q res (some e3)=T3 P m k rest K Q (lu m k d res (oU e e3)):=rfl
theorem eQ {d:Option Nat} {rest:List dJ} {bs:List Bk} {g:Nat} {avs:List AV} {live:Bool} {res:AV} {e2:Env} (outs:List AV) (hp:dZ P g=true) (h:kR P g avs res (num 1 outs)) (h2:tC e2 bs=true∧uf (nB bs) live res outs=true∧T5 P m k d rest e K Q (CO bs res) (iZ (nH e2) bs outs)) :
  RJ P m k d rest e K Q (some (e2,bs,g,avs,live)):=by
 refine⟨hp,h2.1,res,outs,h,h2.2.1,?_⟩
 have:=h2.2.2
 unfold T5 at this
 split at this<;>rename_i h3
 ·exact this
 ·exact this.elim
theorem bZ {g:Nat} {avs:List AV} {live:Bool} {res:AV} (h:Says P g avs res []) (h2:(live=true→iP res=true)∧jD res=false∧DS P m lf e ops info (acc++[res]) fin t tail r K Q):RP P m lf e ops info acc fin t tail r K Q false g (some (avs,live)) :=
 ⟨res,h,h2.1,h2.2⟩
theorem aGI {g:Nat} {avs:List AV} {live:Bool} {res:AV} (h:Says P g avs res []) (h2:(live=true→iP res=true)∧(match frz res with|some v=>jD v=false∧DS P m lf e ops info (acc++[v]) fin t tail r K Q|none=>False)):RP P m lf e ops info acc fin t tail r K Q true g (some (avs,live)):=by
 refine⟨res,h,h2.1,?_⟩
 have:=h2.2
 cases hf:frz res with
 | none=>rw[hf] at this;exact this.elim
 | some v=>rw[hf] at this;simpa [hf] using this
theorem aGH {g:Nat} {caps avs:List AV} {live:Bool} {res:AV} (hp:dZ P g=true) (h:Says P g (avs++caps) res []) (h2:(live=true→iP res=true)∧jD res=false∧DS P m lf e ops info (acc++[res]) fin t tail r K Q):Rn P m lf e ops info acc fin t tail r K Q (some (g,caps)) (some (avs,live)) :=
 ⟨hp,res,h,h2.1,h2.2⟩
theorem dD {g:Nat} {fn:Func} {V:List Nat} {sc:ae} {rs:List di} {args:List AV} {res:AV} (hf:P.funcs[g]?=some fn) (hok:dA P fn V sc rs args.length=true)
  (h:G P V.length sc (args++gU (V.length-args.length)) [] (MI rs res)):Says P g args res []:=OC hf hok h
theorem kX {g:Nat} {fn:Func} {V:List Nat} {sc:ae} {rs:List di} {args:List AV} {res:AV} (ss:List Nat) (os:List AV) (hf:P.funcs[g]?=some fn) (hok:dA P fn V sc rs args.length=true) (hss:∀ s∈ss,s≠0)
  (h:G P V.length sc (args++gU (V.length-args.length)) [] (BX rs ss res os)):Says P g args res (ss.zip os):=LU ss os hf hok hss h
theorem IE {g:Nat} {fn:Func} {V:List Nat} {sc:ae} {rs:List di} {args:List AV} {res:AV} (ss:List Nat) (os:List AV) (hf:P.funcs[g]?=some fn) (hok:zI P fn V sc rs args.length=true) (hss:∀ s∈ss,s≠0)
  (hlow:DF Ei res=true∧qW Ei os=true∧∀ s∈ss,s<1000000)
  (h:G P V.length sc (args++gU (V.length-args.length)) [] (BX rs ss res os)):kR P g args res (ss.zip os):=LP ss os hf hok hss hlow h
theorem vI {g:Nat} {fn:Func} {V:List Nat} {sc:ae} {rs:List di} {args:List AV} {res:AV} (ss:List Nat) (os:List AV) (hf:P.funcs[g]?=some fn) (hok:dA P fn V sc rs args.length=true) (hss:∀ s∈ss,s≠0)
  (h:G P V.length sc (args++gU (V.length-args.length)) [] (BX rs ss res os)):kR P g args res (ss.zip os):=LQ ss os hf hok hss h
theorem aum {K:List Fr} {Q Q':Exit→Env→Prop} (hQ:∀ ex e,Q ex e→Q' ex e):∀ ex e,MM P m K Q ex e→MM P m K Q' ex e:=by
 induction K with
 | nil=>exact hQ
 | cons f K ih =>
  intro ex e h
  cases f with
  | sq b=>cases ex<;>first|exact iY ih h|exact ih _ _ h
  | bl id=>exact ih _ _ h
  | mv j k=>exact h.elim
theorem iF {l b:ae} (hl:l=.loop b) (js:List Nat) (E:Nat→Env) (I:Nat→Prop) (n:Nat) (out:Exit→Env→Prop)
  (hstep:∀ i,i<n→I i→∀ q:Exit→Env→Prop,(∀ e,js.foldl (fun e j=>e.set j .dead) e=E (i+1)→I (i+1)→q .normal e)→(∀ i e,out (.exit i) e→q (.exit i) e)→(∀ e,out .ret e→q .ret e)→G P m b (E i) [] q)
  (hlast:I n→∀ q:Exit→Env→Prop,(∀ i e,out (.exit i) e→q (.exit i) e)→(∀ e,out .ret e→q .ret e)→G P m b (E n) [] q)
  {e:Env} (hI:I 0) (he:e=E 0) (hout:∀ ex e,out ex e→R P m ex e K Q):G P m l e K Q:=by
 subst he
 have key:=Ox (P:=P) (m:=m) (Q:=fun ex e=>(∃ i,ex=.exit i∨ex=.ret)∧out ex e) hl js E I n (fun i hi hI=>?_) (fun hI=>?_) 0 (Nat.zero_le _) hI
 ·subst hl
  exact acT (fun ex e h=>hout ex e h.2) key
 ·exact hstep i hi hI _ (fun e h1 h2=>⟨h1,h2⟩) (fun i e h=>⟨⟨i,.inl rfl⟩,h⟩) (fun e h=>⟨⟨0,.inr rfl⟩,h⟩)
 ·exact hlast hI _ (fun i e h=>⟨⟨i,.inl rfl⟩,h⟩) (fun e h=>⟨⟨0,.inr rfl⟩,h⟩)
theorem aa5 {α:Type} {l b:ae} (hl:l=.loop b) (js:List Nat) (E:α→Env) (μ:α→Nat) (I:α→Prop) (out:Exit→Env→Prop)
  (hstep:∀ a,I a→∀ q:Exit→Env→Prop,(∀ e a',js.foldl (fun e j=>e.set j .dead) e=E a'→I a'→μ a'<μ a→q .normal e)→(∀ i e,out (.exit i) e→q (.exit i) e)→(∀ e,out .ret e→q .ret e)→G P m b (E a) [] q)
  (a:α) (hI:I a) {e:Env} (he:e=E a) (hout:∀ ex e,out ex e→R P m ex e K Q):G P m l e K Q:=by
 have key:∀ n a,μ a=n→I a→W P m l (E a) fun ex e=>out ex e:=by
  intro n
  induction n using Nat.strongRecOn with
  | _ n ih =>
   intro a hn hI
   subst hl
   refine yS (hstep a hI _ (fun e a' h1 h2 h3=>?_) (fun i e h=>h) (fun e h=>h))
   refine Bg (js:=js) ?_
   rw[h1]
   exact ih _ (by omega) a' rfl h2
 subst he
 subst hl
 exact acT (fun ex e h=>hout ex e h) (key _ a rfl hI)
end
theorem Bi {P:Program} {g:Nat} {args:List AV} {res:AV} {outs:List (Nat × AV)} (i:Nat) (hi:args[i]?=some (.rsl 0 [])) (h:∀ t,Says P g (args.set i (.nsl t)) res outs):Says P g args res outs:=by
 intro w Φ σ cargs fa hrel hhr hinv
 obtain⟨cv,f1,f2,hcv,hv,hf,hset⟩:=dO i hrel hi
 simp only[VR] at hv
 obtain⟨⟨a,c,rfl,_,h0,_⟩,hz⟩:=hv
 have hn:VR P w Φ σ [] (.nsl a.isNone) (.slice a 0 c) (fun _=>0):=by
  simp only[VR]
  exact⟨⟨a,c,rfl,by simp,fun e=>(h0 e).2⟩,fun _=>by simp⟩
 have h2:=hset _ _ _ hn
 have e1:cargs.toList.set i (.slice a 0 c)=cargs.toList:=gW hcv
 rw[e1,show (fun b=>0+f2 b)=fa from funext fun b=>by have:=hf b;have:=hz b;omega] at h2
 refine h a.isNone w Φ σ cargs fa h2 ?_ hinv
 have key:∀ (l:List AV) (i:Nat),hrs l=false→hrs (l.set i (.nsl a.isNone))=false:=by
  intro l
  induction l with
  | nil=>intro i _;simp[hrs]
  | cons x xs ih =>
   intro i h
   simp only[hrs,Bool.or_eq_false_iff] at h
   cases i with
   | zero=>simp[hrs,hr,h.2]
   | succ i=>simp[hrs,h.1,ih i h.2]
 exact key _ _ hhr
def yY (e:Env):List (Nat × AV)→Env
 | []=>e
 | (j,v)::us=>yY (e.set j v) us
@[simp] theorem aul {e:Env}:yY e []=e:=rfl
@[simp] theorem as2 {e:Env} {j:Nat} {v:AV} {us:List (Nat × AV)}:yY e ((j,v)::us)=yY (e.set j v) us:=rfl
section
variable {P : Program} {m : Nat} {K : List Fr} {Q : Exit → Env → Prop}
theorem eY {l b:ae} (hl:l=.loop b) (js:List Nat) (u:Nat→List (Nat × AV)) (I:Nat→Prop) (n:Nat) {e:Env} (hI:I 0) (he:e=yY e (u 0))
  (hstep:∀ i,i<n→I i→∀ q:Exit→Env→Prop,(∀ e',js.foldl (fun e j=>e.set j .dead) e'=yY e (u (i+1))→I (i+1)→q .normal e')→(∀ x e',R P m (.exit x) e' K Q→q (.exit x) e')→(∀ e',R P m .ret e' K Q→q .ret e')→G P m b (yY e (u i)) [] q)
  (hlast:I n→∀ q:Exit→Env→Prop,(∀ x e',R P m (.exit x) e' K Q→q (.exit x) e')→(∀ e',R P m .ret e' K Q→q .ret e')→G P m b (yY e (u n)) [] q):G P m l e K Q :=
 iF hl js (fun i=>yY e (u i)) I n (fun ex e'=>R P m ex e' K Q) hstep hlast hI he (fun _ _ h=>h)
theorem RH {α:Type} {l b:ae} (hl:l=.loop b) (js:List Nat) (u:α→List (Nat × AV)) (μ:α→Nat) (I:α→Prop) (a:α) {e:Env} (hI:I a) (he:e=yY e (u a))
  (hstep:∀ a,I a→∀ q:Exit→Env→Prop,(∀ e' a',js.foldl (fun e j=>e.set j .dead) e'=yY e (u a')→I a'→μ a'<μ a→q .normal e')→(∀ x e',R P m (.exit x) e' K Q→q (.exit x) e')→(∀ e',R P m .ret e' K Q→q .ret e')→G P m b (yY e (u a)) [] q):G P m l e K Q :=
 aa5 hl js (fun a=>yY e (u a)) μ I (fun ex e'=>R P m ex e' K Q) hstep a hI he (fun _ _ h=>h)
end
theorem LD {P:Program} {g:Nat} {args:List AV} {res res':AV} {outs:List (Nat × AV)} (hw:∀ (w:World) (Φ:Nat→Prop) (σ:Nat→Value) (cv:Value) (f:Cnt),VR P w Φ σ [] res cv f→∃ f',VR P w Φ σ [] res' cv f'∧∀ b,f' b≤f b) (hr':hr res'=false)
  (h:Says P g args res outs):Says P g args res' outs:=by
 intro w Φ σ cargs fa hrel hhr hinv
 refine (h w Φ σ cargs fa hrel hhr hinv).mono ?_
 rintro en w' ⟨cv,Φ',f1,f2,he,hext,h1,h2,h3,h4,h5,h6,h7,h8⟩
 obtain⟨f',k1,k2⟩:=hw w' Φ' σ cv f1 h3
 exact⟨cv,Φ',f',f2,he,hext,h1,h2,k1,hr',h5,h6,h7.le (fun b=>by have:=k2 b;show f' b+f2 b≤f1 b+f2 b;omega),fun b hb=>h8 b (by have:=k2 b;omega)⟩
theorem auk {P:Program} {w:World} {Φ:Nat→Prop} {σ:Nat→Value} {ρ:List Value} {s e n:Nat} {cs:List AV} {cv:Value} {f:Cnt} (h:VR P w Φ σ ρ (.osl s e n cs) cv f):VR P w Φ σ ρ (.rsl n []) cv (fun _=>0):=by
 simp only[VR] at h ⊢
 obtain⟨_,_,xs,f1,ho,_⟩:=h
 obtain⟨a,c,e,h1,h2,_⟩:=dF ho
 exact⟨⟨a,c,e,h1,h2,by simp only[FC]⟩,by simp⟩
theorem auj {P:Program} {w:World} {Φ:Nat→Prop} {σ:Nat→Value} {ρ:List Value} {n:Nat} {cs:List AV} {cv:Value} {f:Cnt} (h:VR P w Φ σ ρ (.rsl n cs) cv f):VR P w Φ σ ρ (.rsl n []) cv f:=by
 simp only[VR] at h ⊢
 obtain⟨⟨a,c,e,h1,h2,_⟩,hz⟩:=h
 exact⟨⟨a,c,e,h1,h2,by simp only[FC]⟩,hz⟩
theorem aui {P:Program} {g:Nat} {args:List AV} {u u' v:AV} {outs:List (Nat × AV)} (hw:∀ (w:World) (Φ:Nat→Prop) (σ:Nat→Value) (cv:Value) (f:Cnt),VR P w Φ σ [] u cv f→∃ f',VR P w Φ σ [] u' cv f'∧∀ b,f' b≤f b) (hu:hr u'=false) (hv:hr v=false)
  (h:Says P g args (.tup [none,none] [u,v]) outs):Says P g args (.tup [none,none] [u',v]) outs:=by
 refine LD (fun w Φ σ cv f hvr=>?_) (by simp[hr,hrs,hu,hv]) h
 simp only[VR,CR] at hvr ⊢
 obtain⟨arr,rfl,hsh,v1,vs',f1,f2,e1,h1,⟨v2,vs2,f3,f4,e2,h3,⟨e3,z4⟩,hf2⟩,hf⟩:=hvr
 obtain⟨f',k1,k2⟩:=hw w Φ σ v1 f1 h1
 exact⟨fun b=>f' b+f2 b,⟨arr,rfl,hsh,v1,vs',f',f2,e1,k1,⟨v2,vs2,f3,f4,e2,h3,⟨e3,z4⟩,hf2⟩,fun _=>rfl⟩,fun b=>by have:=k2 b;have:=hf b;show f' b+f2 b≤f b;omega⟩
attribute [simp] pnX stX stE lnX DF qW TQ Ei l9 Ry Rz yF MN skE skV upg kY yJ Me oU bz abp rq GL kF nY
end Go.AM
namespace Go.AM.K
open Go Go.AM
abbrev T:Bool:=true
abbrev F:Bool:=false
abbrev o (x:SOp):dJ:=⟨.op x,none,none⟩
abbrev a (j:Nat) (x:SOp):dJ:=⟨.op x,some j,none⟩
abbrev g (s:Nat) (b:Bool) (x:SOp):dJ:=⟨.op x,none,some (s,b)⟩
abbrev c (f:Nat) (xs:List Opd):dJ:=⟨.call f xs false,none,none⟩
abbrev s (j:Nat):Opd:=.slot j
abbrev k (v:AV):Opd:=.con v
abbrev n (x:Int):Opd:=.con (.int .i64 x)
abbrev b (x:Bool):Opd:=.con (.bool x)
abbrev i (x:Int):AV:=.int .i64 x
abbrev m (j:Nat):dJ:=⟨.op (.mv (.slot j)),none,none⟩
abbrev u (j i:Nat):dJ:=⟨.op (.asg (.slot i)),some j,none⟩
abbrev f (k i:Nat):dJ:=⟨.op (.faddr k (.slot i)),none,none⟩
abbrev l (k i:Nat):dJ:=⟨.op (.load k false (.slot i)),none,none⟩
abbrev L (k i:Nat):dJ:=⟨.op (.load k true (.slot i)),none,none⟩
abbrev e (i k:Nat):dJ:=⟨.op (.ext i k),none,none⟩
abbrev q (a b:ae):ae:=.seq a b
abbrev r (D:List Nat) (x:List dJ):ae:=.reg D x
abbrev d (x:List AV) (a b:Nat):AV:=.osl 0 a b x
end Go.AM.K
namespace Go.AM
open Go
section
variable {H : Type} {enc : TypeId × Value → H} {P : Program} {w : World} {Φ : Nat → Prop} {σ : Nat → Value} {ρ : List Value}
def Rd (P:Program) (w:World) (ds:List D) (cs:List Value):Prop:=∀ (Φ:Nat→Prop) (σ:Nat→Value) (ρ:List Value),(∀ b,b<w.heap.size→Φ b)→CR P w Φ σ ρ (Cs ds) cs (fun _=>0)
theorem asX:Rd P w [] []:=fun _ _ _ _=>by simpa using CR_nil
theorem BN {d:D} {v:Value} (h:∀ (Φ:Nat→Prop) (σ:Nat→Value) (ρ:List Value),(∀ b,b<w.heap.size→Φ b)→VR P w Φ σ ρ (C d) v (fun _=>0)):Rd P w [d] [v]:=fun Φ σ ρ hΦ=>by
 simpa using CR_cons (h Φ σ ρ hΦ) CR_nil
theorem LH {a b:List D} {cs cs':List Value} (h:Rd P w a cs) (h':Rd P w b cs'):Rd P w (a++b) (cs++cs'):=fun Φ σ ρ hΦ=>by
 simpa using iJ (h Φ σ ρ hΦ) (h' Φ σ ρ hΦ)
theorem DL {a:List D} {cs:List Value} (h:Rd P w a cs):a.length=cs.length:=by
 have:=dm (h (fun _=>True) (fun _=>undef) [] (fun _ _=>trivial))
 simpa using this
theorem gX {a b:List D} {cs:List Value} {o s:Nat} (h:Rd P w a ((cs.drop o).take s)) (h':Rd P w b (cs.drop (o+s))):Rd P w (a++b) (cs.drop o):=by
 have:=LH h h'
 rwa [←List.drop_drop,List.take_append_drop] at this
theorem uJ {cs:List Value} {o:Nat} (h:cs.length=o):Rd P w [] (cs.drop o):=by
 rw[List.drop_eq_nil_of_le (by omega)];exact asX
theorem lF {k:IntKind} {n:Int}:Rd P w [.I k n] [.int k n]:=BN fun _ _ _ _=>by simp[VR]
theorem Et {b:Bool}:Rd P w [.B b] [.bool b]:=BN fun _ _ _ _=>by simp[VR]
theorem IW {s:ByteArray}:Rd P w [.S s.data.toList] [.string s]:=BN fun _ _ _ _=>by simp[VR]
theorem LW {cs ds:List AV} {a:Option Addr}:∀ {j:Nat},FC P w Φ σ ρ cs a j→FC P w Φ σ ρ ds a (j+cs.length)→FC P w Φ σ ρ (cs++ds) a j:=by
 induction cs with
 | nil=>intro j _ h;simpa using h
 | cons c cs ih =>
  intro j h h'
  simp only[FC,List.cons_append] at h ⊢
  exact⟨h.1,ih h.2 (by simpa [Nat.add_assoc,Nat.add_comm 1] using h')⟩
theorem aDu {ds:List D}:∀ {cs:List Value} {a:Addr} {j:Nat},CR P w Φ σ ρ (Cs ds) cs (fun _=>0)→(∀ b,b<w.heap.size→Φ b)→(∀ i u,cs[i]?=some u→w.cell? (a.add (j+i))=some u)→FC P w Φ σ ρ (Cs ds) (some a) j:=by
 induction ds with
 | nil=>intro cs a j _ _ _;simp[FC]
 | cons d ds ih =>
  intro cs a j h hΦ hc
  simp only[jL,CR] at h
  obtain⟨v,vs,f1,f2,rfl,h1,h2,hf⟩:=h
  have e1:f1=fun _=>0:=funext fun b=>by have:0=f1 b+f2 b:=hf b;omega
  have e2:f2=fun _=>0:=funext fun b=>by have:0=f1 b+f2 b:=hf b;omega
  subst e1 e2
  simp only[jL,FC]
  have h0:=hc 0 v rfl
  refine⟨⟨a,v,rfl,hΦ _ ?_,by simpa using h0,adD,fun f hz=>?_⟩,ih h2 hΦ fun i u hi=>?_⟩
  ·unfold World.cell? at h0
   split at h0
   ·rename_i hb
    have:=(Array.getElem?_eq_some_iff.1 hb).1
    rwa [add_block] at this
   ·cases h0
  ·rw[show f=fun _=>0 from funext hz];exact h1
  ·have:=hc (i+1) u (by simpa using hi)
   rwa [show j+1+i=j+(i+1) by omega]
theorem Iq {a:Addr} {n:Nat} {cs:List Value} (h:w.cells? 0 a n=some cs):∀ i u,cs[i]?=some u→w.cell? (a.add i)=some u:=by
 intro i u hi
 obtain⟨_,h2,h3⟩:=World.cells?_some h
 have hl:i<cs.length:=(List.getElem?_eq_some_iff.1 hi).1
 rw[h3 i (by omega),hi]
theorem Gx {T:Type} (td:T→List D) (ok:T→Prop) (k:Nat) (hk:∀ x,(td x).length=k) {a:Addr}:∀ (len:Nat),(∀ i,i<len→∃ cs,w.cells? 0 (a.add (i*k)) k=some cs∧∃ x,ok x∧Rd P w (td x) cs) →
  ∃ xs:List T,xs.length=len∧(∀ x∈xs,ok x)∧∀ (Φ:Nat→Prop) (σ:Nat→Value) (ρ:List Value),(∀ b,b<w.heap.size→Φ b)→FC P w Φ σ ρ (Cs (xs.flatMap td)) (some a) 0
 | 0,_=>⟨[],rfl,by simp,fun _ _ _ _=>by simp[FC]⟩
 | len+1,h=>by
  obtain⟨xs,h1,h2,h3⟩:=Gx td ok k hk len fun i hi=>h i (by omega)
  obtain⟨cs,hc,x,hx,hr⟩:=h len (by omega)
  have hl:(xs.flatMap td).length=len*k:=by
   rw[List.length_flatMap]
   have:xs.map (fun x=>(td x).length)=List.replicate len k:=by
    apply List.ext_getElem
    ·simp[h1]
    ·intro j q1 q2;simp[hk]
   rw[this];simp
  refine⟨xs++[x],by simp[h1],fun y hy=>?_,fun Φ σ ρ hΦ=>?_⟩
  ·rcases List.mem_append.1 hy with h|h
   ·exact h2 y h
   ·simp at h;subst h;exact hx
  ·rw[List.flatMap_append,tJ]
   refine LW (h3 Φ σ ρ hΦ) ?_
   simp only[List.flatMap_cons,List.flatMap_nil,List.append_nil]
   refine aDu (hr Φ σ ρ hΦ) hΦ fun i u hi=>?_
   have:=Iq hc i u hi
   rw[add_add] at this
   rw[LX,hl,Nat.zero_add]
   exact this
theorem jB {T:Type} (td:T→List D) (ok:T→Prop) (k e el:Nat) (hk:∀ x,(td x).length=k) {t:TypeId} (ht:P.underlying t=some (.slice e)) (hke:P.cellsOf e=k) {spare:Nat→Bool} {held:Bool} {fuel:Nat} {cs:List Value} {x:DataW H × List MemPlace}
  (h:DataW.trod enc P w 0 spare held fuel t cs=some x) (hT:∀ n,n<fuel→∀ cs x,DataW.trod enc P w 0 spare held n e cs=some x→∃ y,ok y∧Rd P w (td y) cs) :
  ∃ xs:List T,xs.length≤maxLen∧(∀ x∈xs,ok x)∧Rd P w [.L el xs.length (xs.flatMap td)] cs:=by
 rcases DataW.trod_slice ht h with ⟨rfl,_⟩|⟨a,len,cap,elems,rest,n,rfl,rfl,_,_,hlc,hcm,hel,helems,_,_⟩
 ·refine⟨[],by simp[maxLen],by simp,BN fun Φ σ ρ hΦ=>?_⟩
  simp only[C_L,VR]
  exact⟨⟨none,0,rfl,Nat.le_refl _,fun _=>⟨rfl,rfl⟩,by simp[FC]⟩,fun _=>trivial⟩
 ·obtain⟨xs,h1,h2,h3⟩:=Gx (P:=P) td ok k hk (a:=a) (w:=w) len fun i hi=>by
   have:=helems i hi
   rw[hke,List.getElem?_eq_getElem (by omega),Option.bind_eq_some_iff] at this
   obtain⟨cs,hc,hr⟩:=this
   exact⟨cs,hc,hT n (by omega) cs _ hr⟩
  refine⟨xs,by omega,h2,BN fun Φ σ ρ hΦ=>?_⟩
  simp only[C_L,VR]
  refine⟨⟨some a,cap,by rw[h1],by omega,by simp,h3 Φ σ ρ hΦ⟩,by simp⟩
end
end Go.AM
namespace Go.AM
open Go Go.ChangeShapes Go.WideShapes Go.ChangeAt Go.RowKit
def xX (P:Program):Bool:=(List.range P.types.size).all fun t=>match P.underlying t with
 | some (.slice e)=>decide (0<P.cellsOf e)
 | _=>true
section
variable {H : Type} {enc : TypeId × Value → H} {P : Program}
theorem Fb {W W':World} (h:Ext W W' (fun _=>0)) (may:MemPlace→Prop):W.keptBut W' may:=by
 refine⟨h.os,h.output,fun i hi=>?_⟩
 rw[h.block i hi rfl]
 exact (World.keptBut_refl W may).2.2 i hi
theorem Ia {W W':World} (h:Ext W W' (fun _=>0)) {a:Addr} (ha:a.block<W.heap.size):W'.frozen? a=W.frozen? a:=by
 simp only[World.frozen?,h.block a.block ha rfl]
theorem Ho {W W':World} (h:Ext W W' (fun _=>0)) {p:MemPlace} (hp:p.block<W.heap.size):W.sameAt W' p:=by
 cases p with
 | cell b off =>
  simp only[MemPlace.block] at hp
  simp only[World.sameAt,World.cell?,h.block b hp rfl]
 | map b =>
  simp only[MemPlace.block] at hp
  simp only[World.sameAt,h.block b hp rfl]
theorem xU {W W':World} (hl:laidOutB P=true) (hm:mapsRowed P=true) (hz:xX P=true) (hext:Ext W W' (fun _=>0)) {sp:Nat→Bool}:∀ {ts:List TypeId} {vs:List Value} {ds:List (DataW H)} {ps:List MemPlace},
  (∀ t∈ts,t<P.types.size)→DataW.TrodAll enc P W 0 (fun _=>true) true ts vs ds ps→(∀ p∈ps,sp p.block=true)→DataW.TrodAll enc P W' 0 sp true ts vs ds ps
 | [],vs,ds,ps,_,h,_=>by
  obtain⟨rfl,rfl,rfl⟩:=trodAll_nil h
  exact trodAll_mk0
 | t::ts,vs,ds,ps,ht,h,hs=>by
  obtain⟨v,vs1,d,ds1,a,b,rfl,rfl,rfl,⟨n,h1⟩,h2⟩:=trodAll_cons h
  refine trodAll_cons_mk ⟨n,?_⟩ (xU hl hm hz hext (fun t h=>ht t (by simp[h])) h2 (fun p hp=>hs p (by simp[hp])))
  refine DataW.trod_stays (T:=(· < P.types.size)) (kids_rows hl hm) (fun {t e} hT hu=>?_) (fun h=>by cases h) (ht t (by simp)) h1 (fun p hp=>Ho hext (DataW.trod_lt _ _ _ _ h1 p hp)) (fun p hp=>hs p (by simp[hp]))
  have:=List.all_eq_true.1 hz t (List.mem_range.2 hT)
  rw[hu] at this
  simpa using this
theorem aEy {w:World} (h:Lib.TabIs P w "internal/strconv.uint64pow10" .u64 Lib.pow10Tab):Tabs P w (fun b=>b<w.heap.size):=by
 intro p hp g hg
 simp only[y8,List.mem_singleton] at hp
 subst hp
 refine⟨?_,h⟩
 unfold Lib.TabIs World.var? at h
 rw[hg] at h
 simp only[Option.bind_some] at h
 show g<w.heap.size
 rcases Nat.lt_or_ge g w.heap.size with h'|h'
 ·exact h'
 ·rw[Array.getElem?_eq_none h'] at h;cases h
theorem yg {f:Nat} {fn:Func} {s:ChangeSpec} {apart fresh handsOn again:Bool} {tb:TypeId} {W:World} {args:Array Value} {ds gs:List (DataW H)} {before:List MemPlace} {avs:List AV}
  (hl:laidOutB P=true) (hm:mapsRowed P=true) (hz:xX P=true) (hts:∀ t∈fn.params.toList,t<P.types.size) (hvars:s.vars=[]) (hrt:fn.resultTypes=#[tb]) (htb:P.underlying tb=some .bool)
  (hW:DataW.Whole enc P fn.params.toList s.vars apart W args.toList ds gs before) (hfn:s.fn H (ds++[])={ results:=[.lit (.bool true)],args:=ds })
  (htab:Tabs P W (fun b=>b<W.heap.size)) (hcr:CR P W (fun b=>b<W.heap.size) (fun _=>undef) [] avs args.toList (fun _=>0)) (hhr:hrs avs=false) (hsay:Says P f avs (.bool true) []) :
  Calls P f args W fun e W'=>∃ v,e=.returned v∧s.post enc P fn apart fresh handsOn again W args v W':=by
 refine (hsay W _ _ args _ hcr hhr ⟨fun b=>by simp,fun b h=>by simp at h,fun b h=>h,fun b _=>rfl,htab⟩).mono ?_
 rintro en W' ⟨cv,Φ',f1,f2,rfl,hext,_,_,hv,_⟩
 obtain rfl:=o9 hv
 have hW0:=hW
 obtain⟨p,q,hA,hV,rfl,hfz,hnd⟩:=hW
 rw[hvars] at hV
 obtain⟨rfl,rfl⟩:=trodVars_none hV
 have hold:∀ x∈p++[],(fun b=>decide (b<W.heap.size)) x.block=true:=fun x hx=>by simpa using hW0.lt x hx
 have hargs:∀ sp:Nat→Bool,(∀ x∈p++[],sp x.block=true)→DataW.TrodAll enc P W' 0 sp true fn.params.toList args.toList (s.fn H (ds++[])).args (p++[]):=fun sp hs=>by
  rw[hfn]
  simp only[List.append_nil] at hs ⊢
  exact xU hl hm hz hext hts hA hs
 have hres:∀ (b:Nat) (sp:Nat→Bool) (hd:Bool),DataW.TrodAll enc P W' b sp hd fn.resultTypes.toList ((Value.bool true).resultList fn.resultTypes.size) (s.fn H (ds++[])).results []:=fun b sp hd=>by
  rw[hfn,hrt]
  exact trodAll_cons_mk (shut_bool htb _) trodAll_mk0
 have hvs:∀ sp:Nat→Bool,DataW.TrodVars enc P W' sp s.vars (s.fn H (ds++[])).vars []:=fun sp=>by
  rw[hvars,hfn];rfl
 refine⟨_,rfl,ds,[],p++[],[],p++[],[],hW0,hres _ _ _,hargs _ hold,hvs _,World.keptBut_mono (fun x hx=>⟨hx,.inr (.inl hx)⟩) (Fb hext _),fun _=>?_⟩
 refine⟨ok_one hrt rfl (okWide_bool_mk htb _),_,_,([]++(p++[]))++[],⟨[]++(p++[]),[],trodAll_append (hargs _ (fun _ _=>rfl)) (hres _ _ _),hvs _,rfl,?_,?_⟩,?_⟩
 ·intro b off hp
  rw[Ia hext (by have:=hW0.lt (.cell b off) (by simpa using hp);simpa [MemPlace.block] using this)]
  exact hfz b off (by simpa using hp)
 ·intro ha
  simpa using hnd ha
 ·intro x hx _
  simpa using hx
theorem xK {w:World} {ds:List D} {v:Value} (h:Rd P w ds v.cells.toList) (hne:ds.length≠1) {Φ:Nat→Prop} {σ:Nat→Value} {ρ:List Value} (hΦ:∀ b,b<w.heap.size→Φ b):VR P w Φ σ ρ (.agg (Cs ds)) v (fun _=>0):=by
 have hl:=DL h
 cases v with
 | agg arr=>simp only[VR];exact⟨arr,rfl,h Φ σ ρ hΦ⟩
 | _=>simp[Value.cells] at hl;exact absurd hl hne
theorem acl {ds:List D}:hrs (Cs ds)=false:=by
 induction ds with
 | nil=>rfl
 | cons d ds ih=>cases d<;>simp[hrs,hr,ih]
end
end Go.AM
namespace Go.AM
open Go
def eu (n:Int):List D:=[.I .i64 n]
def axb (b:Bool):List D:=[.B b]
def ed (s:List UInt8):List D:=[.S s]
@[simp] theorem aF7 {n:Int}:eu n=[.I .i64 n]:=rfl
@[simp] theorem auv {b:Bool}:axb b=[.B b]:=rfl
@[simp] theorem aF6 {s:List UInt8}:ed s=[.S s]:=rfl
def aJU (n:Int):Prop:=-9223372036854775808≤n∧n≤9223372036854775807
theorem aF3 {n:Int} (h:(Lit.int .i64 n).wf=true):aJU n:=by
 simp[Lit.wf,IntKind.min,IntKind.max,IntKind.signed,IntKind.bits] at h
 exact h
def szR (t:Nat) (l:Int):Int:=if (t:Int)≤l then l-t else -1
section
variable {α : Type}
theorem jg (f:α→List D) (k:Nat) (hl:∀ x,(f x).length=k) (xs:List α):(xs.flatMap f).length=xs.length*k:=by
 induction xs with
 | nil=>simp
 | cons x xs ih=>simp[ih,hl,Nat.add_mul,Nat.add_comm]
theorem row_drop (f:α→List D) (k:Nat) (hl:∀ x,(f x).length=k):∀ {xs:List α} {i:Nat} {x:α},xs[i]?=some x→(xs.flatMap f).drop (i*k)=f x++(xs.drop (i+1)).flatMap f
 | [],i,x,h=>by simp at h
 | y::ys,0,x,h=>by simp at h;subst h;simp
 | y::ys,i+1,x,h=>by
  have:=row_drop f k hl (xs:=ys) (i:=i) (x:=x) (by simpa using h)
  rw[List.flatMap_cons,Nat.add_mul,Nat.one_mul,List.drop_append,List.drop_eq_nil_of_le (by rw[hl];omega),hl]
  simpa using this
theorem kQ (f:α→List D) {xs:List α} {i:Nat} {x:α} (h:xs[i]?=some x):(xs.take (i+1)).flatMap f=(xs.take i).flatMap f++f x:=by
 rw[List.take_add_one,h];simp
theorem iM (t:α→Nat) {xs:List α} {i:Nat} {x:α} (h:xs[i]?=some x):((xs.take (i+1)).map t).sum=((xs.take i).map t).sum+t x:=by
 rw[List.take_add_one,h];simp
theorem sum_take_le (t:α→Nat) (xs:List α) (i:Nat):((xs.take i).map t).sum≤(xs.map t).sum:=by
 have h:(xs.map t).sum=((xs.take i).map t).sum+((xs.drop i).map t).sum:=by
  rw[←List.sum_append,←List.map_append,List.take_append_drop]
 omega
theorem dV (t:α→Nat) {xs:List α} {x:α} (h:x∈xs):t x≤(xs.map t).sum:=by
 induction xs with
 | nil=>simp at h
 | cons y ys ih =>
  rcases List.mem_cons.1 h with rfl|h
  ·simp
  ·have:=ih h;simp;omega
theorem su (t:α→Nat) (xs:List α):((xs.take xs.length).map t).sum=(xs.map t).sum:=by simp
end
theorem wrap64 {n:Int} (h:-9223372036854775808≤n) (h':n≤9223372036854775807):IntKind.i64.wrap n=n:=by rw[bJ]<;>omega
mutual
theorem ui:∀ (d:D),jd (Ow d)=true
 | .I k n=>by simp[jd]
 | .B b=>by simp[jd]
 | .S s=>by simp[jd]
 | .L e n cs=>by simp[jd,ay cs]
theorem ay:∀ (ds:List D),gJ (Ows ds)=true
 | []=>by simp[gJ]
 | d::ds=>by simp[gJ,ui d,ay ds]
end
mutual
theorem ack:∀ (d:D),hr (Ow d)=false
 | .I k n=>by simp[hr]
 | .B b=>by simp[hr]
 | .S s=>by simp[hr]
 | .L e n cs=>by simp[hr,aQ cs]
theorem aQ:∀ (ds:List D),hrs (Ows ds)=false
 | []=>by simp[hrs]
 | d::ds=>by simp[hrs,ack d,aQ ds]
end
attribute [simp] ui ay ack aQ
theorem drop_cons {α:Type} {xs:List α} {i:Nat} {x:α} (h:xs[i]?=some x):xs.drop i=x::xs.drop (i+1):=by
 have hi:=(List.getElem?_eq_some_iff.1 h).1
 rw[List.drop_eq_getElem_cons hi,(List.getElem?_eq_some_iff.1 h).2]
def MQ (n:Nat):List UInt8:=if n=0 then [] else MQ (n / 10)++[UInt8.ofNat (48+n%10)]
theorem Oe {n:Nat} (h:n≠0):MQ n=MQ (n / 10)++[UInt8.ofNat (48+n%10)]:=by rw[MQ,if_neg h]
theorem auu (n:Nat):(MQ n).length≤n:=by
 induction n using Nat.strongRecOn with
 | _ n ih =>
  by_cases h:n=0
  ·subst h;rw[MQ];simp
  ·rw[Oe h]
   have:=ih (n / 10) (by omega)
   simp;omega
def mtx (k:Int):List UInt8:=109::MQ k.toNat
section
variable {α : Type}
def gV (f:α→Int→α × Int) (xs:List α) (k:Int):List α × Int:=xs.foldl (fun p x=>(p.1++[(f x p.2).1],(f x p.2).2)) ([],k)
theorem E8 (f:α→Int→α × Int) {xs:List α} {i:Nat} {x:α} (k:Int) (h:xs[i]?=some x) :
  gV f (xs.take (i+1)) k=((gV f (xs.take i) k).1++[(f x (gV f (xs.take i) k).2).1],(f x (gV f (xs.take i) k).2).2):=by
 rw[List.take_add_one,h];simp[gV]
theorem uY (f:α→Int→α × Int):∀ (xs:List α) (a:List α) (k:Int),xs.foldl (fun p x=>(p.1++[(f x p.2).1],(f x p.2).2)) (a,k)=(a++(gV f xs k).1,(gV f xs k).2)
 | [],a,k=>by simp[gV]
 | x::xs,a,k=>by
  rw[List.foldl_cons,uY f xs]
  have h2:gV f (x::xs) k=([]++[(f x k).1]++(gV f xs (f x k).2).1,(gV f xs (f x k).2).2):=by unfold gV;rw[List.foldl_cons];exact uY f xs _ _
  rw[h2];simp
theorem lD (f:α→Int→α × Int) (xs ys:List α) (k:Int):gV f (xs++ys) k=((gV f xs k).1++(gV f ys (gV f xs k).2).1,(gV f ys (gV f xs k).2).2):=by
 conv=>lhs;unfold gV
 rw[List.foldl_append]
 exact uY f ys _ _
theorem um (f:α→Int→α × Int):∀ (xs:List α) (k:Int),(gV f xs k).1.length=xs.length
 | [],k=>rfl
 | x::xs,k=>by
  have:=lD f [x] xs k
  rw[List.singleton_append] at this
  rw[this,List.length_append,um f xs]
  simp[gV];omega
theorem abO (f:α→Int→α × Int) {xs:List α} {i:Nat} {x:α} (k:Int) (h:xs[i]?=some x):(gV f xs k).1[i]?=some (f x (gV f (xs.take i) k).2).1:=by
 have hi:i<xs.length:=(List.getElem?_eq_some_iff.1 h).1
 have:=lD f (xs.take (i+1)) (xs.drop (i+1)) k
 rw[List.take_append_drop] at this
 rw[this,E8 f k h]
 have hl:=um f (xs.take i) k
 rw[List.length_take,Nat.min_eq_left (by omega)] at hl
 simp only
 rw[List.getElem?_append_left (by simp[hl]),List.getElem?_append_right (by omega)]
 simp[hl]
theorem D7 (f:α→Int→α × Int) (t:α→Nat):∀ {xs:List α} {k:Int},(∀ x∈xs,∀ k,k≤(f x k).2∧(f x k).2≤k+20*(1+t x:Nat))→k≤(gV f xs k).2∧(gV f xs k).2≤k+20*(xs.length+(xs.map t).sum:Nat)
 | [],k,_=>by simp[gV]
 | x::xs,k,h=>by
  have:=lD f [x] xs k
  rw[List.singleton_append] at this
  rw[this]
  have h1:=h x (by simp) k
  have h2:=D7 f t (xs:=xs) (k:=(f x k).2) (fun y hy=>h y (by simp[hy]))
  simp only[gV,List.foldl_cons,List.foldl_nil] at h2 ⊢
  simp only[List.length_cons,List.map_cons,List.sum_cons]
  omega
theorem HY (g:Int→α):∀ (xs:List α) (k:Int),(gV (fun _ k=>(g k,k+1)) xs k).2=k+xs.length
 | [],k=>by simp[gV]
 | x::xs,k=>by
  have:=lD (fun _ k=>(g k,k+1)) [x] xs k
  rw[List.singleton_append] at this
  rw[this]
  simp only[gV,List.foldl_cons,List.foldl_nil]
  have:=HY g xs (k+1)
  simp only[gV] at this
  rw[this];simp;omega
end
section
variable {A X : List AV} {n : Nat}
theorem AX (h:A.length=n) (k:Nat):(A++X).drop (n+k)=X.drop k:=by rw[List.drop_append,List.drop_eq_nil_of_le (by omega),List.nil_append];congr 1;omega
theorem Dc (h:A.length=n):(A++X).drop n=X:=by simpa using AX (X:=X) h 0
theorem Ju (h:A.length=n) (k:Nat):(A++X)[n+k]?=X[k]?:=by rw[List.getElem?_append_right (by omega)];congr 1;omega
theorem NL (h:A.length=n):(A++X)[n]?=X[0]?:=by simpa using Ju (X:=X) h 0
theorem Jt (h:A.length=n) (k:Nat) (v:AV):(A++X).set (n+k) v=A++X.set k v:=by rw[List.set_append_right _ _ (by omega)];congr 2;omega
theorem NK (h:A.length=n) (v:AV):(A++X).set n v=A++X.set 0 v:=by simpa using Jt (X:=X) h 0 v
def spl (cs:List AV) (off:Nat) (xs:List AV):List AV:=cs.take off++xs++cs.drop (off+xs.length)
theorem zT (h:A.length=n) (k:Nat) (vs:List AV):splice (A++X) (n+k) vs=A++spl X k vs:=by
 unfold splice spl
 rw[List.take_append,List.take_of_length_le (by omega),List.append_assoc,List.append_assoc,List.drop_append,List.drop_eq_nil_of_le (by omega),List.nil_append]
 rw[show n+k-A.length=k by omega,show n+k+vs.length-A.length=k+vs.length by omega,List.append_assoc]
theorem Fa (h:A.length=n) (vs:List AV):splice (A++X) n vs=A++spl X 0 vs:=by simpa using zT (X:=X) h 0 vs
end
end Go.AM
namespace Go.AM
open Go
theorem af {a b:List AV}:gJ (a++b)=(gJ a&&gJ b):=by
 induction a with
 | nil=>simp[gJ]
 | cons x a ih=>simp[gJ,ih,Bool.and_assoc]
theorem BC {a b:List AV}:jf (a++b)=(jf a&&jf b):=by
 induction a with
 | nil=>simp[jf]
 | cons x a ih=>simp[jf,ih,Bool.and_assoc]
attribute [simp] af BC
@[simp] theorem RV {ds:List D} {cs:List AV}:jZ (Ows ds++cs)=(jZ cs).map (Cs ds++·):=by
 induction ds with
 | nil=>cases h:jZ cs<;>simp[h]
 | cons d ds ih=>simp only[qi,List.cons_append,jZ,Em,ih];cases h:jZ cs<;>simp
theorem Kq {n:Nat} {cs:List AV}:iP (.rsl n cs)=cs.isEmpty:=by cases cs<;>simp[iP]
attribute [simp ↓] Kq
theorem Jn {n:Nat} {res:AV} {outs:List AV}:wE n false res outs=((outs.length==n)&&jd res&&outs.all Dk):=by
 unfold wE
 cases ((outs.length==n)&&jd res&&outs.all Dk)<;>rfl
structure Still (w w':World):Prop where
 os:w'.os=w.os
 tape:w'.tape=w.tape
 output:w'.output=w.output
 size:w.heap.size≤w'.heap.size
 block:∀ k,k<w.heap.size→w'.heap[k]?=w.heap[k]?
theorem Still.refl (w:World):Still w w:=⟨rfl,rfl,rfl,Nat.le_refl _,fun _ _=>rfl⟩
theorem Still.of_below {w w':World} (h:RowKit.Below w.heap.size w w'):Still w w':=⟨h.os,h.tape,h.output,h.size,h.block⟩
theorem Still.of_grow (w:World) (k:Nat) (os:Array Obj):Still w (Go.Sort.grow (w.drewN k) os):=by
 refine⟨rfl,rfl,rfl,?_,fun b hb=>?_⟩
 ·show w.heap.size≤(w.heap++os).size
  simp
 ·show (w.heap++os)[b]?=_
  rw[Array.getElem?_append_left hb]
theorem Still.ext {w w':World} (h:Still w w') (f:Cnt):Ext w w' f:=⟨h.os,h.tape,h.output,h.size,fun b hb _=>h.block b hb⟩
theorem Still.inv {P:Program} {w w':World} {Φ:Nat→Prop} {f:Cnt} (h:Still w w') (hi:Inv P w Φ f):Inv P w' Φ f :=
 ⟨hi.sep,fun b hb=>Nat.lt_of_lt_of_le (hi.lt b hb) h.size,fun b hb=>Nat.lt_of_lt_of_le (hi.fz b hb) h.size,hi.apart,iT hi.tab (fun b hb=>h.block b (hi.fz b hb)) (fun _ h=>h)⟩
theorem aux {P:Program} {g:Nat} {args:List AV} {res:AV} (hres:dR res=true)
  (h:∀ (w:World) (Φ:Nat→Prop) (σ:Nat→Value) (cargs:Array Value) (fa:Cnt),CR P w Φ σ [] args cargs.toList fa→Inv P w Φ fa →
   Calls P g cargs w fun en w'=>∃ cv,en=.returned cv∧Still w w'∧∀ w',VR P w' Φ σ [] res cv (fun _=>0)):Says P g args res []:=by
 intro w Φ σ cargs fa hcr _ hinv
 refine (h w Φ σ cargs fa hcr hinv).mono ?_
 rintro en w' ⟨cv,rfl,hst,hv⟩
 have hr0:hr res=false:=by cases res<;>simp[dR] at hres<;>rfl
 refine⟨cv,Φ,fun _=>0,fun _=>0,rfl,hst.ext _,fun _ h=>h,fun _ h=>.inl h,hv w',hr0,?_,rfl,?_,fun b hb=>by simp at hb⟩
 ·simpa using CR_nil
 ·have:=hst.inv hinv
  exact⟨fun b=>by simp,fun b hb=>by simp at hb,this.fz,fun b _=>by simp,this.tab⟩
theorem dI {P:Program} {g e n:Nat} {cs rest:List AV} {res:AV} (h:Says P g (.osl 0 e n cs::rest) res []):Says P g (.osl 1 e n cs::rest) res (num 1 [.gone 0]):=by
 intro w Φ σ cargs fa hcr hh hinv
 have hcr0:CR P w Φ σ [] (.osl 0 e n cs::rest) cargs.toList fa:=by
  simp only[CR] at hcr ⊢
  obtain⟨v,vs',f1,f2,e1,hv,hr,hf⟩:=hcr
  refine⟨v,vs',f1,f2,e1,?_,hr,hf⟩
  simp only[VR] at hv ⊢
  exact⟨fun h=>absurd rfl h,hv.2⟩
 refine (h w Φ σ cargs fa hcr0 (by simpa [hrs,hr] using hh) hinv).mono ?_
 rintro en w' ⟨cv,Φ',f1,f2,he,hext,h1,h2,h3,h4,h5,h6,h7,h8⟩
 simp only[List.map_nil,CR] at h5
 refine⟨cv,Φ',f1,f2,he,hext,h1,h2,h3,h4,?_,rfl,h7,h8⟩
 exact iG (v:=.gone 0) (by simp only[VR];exact⟨fun h=>absurd rfl h,h5.2⟩)
theorem aEz {P:Program} {w:World} {Φ:Nat→Prop} {f:Cnt} (h:Inv P w Φ f) {g:Nat} (hg:P.globalNamed "internal/strconv.uint64pow10" = some g):Lib.TabIs P w "internal/strconv.uint64pow10" .u64 Lib.pow10Tab :=
 (h.tab ("internal/strconv.uint64pow10",(Lib.pow10Tab.map fun z=>Value.int .u64 z).toArray) (by simp[y8]) g hg).2
theorem aG1 {P:Program} {w:World} {Φ:Nat→Prop} {σ:Nat→Value} {k:IntKind} {n:Int} {vs:List Value} {f:Cnt} (h:CR P w Φ σ [] [.int k n] vs f):vs=[.int k n]:=by
 simp only[CR,VR] at h
 obtain⟨v,vs',f1,f2,rfl,⟨rfl,_⟩,⟨rfl,_⟩,_⟩:=h
 rfl
def dv:D→Value
 | .I k n=>.int k n
 | .B b=>.bool b
 | .S s=>.string ⟨s.toArray⟩
 | .L _ _ _=>.nilFunc
section
variable {P : Program} {w : World} {Φ : Nat → Prop} {σ : Nat → Value} {ρ : List Value}
theorem aDs {d:D} {v:Value} {f:Cnt} (hd:isL d=false) (h:VR P w Φ σ ρ (Ow d) v f):v=dv d∧∀ b,f b=0:=by
 cases d with
 | I k n=>simp only[aJ7,VR] at h;exact h
 | B b=>simp only[aJ8,VR] at h;exact h
 | S s=>simp only[aJ6,VR] at h;exact h
 | L e n cs=>simp[isL] at hd
theorem asR {d:D} (hd:isL d=false):VR P w Φ σ ρ (Ow d) (dv d) (fun _=>0):=by
 cases d with
 | I k n=>simp[VR,dv]
 | B b=>simp[VR,dv]
 | S s=>simp[VR,dv]
 | L e n cs=>simp[isL] at hd
theorem MK:∀ {ds:List D} {vs:List Value} {f:Cnt},(∀ d∈ds,isL d=false)→CR P w Φ σ ρ (Ows ds) vs f→vs=ds.map dv∧∀ b,f b=0
 | [],vs,f,_,h=>by simp only[aa4,CR] at h;simpa using h
 | d::ds,vs,f,hd,h=>by
  simp only[qi,CR] at h
  obtain⟨v,vs',f1,f2,rfl,h1,h2,hf⟩:=h
  obtain⟨rfl,z1⟩:=aDs (hd d (by simp)) h1
  obtain⟨rfl,z2⟩:=MK (fun x hx=>hd x (by simp[hx])) h2
  exact⟨by simp,fun b=>by rw[hf b,z1 b,z2 b]⟩
theorem IZ:∀ {ds:List D},(∀ d∈ds,isL d=false)→CR P w Φ σ ρ (Ows ds) (ds.map dv) (fun _=>0)
 | [],_=>by simp[CR]
 | d::ds,hd=>by
  have:=CR_cons (asR (P:=P) (w:=w) (Φ:=Φ) (σ:=σ) (ρ:=ρ) (hd d (by simp))) (IZ (ds:=ds) (fun x hx=>hd x (by simp[hx])))
  simpa using this
end
theorem as5 {P:Program} {g e:Nat} (hcell:P.cellsOf e=1) (xs:List (List UInt8)) (sep:List UInt8)
  (hsome:∀ (w:World) (blk cap:Nat),(∀ j x,xs[j]?=some x→w.cell? ⟨blk,j,none⟩=some (.string ⟨x.toArray⟩))→blk<w.heap.size→xs.length≤cap →
   Calls P g #[.slice (some ⟨blk,0,none⟩) xs.length cap,.string ⟨sep.toArray⟩] w fun en w'=>en=.returned (.string ⟨(Lib.join xs sep).toArray⟩)∧Still w w')
  (hnone:∀ (w:World),Calls P g #[.slice none 0 0,.string ⟨sep.toArray⟩] w fun en w'=>en=.returned (.string ⟨#[]⟩)∧w'=w) :
  Says P g [.osl 1 e xs.length (Ows (xs.flatMap ed)),.str sep] (.str (Lib.join xs sep)) [(1,.osl 1 e xs.length (Ows (xs.flatMap ed)))]:=by
 intro w Φ σ cargs fa hcr hh hinv
 simp only[CR] at hcr
 obtain⟨v,vs',f1,f2,hca,hv,⟨u,vs2,f3,f4,hvs,hu,⟨rfl,hz4⟩,hf2⟩,hfa⟩:=hcr
 simp only[VR] at hu
 obtain⟨rfl,hz3⟩:=hu
 subst hvs
 have hsc:∀ d∈xs.flatMap ed,isL d=false:=fun d hd=>by
  obtain⟨x,_,hx⟩:=List.mem_flatMap.1 hd
  simp at hx;subst hx;rfl
 simp only[VR] at hv
 obtain⟨hst,hx,cs,f5,ho,hc,hb⟩:=hv
 obtain⟨rfl,hz5⟩:=MK hsc hc
 have hcargs:cargs=#[v,.string ⟨sep.toArray⟩]:=by
  apply Array.toList_inj.1;rw[hca]
 have hs1:σ 1=v:=hst (by simp)
 have hfv:∀ b,fa b=jF v b:=fun b=>by rw[hfa b,hf2 b,hz3 b,hz4 b,hb b,hz5 b];omega
 -- what is handed back
 have back:∀ (w':World) (s:List UInt8),Still w w'→∃ (cv:Value) (Φ':Nat→Prop) (f1 f2:Cnt),Ending.returned (.string ⟨s.toArray⟩)=.returned cv∧Ext w w' fa∧(∀ b,Φ b→Φ' b)∧(∀ b,Φ' b→Φ b∨1≤fa b∨w.heap.size≤b) ∧
   VR P w' Φ' σ [] (.str s) cv f1∧hr (.str s)=false∧CR P w' Φ' σ [] ([(1,AV.osl 1 e xs.length (Ows (xs.flatMap ed)))].map (·.2)) ([(1,AV.osl 1 e xs.length (Ows (xs.flatMap ed)))].map fun p=>σ p.1) f2∧hrs ([(1,AV.osl 1 e xs.length (Ows (xs.flatMap ed)))].map (·.2))=false ∧
   Inv P w' Φ' (fun b=>f1 b+f2 b)∧(∀ b,1≤f1 b+f2 b→1≤fa b∨w.heap.size≤b):=by
  intro w' s hstl
  refine⟨_,Φ,fun _=>0,fa,rfl,hstl.ext _,fun _ h=>h,fun _ h=>.inl h,by simp[VR],rfl,?_,by simp[hrs,hr],?_,fun b h=>.inl (by simpa using h)⟩
  ·refine iG ?_
   simp only[VR]
   refine⟨by simp,hx,(xs.flatMap ed).map dv,fun _=>0,?_,IZ hsc,fun b=>by rw[hfv b,hs1];rfl⟩
   show w'.ownsRow 0 e (P.cellsOf e) (σ 1) xs.length _
   rw[hs1]
   refine⟨ho.1,?_⟩
   rcases ho.2 with hn|⟨gb,cap,cur,e1,h0,hg,rest⟩
   ·exact .inl hn
   ·refine .inr ⟨gb,cap,cur,e1,h0,?_,rest⟩
    rw[hstl.block gb (Array.getElem?_eq_some_iff.1 hg).1]
    exact hg
  ·have e0:(fun b=>(fun _=>0) b+fa b)=fa:=funext fun b=>by simp
   rw[e0];exact hstl.inv hinv
 rw[hcargs]
 rcases ho.2 with ⟨rfl,h0⟩|⟨gb,cap,cur,rfl,_,hg,hn,hm,hs,ht⟩
 ·have hxs:xs=[]:=List.eq_nil_of_length_eq_zero h0
  subst hxs
  refine (hnone w).mono ?_
  rintro en w' ⟨rfl,rfl⟩
  exact back w' [] (Still.refl _)
 ·refine (hsome w gb cap (fun j x hj=>?_) (Array.getElem?_eq_some_iff.1 hg).1 hn).mono ?_
  ·have hj1:((xs.flatMap ed).map dv)[j]?=some (.string ⟨x.toArray⟩):=by
    have:=row_drop ed 1 (fun _=>by simp) hj
    rw[Nat.mul_one] at this
    have h2:(xs.flatMap ed)[j]?=some (.S x):=by
     have h3:=congrArg (·[0]?) this
     simpa using h3
    rw[List.getElem?_map,h2];rfl
   have:=ho.cells (g:=gb) rfl j _ hj1
   simpa [add_lit] using this
  ·rintro en w' ⟨rfl,hstl⟩
   exact back w' _ hstl
end Go.AM
namespace Go.AM
open Go Go.Proofs Go.Shelf
theorem KJ {P:Program} {ρ:Ren} (L:Lays8.n4 P ρ) {z:Value} {size bytes:Nat} (hI:(P.info? (ρ.t 25)).map (fun i=>(i.zero,i.size,i.bytes))=some (some z,size,bytes)) (hs0:0<size) (hzs:z.cells.size=size) (hc:P.cellsOf (ρ.t 25)=size)
  (n:Nat) (hn:n*bytes≤140737488355328) (hn2:n≤4611686018427387904):Says P (ρ.f 4) [.nsl true,.int .i64 n] (.osl 0 (ρ.t 25) 0 []) []:=by
 obtain⟨i0,hi0,hz0,rfl,rfl⟩:=Go.info_parts hI
 intro w Φ σ cargs fa hcr _ hinv
 simp only[CR,VR] at hcr
 obtain⟨v,vs',f1,f2,hca,⟨⟨a,c,rfl,ha,hac⟩,hz1⟩,⟨v2,vs2,f3,f4,rfl,⟨rfl,hz3⟩,⟨rfl,hz4⟩,hf2⟩,hfa⟩:=hcr
 have ha0:a=none:=by cases a<;>simp at ha ⊢
 subst ha0
 have hc0:=hac rfl
 subst hc0
 have hcargs:cargs=#[.slice none 0 0,.int .i64 n]:=by
  apply Array.toList_inj.1;rw[hca]
 subst hcargs
 have hfa0:∀ b,fa b=0:=fun b=>by rw[hfa b,hz1 b,hf2 b,hz3 b,hz4 b]
 by_cases k:n=0
 ·subst k
  refine (Any8.slices_Grow_room L none 0 0 0 w (Nat.le_refl _) (by omega) (by omega) (by omega)).mono ?_
  rintro en w' ⟨rfl,rfl⟩
  refine⟨_,Φ,fun _=>0,fun _=>0,rfl,Ext.refl _ _,fun _ h=>h,fun _ h=>.inl h,?_,rfl,by simpa using CR_nil,rfl,⟨fun b=>by simp,fun b hb=>by simp at hb,hinv.fz,fun b _=>by simp,hinv.tab⟩,fun b hb=>by simp at hb⟩
  simp only[VR]
  exact⟨fun h=>absurd rfl h,rfl,[],fun _=>0,World.ownsRow_nil _ _ _ _,CR_nil,fun b=>by simp[jF,Value.ownBlock]⟩
 ·refine (Any8.slices_Grow_grow L i0 z hi0 hz0 hs0 none 0 0 n [] w (Nat.le_refl _) (by omega) (by simpa using hn) (by omega) (by simp) (fun _=>rfl) (fun a h=>nomatch h)).mono ?_
  rintro en w' ⟨rfl,rfl⟩
  have hge:=grownCap_ge w (0+n) 0 (ρ.t 25)
  have hle:=grownCap_le_maxLen w (0+n) 0 (ρ.t 25) (by unfold maxLen;omega)
  generalize grownCap w (0+n) 0 (ρ.t 25)=cap at hge hle ⊢
  generalize hC:([].toArray++Builtin.zeroCells z.cells (0+n-0)++Builtin.zeroCells z.cells (cap-(0+n)):Array Value)=C
  have hCs:C.size=cap*i0.size:=by
   rw[←hC]
   simp only[Array.size_append,Go.size_zeroCells,hzs]
   simp
   rw[←Nat.add_mul]
   congr 1
   omega
  have hheap:(w.drew.alloc (.cells C (ρ.t 25))).heap=w.heap.push (.cells C (ρ.t 25)):=rfl
  have hsz:(w.drew.alloc (.cells C (ρ.t 25))).heap.size=w.heap.size+1:=by rw[hheap,Array.size_push]
  have hst:Still w (w.drew.alloc (.cells C (ρ.t 25))):=by
   refine⟨rfl,rfl,rfl,by omega,fun k hk=>?_⟩
   rw[hheap,Array.getElem?_push,if_neg (Nat.ne_of_lt hk)]
  have hgot:(w.drew.alloc (.cells C (ρ.t 25))).heap[w.heap.size]?=some (.cells C (ρ.t 25)):=by rw[hheap,Array.getElem?_push,if_pos rfl]
  have hown:∀ b,jF (.slice (some ⟨w.heap.size,0,none⟩) 0 cap) b=if b=w.heap.size then 1 else 0:=fun b=>by
   simp[jF,Value.ownBlock,eq_comm]
  refine⟨_,Φ,jF (.slice (some ⟨w.heap.size,0,none⟩) 0 cap),fun _=>0,rfl,hst.ext _,fun _ h=>h,fun _ h=>.inl h,?_,rfl,by simpa using CR_nil,rfl,?_,?_⟩
  ·simp only[VR]
   refine⟨fun h=>absurd rfl h,rfl,[],fun _=>0,⟨by simp,.inr ⟨w.heap.size,cap,C,rfl,Nat.zero_le _,?_,Nat.zero_le _,hle,by rw[hc];exact hCs,by simp⟩⟩,CR_nil,fun b=>by simp⟩
   exact hgot
  ·have hi:=hst.inv (f:=fun _=>0) ⟨fun b=>by simp,fun b hb=>by simp at hb,hinv.fz,fun b _=>by simp,hinv.tab⟩
   refine⟨fun b=>?_,fun b hb=>?_,hi.fz,fun b hb=>?_,hi.tab⟩
   ·simp only[hown,Nat.add_zero];split<;>omega
   ·simp only[hown,Nat.add_zero] at hb
    have:b=w.heap.size:=Classical.byContradiction fun e=>by rw[if_neg e] at hb;omega
    omega
   ·have:=hinv.fz b hb
    simp only[hown,Nat.add_zero]
    rw[if_neg (by omega)]
  ·intro b hb
   simp only[hown,Nat.add_zero] at hb
   have:b=w.heap.size:=Classical.byContradiction fun e=>by rw[if_neg e] at hb;omega
   omega
end Go.AM
