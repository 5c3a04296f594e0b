import Derived.Test.YtafglhcclmbnbaaGreatSwapAllOrdS
set_option linter.unusedSimpArgs false
set_option linter.unusedVariables false
set_option maxRecDepth 20000
set_option maxHeartbeats 4000000
namespace Go.AmC
open Go Go.AM
open Go.Proofs.Tryz (prog)
structure Cap {α:Type} (cp:α→List AV) (ss:List Nat):Prop where
 st:∀ a,nT 1 (cp a)=some (cp a,ss)
 re:∀ a,yM ss ((cp a).take ss.length)=cp a
 ln:∀ a,(cp a).length=ss.length
 le:ss.length≤1000
 fz:∀ a,(cp a).all dN=false
 hr:∀ a,hrs (cp a)=false
 rf:∀ a,(cp a).any dB=false
 ins:∀ a,(cp a).all Gf=true
 lz:∀ a g r p o,lz1 r p o (.fn g (cp a))=.pf r p o
 dr:∀ a,(cp a).drop ss.length=[]
 ox:∀ a g x rest,(∀ s,isS s x=false)→(∀ s,zl s x=none)→zM (x::.fn g (cp a)::rest) ss=some (cp a)
 nz:∀ s∈ss,s≠0
 nm:∀ a,num 1 (cp a)=ss.zip (cp a)
section
variable {α : Type} {cp : α → List AV} {ss : List Nat} {g : Nat}
def aB (step:α→Exp→α):α→Exp→α
 | a,⟨K,N,S,L⟩=>step (L.foldl (aB step) a) ⟨K,N,S,L⟩
theorem dW (step:α→Exp→α) (a:α) (e:Exp):aB step a e=step (e.L.foldl (aB step) a) e:=by cases e;rw[aB]
theorem og {step:α→Exp→α} {m:α→Nat} (hm:∀ a e,m (step a e)≤m a+1):∀ (e:Exp) (a:α),m (aB step a e)≤m a+(1+e.tot):=Exp.ind fun e ih a=>by
 have key:∀ (L:List Exp),(∀ y∈L,∀ a,m (aB step a y)≤m a+(1+y.tot))→∀ a,m (L.foldl (aB step) a)≤m a+(L.length+(L.map Exp.tot).sum):=by
  intro L
  induction L with
  | nil=>intro _ a;simp
  | cons y L ihL =>
   intro h a
   have h1:=h y (by simp) a
   have h2:=ihL (fun z hz=>h z (by simp[hz])) (aB step a y)
   simp only[List.foldl_cons,List.length_cons,List.map_cons,List.sum_cons]
   omega
 have h1:=key e.L ih a
 have h2:=hm (e.L.foldl (aB step) a) e
 have h3:=e.tot_eq
 rw[dW];omega
theorem I9 (hc:Cap cp ss) (hp:aY prog g=true) (step:α→Exp→α) (m:α→Nat) (B:Nat) (hm:∀ a e,m (step a e)≤m a+1)
  (hstep:∀ a e,m a+1≤B→e.tot≤5000000→Says prog g (.agg (Cs e.d)::cp a) (.tup [] []) (num 1 (cp (step a e)))) :
  ∀ e:Exp,e.tot≤5000000→∀ a,m a+(1+e.tot)≤B→Says prog 320 [.agg (Cs e.d),.fn g (cp a)] (.tup [] []) (num 1 (cp (aB step a e))):=Exp.ind fun e ih he a ha=>by
 have ht:=e.tot_eq
 have pE:aY prog 320=true:=by kernel_rfl
 rw[hc.nm]
 refine kP ss (cp (aB step a e)) Go.Proofs.Tryz.func320 afG hc.nz ?_
 simp[aCw,aC2,↓hc.rf]
 refine aZ (l:=L8) (b:=MK) rfl [7] (fun i=>[(1,.fn g (cp ((e.L.take i).foldl (aB step) a))),(5,.int .i64 i)]) (fun i=>m ((e.L.take i).foldl (aB step) a)≤m a+(i+((e.L.take i).map Exp.tot).sum)) e.L.length (by simp) (by simp) ?_ ?_
 ·intro i hi hI q hn hx hr
  obtain⟨y,hy0⟩:=ax hi
  have hrow:=row_drop Exp.d 4 Exp.d_len hy0
  have hw:=wrap_succ (i:=i) (by omega)
  have hym:=List.mem_of_getElem? hy0
  have hs:=bQ Exp.tot hy0
  have hle:=AM.sum_take_le Exp.tot e.L (i+1)
  have hyt:=az Exp.tot hym
  have fy:=ih y hym (by omega) ((e.L.take i).foldl (aB step) a) (by omega)
  have ht1:(e.L.take (i+1)).foldl (aB step) a=aB step ((e.L.take i).foldl (aB step) a) y:=by rw[List.take_add_one,hy0];simp
  have hm1:=og hm y ((e.L.take i).foldl (aB step) a)
  rw[ht1] at hn
  rw[hs] at hn hle
  generalize (e.L.take i).foldl (aB step) a=a1 at hn hI fy hm1 ⊢
  generalize aB step a1 y=a2 at hn fy hm1
  simp at fy
  simp[hi,aj,hrow,splice,↓hc.lz,↓hc.rf,↓hc.st,↓hc.fz,↓hc.hr,↓hc.re,↓hc.ln,↓hc.ins,↓hc.dr,hc.le]
  refine bn (cp a2) pE fy ?_
  simp[↓hc.lz,↓hc.rf,↓hc.st,↓hc.fz,↓hc.hr,↓hc.re,↓hc.ln,↓hc.ins,↓hc.dr,hc.le,hw]
  refine hn _ ?_ (by omega)
  simp
 ·intro hI q hx hr
  rw[List.take_length] at hI ⊢
  have fy:=hstep (e.L.foldl (aB step) a) e (by omega) he
  have he2:=dW step a e
  rw[←he2] at fy
  clear he2
  generalize e.L.foldl (aB step) a=a1 at fy ⊢
  generalize aB step a e=a2 at fy hx hr ⊢
  simp at fy
  simp[↓hc.lz,↓hc.rf,↓hc.st,↓hc.fz,↓hc.hr,↓hc.re,↓hc.ln,↓hc.ins,↓hc.dr,hc.le]
  refine hx _ _ ?_
  simp[splice,↓hc.lz,↓hc.rf,↓hc.st,↓hc.fz,↓hc.hr,↓hc.re,↓hc.ln,↓hc.ins,↓hc.dr,hc.le]
  refine bn (cp a2) hp fy ?_
  simp[↓hc.lz,↓hc.rf,↓hc.st,↓hc.fz,↓hc.hr,↓hc.re,↓hc.ln,↓hc.ins,↓hc.dr,hc.le]
  rw[hc.ox _ _ _ _ (fun s=>by simp) (fun s=>by simp)]
def aI (step:α→Stmt→α):α→Stmt→α
 | a,⟨K,S,At,E,Lo,Hi,B⟩=>B.foldl (aI step) (step a ⟨K,S,At,E,Lo,Hi,B⟩)
theorem eF (step:α→Stmt→α) (a:α) (x:Stmt):aI step a x=x.Body.foldl (aI step) (step a x):=by cases x;rw[aI]
theorem qK {step:α→Stmt→α} {m:α→Nat} {w:Stmt→Nat} (hm:∀ a x,m (step a x)≤m a+w x) {wt:Stmt→Nat} (hw:∀ x,w x+(x.Body.map wt).sum≤wt x):∀ (x:Stmt) (a:α),m (aI step a x)≤m a+wt x:=Stmt.ind fun x ih a=>by
 have key:∀ (L:List Stmt),(∀ y∈L,∀ a,m (aI step a y)≤m a+wt y)→∀ a,m (L.foldl (aI step) a)≤m a+(L.map wt).sum:=by
  intro L
  induction L with
  | nil=>intro _ a;simp
  | cons y L ihL =>
   intro h a
   have h1:=h y (by simp) a
   have h2:=ihL (fun z hz=>h z (by simp[hz])) (aI step a y)
   simp only[List.foldl_cons,List.map_cons,List.sum_cons]
   omega
 have h1:=key x.Body ih (step a x)
 have h2:=hm a x
 have h3:=hw x
 rw[eF];omega
theorem Ak (hc:Cap cp ss) (hp:aY prog g=true) (step:α→Stmt→α) (m:α→Nat) (B:Nat) (w:Stmt→Nat) (hm:∀ a x,m (step a x)≤m a+w x) (wt:Stmt→Nat) (hw:∀ x,w x+(x.Body.map wt).sum≤wt x)
  (hstep:∀ a x,m a+w x≤B→x.tot≤5000000→Says prog g (.agg (Cs x.d)::cp a) (.tup [] []) (num 1 (cp (step a x))))
  (l:List Stmt) (hl:l.length+(l.map Stmt.tot).sum≤5000000) (hrec:∀ x∈l,∀ a,m a+(x.Body.map wt).sum≤B→Says prog 260 [.rsl x.Body.length (Cs (x.Body.flatMap Stmt.d)),.fn g (cp a)] (.tup [] []) (num 1 (cp (x.Body.foldl (aI step) a))))
  (a:α) (ha:m a+(l.map wt).sum≤B):Says prog 260 [.rsl l.length (Cs (l.flatMap Stmt.d)),.fn g (cp a)] (.tup [] []) (num 1 (cp (l.foldl (aI step) a))):=by
 have pE:aY prog 260=true:=by kernel_rfl
 rw[hc.nm]
 refine kP ss (cp (l.foldl (aI step) a)) Go.Proofs.Tryz.func260 aFO hc.nz ?_
 simp[aMC,aOm,↓hc.lz,↓hc.rf,↓hc.st,↓hc.fz,↓hc.hr,↓hc.re,↓hc.ln,↓hc.ins,↓hc.dr,hc.le]
 refine aZ (l:=Uh) (b:=V4) rfl [6] (fun i=>[(1,.fn g (cp ((l.take i).foldl (aI step) a))),(4,.int .i64 i)]) (fun i=>m ((l.take i).foldl (aI step) a)≤m a+((l.take i).map wt).sum) l.length (by simp) (by simp) ?_ ?_
 ·intro i hi hI q hn hx hr
  obtain⟨y,hy0⟩:=ax hi
  have hrow:=row_drop Stmt.d 19 Stmt.d_len hy0
  have hwi:=wrap_succ (i:=i) (by omega)
  have hym:=List.mem_of_getElem? hy0
  have hs:=bQ wt hy0
  have hle:=AM.sum_take_le wt l (i+1)
  have hyt:=az Stmt.tot hym
  have hwy:=hw y
  have fy:=hstep ((l.take i).foldl (aI step) a) y (by omega) (by omega)
  have hm0:=hm ((l.take i).foldl (aI step) a) y
  have fz:=hrec y hym (step ((l.take i).foldl (aI step) a) y) (by omega)
  have ht1:(l.take (i+1)).foldl (aI step) a=y.Body.foldl (aI step) (step ((l.take i).foldl (aI step) a) y):=by rw[List.take_add_one,hy0,←eF];simp
  have hm1:=qK hm hw y ((l.take i).foldl (aI step) a)
  rw[eF] at hm1
  rw[ht1] at hn
  rw[hs] at hn hle
  generalize (l.take i).foldl (aI step) a=a1 at hn hI fy fz hm1 ⊢
  generalize y.Body.foldl (aI step) (step a1 y)=a3 at hn fz hm1
  generalize step a1 y=a2 at fy fz
  simp at fy fz
  simp[hi,aj,hrow,splice,↓hc.lz,↓hc.rf,↓hc.st,↓hc.fz,↓hc.hr,↓hc.re,↓hc.ln,↓hc.ins,↓hc.dr,hc.le]
  refine bn (cp a2) hp fy ?_
  simp[↓hc.lz,↓hc.rf,↓hc.st,↓hc.fz,↓hc.hr,↓hc.re,↓hc.ln,↓hc.ins,↓hc.dr,hc.le]
  refine bn (cp a3) pE fz ?_
  simp[↓hc.lz,↓hc.rf,↓hc.st,↓hc.fz,↓hc.hr,↓hc.re,↓hc.ln,↓hc.ins,↓hc.dr,hc.le,hwi]
  refine hn _ ?_ (by omega)
  simp
 ·intro hI q hx hr
  rw[List.take_length] at hI ⊢
  generalize l.foldl (aI step) a=a1 at hx hr ⊢
  simp[↓hc.lz,↓hc.rf,↓hc.st,↓hc.fz,↓hc.hr,↓hc.re,↓hc.ln,↓hc.ins,↓hc.dr,hc.le]
  refine hx _ _ ?_
  simp[↓hc.lz,↓hc.rf,↓hc.st,↓hc.fz,↓hc.hr,↓hc.re,↓hc.ln,↓hc.ins,↓hc.dr,hc.le]
  rw[hc.ox _ _ _ _ (fun s=>by simp) (fun s=>by simp)]
theorem KU (hc:Cap cp ss) (hp:aY prog g=true) (step:α→Stmt→α) (m:α→Nat) (B:Nat) (w:Stmt→Nat) (hm:∀ a x,m (step a x)≤m a+w x) (wt:Stmt→Nat) (hw:∀ x,w x+(x.Body.map wt).sum≤wt x)
  (hstep:∀ a x,m a+w x≤B→x.tot≤5000000→Says prog g (.agg (Cs x.d)::cp a) (.tup [] []) (num 1 (cp (step a x)))) :
  ∀ x:Stmt,x.tot≤5000000→∀ a,m a+(x.Body.map wt).sum≤B→Says prog 260 [.rsl x.Body.length (Cs (x.Body.flatMap Stmt.d)),.fn g (cp a)] (.tup [] []) (num 1 (cp (x.Body.foldl (aI step) a))):=Stmt.ind fun x ih hx a ha=>by
 have ht:=x.tot_eq
 exact Ak hc hp step m B w hm wt hw hstep x.Body (by omega) (fun y hy=>ih y hy (by have:=az Stmt.tot hy;omega)) a ha
theorem xW (hc:Cap cp ss) (hp:aY prog g=true) (step:α→Stmt→α) (m:α→Nat) (B:Nat) (w:Stmt→Nat) (hm:∀ a x,m (step a x)≤m a+w x) (wt:Stmt→Nat) (hw:∀ x,w x+(x.Body.map wt).sum≤wt x)
  (hstep:∀ a x,m a+w x≤B→x.tot≤5000000→Says prog g (.agg (Cs x.d)::cp a) (.tup [] []) (num 1 (cp (step a x))))
  (l:List Stmt) (hl:l.length+(l.map Stmt.tot).sum≤5000000) (a:α) (ha:m a+(l.map wt).sum≤B):Says prog 260 [.rsl l.length (Cs (l.flatMap Stmt.d)),.fn g (cp a)] (.tup [] []) (num 1 (cp (l.foldl (aI step) a))) :=
 Ak hc hp step m B w hm wt hw hstep l hl (fun x hx=>KU hc hp step m B w hm wt hw hstep x (by have:=az Stmt.tot hx;omega)) a ha
end
section
variable {α : Type} {cp : α → List AV} {ss : List Nat} {g : Nat}
def jl (x:Stmt):List Exp:=[x.At,x.E,x.Lo,x.Hi]
def Qd (step:α→Exp→α) (a:α) (x:Stmt):α:=(jl x).foldl (aB step) a
theorem Yj {step:α→Exp→α} {m:α→Nat} (hm:∀ a e,m (step a e)≤m a+1) (x:Stmt) (a:α):m (Qd step a x)≤m a+(4+(x.At.tot+x.E.tot+x.Lo.tot+x.Hi.tot)):=by
 have h1:=og hm x.At a
 have h2:=og hm x.E (aB step a x.At)
 have h3:=og hm x.Lo (aB step (aB step a x.At) x.E)
 have h4:=og hm x.Hi (aB step (aB step (aB step a x.At) x.E) x.Lo)
 show m (aB step (aB step (aB step (aB step a x.At) x.E) x.Lo) x.Hi)≤_
 omega
theorem PL (hc:Cap cp ss) (hp:aY prog g=true) (step:α→Exp→α) (m:α→Nat) (B:Nat) (hm:∀ a e,m (step a e)≤m a+1)
  (hstep:∀ a e,m a+1≤B→e.tot≤5000000→Says prog g (.agg (Cs e.d)::cp a) (.tup [] []) (num 1 (cp (step a e))))
  (x:Stmt) (hx:x.tot≤5000000) (a:α) (ha:m a+(4+(x.At.tot+x.E.tot+x.Lo.tot+x.Hi.tot))≤B):Says prog 262 [.agg (Cs x.d),.fn g (cp a)] (.tup [] []) (num 1 (cp (Qd step a x))):=by
 have ht:=x.tot_eq
 have pE:aY prog 320=true:=by kernel_rfl
 rw[hc.nm]
 refine kP ss (cp (Qd step a x)) Go.Proofs.Tryz.func262 aFM hc.nz ?_
 simp[aMA,aOk,splice,↓hc.lz,↓hc.rf,↓hc.st,↓hc.fz,↓hc.hr,↓hc.re,↓hc.ln,↓hc.ins,↓hc.dr,hc.le]
 refine aZ (l:=Ug) (b:=V3) rfl [6] (fun i=>[(1,.fn g (cp (((jl x).take i).foldl (aB step) a))),(4,.int .i64 i)]) (fun i=>m (((jl x).take i).foldl (aB step) a)≤m a+(i+(((jl x).take i).map Exp.tot).sum)) 4 (by simp) (by simp) ?_ ?_
 ·intro i hi hI q hn hx2 hr
  obtain⟨y,hy0⟩:=ax (xs:=jl x) (i:=i) hi
  have hw:=wrap_succ (i:=i) (by omega)
  have hym:=List.mem_of_getElem? hy0
  have hs:=bQ Exp.tot hy0
  have hle:=AM.sum_take_le Exp.tot (jl x) (i+1)
  have hsum:((jl x).map Exp.tot).sum=x.At.tot+x.E.tot+x.Lo.tot+x.Hi.tot:=by simp[jl];omega
  have hyt:=az Exp.tot hym
  have fy:=I9 hc hp step m B hm hstep y (by omega) (((jl x).take i).foldl (aB step) a) (by omega)
  have ht1:((jl x).take (i+1)).foldl (aB step) a=aB step (((jl x).take i).foldl (aB step) a) y:=by rw[List.take_add_one,hy0];simp
  have hm1:=og hm y (((jl x).take i).foldl (aB step) a)
  rw[ht1] at hn
  rw[hs] at hn hle
  generalize (((jl x).take i).map Exp.tot).sum=T at hn hI hle
  generalize ((jl x).take i).foldl (aB step) a=a1 at hn hI fy hm1 ⊢
  generalize aB step a1 y=a2 at hn fy hm1
  have hq:i=0∨i=1∨i=2∨i=3:=by omega
  rcases hq with rfl|rfl|rfl|rfl
  all_goals
   simp[jl] at hy0
   subst hy0
   simp at fy
   have hw':=hw
   simp at hw'
   simp[splice,↓hc.lz,↓hc.rf,↓hc.st,↓hc.fz,↓hc.hr,↓hc.re,↓hc.ln,↓hc.ins,↓hc.dr,hc.le]
   refine bn (cp a2) pE fy ?_
   simp[↓hc.lz,↓hc.rf,↓hc.st,↓hc.fz,↓hc.hr,↓hc.re,↓hc.ln,↓hc.ins,↓hc.dr,hc.le,hw']
   refine hn _ ?_ (by omega)
   simp
 ·intro hI q hx2 hr
  have e4:(jl x).take 4=jl x:=rfl
  rw[e4]
  simp[↓hc.lz,↓hc.rf,↓hc.st,↓hc.fz,↓hc.hr,↓hc.re,↓hc.ln,↓hc.ins,↓hc.dr,hc.le]
  refine hx2 _ _ ?_
  simp[↓hc.lz,↓hc.rf,↓hc.st,↓hc.fz,↓hc.hr,↓hc.re,↓hc.ln,↓hc.ins,↓hc.dr,hc.le]
  rw[hc.ox _ _ _ _ (fun s=>by simp) (fun s=>by simp)]
  rfl
end
def bI {β:Type} (f:β→List Nm) (o:List Nm) (x:β):List Nm:=o++f x
def colS (f:Stmt→List Nm) (l:List Stmt):List Nm:=l.foldl (aI (bI f)) []
theorem EE (f:Stmt→List Nm):∀ (x:Stmt) (o:List Nm),aI (bI f) o x=o++aI (bI f) [] x:=Stmt.ind fun x ih o=>by
 have key:∀ (L:List Stmt),(∀ y∈L,∀ o,aI (bI f) o y=o++aI (bI f) [] y)→∀ o,L.foldl (aI (bI f)) o=o++L.foldl (aI (bI f)) []:=by
  intro L
  induction L with
  | nil=>intro _ o;simp
  | cons y L ihL =>
   intro h o
   have e1:=h y (by simp) o
   have e2:=ihL (fun z hz=>h z (by simp[hz])) (aI (bI f) o y)
   have e3:=ihL (fun z hz=>h z (by simp[hz])) (aI (bI f) [] y)
   rw[List.foldl_cons,List.foldl_cons,e2,e3,e1,List.append_assoc]
 rw[eF,eF,key x.Body ih,key x.Body ih (bI f [] x)]
 simp[bI]
theorem xO (f:Stmt→List Nm) (l:List Stmt):∀ (o:List Nm),l.foldl (aI (bI f)) o=o++colS f l:=by
 induction l with
 | nil=>intro o;simp[colS]
 | cons y l ih =>
  intro o
  show (l.foldl (aI (bI f)) (aI (bI f) o y))=o++l.foldl (aI (bI f)) (aI (bI f) [] y)
  rw[ih,ih (aI (bI f) [] y),EE f y o,List.append_assoc]
theorem mg (f:Stmt→List Nm) (x:Stmt) (l:List Stmt):colS f (x::l)=f x++(colS f x.Body++colS f l):=by
 show l.foldl (aI (bI f)) (aI (bI f) [] x)=_
 rw[xO,eF,xO]
 simp[bI]
def JG (f:Stmt→List Nm) (o:List Nm) (x:Stmt):List Nm:=au o (f x)
theorem Py (f:Stmt→List Nm):∀ (x:Stmt) (o:List Nm),aI (JG f) o x=au o (f x++colS f x.Body):=Stmt.ind fun x ih o=>by
 have key:∀ (L:List Stmt),(∀ y∈L,∀ o,aI (JG f) o y=au o (f y++colS f y.Body))→∀ o,L.foldl (aI (JG f)) o=au o (colS f L):=by
  intro L
  induction L with
  | nil=>intro _ o;simp[colS,au]
  | cons y L ihL =>
   intro h o
   have e1:=h y (by simp) o
   have e2:=ihL (fun z hz=>h z (by simp[hz])) (aI (JG f) o y)
   rw[List.foldl_cons,e2,e1,mg,←bK,List.append_assoc]
 rw[eF,key x.Body ih]
 show au (au o (f x)) _=_
 rw[←bK]
theorem aCh (f:Stmt→List Nm) (l:List Stmt):∀ (o:List Nm),l.foldl (aI (JG f)) o=au o (colS f l):=by
 induction l with
 | nil=>intro o;simp[colS,au]
 | cons y l ih =>
  intro o
  rw[List.foldl_cons,ih,Py,mg,←bK,List.append_assoc]
theorem Jd {f g:Stmt→List Nm} (h:∀ x n,n∈f x↔n∈g x):∀ (l:List Stmt) (n:Nm),n∈colS f l↔n∈colS g l:=by
 have key:∀ x:Stmt,∀ n,n∈colS f x.Body↔n∈colS g x.Body:=Stmt.ind fun x ih n=>by
  have:∀ L:List Stmt,(∀ y∈L,∀ n,n∈colS f y.Body↔n∈colS g y.Body)→(n∈colS f L↔n∈colS g L):=by
   intro L
   induction L with
   | nil=>intro _;rfl
   | cons y L ihL =>
    intro hy
    rw[mg,mg,List.mem_append,List.mem_append,List.mem_append,List.mem_append,h y n,hy y (by simp) n,ihL fun z hz=>hy z (by simp[hz])]
  exact this x.Body ih
 intro l n
 induction l with
 | nil=>rfl
 | cons y L ihL=>rw[mg,mg,List.mem_append,List.mem_append,List.mem_append,List.mem_append,h y n,key y n,ihL]
def ofK (k:Int) (x:Stmt):List Nm:=if x.K=k then [x.S] else []
def cpN (k:Int) (o:List Nm):List AV:=[.bx 1 3 [.int .i64 k],.bx 2 137 [.osl 0 9 o.length (Ows (o.flatMap bG))]]
theorem Ll (k:Int):Cap (cpN k) [1,2] where
 st a:=by simp[cpN]
 re a:=by simp[cpN]
 ln a:=by simp[cpN]
 le:=by simp
 fz a:=by simp[cpN,dN]
 hr a:=by simp[cpN]
 rf a:=by simp[cpN]
 ins a:=by simp[cpN]
 lz a g r p o:=by simp[cpN,lz1]
 dr a:=by simp[cpN]
 ox a g x rest h1 h2:=by
  simp[cpN,↓h1,↓h2]
 nz s hs:=by simp at hs;omega
 nm a:=by simp[cpN]
theorem LX (k:Int) (o:List Nm) (x:Stmt):(bI (ofK k) o x).length≤o.length+1:=by
 unfold bI ofK
 split<;>simp
theorem agX (k:Int) (o:List Nm) (x:Stmt) (ho:o.length+1≤20000000):Says prog 264 (.agg (Cs x.d)::cpN k o) (.tup [] []) (num 1 (cpN k (bI (ofK k) o x))):=by
 have hb:o.length+1≤bnd:=by unfold bnd;omega
 rw[(Ll k).nm]
 refine kP [1,2] _ Go.Proofs.Tryz.func264 aFK (Ll k).nz ?_
 by_cases c:x.K=k
 ·simp[aCD,aC9,c,cpN,bI,ofK,splice,hb]
 ·simp[aCD,aC9,c,cpN,bI,ofK,splice]
theorem FW:aY prog 260=true:=by kernel_rfl
theorem wt1 (x:Stmt):1+(x.Body.map fun x=>1+x.tot).sum≤1+x.tot:=by
 have h:∀ l:List Stmt,(l.map fun x=>1+x.tot).sum=l.length+(l.map Stmt.tot).sum:=by
  intro l
  induction l with
  | nil=>simp
  | cons y l ih=>simp only[List.map_cons,List.sum_cons,List.length_cons,ih];omega
 have:=h x.Body
 have:=x.tot_eq
 omega
theorem wP (l:List Stmt):(l.map fun x=>1+x.tot).sum=l.length+(l.map Stmt.tot).sum:=by
 induction l with
 | nil=>simp
 | cons y l ih=>simp only[List.map_cons,List.sum_cons,List.length_cons,ih];omega
theorem pF (l:List Stmt) (hl:l.length+(l.map Stmt.tot).sum≤5000000) (k:Int) :
  Says prog 196 [.rsl l.length (Cs (l.flatMap Stmt.d)),.int .i64 k] (.rsl (nrm (colS (ofK k) l)).length (Cs ((nrm (colS (ofK k) l)).flatMap bG))) []:=by
 have fE:=xW (g:=264) (Ll k) (by kernel_rfl) (bI (ofK k)) List.length 20000000 (fun _=>1) (fun a x=>LX k a x) (fun x=>1+x.tot) wt1 (fun a x ha _=>agX k a x ha) l hl [] (by rw[wP];simp;omega)
 have hlen:(colS (ofK k) l).length≤5000000:=by
  have key:∀ (x:Stmt) (a:List Nm),(aI (bI (ofK k)) a x).length≤a.length+(1+x.tot):=qK (m:=List.length) (w:=fun _=>1) (fun a x=>LX k a x) wt1
  have:∀ (L:List Stmt) (a:List Nm),(L.foldl (aI (bI (ofK k))) a).length≤a.length+(L.length+(L.map Stmt.tot).sum):=by
   intro L
   induction L with
   | nil=>intro a;simp
   | cons y L ih =>
    intro a
    have h1:=ih (aI (bI (ofK k)) a y)
    have h2:=key y a
    simp only[List.foldl_cons,List.length_cons,List.map_cons,List.sum_cons]
    omega
  have:=this l []
  simp at this
  show (l.foldl (aI (bI (ofK k))) []).length≤_
  omega
 change Says _ _ _ _ (num 1 (cpN k (colS (ofK k) l))) at fE
 have fO:=vO (colS (ofK k) l) (by omega)
 refine aP Go.Proofs.Tryz.func196 aGi ?_
 generalize colS (ofK k) l=R at fE fO ⊢
 simp[cpN] at fE
 try simp at fO
 simp[v196,aOF]
 refine bn [_,_] FW fE ?_
 simp
 refine bn [_] afB fO ?_
 simp[↓zN]
def eK (k:Int) (e:Exp):List Nm:=if e.K=k then [e.S] else []
def EL (k:Int) (e:Exp):List Nm:=aB (bI (eK k)) [] e
theorem oL (k:Int):∀ (e:Exp) (o:List Nm),aB (bI (eK k)) o e=o++EL k e:=Exp.ind fun e ih o=>by
 have key:∀ (L:List Exp),(∀ y∈L,∀ o,aB (bI (eK k)) o y=o++EL k y)→∀ o,L.foldl (aB (bI (eK k))) o=o++L.foldl (aB (bI (eK k))) []:=by
  intro L
  induction L with
  | nil=>intro _ o;simp
  | cons y L ihL =>
   intro h o
   have e1:=h y (by simp) o
   have e2:=ihL (fun z hz=>h z (by simp[hz])) (aB (bI (eK k)) o y)
   have e3:=ihL (fun z hz=>h z (by simp[hz])) (aB (bI (eK k)) [] y)
   rw[List.foldl_cons,List.foldl_cons,e2,e3,e1,h y (by simp) [],List.append_assoc,List.nil_append]
 unfold EL
 rw[dW,dW,key e.L ih]
 simp[bI]
theorem Yt (k:Int) (e:Exp):∀ n,n∈EL k e↔n∈eK k e∨∃ y∈e.L,n∈EL k y:=by
 intro n
 have key:∀ (L:List Exp) (o:List Nm),n∈L.foldl (aB (bI (eK k))) o↔n∈o∨∃ y∈L,n∈EL k y:=by
  intro L
  induction L with
  | nil=>intro o;simp
  | cons y L ih =>
   intro o
   rw[List.foldl_cons,ih,oL,List.mem_append]
   simp only[List.mem_cons,exists_eq_or_imp,or_assoc]
 have h:=key e.L []
 unfold EL
 rw[dW]
 show n∈(e.L.foldl (aB (bI (eK k))) [])++eK k e↔_
 rw[List.mem_append,h]
 simp only[List.not_mem_nil,false_or]
 exact⟨fun h=>h.symm,fun h=>h.symm⟩
def oP (k:Int) (x:Stmt):List Nm:=EL k x.At++(EL k x.E++(EL k x.Lo++EL k x.Hi))
theorem EF (k:Int) (x:Stmt) (o:List Nm):Qd (bI (eK k)) o x=bI (oP k) o x:=by
 show aB _ (aB _ (aB _ (aB _ o x.At) x.E) x.Lo) x.Hi=o++oP k x
 rw[oL,oL,oL,oL]
 simp[oP]
theorem age (k:Int) (o:List Nm) (x:Exp):(bI (eK k) o x).length≤o.length+1:=by
 unfold bI eK
 split<;>simp
theorem aLw (k:Int) (o:List Nm) (x:Exp) (ho:o.length+1≤40000000):Says prog 263 (.agg (Cs x.d)::cpN k o) (.tup [] []) (num 1 (cpN k (bI (eK k) o x))):=by
 have hb:o.length+1≤bnd:=by unfold bnd;omega
 rw[(Ll k).nm]
 refine kP [1,2] _ Go.Proofs.Tryz.func263 aFL (Ll k).nz ?_
 by_cases c:x.K=k
 ·simp[aCE,aDa,c,cpN,bI,eK,splice,hb]
 ·simp[aCE,aDa,c,cpN,bI,eK,splice]
def Dn (x:Stmt):Nat:=4+(x.At.tot+x.E.tot+x.Lo.tot+x.Hi.tot)
theorem nC (x:Stmt):Dn x+(x.Body.map fun x=>4+5*x.tot).sum≤4+5*x.tot:=by
 have h:∀ l:List Stmt,(l.map fun x=>4+5*x.tot).sum=4*l.length+5*(l.map Stmt.tot).sum:=by
  intro l
  induction l with
  | nil=>simp
  | cons y l ih=>simp only[List.map_cons,List.sum_cons,List.length_cons,ih];omega
 have:=h x.Body
 have:=x.tot_eq
 unfold Dn
 omega
theorem AU (l:List Stmt):(l.map fun x=>4+5*x.tot).sum=4*l.length+5*(l.map Stmt.tot).sum:=by
 induction l with
 | nil=>simp
 | cons y l ih=>simp only[List.map_cons,List.sum_cons,List.length_cons,ih];omega
theorem Gq (k:Int) (o:List Nm) (x:Stmt):(bI (oP k) o x).length≤o.length+Dn x:=by
 rw[←EF]
 exact Yj (m:=List.length) (fun a e=>age k a e) x o
theorem agR:aY prog 262=true:=by kernel_rfl
theorem aLx (k:Int) (o:List Nm) (x:Stmt) (ho:o.length+Dn x≤40000000) (hx:x.tot≤5000000):Says prog 261 (.agg (Cs x.d)::cpN k o) (.tup [] []) (num 1 (cpN k (bI (oP k) o x))):=by
 have fP:=PL (g:=263) (Ll k) (by kernel_rfl) (bI (eK k)) List.length 40000000 (fun a e=>age k a e) (fun a e ha _=>aLw k a e ha) x hx o ho
 rw[EF] at fP
 rw[(Ll k).nm]
 refine kP [1,2] _ Go.Proofs.Tryz.func261 aFN (Ll k).nz ?_
 generalize bI (oP k) o x=R at fP ⊢
 simp[cpN] at fP
 simp[aMB,aOl,cpN]
 refine bn [_,_] agR fP ?_
 simp[cpN]
theorem qi (l:List Stmt) (hl:l.length+(l.map Stmt.tot).sum≤5000000) (k:Int) :
  Says prog 195 [.rsl l.length (Cs (l.flatMap Stmt.d)),.int .i64 k] (.rsl (nrm (colS (oP k) l)).length (Cs ((nrm (colS (oP k) l)).flatMap bG))) []:=by
 have fE:=xW (g:=261) (Ll k) (by kernel_rfl) (bI (oP k)) List.length 40000000 Dn (fun a x=>Gq k a x) (fun x=>4+5*x.tot) nC (fun a x ha hx=>aLx k a x ha hx) l hl [] (by rw[AU];simp;omega)
 have hlen:(colS (oP k) l).length≤40000000:=by
  have key:∀ (x:Stmt) (a:List Nm),(aI (bI (oP k)) a x).length≤a.length+(4+5*x.tot):=qK (m:=List.length) (w:=Dn) (fun a x=>Gq k a x) nC
  have:∀ (L:List Stmt) (a:List Nm),(L.foldl (aI (bI (oP k))) a).length≤a.length+(4*L.length+5*(L.map Stmt.tot).sum):=by
   intro L
   induction L with
   | nil=>intro a;simp
   | cons y L ih =>
    intro a
    have h1:=ih (aI (bI (oP k)) a y)
    have h2:=key y a
    simp only[List.foldl_cons,List.length_cons,List.map_cons,List.sum_cons]
    omega
  have:=this l []
  simp at this
  show (l.foldl (aI (bI (oP k))) []).length≤_
  omega
 change Says _ _ _ _ (num 1 (cpN k (colS (oP k) l))) at fE
 have fO:=vO (colS (oP k) l) (by omega)
 refine aP Go.Proofs.Tryz.func195 aGj ?_
 generalize colS (oP k) l=R at fE fO ⊢
 simp[cpN] at fE
 try simp at fO
 simp[aMQ,aOG]
 refine bn [_,_] FW fE ?_
 simp
 refine bn [_] afB fO ?_
 simp[↓zN]
def varsOf (l:List Stmt):List Nm:=nrm (colS (ofK 1) l)
theorem nI (l:List Stmt) (hl:l.length+(l.map Stmt.tot).sum≤5000000):Says prog 191 [.rsl l.length (Cs (l.flatMap Stmt.d))] (.rsl (varsOf l).length (Cs ((varsOf l).flatMap bG))) []:=by
 have f:=pF l hl 1
 refine aP Go.Proofs.Tryz.func191 aGn ?_
 unfold varsOf
 generalize colS (ofK 1) l=R at f ⊢
 simp[aMS,aOK]
 refine ai f ?_
 simp
def cu (l:List Stmt):List Nm:=nrm (colS (ofK 3) l)
theorem CX (l:List Stmt) (hl:l.length+(l.map Stmt.tot).sum≤5000000):Says prog 192 [.rsl l.length (Cs (l.flatMap Stmt.d))] (.rsl (cu l).length (Cs ((cu l).flatMap bG))) []:=by
 have f:=pF l hl 3
 refine aP Go.Proofs.Tryz.func192 aGm ?_
 unfold cu
 generalize colS (ofK 3) l=R at f ⊢
 simp[aMR,aOJ]
 refine ai f ?_
 simp
def iE (l:List Stmt):List Nm:=nrm (colS (oP 2) l)
theorem LD (l:List Stmt) (hl:l.length+(l.map Stmt.tot).sum≤5000000):Says prog 198 [.rsl l.length (Cs (l.flatMap Stmt.d))] (.rsl (iE l).length (Cs ((iE l).flatMap bG))) []:=by
 have f:=qi l hl 2
 refine aP Go.Proofs.Tryz.func198 aGg ?_
 unfold iE
 generalize colS (oP 2) l=R at f ⊢
 simp[v198,aOD]
 refine ai f ?_
 simp
end Go.AmC
