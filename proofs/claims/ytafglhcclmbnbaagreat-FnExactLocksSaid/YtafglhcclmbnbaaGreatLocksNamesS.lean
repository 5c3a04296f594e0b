import Derived.Test.YtafglhcclmbnbaaGreatLocksOrdS
import Derived.Test.YtafglhcclmbnbaaGreatLocksArrI
import Derived.Test.YtafglhcclmbnbaaGreatAmGrow
set_option linter.unusedSimpArgs false
set_option linter.unusedVariables false
set_option maxRecDepth 20000
set_option maxHeartbeats 4000000
namespace Go.AmC
open Go Go.AM
open Go.Proofs.Tryz (prog)
def dW {β:Type} (f:β→List Nm) (o:List Nm) (x:β):List Nm:=o++f x
def colS (f:Stmt→List Nm) (l:List Stmt):List Nm:=l.foldl (eG (dW f)) []
theorem Dp (f:Stmt→List Nm):∀ (x:Stmt) (o:List Nm),eG (dW f) o x=o++eG (dW f) [] x:=Stmt.ind fun x ih o=>by
 have key:∀ (L:List Stmt),(∀ y∈L,∀ o,eG (dW f) o y=o++eG (dW f) [] y)→∀ o,L.foldl (eG (dW f)) o=o++L.foldl (eG (dW f)) []:=by
  intro L
  induction L with
  | nil=>intro _ o;simp
  | cons y L ihL =>
   intro h o
   have e1:=h y (by simp) o
   have e2:=ihL (fun z hz=>h z (by simp[hz])) (eG (dW f) o y)
   have e3:=ihL (fun z hz=>h z (by simp[hz])) (eG (dW f) [] y)
   rw[List.foldl_cons,List.foldl_cons,e2,e3,e1,List.append_assoc]
 rw[mJ,mJ,key x.Body ih,key x.Body ih (dW f [] x)]
 simp[dW]
theorem xJ (f:Stmt→List Nm) (l:List Stmt):∀ (o:List Nm),l.foldl (eG (dW f)) o=o++colS f l:=by
 induction l with
 | nil=>intro o;simp[colS]
 | cons y l ih =>
  intro o
  show (l.foldl (eG (dW f)) (eG (dW f) o y))=o++l.foldl (eG (dW f)) (eG (dW f) [] y)
  rw[ih,ih (eG (dW f) [] y),Dp f y o,List.append_assoc]
theorem nO (f:Stmt→List Nm) (x:Stmt) (l:List Stmt):colS f (x::l)=f x++(colS f x.Body++colS f l):=by
 show l.foldl (eG (dW f)) (eG (dW f) [] x)=_
 rw[xJ,mJ,xJ]
 simp[dW]
def G9 (f:Stmt→List Nm) (o:List Nm) (x:Stmt):List Nm:=bC o (f x)
theorem KN (f:Stmt→List Nm):∀ (x:Stmt) (o:List Nm),eG (G9 f) o x=bC o (f x++colS f x.Body):=Stmt.ind fun x ih o=>by
 have key:∀ (L:List Stmt),(∀ y∈L,∀ o,eG (G9 f) o y=bC o (f y++colS f y.Body))→∀ o,L.foldl (eG (G9 f)) o=bC o (colS f L):=by
  intro L
  induction L with
  | nil=>intro _ o;simp[colS,bC]
  | cons y L ihL =>
   intro h o
   have e1:=h y (by simp) o
   have e2:=ihL (fun z hz=>h z (by simp[hz])) (eG (G9 f) o y)
   rw[List.foldl_cons,e2,e1,nO,←dU,List.append_assoc]
 rw[mJ,key x.Body ih]
 show bC (bC o (f x)) _=_
 rw[←dU]
theorem atc (f:Stmt→List Nm) (l:List Stmt):∀ (o:List Nm),l.foldl (eG (G9 f)) o=bC o (colS f l):=by
 induction l with
 | nil=>intro o;simp[colS,bC]
 | cons y l ih =>
  intro o
  rw[List.foldl_cons,ih,KN,nO,←dU,List.append_assoc]
theorem Gj {f g:Stmt→List Nm} (h:∀ x n,n∈f x↔n∈g x):∀ (l:List Stmt) (n:Nm),n∈colS f l↔n∈colS g l:=by
 have key:∀ x:Stmt,∀ n,n∈colS f x.Body↔n∈colS g x.Body:=Stmt.ind fun x ih n=>by
  have:∀ L:List Stmt,(∀ y∈L,∀ n,n∈colS f y.Body↔n∈colS g y.Body)→(n∈colS f L↔n∈colS g L):=by
   intro L
   induction L with
   | nil=>intro _;rfl
   | cons y L ihL =>
    intro hy
    rw[nO,nO,List.mem_append,List.mem_append,List.mem_append,List.mem_append,h y n,hy y (by simp) n,ihL fun z hz=>hy z (by simp[hz])]
  exact this x.Body ih
 intro l n
 induction l with
 | nil=>rfl
 | cons y L ihL=>rw[nO,nO,List.mem_append,List.mem_append,List.mem_append,List.mem_append,h y n,key y n,ihL]
def ofK (k:Int) (x:Stmt):List Nm:=if x.K=k then [x.S] else []
def cpN (k:Int) (o:List Nm):List AV:=[.bx 1 3 [.int .i64 k],.bx 2 137 [.osl 0 9 o.length (Ows (o.flatMap ed))]]
theorem Ir (k:Int):Cap (cpN k) [1,2] where
 st a:=by simp[cpN]
 re a:=by simp[cpN]
 ln a:=by simp[cpN]
 le:=by simp
 fz a:=by simp[cpN,gY]
 hr a:=by simp[cpN]
 rf a:=by simp[cpN]
 ins a:=by simp[cpN]
 lz a g r p o:=by simp[cpN,lz1]
 dr a:=by simp[cpN]
 ox a g x rest h1 h2:=by
  simp[cpN,↓h1,↓h2]
 nz s hs:=by simp at hs;omega
 nm a:=by simp[cpN]
theorem OX (k:Int) (o:List Nm) (x:Stmt):(dW (ofK k) o x).length≤o.length+1:=by
 unfold dW ofK
 split<;>simp
theorem adA (k:Int) (o:List Nm) (x:Stmt) (ho:o.length+1≤20000000):Says prog 264 (.agg (Cs x.d)::cpN k o) (.tup [] []) (num 1 (cpN k (dW (ofK k) o x))):=by
 have hb:o.length+1≤bnd:=by unfold bnd;omega
 rw[(Ir k).nm]
 refine kX [1,2] _ Go.Proofs.Tryz.func264 avz (Ir k).nz ?_
 by_cases c:x.K=k
 ·simp[atm,atG,c,cpN,dW,ofK,splice,hb]
 ·simp[atm,atG,c,cpN,dW,ofK,splice]
theorem Jk:dZ prog 260=true:=by kernel_rfl
theorem wt1 (x:Stmt):1+(x.Body.map fun x=>1+x.tot).sum≤1+x.tot:=by
 have h:∀ l:List Stmt,(l.map fun x=>1+x.tot).sum=l.length+(l.map Stmt.tot).sum:=by
  intro l
  induction l with
  | nil=>simp
  | cons y l ih=>simp only[List.map_cons,List.sum_cons,List.length_cons,ih];omega
 have:=h x.Body
 have:=x.tot_eq
 omega
theorem wP (l:List Stmt):(l.map fun x=>1+x.tot).sum=l.length+(l.map Stmt.tot).sum:=by
 induction l with
 | nil=>simp
 | cons y l ih=>simp only[List.map_cons,List.sum_cons,List.length_cons,ih];omega
theorem qo (l:List Stmt) (hl:l.length+(l.map Stmt.tot).sum≤5000000) (k:Int) :
  Says prog 196 [.rsl l.length (Cs (l.flatMap Stmt.d)),.int .i64 k] (.rsl (nrm (colS (ofK k) l)).length (Cs ((nrm (colS (ofK k) l)).flatMap ed))) []:=by
 have fE:=Dv (g:=264) (Ir k) (by kernel_rfl) (dW (ofK k)) List.length 20000000 (fun _=>1) (fun a x=>OX k a x) (fun x=>1+x.tot) wt1 (fun a x ha _=>adA k a x ha) l hl [] (by rw[wP];simp;omega)
 have hlen:(colS (ofK k) l).length≤5000000:=by
  have key:∀ (x:Stmt) (a:List Nm),(eG (dW (ofK k)) a x).length≤a.length+(1+x.tot):=Ac (m:=List.length) (w:=fun _=>1) (fun a x=>OX k a x) wt1
  have:∀ (L:List Stmt) (a:List Nm),(L.foldl (eG (dW (ofK k))) a).length≤a.length+(L.length+(L.map Stmt.tot).sum):=by
   intro L
   induction L with
   | nil=>intro a;simp
   | cons y L ih =>
    intro a
    have h1:=ih (eG (dW (ofK k)) a y)
    have h2:=key y a
    simp only[List.foldl_cons,List.length_cons,List.map_cons,List.sum_cons]
    omega
  have:=this l []
  simp at this
  show (l.foldl (eG (dW (ofK k))) []).length≤_
  omega
 change Says _ _ _ _ (num 1 (cpN k (colS (ofK k) l))) at fE
 have fO:=ql (colS (ofK k) l) (by omega)
 refine dD Go.Proofs.Tryz.func196 awi ?_
 generalize colS (ofK k) l=R at fE fO ⊢
 simp[cpN] at fE
 try simp at fO
 simp[v196,aFo]
 refine eF [_,_] Jk fE ?_
 simp
 refine eF [_] Rq fO ?_
 simp[↓Jn]
mutual
def oM (ar:List Nm):Stmt→Bool
 | ⟨K,S,At,E,Lo,Hi,B⟩=>if K=3 then !decide (S∈ar)&&kV (ar++[S]) B else true
def kV (ar:List Nm):List Stmt→Bool
 | []=>true
 | x::l=>oM ar x&&kV ar l
end
theorem mG (ar:List Nm) (x:Stmt):oM ar x=if x.K=3 then !decide (x.S∈ar)&&kV (ar++[x.S]) x.Body else true:=by cases x;rw[oM]
theorem AU (ar:List Nm):∀ l:List Stmt,kV ar l=l.all (oM ar)
 | []=>by simp[kV]
 | x::l=>by simp[kV,AU ar l]
theorem jH:∀ xs:List Nm,Cs (xs.flatMap ed)=Ows (xs.flatMap ed)
 | []=>by simp
 | x::xs=>by have:=jH xs;simp only[List.flatMap_cons,tJ,vH,this];simp
theorem lQ (xs:List Nm):(xs.flatMap ed).length=xs.length:=by simpa using jg ed 1 (fun _=>by simp) xs
theorem Fj (xs:List Nm) (hl:xs.length≤4000000000):Says prog 266 [.rsl xs.length (Cs (xs.flatMap ed))] (.osl 0 9 xs.length (Ows (xs.flatMap ed))) []:=by
 cases xs with
 | nil =>
  refine Bi 0 (by simp) fun t=>?_
  refine dD Go.Proofs.Tryz.func266 abD ?_
  cases t<;>simp[atl,atF]
 | cons x xs =>
  refine dD Go.Proofs.Tryz.func266 abD ?_
  have h1:=lQ (x::xs)
  have h2:=jH (x::xs)
  have hb:xs.length+1≤bnd:=by unfold bnd;simp at hl;omega
  simp only[List.length_cons] at h1 ⊢
  generalize List.flatMap ed (x::xs)=A at h1 h2 ⊢
  simp[atl,atF,ry,h1,hb,h2]
theorem zQ (l:List Stmt) (hl:l.length+(l.map Stmt.tot).sum≤5000000) (ar:List Nm) (ha:ar.length+(l.map fun x=>1+x.tot).sum≤20000000)
  (hrec:∀ x∈l,∀ ar:List Nm,ar.length+(x.Body.map fun x=>1+x.tot).sum≤20000000→Says prog 199 [.rsl x.Body.length (Cs (x.Body.flatMap Stmt.d)),.rsl ar.length (Cs (ar.flatMap ed))] (.bool (kV ar x.Body)) []) :
  Says prog 199 [.rsl l.length (Cs (l.flatMap Stmt.d)),.rsl ar.length (Cs (ar.flatMap ed))] (.bool (kV ar l)) []:=by
 refine dD Go.Proofs.Tryz.func199 awg ?_
 rw[AU]
 generalize hRR:l.all (oM ar)=R
 simp[aD6,aFm]
 refine eY (l:=Py) (b:=QD) rfl [7,8,9] (fun i=>[(5,.int .i64 i)]) (fun i=>(l.take i).all (oM ar)=true) l.length (by simp) (by simp) ?_ ?_
 ·intro i hi hI q hn hx hr
  obtain⟨y,hy0⟩:=cu hi
  have hrow:=row_drop Stmt.d 19 Stmt.d_len hy0
  have hw:=wrap_succ (i:=i) (by omega)
  have hym:=List.mem_of_getElem? hy0
  have hms:=dV (fun x:Stmt=>1+x.tot) hym
  have hw1:=wt1 y
  by_cases k:y.K=3
  ·have f1:=Gf ar y.S (by omega)
   have f2:=Fj ar (by omega)
   have f3:=hrec y hym (ar++[y.S]) (by simp only[List.length_append,List.length_cons,List.length_nil];omega)
   have hb:ar.length+1≤bnd:=by unfold bnd;omega
   simp at f3
   cases c:decide (y.S∈ar)
   ·rw[c] at f1
    cases c2:kV (ar++[y.S]) y.Body
    ·rw[c2] at f3
     have hb2:oM ar y=false:=by rw[mG,if_pos k,c,c2];rfl
     simp[hi,aT,hrow,splice,k]
     refine bZ f1 ?_
     simp
     refine bZ f2 ?_
     simp[hb]
     refine bZ f3 ?_
     simp
     refine hr _ ?_
     simp[←hRR,kZ hy0 hb2]
    ·rw[c2] at f3
     have hb2:oM ar y=true:=by rw[mG,if_pos k,c,c2];rfl
     simp[hi,aT,hrow,splice,k]
     refine bZ f1 ?_
     simp
     refine bZ f2 ?_
     simp[hb]
     refine bZ f3 ?_
     simp[hw]
     exact hn _ (by simp) (jR hI hy0 hb2)
   ·rw[c] at f1
    have hb2:oM ar y=false:=by rw[mG,if_pos k,c];rfl
    simp[hi,aT,hrow,splice,k]
    refine bZ f1 ?_
    simp
    refine hr _ ?_
    simp[←hRR,kZ hy0 hb2]
  ·have hb2:oM ar y=true:=by rw[mG,if_neg k]
   simp[hi,aT,hrow,splice,k,hw]
   exact hn _ (by simp) (jR hI hy0 hb2)
 ·intro hI q hx hr
  rw[List.take_length] at hI
  simp
  refine hx _ _ ?_
  simp[←hRR,hI]
theorem Hz:∀ x:Stmt,x.tot≤5000000→∀ ar:List Nm,ar.length+(x.Body.map fun x=>1+x.tot).sum≤20000000→Says prog 199 [.rsl x.Body.length (Cs (x.Body.flatMap Stmt.d)),.rsl ar.length (Cs (ar.flatMap ed))] (.bool (kV ar x.Body)) []:=Stmt.ind fun x ih hx ar ha=>by
 have ht:=x.tot_eq
 exact zQ x.Body (by omega) ar ha (fun y hy=>ih y hy (by have:=dV Stmt.tot hy;omega))
theorem Kt (l:List Stmt) (hl:l.length+(l.map Stmt.tot).sum≤5000000):Says prog 199 [.rsl l.length (Cs (l.flatMap Stmt.d)),.rsl 0 []] (.bool (kV [] l)) []:=by
 simpa using zQ l hl [] (by rw[wP];simp;omega) (fun y hy=>Hz y (by have:=dV Stmt.tot hy;omega))
theorem zO (l:List Stmt) (hl:l.length+(l.map Stmt.tot).sum≤5000000) (ar:List Nm) (ha:ar.length+(l.map fun x=>1+x.tot).sum≤20000000)
  (hrec:∀ x∈l,∀ ar:List Nm,ar.length+(x.Body.map fun x=>1+x.tot).sum≤20000000→Says prog 116 [.rsl x.Body.length (Cs (x.Body.flatMap Stmt.d)),.rsl ar.length (Cs (ar.flatMap ed))] (.bool (kV ar x.Body)) []) :
  Says prog 116 [.rsl l.length (Cs (l.flatMap Stmt.d)),.rsl ar.length (Cs (ar.flatMap ed))] (.bool (kV ar l)) []:=by
 refine dD Go.Proofs.Tryz.func116 awX ?_
 rw[AU]
 generalize hRR:l.all (oM ar)=R
 simp[aEp,aFP]
 refine eY (l:=PY) (b:=Q3) rfl [4,5,6] (fun i=>[(2,.bool false),(3,.int .i64 i)]) (fun i=>(l.take i).all (oM ar)=true) l.length (by simp) (by simp) ?_ ?_
 ·intro i hi hI q hn hx hr
  obtain⟨y,hy0⟩:=cu hi
  have hrow:=row_drop Stmt.d 19 Stmt.d_len hy0
  have hw:=wrap_succ (i:=i) (by omega)
  have hym:=List.mem_of_getElem? hy0
  have hms:=dV (fun x:Stmt=>1+x.tot) hym
  have hw1:=wt1 y
  by_cases k:y.K=3
  ·have f1:=AY ar y.S (by omega)
   have f3:=hrec y hym (ar++[y.S]) (by simp only[List.length_append,List.length_cons,List.length_nil];omega)
   have hb:ar.length+1≤bnd:=by unfold bnd;omega
   have hb0:ar.length≤bnd:=by omega
   have hl1:=lQ ar
   have hl2:=jH ar
   simp at f3
   rw[hl2] at f3
   cases c:decide (y.S∈ar)
   ·rw[c] at f1
    cases c2:kV (ar++[y.S]) y.Body
    ·rw[c2] at f3
     have hb2:oM ar y=false:=by rw[mG,if_pos k,c,c2];rfl
     simp[hi,aT,hrow,splice,k]
     refine bZ f1 ?_
     simp[hi,aT,hrow,splice,hb,hb0,ry,hl1,hl2]
     refine bZ f3 ?_
     simp
     refine hr _ ?_
     simp[←hRR,kZ hy0 hb2]
    ·rw[c2] at f3
     have hb2:oM ar y=true:=by rw[mG,if_pos k,c,c2];rfl
     simp[hi,aT,hrow,splice,k]
     refine bZ f1 ?_
     simp[hi,aT,hrow,splice,hb,hb0,ry,hl1,hl2]
     refine bZ f3 ?_
     simp[hw]
     rw[←hl2]
     exact hn _ (by simp) (jR hI hy0 hb2)
   ·rw[c] at f1
    have hb2:oM ar y=false:=by rw[mG,if_pos k,c];rfl
    simp[hi,aT,hrow,splice,k]
    refine bZ f1 ?_
    simp
    refine hr _ ?_
    simp[←hRR,kZ hy0 hb2]
  ·have hb2:oM ar y=true:=by rw[mG,if_neg k]
   simp[hi,aT,hrow,splice,k,hw]
   exact hn _ (by simp) (jR hI hy0 hb2)
 ·intro hI q hx hr
  rw[List.take_length] at hI
  simp
  refine hx _ _ ?_
  simp[←hRR,hI]
theorem Hy:∀ x:Stmt,x.tot≤5000000→∀ ar:List Nm,ar.length+(x.Body.map fun x=>1+x.tot).sum≤20000000→Says prog 116 [.rsl x.Body.length (Cs (x.Body.flatMap Stmt.d)),.rsl ar.length (Cs (ar.flatMap ed))] (.bool (kV ar x.Body)) []:=Stmt.ind fun x ih hx ar ha=>by
 have ht:=x.tot_eq
 exact zO x.Body (by omega) ar ha (fun y hy=>ih y hy (by have:=dV Stmt.tot hy;omega))
theorem Kr (l:List Stmt) (hl:l.length+(l.map Stmt.tot).sum≤5000000):Says prog 116 [.rsl l.length (Cs (l.flatMap Stmt.d)),.rsl 0 []] (.bool (kV [] l)) []:=by
 simpa using zO l hl [] (by rw[wP];simp;omega) (fun y hy=>Hy y (by have:=dV Stmt.tot hy;omega))
section
variable {α : Type} {cp : α → List AV} {ss : List Nat} {g : Nat}
def jW (x:Stmt):List Exp:=[x.At,x.E,x.Lo,x.Hi]
def MF (step:α→Exp→α) (a:α) (x:Stmt):α:=(jW x).foldl (eX step) a
theorem Ue {step:α→Exp→α} {m:α→Nat} (hm:∀ a e,m (step a e)≤m a+1) (x:Stmt) (a:α):m (MF step a x)≤m a+(4+(x.At.tot+x.E.tot+x.Lo.tot+x.Hi.tot)):=by
 have h1:=uB hm x.At a
 have h2:=uB hm x.E (eX step a x.At)
 have h3:=uB hm x.Lo (eX step (eX step a x.At) x.E)
 have h4:=uB hm x.Hi (eX step (eX step (eX step a x.At) x.E) x.Lo)
 show m (eX step (eX step (eX step (eX step a x.At) x.E) x.Lo) x.Hi)≤_
 omega
theorem KT (hc:Cap cp ss) (hp:dZ prog g=true) (step:α→Exp→α) (m:α→Nat) (B:Nat) (hm:∀ a e,m (step a e)≤m a+1)
  (hstep:∀ a e,m a+1≤B→e.tot≤5000000→Says prog g (.agg (Cs e.d)::cp a) (.tup [] []) (num 1 (cp (step a e))))
  (x:Stmt) (hx:x.tot≤5000000) (a:α) (ha:m a+(4+(x.At.tot+x.E.tot+x.Lo.tot+x.Hi.tot))≤B):Says prog 262 [.agg (Cs x.d),.fn g (cp a)] (.tup [] []) (num 1 (cp (MF step a x))):=by
 have ht:=x.tot_eq
 have pE:dZ prog 320=true:=by kernel_rfl
 rw[hc.nm]
 refine kX ss (cp (MF step a x)) Go.Proofs.Tryz.func262 avC hc.nz ?_
 simp[aDR,aE0,splice,↓hc.lz,↓hc.rf,↓hc.st,↓hc.fz,↓hc.hr,↓hc.re,↓hc.ln,↓hc.ins,↓hc.dr,hc.le]
 refine eY (l:=O8) (b:=Qp) rfl [6] (fun i=>[(1,.fn g (cp (((jW x).take i).foldl (eX step) a))),(4,.int .i64 i)]) (fun i=>m (((jW x).take i).foldl (eX step) a)≤m a+(i+(((jW x).take i).map Exp.tot).sum)) 4 (by simp) (by simp) ?_ ?_
 ·intro i hi hI q hn hx2 hr
  obtain⟨y,hy0⟩:=cu (xs:=jW x) (i:=i) hi
  have hw:=wrap_succ (i:=i) (by omega)
  have hym:=List.mem_of_getElem? hy0
  have hs:=iM Exp.tot hy0
  have hle:=AM.sum_take_le Exp.tot (jW x) (i+1)
  have hsum:((jW x).map Exp.tot).sum=x.At.tot+x.E.tot+x.Lo.tot+x.Hi.tot:=by simp[jW];omega
  have hyt:=dV Exp.tot hym
  have fy:=Oa hc hp step m B hm hstep y (by omega) (((jW x).take i).foldl (eX step) a) (by omega)
  have ht1:((jW x).take (i+1)).foldl (eX step) a=eX step (((jW x).take i).foldl (eX step) a) y:=by rw[List.take_add_one,hy0];simp
  have hm1:=uB hm y (((jW x).take i).foldl (eX step) a)
  rw[ht1] at hn
  rw[hs] at hn hle
  generalize (((jW x).take i).map Exp.tot).sum=T at hn hI hle
  generalize ((jW x).take i).foldl (eX step) a=a1 at hn hI fy hm1 ⊢
  generalize eX step a1 y=a2 at hn fy hm1
  have hq:i=0∨i=1∨i=2∨i=3:=by omega
  rcases hq with rfl|rfl|rfl|rfl
  all_goals
   simp[jW] at hy0
   subst hy0
   simp at fy
   have hw':=hw
   simp at hw'
   simp[splice,↓hc.lz,↓hc.rf,↓hc.st,↓hc.fz,↓hc.hr,↓hc.re,↓hc.ln,↓hc.ins,↓hc.dr,hc.le]
   refine eF (cp a2) pE fy ?_
   simp[↓hc.lz,↓hc.rf,↓hc.st,↓hc.fz,↓hc.hr,↓hc.re,↓hc.ln,↓hc.ins,↓hc.dr,hc.le,hw']
   refine hn _ ?_ (by omega)
   simp
 ·intro hI q hx2 hr
  have e4:(jW x).take 4=jW x:=rfl
  rw[e4]
  simp[↓hc.lz,↓hc.rf,↓hc.st,↓hc.fz,↓hc.hr,↓hc.re,↓hc.ln,↓hc.ins,↓hc.dr,hc.le]
  refine hx2 _ _ ?_
  simp[↓hc.lz,↓hc.rf,↓hc.st,↓hc.fz,↓hc.hr,↓hc.re,↓hc.ln,↓hc.ins,↓hc.dr,hc.le]
  rw[hc.ox _ _ _ _ (fun s=>by simp) (fun s=>by simp)]
  rfl
end
def eK (k:Int) (e:Exp):List Nm:=if e.K=k then [e.S] else []
def Dw (k:Int) (e:Exp):List Nm:=eX (dW (eK k)) [] e
theorem pO (k:Int):∀ (e:Exp) (o:List Nm),eX (dW (eK k)) o e=o++Dw k e:=Exp.ind fun e ih o=>by
 have key:∀ (L:List Exp),(∀ y∈L,∀ o,eX (dW (eK k)) o y=o++Dw k y)→∀ o,L.foldl (eX (dW (eK k))) o=o++L.foldl (eX (dW (eK k))) []:=by
  intro L
  induction L with
  | nil=>intro _ o;simp
  | cons y L ihL =>
   intro h o
   have e1:=h y (by simp) o
   have e2:=ihL (fun z hz=>h z (by simp[hz])) (eX (dW (eK k)) o y)
   have e3:=ihL (fun z hz=>h z (by simp[hz])) (eX (dW (eK k)) [] y)
   rw[List.foldl_cons,List.foldl_cons,e2,e3,e1,h y (by simp) [],List.append_assoc,List.nil_append]
 unfold Dw
 rw[sG,sG,key e.L ih]
 simp[dW]
theorem Ux (k:Int) (e:Exp):∀ n,n∈Dw k e↔n∈eK k e∨∃ y∈e.L,n∈Dw k y:=by
 intro n
 have key:∀ (L:List Exp) (o:List Nm),n∈L.foldl (eX (dW (eK k))) o↔n∈o∨∃ y∈L,n∈Dw k y:=by
  intro L
  induction L with
  | nil=>intro o;simp
  | cons y L ih =>
   intro o
   rw[List.foldl_cons,ih,pO,List.mem_append]
   simp only[List.mem_cons,exists_eq_or_imp,or_assoc]
 have h:=key e.L []
 unfold Dw
 rw[sG]
 show n∈(e.L.foldl (eX (dW (eK k))) [])++eK k e↔_
 rw[List.mem_append,h]
 simp only[List.not_mem_nil,false_or]
 exact⟨fun h=>h.symm,fun h=>h.symm⟩
def pR (k:Int) (x:Stmt):List Nm:=Dw k x.At++(Dw k x.E++(Dw k x.Lo++Dw k x.Hi))
theorem Dq (k:Int) (x:Stmt) (o:List Nm):MF (dW (eK k)) o x=dW (pR k) o x:=by
 show eX _ (eX _ (eX _ (eX _ o x.At) x.E) x.Lo) x.Hi=o++pR k x
 rw[pO,pO,pO,pO]
 simp[pR]
theorem acp (k:Int) (o:List Nm) (x:Exp):(dW (eK k) o x).length≤o.length+1:=by
 unfold dW eK
 split<;>simp
theorem aDp (k:Int) (o:List Nm) (x:Exp) (ho:o.length+1≤40000000):Says prog 263 (.agg (Cs x.d)::cpN k o) (.tup [] []) (num 1 (cpN k (dW (eK k) o x))):=by
 have hb:o.length+1≤bnd:=by unfold bnd;omega
 rw[(Ir k).nm]
 refine kX [1,2] _ Go.Proofs.Tryz.func263 avA (Ir k).nz ?_
 by_cases c:x.K=k
 ·simp[atn,atH,c,cpN,dW,eK,splice,hb]
 ·simp[atn,atH,c,cpN,dW,eK,splice]
def BL (x:Stmt):Nat:=4+(x.At.tot+x.E.tot+x.Lo.tot+x.Hi.tot)
theorem oH (x:Stmt):BL x+(x.Body.map fun x=>4+5*x.tot).sum≤4+5*x.tot:=by
 have h:∀ l:List Stmt,(l.map fun x=>4+5*x.tot).sum=4*l.length+5*(l.map Stmt.tot).sum:=by
  intro l
  induction l with
  | nil=>simp
  | cons y l ih=>simp only[List.map_cons,List.sum_cons,List.length_cons,ih];omega
 have:=h x.Body
 have:=x.tot_eq
 unfold BL
 omega
theorem Aq (l:List Stmt):(l.map fun x=>4+5*x.tot).sum=4*l.length+5*(l.map Stmt.tot).sum:=by
 induction l with
 | nil=>simp
 | cons y l ih=>simp only[List.map_cons,List.sum_cons,List.length_cons,ih];omega
theorem Ep (k:Int) (o:List Nm) (x:Stmt):(dW (pR k) o x).length≤o.length+BL x:=by
 rw[←Dq]
 exact Ue (m:=List.length) (fun a e=>acp k a e) x o
theorem adt:dZ prog 262=true:=by kernel_rfl
theorem aDq (k:Int) (o:List Nm) (x:Stmt) (ho:o.length+BL x≤40000000) (hx:x.tot≤5000000):Says prog 261 (.agg (Cs x.d)::cpN k o) (.tup [] []) (num 1 (cpN k (dW (pR k) o x))):=by
 have fP:=KT (g:=263) (Ir k) (by kernel_rfl) (dW (eK k)) List.length 40000000 (fun a e=>acp k a e) (fun a e ha _=>aDp k a e ha) x hx o ho
 rw[Dq] at fP
 rw[(Ir k).nm]
 refine kX [1,2] _ Go.Proofs.Tryz.func261 avD (Ir k).nz ?_
 generalize dW (pR k) o x=R at fP ⊢
 simp[cpN] at fP
 simp[aDS,aE1,cpN]
 refine eF [_,_] adt fP ?_
 simp[cpN]
theorem qN (l:List Stmt) (hl:l.length+(l.map Stmt.tot).sum≤5000000) (k:Int) :
  Says prog 195 [.rsl l.length (Cs (l.flatMap Stmt.d)),.int .i64 k] (.rsl (nrm (colS (pR k) l)).length (Cs ((nrm (colS (pR k) l)).flatMap ed))) []:=by
 have fE:=Dv (g:=261) (Ir k) (by kernel_rfl) (dW (pR k)) List.length 40000000 BL (fun a x=>Ep k a x) (fun x=>4+5*x.tot) oH (fun a x ha hx=>aDq k a x ha hx) l hl [] (by rw[Aq];simp;omega)
 have hlen:(colS (pR k) l).length≤40000000:=by
  have key:∀ (x:Stmt) (a:List Nm),(eG (dW (pR k)) a x).length≤a.length+(4+5*x.tot):=Ac (m:=List.length) (w:=BL) (fun a x=>Ep k a x) oH
  have:∀ (L:List Stmt) (a:List Nm),(L.foldl (eG (dW (pR k))) a).length≤a.length+(4*L.length+5*(L.map Stmt.tot).sum):=by
   intro L
   induction L with
   | nil=>intro a;simp
   | cons y L ih =>
    intro a
    have h1:=ih (eG (dW (pR k)) a y)
    have h2:=key y a
    simp only[List.foldl_cons,List.length_cons,List.map_cons,List.sum_cons]
    omega
  have:=this l []
  simp at this
  show (l.foldl (eG (dW (pR k))) []).length≤_
  omega
 change Says _ _ _ _ (num 1 (cpN k (colS (pR k) l))) at fE
 have fO:=ql (colS (pR k) l) (by omega)
 refine dD Go.Proofs.Tryz.func195 awj ?_
 generalize colS (pR k) l=R at fE fO ⊢
 simp[cpN] at fE
 try simp at fO
 simp[aD7,aFp]
 refine eF [_,_] Jk fE ?_
 simp
 refine eF [_] Rq fO ?_
 simp[↓Jn]
def varsOf (l:List Stmt):List Nm:=nrm (colS (ofK 1) l)
theorem xQ (l:List Stmt) (hl:l.length+(l.map Stmt.tot).sum≤5000000):Says prog 191 [.rsl l.length (Cs (l.flatMap Stmt.d))] (.rsl (varsOf l).length (Cs ((varsOf l).flatMap ed))) []:=by
 have f:=qo l hl 1
 refine dD Go.Proofs.Tryz.func191 awn ?_
 unfold varsOf
 generalize colS (ofK 1) l=R at f ⊢
 simp[aD9,aFt]
 refine aX f ?_
 simp
def dG (l:List Stmt):List Nm:=nrm (colS (ofK 3) l)
theorem ut (l:List Stmt) (hl:l.length+(l.map Stmt.tot).sum≤5000000):Says prog 192 [.rsl l.length (Cs (l.flatMap Stmt.d))] (.rsl (dG l).length (Cs ((dG l).flatMap ed))) []:=by
 have f:=qo l hl 3
 refine dD Go.Proofs.Tryz.func192 awm ?_
 unfold dG
 generalize colS (ofK 3) l=R at f ⊢
 simp[aD8,aFs]
 refine aX f ?_
 simp
def jl (l:List Stmt):List Nm:=nrm (colS (pR 2) l)
theorem Iz (l:List Stmt) (hl:l.length+(l.map Stmt.tot).sum≤5000000):Says prog 198 [.rsl l.length (Cs (l.flatMap Stmt.d))] (.rsl (jl l).length (Cs ((jl l).flatMap ed))) []:=by
 have f:=qN l hl 2
 refine dD Go.Proofs.Tryz.func198 awh ?_
 unfold jl
 generalize colS (pR 2) l=R at f ⊢
 simp[v198,aFn]
 refine aX f ?_
 simp
theorem TB:dZ prog 111=true:=by kernel_rfl
theorem kC:dZ prog 186=true:=by kernel_rfl
theorem tZ:dZ prog 113=true:=by kernel_rfl
theorem sH {f:Stmt→List Nm} {w:Stmt→Nat} (hw:∀ x,(f x).length≤w x) {wt:Stmt→Nat} (hwt:∀ x,w x+(x.Body.map wt).sum≤wt x) (l:List Stmt):(colS f l).length≤(l.map wt).sum:=by
 have hm:∀ (a:List Nm) x,(dW f a x).length≤a.length+w x:=fun a x=>by have:=hw x;simp[dW];omega
 have key:∀ (x:Stmt) (a:List Nm),(eG (dW f) a x).length≤a.length+wt x:=Ac (m:=List.length) hm hwt
 have:∀ (L:List Stmt) (a:List Nm),(L.foldl (eG (dW f)) a).length≤a.length+(L.map wt).sum:=by
  intro L
  induction L with
  | nil=>intro a;simp
  | cons y L ih =>
   intro a
   have h1:=ih (eG (dW f) a y)
   have h2:=key y a
   simp only[List.foldl_cons,List.map_cons,List.sum_cons]
   omega
 have:=this l []
 simp at this
 exact this
theorem zt {k:Int} {o:List Nm} {y:Stmt}:bC o (ofK k y)=if y.K=k then put o y.S else o:=by
 unfold ofK
 split<;>simp[bC]
theorem FB (f:Stmt→List Nm) {l:List Stmt} {i:Nat} {y:Stmt} (h:l[i]?=some y):colS f (l.take (i+1))=colS f (l.take i)++(f y++colS f y.Body):=by
 rw[List.take_add_one,h]
 show (l.take i++[y]).foldl (eG (dW f)) []=_
 rw[List.foldl_append]
 show eG (dW f) (colS f (l.take i)) y=_
 rw[Dp,mJ,xJ]
 simp[dW]
theorem F8 (k:Int) (l:List Stmt) (hl:l.length+(l.map Stmt.tot).sum≤5000000) (hrec:∀ x∈l,∀ o:List Nm,o.length+(x.Body.map fun x=>1+x.tot).sum≤20000000→Says prog 111 [.osl 0 9 o.length (Ows (o.flatMap ed)),.rsl x.Body.length (Cs (x.Body.flatMap Stmt.d)),.int .i64 k] (.osl 0 9 (bC o (colS (ofK k) x.Body)).length (Ows ((bC o (colS (ofK k) x.Body)).flatMap ed))) [])
  (o:List Nm) (ho:o.length+(l.map fun x=>1+x.tot).sum≤20000000):Says prog 111 [.osl 0 9 o.length (Ows (o.flatMap ed)),.rsl l.length (Cs (l.flatMap Stmt.d)),.int .i64 k] (.osl 0 9 (bC o (colS (ofK k) l)).length (Ows ((bC o (colS (ofK k) l)).flatMap ed))) []:=by
 refine dD Go.Proofs.Tryz.func111 aw1 ?_
 simp[aEt,aFT]
 refine eY (l:=P6) (b:=Q7) rfl [5,6] (fun i=>[(0,.osl 0 9 (bC o (colS (ofK k) (l.take i))).length (Ows ((bC o (colS (ofK k) (l.take i))).flatMap ed))),(4,.int .i64 i)]) (fun i=>(bC o (colS (ofK k) (l.take i))).length≤o.length+((l.take i).map fun x=>1+x.tot).sum) l.length (by simp[colS,bC]) (by simp[colS,bC]) ?_ ?_
 ·intro i hi hI q hn hx hr
  obtain⟨y,hy0⟩:=cu hi
  have hrow:=row_drop Stmt.d 19 Stmt.d_len hy0
  have hwi:=wrap_succ (i:=i) (by omega)
  have hym:=List.mem_of_getElem? hy0
  have hs:=iM (fun x:Stmt=>1+x.tot) hy0
  have hle:=AM.sum_take_le (fun x:Stmt=>1+x.tot) l (i+1)
  have hw1:=wt1 y
  have hcl:=sH (f:=ofK k) (w:=fun _=>1) (fun x=>by unfold ofK;split<;>simp) wt1 y.Body
  have ht1:=FB (ofK k) hy0
  have hA:=eP (ofK k y++colS (ofK k) y.Body) (bC o (colS (ofK k) (l.take i)))
  rw[←dU,←ht1] at hA
  rw[ht1,dU,dU,zt] at hn
  rw[hs] at hn hle
  have hlo:(ofK k y).length≤1:=by unfold ofK;split<;>simp
  rw[ht1,dU,dU,zt,List.length_append] at hA
  generalize bC o (colS (ofK k) (l.take i))=A at hn hI hA ⊢
  have fP:=wz A y.S (by omega)
  have hpl:=zq A y.S
  by_cases c:y.K=k
  ·rw[if_pos c] at hn hA
   have fy:=hrec y hym (put A y.S) (by omega)
   generalize bC (put A y.S) (colS (ofK k) y.Body)=A3 at hn fy hA
   generalize put A y.S=A2 at fP fy
   have fz:=dI fy
   simp[hi,aT,hrow,c]
   refine aX fP ?_
   simp[hi,aT,hrow]
   refine eF [.gone 0] TB fz ?_
   simp[hwi]
   exact hn _ (by simp) (by omega)
  ·rw[if_neg c] at hn hA
   have fy:=hrec y hym A (by omega)
   generalize bC A (colS (ofK k) y.Body)=A3 at hn fy hA
   have fz:=dI fy
   simp[hi,aT,hrow,c]
   refine eF [.gone 0] TB fz ?_
   simp[hwi]
   exact hn _ (by simp) (by omega)
 ·intro hI q hx hr
  rw[List.take_length]
  generalize bC o (colS (ofK k) l)=A at hx hr ⊢
  simp
  refine hx _ _ ?_
  simp
end Go.AmC
