import Derived.Test.YtafglhcclmbnbaaGreatLocksNamesS
set_option linter.unusedSimpArgs false
set_option linter.unusedVariables false
set_option maxRecDepth 20000
set_option maxHeartbeats 4000000
namespace Go.AmC
open Go Go.AM
open Go.Proofs.Tryz (prog)
theorem Ub (k:Int):∀ x:Stmt,x.tot≤5000000→∀ o:List Nm,o.length+(x.Body.map fun x=>1+x.tot).sum≤20000000→Says prog 111 [.osl 0 9 o.length (Ows (o.flatMap ed)),.rsl x.Body.length (Cs (x.Body.flatMap Stmt.d)),.int .i64 k] (.osl 0 9 (bC o (colS (ofK k) x.Body)).length (Ows ((bC o (colS (ofK k) x.Body)).flatMap ed))) []:=Stmt.ind fun x ih hx o ho=>by
 have ht:=x.tot_eq
 exact F8 k x.Body (by omega) (fun y hy=>ih y hy (by have:=dV Stmt.tot hy;omega)) o ho
theorem qw (k:Int) (l:List Stmt) (hl:l.length+(l.map Stmt.tot).sum≤5000000):Says prog 111 [.osl 0 9 0 [],.rsl l.length (Cs (l.flatMap Stmt.d)),.int .i64 k] (.osl 0 9 (nrm (colS (ofK k) l)).length (Ows ((nrm (colS (ofK k) l)).flatMap ed))) []:=by
 have:=F8 k l hl (fun x hx o ho=>Ub k x (by have:=dV Stmt.tot hx;omega) o ho) [] (by rw[wP];simp;omega)
 simpa [nrm] using this
mutual
def fQ (k:Int):Exp→List Nm
 | ⟨K,N,S,L⟩=>eK k ⟨K,N,S,L⟩++jw k L
def jw (k:Int):List Exp→List Nm
 | []=>[]
 | x::l=>fQ k x++jw k l
end
theorem zu (k:Int) (e:Exp):fQ k e=eK k e++jw k e.L:=by cases e;rw[fQ]
theorem x9 (k:Int):∀ a b:List Exp,jw k (a++b)=jw k a++jw k b
 | [],b=>by simp[jw]
 | x::a,b=>by simp[jw,x9 k a b]
theorem vY (k:Int) {l:List Exp} {i:Nat} {y:Exp} (h:l[i]?=some y):jw k (l.take (i+1))=jw k (l.take i)++fQ k y:=by
 rw[List.take_add_one,h,x9];simp[jw]
theorem F5 (k:Int) (n:Nm):∀ l:List Exp,n∈jw k l↔∃ y∈l,n∈fQ k y
 | []=>by simp[jw]
 | x::l=>by rw[jw,List.mem_append,F5 k n l];simp
theorem TU (k:Int):∀ (e:Exp) (n:Nm),n∈fQ k e↔n∈Dw k e:=Exp.ind fun e ih n=>by
 rw[zu,Ux,List.mem_append,F5]
 constructor
 ·rintro (h|⟨y,hy,h⟩)
  ·exact .inl h
  ·exact .inr ⟨y,hy,(ih y hy n).1 h⟩
 ·rintro (h|⟨y,hy,h⟩)
  ·exact .inl h
  ·exact .inr ⟨y,hy,(ih y hy n).2 h⟩
theorem iq (k:Int):∀ e:Exp,(fQ k e).length≤1+e.tot:=Exp.ind fun e ih=>by
 have key:∀ l:List Exp,(∀ y∈l,(fQ k y).length≤1+y.tot)→(jw k l).length≤l.length+(l.map Exp.tot).sum:=by
  intro l
  induction l with
  | nil=>intro _;simp[jw]
  | cons y l ihl =>
   intro h
   have h1:=h y (by simp)
   have h2:=ihl fun z hz=>h z (by simp[hz])
   simp only[jw,List.length_append,List.length_cons,List.map_cons,List.sum_cons]
   omega
 have h1:=key e.L ih
 have h2:=e.tot_eq
 have h3:(eK k e).length≤1:=by unfold eK;split<;>simp
 rw[zu,List.length_append];omega
theorem sU {k:Int} {o:List Nm} {y:Exp}:bC o (eK k y)=if y.K=k then put o y.S else o:=by
 unfold eK
 split<;>simp[bC]
theorem iH (k:Int):∀ e:Exp,e.tot≤5000000→∀ o:List Nm,o.length+(1+e.tot)≤40000000→Says prog 186 [.osl 0 9 o.length (Ows (o.flatMap ed)),.agg (Cs e.d),.int .i64 k] (.osl 0 9 (bC o (fQ k e)).length (Ows ((bC o (fQ k e)).flatMap ed))) []:=Exp.ind fun e ih he o ho=>by
 have ht:=e.tot_eq
 have fP:=wz o e.S (by omega)
 refine dD Go.Proofs.Tryz.func186 abH ?_
 rw[zu,dU]
 have hl0:(bC o (eK k e)).length≤o.length+1:=by
  have:=eP (eK k e) o
  have h3:(eK k e).length≤1:=by unfold eK;split<;>simp
  omega
 by_cases c:e.K=k
 ·rw[sU,if_pos c] at hl0 ⊢
  simp[Sj,Tz,c]
  refine aX fP ?_
  simp
  generalize put o e.S=A0 at hl0 ⊢
  refine eY (l:=BF) (b:=BK) rfl [7] (fun i=>[(0,.osl 0 9 (bC A0 (jw k (e.L.take i))).length (Ows ((bC A0 (jw k (e.L.take i))).flatMap ed))),(6,.int .i64 i)]) (fun i=>(bC A0 (jw k (e.L.take i))).length≤A0.length+(i+((e.L.take i).map Exp.tot).sum)) e.L.length (by simp[jw,bC]) (by simp[jw,bC]) ?_ ?_
  ·intro i hi hI q hn hx hr
   obtain⟨y,hy0⟩:=cu hi
   have hrow:=row_drop Exp.d 4 Exp.d_len hy0
   have hwi:=wrap_succ (i:=i) (by omega)
   have hym:=List.mem_of_getElem? hy0
   have hs:=iM Exp.tot hy0
   have hle:=AM.sum_take_le Exp.tot e.L (i+1)
   have ht1:=vY k hy0
   have hpl:=iq k y
   have hA:=eP (fQ k y) (bC A0 (jw k (e.L.take i)))
   rw[ht1,dU] at hn
   rw[hs] at hn hle
   generalize bC A0 (jw k (e.L.take i))=A at hn hI hA ⊢
   have fy:=ih y hym (by omega) A (by omega)
   generalize bC A (fQ k y)=A3 at hn fy hA
   have fz:=dI fy
   simp at fz
   simp[hi,aT,hrow]
   refine eF [.gone 0] kC fz ?_
   simp[hwi]
   exact hn _ (by simp) (by omega)
  ·intro hI q hx hr
   rw[List.take_length]
   generalize bC A0 (jw k e.L)=A at hx hr ⊢
   simp
   refine hx _ _ ?_
   simp
 ·rw[sU,if_neg c] at hl0 ⊢
  simp[Sj,Tz,c]
  have hA0:∃ A0,A0=o:=⟨_,rfl⟩
  obtain⟨A0,hA0⟩:=hA0
  rw[←hA0] at ho hl0 ⊢
  refine eY (l:=BF) (b:=BK) rfl [7] (fun i=>[(0,.osl 0 9 (bC A0 (jw k (e.L.take i))).length (Ows ((bC A0 (jw k (e.L.take i))).flatMap ed))),(6,.int .i64 i)]) (fun i=>(bC A0 (jw k (e.L.take i))).length≤A0.length+(i+((e.L.take i).map Exp.tot).sum)) e.L.length (by simp[jw,bC]) (by simp[jw,bC]) ?_ ?_
  ·intro i hi hI q hn hx hr
   obtain⟨y,hy0⟩:=cu hi
   have hrow:=row_drop Exp.d 4 Exp.d_len hy0
   have hwi:=wrap_succ (i:=i) (by omega)
   have hym:=List.mem_of_getElem? hy0
   have hs:=iM Exp.tot hy0
   have hle:=AM.sum_take_le Exp.tot e.L (i+1)
   have ht1:=vY k hy0
   have hpl:=iq k y
   have hA:=eP (fQ k y) (bC A0 (jw k (e.L.take i)))
   rw[ht1,dU] at hn
   rw[hs] at hn hle
   generalize bC A0 (jw k (e.L.take i))=A at hn hI hA ⊢
   have fy:=ih y hym (by omega) A (by omega)
   generalize bC A (fQ k y)=A3 at hn fy hA
   have fz:=dI fy
   simp at fz
   simp[hi,aT,hrow]
   refine eF [.gone 0] kC fz ?_
   simp[hwi]
   exact hn _ (by simp) (by omega)
  ·intro hI q hx hr
   rw[List.take_length]
   generalize bC A0 (jw k e.L)=A at hx hr ⊢
   simp
   refine hx _ _ ?_
   simp
set_option maxHeartbeats 8000000
def jk (k:Int) (x:Stmt):List Nm:=fQ k x.At++(fQ k x.E++(fQ k x.Lo++fQ k x.Hi))
theorem FU (k:Int) (x:Stmt):(jk k x).length≤BL x:=by
 have h1:=iq k x.At
 have h2:=iq k x.E
 have h3:=iq k x.Lo
 have h4:=iq k x.Hi
 unfold jk BL
 simp only[List.length_append];omega
theorem FZ (k:Int) (x:Stmt) (n:Nm):n∈jk k x↔n∈pR k x:=by
 unfold jk pR
 simp only[List.mem_append,TU]
theorem abm {k:Int} {l:List Stmt} {i:Nat} {y:Stmt} (h:l[i]?=some y) (o:List Nm) :
  bC o (colS (jk k) (l.take (i+1)))=bC (bC (bC (bC (bC (bC o (colS (jk k) (l.take i))) (fQ k y.At)) (fQ k y.E)) (fQ k y.Lo)) (fQ k y.Hi)) (colS (jk k) y.Body):=by
 rw[FB (jk k) h]
 simp only[jk,dU]
theorem abl {l:List Stmt} {i:Nat} {y:Stmt} (h:l[i]?=some y) (hl:l.length+(l.map Stmt.tot).sum≤5000000):y.At.tot+y.E.tot+y.Lo.tot+y.Hi.tot+(y.Body.length+(y.Body.map Stmt.tot).sum)≤y.tot∧y.tot≤5000000:=by
 have:=dV Stmt.tot (List.mem_of_getElem? h)
 have:=y.tot_eq
 omega
theorem Jz (k:Int) (l:List Stmt) (hl:l.length+(l.map Stmt.tot).sum≤5000000) (hrec:∀ x∈l,∀ o:List Nm,o.length+(x.Body.map fun x=>4+5*x.tot).sum≤40000000→Says prog 113 [.osl 0 9 o.length (Ows (o.flatMap ed)),.rsl x.Body.length (Cs (x.Body.flatMap Stmt.d)),.int .i64 k] (.osl 0 9 (bC o (colS (jk k) x.Body)).length (Ows ((bC o (colS (jk k) x.Body)).flatMap ed))) [])
  (o:List Nm) (ho:o.length+(l.map fun x=>4+5*x.tot).sum≤40000000):Says prog 113 [.osl 0 9 o.length (Ows (o.flatMap ed)),.rsl l.length (Cs (l.flatMap Stmt.d)),.int .i64 k] (.osl 0 9 (bC o (colS (jk k) l)).length (Ows ((bC o (colS (jk k) l)).flatMap ed))) []:=by
 refine dD Go.Proofs.Tryz.func113 abM ?_
 simp[atA,at1]
 refine eY (l:=IM) (b:=IU) rfl [5] (fun i=>[(0,.osl 0 9 (bC o (colS (jk k) (l.take i))).length (Ows ((bC o (colS (jk k) (l.take i))).flatMap ed))),(4,.int .i64 i)]) (fun i=>(bC o (colS (jk k) (l.take i))).length≤o.length+((l.take i).map fun x=>4+5*x.tot).sum) l.length (by simp[colS,bC]) (by simp[colS,bC]) ?_ ?_
 ·intro i hi hI q hn hx hr
  obtain⟨y,hy0⟩:=cu hi
  have hrow:=row_drop Stmt.d 19 Stmt.d_len hy0
  have hwi:=wrap_succ (i:=i) (by omega)
  have hym:=List.mem_of_getElem? hy0
  have hs:=iM (fun x:Stmt=>4+5*x.tot) hy0
  have hle:=AM.sum_take_le (fun x:Stmt=>4+5*x.tot) l (i+1)
  have hw1:=oH y
  obtain⟨hq,hq2⟩:=abl hy0 hl
  have hcl:=sH (f:=jk k) (w:=BL) (fun x=>FU k x) oH y.Body
  rw[abm hy0] at hn
  rw[hs] at hn hle
  unfold BL at hw1
  generalize bC o (colS (jk k) (l.take i))=A0 at hn hI ⊢
  have l1:=eP (fQ k y.At) A0
  have l2:=eP (fQ k y.E) (bC A0 (fQ k y.At))
  have l3:=eP (fQ k y.Lo) (bC (bC A0 (fQ k y.At)) (fQ k y.E))
  have l4:=eP (fQ k y.Hi) (bC (bC (bC A0 (fQ k y.At)) (fQ k y.E)) (fQ k y.Lo))
  have l5:=eP (colS (jk k) y.Body) (bC (bC (bC (bC A0 (fQ k y.At)) (fQ k y.E)) (fQ k y.Lo)) (fQ k y.Hi))
  have p1:=iq k y.At
  have p2:=iq k y.E
  have p3:=iq k y.Lo
  have p4:=iq k y.Hi
  have f1:=dI (iH k y.At (by omega) A0 (by omega))
  generalize bC A0 (fQ k y.At)=A1 at hn l1 l2 l3 l4 l5 f1 ⊢
  have f2:=dI (iH k y.E (by omega) A1 (by omega))
  generalize bC A1 (fQ k y.E)=A2 at hn l2 l3 l4 l5 f2 ⊢
  have f3:=dI (iH k y.Lo (by omega) A2 (by omega))
  generalize bC A2 (fQ k y.Lo)=A3 at hn l3 l4 l5 f3 ⊢
  have f4:=dI (iH k y.Hi (by omega) A3 (by omega))
  generalize bC A3 (fQ k y.Hi)=A4 at hn l4 l5 f4 ⊢
  have f5:=dI (hrec y hym A4 (by omega))
  generalize bC A4 (colS (jk k) y.Body)=A5 at hn l5 f5 ⊢
  simp at f1 f2 f3 f4 f5
  simp[hi,aT,hrow]
  refine eF [.gone 0] kC f1 ?_
  simp[hi,aT,hrow]
  refine eF [.gone 0] kC f2 ?_
  simp[hi,aT,hrow]
  refine eF [.gone 0] kC f3 ?_
  simp[hi,aT,hrow]
  refine eF [.gone 0] kC f4 ?_
  simp[hi,aT,hrow]
  refine eF [.gone 0] tZ f5 ?_
  simp[hwi]
  exact hn _ (by simp) (by omega)
 ·intro hI q hx hr
  rw[List.take_length]
  generalize bC o (colS (jk k) l)=A at hx hr ⊢
  simp
  refine hx _ _ ?_
  simp
theorem yQ (k:Int):∀ x:Stmt,x.tot≤5000000→∀ o:List Nm,o.length+(x.Body.map fun x=>4+5*x.tot).sum≤40000000→Says prog 113 [.osl 0 9 o.length (Ows (o.flatMap ed)),.rsl x.Body.length (Cs (x.Body.flatMap Stmt.d)),.int .i64 k] (.osl 0 9 (bC o (colS (jk k) x.Body)).length (Ows ((bC o (colS (jk k) x.Body)).flatMap ed))) []:=Stmt.ind fun x ih hx o ho=>by
 have ht:=x.tot_eq
 exact Jz k x.Body (by omega) (fun y hy=>ih y hy (by have:=dV Stmt.tot hy;omega)) o ho
theorem KP (k:Int) (l:List Stmt) (hl:l.length+(l.map Stmt.tot).sum≤5000000):Says prog 113 [.osl 0 9 0 [],.rsl l.length (Cs (l.flatMap Stmt.d)),.int .i64 k] (.osl 0 9 (nrm (colS (jk k) l)).length (Ows ((nrm (colS (jk k) l)).flatMap ed))) []:=by
 have:=Jz k l hl (fun x hx o ho=>yQ k x (by have:=dV Stmt.tot hx;omega) o ho) [] (by rw[Aq];simp;omega)
 simpa [nrm] using this
def sN (A:List Nm):AV:=if A=[] then .rsl 0 [] else .osl 0 9 A.length (Ows (A.flatMap ed))
theorem iW:sN []=.rsl 0 []:=rfl
theorem jo {A:List Nm} (h:A≠[]):sN A=.osl 0 9 A.length (Ows (A.flatMap ed)):=if_neg h
theorem OV (l:List Nm) (s:Nm):put l s≠[]:=by
 unfold put
 cases l with
 | nil=>simp[jT]
 | cons x xs =>
  by_cases h1:x<s
  ·have h2:¬x=s:=fun e=>List.lt_irrefl _ (e▸h1)
   simp[jT,h1,h2]
  ·simp[jT,h1]
theorem gu:∀ (r:List Nm) {A:List Nm},A≠[]→bC A r≠[]
 | [],A,h=>by simpa [bC] using h
 | s::r,A,_=>by
  show bC (put A s) r≠[]
  exact gu r (OV A s)
theorem acn (k:Int):∀ e:Exp,e.tot≤5000000→Says prog 186 [.rsl 0 [],.agg (Cs e.d),.int .i64 k] (sN (bC [] (fQ k e))) []:=Exp.ind fun e ih he=>by
 have ht:=e.tot_eq
 have fP:=wz [] e.S (by simp)
 refine dD Go.Proofs.Tryz.func186 abH ?_
 rw[zu,dU]
 simp at fP
 by_cases c:e.K=k
 ·rw[sU,if_pos c]
  simp[Sj,Tz,c]
  refine aX fP ?_
  simp
  have hne:=OV [] e.S
  have hl0:=zq [] e.S
  generalize put [] e.S=A0 at hl0 hne ⊢
  simp at hl0
  refine eY (l:=BF) (b:=BK) rfl [7] (fun i=>[(0,sN (bC A0 (jw k (e.L.take i)))),(6,.int .i64 i)]) (fun i=>(bC A0 (jw k (e.L.take i))).length≤A0.length+(i+((e.L.take i).map Exp.tot).sum)) e.L.length (by simp[jw,bC]) (by simp[jw,bC,jo hne]) ?_ ?_
  ·intro i hi hI q hn hx hr
   obtain⟨y,hy0⟩:=cu hi
   have hrow:=row_drop Exp.d 4 Exp.d_len hy0
   have hwi:=wrap_succ (i:=i) (by omega)
   have hym:=List.mem_of_getElem? hy0
   have hs:=iM Exp.tot hy0
   have hle:=AM.sum_take_le Exp.tot e.L (i+1)
   have ht1:=vY k hy0
   have hpl:=iq k y
   have hA:=eP (fQ k y) (bC A0 (jw k (e.L.take i)))
   rw[ht1,dU] at hn
   rw[hs] at hn hle
   generalize bC A0 (jw k (e.L.take i))=A at hn hI hA ⊢
   by_cases c:A=[]
   ·subst c
    have fz:=ih y hym (by omega)
    have h3:(bC [] (fQ k y)).length≤0+(1+y.tot):=by have:=iq k y;simp at hA;omega
    generalize bC [] (fQ k y)=A3 at hn fz hA h3
    simp at fz
    rw[iW]
    simp[hi,aT,hrow]
    refine eF [] kC fz ?_
    by_cases c3:A3=[]
    ·subst c3
     simp[iW,hwi]
     exact hn _ (by simp[iW]) (by simp)
    ·simp[jo c3,hwi]
     exact hn _ (by simp[jo c3]) (by simp at hI hA;omega)
   ·have fy:=dI (iH k y (by omega) A (by omega))
    have hne:=gu (fQ k y) c
    generalize bC A (fQ k y)=A3 at hn fy hA hne
    simp at fy
    rw[jo c]
    simp[hi,aT,hrow]
    refine eF [.gone 0] kC fy ?_
    simp[hwi]
    exact hn _ (by simp[jo hne]) (by omega)
  ·intro hI q hx hr
   rw[List.take_length]
   generalize bC A0 (jw k e.L)=A at hx hr ⊢
   by_cases c:A=[]
   ·subst c
    simp[iW]
    refine hx _ _ ?_
    simp[iW]
   ·simp[jo c]
    refine hx _ _ ?_
    simp[jo c]
 ·rw[sU,if_neg c]
  simp[Sj,Tz,c]
  have hA0:∃ A0:List Nm,A0=[]:=⟨_,rfl⟩
  obtain⟨A0,hA0⟩:=hA0
  have hl0:A0.length≤1:=by simp[hA0]
  rw[←hA0]
  refine eY (l:=BF) (b:=BK) rfl [7] (fun i=>[(0,sN (bC A0 (jw k (e.L.take i)))),(6,.int .i64 i)]) (fun i=>(bC A0 (jw k (e.L.take i))).length≤A0.length+(i+((e.L.take i).map Exp.tot).sum)) e.L.length (by simp[jw,bC]) (by simp[jw,bC,hA0,iW]) ?_ ?_
  ·intro i hi hI q hn hx hr
   obtain⟨y,hy0⟩:=cu hi
   have hrow:=row_drop Exp.d 4 Exp.d_len hy0
   have hwi:=wrap_succ (i:=i) (by omega)
   have hym:=List.mem_of_getElem? hy0
   have hs:=iM Exp.tot hy0
   have hle:=AM.sum_take_le Exp.tot e.L (i+1)
   have ht1:=vY k hy0
   have hpl:=iq k y
   have hA:=eP (fQ k y) (bC A0 (jw k (e.L.take i)))
   rw[ht1,dU] at hn
   rw[hs] at hn hle
   generalize bC A0 (jw k (e.L.take i))=A at hn hI hA ⊢
   by_cases c:A=[]
   ·subst c
    have fz:=ih y hym (by omega)
    have h3:(bC [] (fQ k y)).length≤0+(1+y.tot):=by have:=iq k y;simp at hA;omega
    generalize bC [] (fQ k y)=A3 at hn fz hA h3
    simp at fz
    rw[iW]
    simp[hi,aT,hrow]
    refine eF [] kC fz ?_
    by_cases c3:A3=[]
    ·subst c3
     simp[iW,hwi]
     exact hn _ (by simp[iW]) (by simp)
    ·simp[jo c3,hwi]
     exact hn _ (by simp[jo c3]) (by simp at hI hA;omega)
   ·have fy:=dI (iH k y (by omega) A (by omega))
    have hne:=gu (fQ k y) c
    generalize bC A (fQ k y)=A3 at hn fy hA hne
    simp at fy
    rw[jo c]
    simp[hi,aT,hrow]
    refine eF [.gone 0] kC fy ?_
    simp[hwi]
    exact hn _ (by simp[jo hne]) (by omega)
  ·intro hI q hx hr
   rw[List.take_length]
   generalize bC A0 (jw k e.L)=A at hx hr ⊢
   by_cases c:A=[]
   ·subst c
    simp[iW]
    refine hx _ _ ?_
    simp[iW]
   ·simp[jo c]
    refine hx _ _ ?_
    simp[jo c]
theorem Qb (k:Int) (l:List Stmt) (hl:l.length+(l.map Stmt.tot).sum≤5000000) (hrec:∀ x∈l,Says prog 113 [.rsl 0 [],.rsl x.Body.length (Cs (x.Body.flatMap Stmt.d)),.int .i64 k] (sN (bC [] (colS (jk k) x.Body))) []) :
  Says prog 113 [.rsl 0 [],.rsl l.length (Cs (l.flatMap Stmt.d)),.int .i64 k] (sN (bC [] (colS (jk k) l))) []:=by
 refine dD Go.Proofs.Tryz.func113 abM ?_
 simp[atA,at1]
 refine eY (l:=IM) (b:=IU) rfl [5] (fun i=>[(0,sN (bC [] (colS (jk k) (l.take i)))),(4,.int .i64 i)]) (fun i=>(bC [] (colS (jk k) (l.take i))).length≤((l.take i).map fun x=>4+5*x.tot).sum) l.length (by simp[colS,bC]) (by simp[colS,bC,iW]) ?_ ?_
 ·intro i hi hI q hn hx hr
  obtain⟨y,hy0⟩:=cu hi
  have hrow:=row_drop Stmt.d 19 Stmt.d_len hy0
  have hwi:=wrap_succ (i:=i) (by omega)
  have hym:=List.mem_of_getElem? hy0
  have hs:=iM (fun x:Stmt=>4+5*x.tot) hy0
  have hle:=AM.sum_take_le (fun x:Stmt=>4+5*x.tot) l (i+1)
  have hmax:((l.map fun x:Stmt=>4+5*x.tot)).sum≤25000000:=by rw[Aq];omega
  have hw1:=oH y
  obtain⟨hq,hq2⟩:=abl hy0 hl
  have hcl:=sH (f:=jk k) (w:=BL) (fun x=>FU k x) oH y.Body
  rw[abm hy0] at hn
  rw[hs] at hn hle
  unfold BL at hw1
  generalize bC [] (colS (jk k) (l.take i))=A0 at hn hI ⊢
  have l1:=eP (fQ k y.At) A0
  have l2:=eP (fQ k y.E) (bC A0 (fQ k y.At))
  have l3:=eP (fQ k y.Lo) (bC (bC A0 (fQ k y.At)) (fQ k y.E))
  have l4:=eP (fQ k y.Hi) (bC (bC (bC A0 (fQ k y.At)) (fQ k y.E)) (fQ k y.Lo))
  have l5:=eP (colS (jk k) y.Body) (bC (bC (bC (bC A0 (fQ k y.At)) (fQ k y.E)) (fQ k y.Lo)) (fQ k y.Hi))
  have p1:=iq k y.At
  have p2:=iq k y.E
  have p3:=iq k y.Lo
  have p4:=iq k y.Hi
  by_cases n0:A0=[]
  ·subst n0
   rw[iW]
   have f1:=acn k y.At (by omega)
   generalize bC [] (fQ k y.At)=A1 at *
   try simp at f1
   simp[hi,aT,hrow]
   refine eF [] kC f1 ?_
   by_cases n1:A1=[]
   ·subst n1
    rw[iW]
    have f2:=acn k y.E (by omega)
    generalize bC [] (fQ k y.E)=A2 at *
    try simp at f2
    simp[hi,aT,hrow]
    refine eF [] kC f2 ?_
    by_cases n2:A2=[]
    ·subst n2
     rw[iW]
     have f3:=acn k y.Lo (by omega)
     generalize bC [] (fQ k y.Lo)=A3 at *
     try simp at f3
     simp[hi,aT,hrow]
     refine eF [] kC f3 ?_
     by_cases n3:A3=[]
     ·subst n3
      rw[iW]
      have f4:=acn k y.Hi (by omega)
      generalize bC [] (fQ k y.Hi)=A4 at *
      try simp at f4
      simp[hi,aT,hrow]
      refine eF [] kC f4 ?_
      by_cases n4:A4=[]
      ·subst n4
       rw[iW]
       have f5:=hrec y hym
       generalize bC [] (colS (jk k) y.Body)=A5 at *
       try simp at f5
       simp[hi,aT,hrow]
       refine eF [] tZ f5 ?_
       by_cases n5:A5=[]
       ·subst n5
        rw[iW]
        simp[iW,hwi]
        exact hn _ (by simp[iW]) (by simp)
       ·rw[jo n5]
        simp[hwi]
        exact hn _ (by simp[jo n5]) (by simp at *;omega)
      ·rw[jo n4]
       have f5:=dI (yQ k y (by omega) A4 (by simp at *;omega))
       have n5:=gu (colS (jk k) y.Body) n4
       generalize bC A4 (colS (jk k) y.Body)=A5 at *
       try simp at f5
       simp[hi,aT,hrow]
       refine eF [.gone 0] tZ f5 ?_
       simp[hwi]
       exact hn _ (by simp[jo n5]) (by simp at *;omega)
     ·rw[jo n3]
      have f4:=dI (iH k y.Hi (by omega) A3 (by omega))
      have n4:=gu (fQ k y.Hi) n3
      generalize bC A3 (fQ k y.Hi)=A4 at *
      try simp at f4
      simp[hi,aT,hrow]
      refine eF [.gone 0] kC f4 ?_
      have f5:=dI (yQ k y (by omega) A4 (by simp at *;omega))
      have n5:=gu (colS (jk k) y.Body) n4
      generalize bC A4 (colS (jk k) y.Body)=A5 at *
      try simp at f5
      simp[hi,aT,hrow]
      refine eF [.gone 0] tZ f5 ?_
      simp[hwi]
      exact hn _ (by simp[jo n5]) (by simp at *;omega)
    ·rw[jo n2]
     have f3:=dI (iH k y.Lo (by omega) A2 (by omega))
     have n3:=gu (fQ k y.Lo) n2
     generalize bC A2 (fQ k y.Lo)=A3 at *
     try simp at f3
     simp[hi,aT,hrow]
     refine eF [.gone 0] kC f3 ?_
     have f4:=dI (iH k y.Hi (by omega) A3 (by omega))
     have n4:=gu (fQ k y.Hi) n3
     generalize bC A3 (fQ k y.Hi)=A4 at *
     try simp at f4
     simp[hi,aT,hrow]
     refine eF [.gone 0] kC f4 ?_
     have f5:=dI (yQ k y (by omega) A4 (by simp at *;omega))
     have n5:=gu (colS (jk k) y.Body) n4
     generalize bC A4 (colS (jk k) y.Body)=A5 at *
     try simp at f5
     simp[hi,aT,hrow]
     refine eF [.gone 0] tZ f5 ?_
     simp[hwi]
     exact hn _ (by simp[jo n5]) (by simp at *;omega)
   ·rw[jo n1]
    have f2:=dI (iH k y.E (by omega) A1 (by omega))
    have n2:=gu (fQ k y.E) n1
    generalize bC A1 (fQ k y.E)=A2 at *
    try simp at f2
    simp[hi,aT,hrow]
    refine eF [.gone 0] kC f2 ?_
    have f3:=dI (iH k y.Lo (by omega) A2 (by omega))
    have n3:=gu (fQ k y.Lo) n2
    generalize bC A2 (fQ k y.Lo)=A3 at *
    try simp at f3
    simp[hi,aT,hrow]
    refine eF [.gone 0] kC f3 ?_
    have f4:=dI (iH k y.Hi (by omega) A3 (by omega))
    have n4:=gu (fQ k y.Hi) n3
    generalize bC A3 (fQ k y.Hi)=A4 at *
    try simp at f4
    simp[hi,aT,hrow]
    refine eF [.gone 0] kC f4 ?_
    have f5:=dI (yQ k y (by omega) A4 (by simp at *;omega))
    have n5:=gu (colS (jk k) y.Body) n4
    generalize bC A4 (colS (jk k) y.Body)=A5 at *
    try simp at f5
    simp[hi,aT,hrow]
    refine eF [.gone 0] tZ f5 ?_
    simp[hwi]
    exact hn _ (by simp[jo n5]) (by simp at *;omega)
  ·rw[jo n0]
   have f1:=dI (iH k y.At (by omega) A0 (by omega))
   have n1:=gu (fQ k y.At) n0
   generalize bC A0 (fQ k y.At)=A1 at *
   try simp at f1
   simp[hi,aT,hrow]
   refine eF [.gone 0] kC f1 ?_
   have f2:=dI (iH k y.E (by omega) A1 (by omega))
   have n2:=gu (fQ k y.E) n1
   generalize bC A1 (fQ k y.E)=A2 at *
   try simp at f2
   simp[hi,aT,hrow]
   refine eF [.gone 0] kC f2 ?_
   have f3:=dI (iH k y.Lo (by omega) A2 (by omega))
   have n3:=gu (fQ k y.Lo) n2
   generalize bC A2 (fQ k y.Lo)=A3 at *
   try simp at f3
   simp[hi,aT,hrow]
   refine eF [.gone 0] kC f3 ?_
   have f4:=dI (iH k y.Hi (by omega) A3 (by omega))
   have n4:=gu (fQ k y.Hi) n3
   generalize bC A3 (fQ k y.Hi)=A4 at *
   try simp at f4
   simp[hi,aT,hrow]
   refine eF [.gone 0] kC f4 ?_
   have f5:=dI (yQ k y (by omega) A4 (by simp at *;omega))
   have n5:=gu (colS (jk k) y.Body) n4
   generalize bC A4 (colS (jk k) y.Body)=A5 at *
   try simp at f5
   simp[hi,aT,hrow]
   refine eF [.gone 0] tZ f5 ?_
   simp[hwi]
   exact hn _ (by simp[jo n5]) (by simp at *;omega)
 ·intro hI q hx hr
  rw[List.take_length]
  generalize bC [] (colS (jk k) l)=A at hx hr ⊢
  by_cases c:A=[]
  ·subst c
   simp[iW]
   refine hx _ _ ?_
   simp[iW]
  ·simp[jo c]
   refine hx _ _ ?_
   simp[jo c]
theorem aw7 (k:Int):∀ x:Stmt,x.tot≤5000000→Says prog 113 [.rsl 0 [],.rsl x.Body.length (Cs (x.Body.flatMap Stmt.d)),.int .i64 k] (sN (bC [] (colS (jk k) x.Body))) []:=Stmt.ind fun x ih hx=>by
 have ht:=x.tot_eq
 exact Qb k x.Body (by omega) (fun y hy=>ih y hy (by have:=dV Stmt.tot hy;omega))
theorem Ie (k:Int) (l:List Stmt) (hl:l.length+(l.map Stmt.tot).sum≤5000000):Says prog 113 [.rsl 0 [],.rsl l.length (Cs (l.flatMap Stmt.d)),.int .i64 k] (sN (nrm (colS (jk k) l))) [] :=
 Qb k l hl fun x hx=>aw7 k x (by have:=dV Stmt.tot hx;omega)
set_option maxHeartbeats 4000000
theorem rV (l:List Stmt) (hl:l.length+(l.map Stmt.tot).sum≤5000000):Says prog 109 [.rsl l.length (Cs (l.flatMap Stmt.d))] (.osl 0 9 (varsOf l).length (Ows ((varsOf l).flatMap ed))) []:=by
 have f:=dI (qw 1 l hl)
 refine dD Go.Proofs.Tryz.func109 aw3 ?_
 unfold varsOf
 generalize nrm (colS (ofK 1) l)=R at f ⊢
 simp at f
 simp[v109,aFV]
 refine eF [.gone 0] TB f ?_
 simp
theorem uq (l:List Stmt) (hl:l.length+(l.map Stmt.tot).sum≤5000000):Says prog 110 [.rsl l.length (Cs (l.flatMap Stmt.d))] (.osl 0 9 (dG l).length (Ows ((dG l).flatMap ed))) []:=by
 have f:=dI (qw 3 l hl)
 refine dD Go.Proofs.Tryz.func110 aw2 ?_
 unfold dG
 generalize nrm (colS (ofK 3) l)=R at f ⊢
 simp at f
 simp[aEu,aFU]
 refine eF [.gone 0] TB f ?_
 simp
theorem adr (l:List Stmt):nrm (colS (jk 2) l)=jl l:=Js (Gj (FZ 2) l)
def nD (l:List Stmt):List Nm:=nrm (colS (ofK 2) l)
def oh (l:List Stmt):List Nm:=nrm (colS (pR 3) l)
theorem Iy (l:List Stmt) (hl:l.length+(l.map Stmt.tot).sum≤5000000):Says prog 115 [.rsl l.length (Cs (l.flatMap Stmt.d))] (.osl 0 9 (jl l).length (Ows ((jl l).flatMap ed))) []:=by
 have f:=dI (KP 2 l hl)
 refine dD Go.Proofs.Tryz.func115 awY ?_
 rw[adr] at f
 generalize jl l=R at f ⊢
 simp at f
 simp[aEq,aFQ]
 refine eF [.gone 0] tZ f ?_
 simp
end Go.AmC
