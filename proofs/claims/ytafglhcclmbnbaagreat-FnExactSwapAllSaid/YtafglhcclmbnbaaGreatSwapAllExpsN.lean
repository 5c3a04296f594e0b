import Derived.Test.YtafglhcclmbnbaaGreatSwapAllAsked
set_option linter.unusedSimpArgs false
set_option linter.unusedVariables false
set_option maxRecDepth 20000
set_option maxHeartbeats 4000000
namespace Go.AmC
open Go Go.AM
open Go.Proofs.Tryz (prog)
theorem XY:aY prog 111=true:=by kernel_rfl
theorem jw:aY prog 186=true:=by kernel_rfl
theorem tC:aY prog 113=true:=by kernel_rfl
theorem rQ {f:Stmt→List Nm} {w:Stmt→Nat} (hw:∀ x,(f x).length≤w x) {wt:Stmt→Nat} (hwt:∀ x,w x+(x.Body.map wt).sum≤wt x) (l:List Stmt):(colS f l).length≤(l.map wt).sum:=by
 have hm:∀ (a:List Nm) x,(bI f a x).length≤a.length+w x:=fun a x=>by have:=hw x;simp[bI];omega
 have key:∀ (x:Stmt) (a:List Nm),(aI (bI f) a x).length≤a.length+wt x:=qK (m:=List.length) hm hwt
 have:∀ (L:List Stmt) (a:List Nm),(L.foldl (aI (bI f)) a).length≤a.length+(L.map wt).sum:=by
  intro L
  induction L with
  | nil=>intro a;simp
  | cons y L ih =>
   intro a
   have h1:=ih (aI (bI f) a y)
   have h2:=key y a
   simp only[List.foldl_cons,List.map_cons,List.sum_cons]
   omega
 have:=this l []
 simp at this
 exact this
theorem zF {k:Int} {o:List Nm} {y:Stmt}:au o (ofK k y)=if y.K=k then put o y.S else o:=by
 unfold ofK
 split<;>simp[au]
theorem Il (f:Stmt→List Nm) {l:List Stmt} {i:Nat} {y:Stmt} (h:l[i]?=some y):colS f (l.take (i+1))=colS f (l.take i)++(f y++colS f y.Body):=by
 rw[List.take_add_one,h]
 show (l.take i++[y]).foldl (aI (bI f)) []=_
 rw[List.foldl_append]
 show aI (bI f) (colS f (l.take i)) y=_
 rw[EE,eF,xO]
 simp[bI]
theorem IR (k:Int) (l:List Stmt) (hl:l.length+(l.map Stmt.tot).sum≤5000000) (hrec:∀ x∈l,∀ o:List Nm,o.length+(x.Body.map fun x=>1+x.tot).sum≤20000000→Says prog 111 [.osl 0 9 o.length (Ows (o.flatMap bG)),.rsl x.Body.length (Cs (x.Body.flatMap Stmt.d)),.int .i64 k] (.osl 0 9 (au o (colS (ofK k) x.Body)).length (Ows ((au o (colS (ofK k) x.Body)).flatMap bG))) [])
  (o:List Nm) (ho:o.length+(l.map fun x=>1+x.tot).sum≤20000000):Says prog 111 [.osl 0 9 o.length (Ows (o.flatMap bG)),.rsl l.length (Cs (l.flatMap Stmt.d)),.int .i64 k] (.osl 0 9 (au o (colS (ofK k) l)).length (Ows ((au o (colS (ofK k) l)).flatMap bG))) []:=by
 refine aP Go.Proofs.Tryz.func111 aGT ?_
 simp[aNa,aPa]
 refine aZ (l:=UY) (b:=WV) rfl [5,6] (fun i=>[(0,.osl 0 9 (au o (colS (ofK k) (l.take i))).length (Ows ((au o (colS (ofK k) (l.take i))).flatMap bG))),(4,.int .i64 i)]) (fun i=>(au o (colS (ofK k) (l.take i))).length≤o.length+((l.take i).map fun x=>1+x.tot).sum) l.length (by simp[colS,au]) (by simp[colS,au]) ?_ ?_
 ·intro i hi hI q hn hx hr
  obtain⟨y,hy0⟩:=ax hi
  have hrow:=row_drop Stmt.d 19 Stmt.d_len hy0
  have hwi:=wrap_succ (i:=i) (by omega)
  have hym:=List.mem_of_getElem? hy0
  have hs:=bQ (fun x:Stmt=>1+x.tot) hy0
  have hle:=AM.sum_take_le (fun x:Stmt=>1+x.tot) l (i+1)
  have hw1:=wt1 y
  have hcl:=rQ (f:=ofK k) (w:=fun _=>1) (fun x=>by unfold ofK;split<;>simp) wt1 y.Body
  have ht1:=Il (ofK k) hy0
  have hA:=cO (ofK k y++colS (ofK k) y.Body) (au o (colS (ofK k) (l.take i)))
  rw[←bK,←ht1] at hA
  rw[ht1,bK,bK,zF] at hn
  rw[hs] at hn hle
  have hlo:(ofK k y).length≤1:=by unfold ofK;split<;>simp
  rw[ht1,bK,bK,zF,List.length_append] at hA
  generalize au o (colS (ofK k) (l.take i))=A at hn hI hA ⊢
  have fP:=rJ A y.S (by omega)
  have hpl:=wR A y.S
  by_cases c:y.K=k
  ·rw[if_pos c] at hn hA
   have fy:=hrec y hym (put A y.S) (by omega)
   generalize au (put A y.S) (colS (ofK k) y.Body)=A3 at hn fy hA
   generalize put A y.S=A2 at fP fy
   have fz:=bC fy
   simp[hi,aj,hrow,c]
   refine ai fP ?_
   simp[hi,aj,hrow]
   refine bn [.gone] XY fz ?_
   simp[hwi]
   exact hn _ (by simp) (by omega)
  ·rw[if_neg c] at hn hA
   have fy:=hrec y hym A (by omega)
   generalize au A (colS (ofK k) y.Body)=A3 at hn fy hA
   have fz:=bC fy
   simp[hi,aj,hrow,c]
   refine bn [.gone] XY fz ?_
   simp[hwi]
   exact hn _ (by simp) (by omega)
 ·intro hI q hx hr
  rw[List.take_length]
  generalize au o (colS (ofK k) l)=A at hx hr ⊢
  simp
  refine hx _ _ ?_
  simp
theorem Ye (k:Int):∀ x:Stmt,x.tot≤5000000→∀ o:List Nm,o.length+(x.Body.map fun x=>1+x.tot).sum≤20000000→Says prog 111 [.osl 0 9 o.length (Ows (o.flatMap bG)),.rsl x.Body.length (Cs (x.Body.flatMap Stmt.d)),.int .i64 k] (.osl 0 9 (au o (colS (ofK k) x.Body)).length (Ows ((au o (colS (ofK k) x.Body)).flatMap bG))) []:=Stmt.ind fun x ih hx o ho=>by
 have ht:=x.tot_eq
 exact IR k x.Body (by omega) (fun y hy=>ih y hy (by have:=az Stmt.tot hy;omega)) o ho
theorem pG (k:Int) (l:List Stmt) (hl:l.length+(l.map Stmt.tot).sum≤5000000):Says prog 111 [.osl 0 9 0 [],.rsl l.length (Cs (l.flatMap Stmt.d)),.int .i64 k] (.osl 0 9 (nrm (colS (ofK k) l)).length (Ows ((nrm (colS (ofK k) l)).flatMap bG))) []:=by
 have:=IR k l hl (fun x hx o ho=>Ye k x (by have:=az Stmt.tot hx;omega) o ho) [] (by rw[wP];simp;omega)
 simpa [nrm] using this
mutual
def dm (k:Int):Exp→List Nm
 | ⟨K,N,S,L⟩=>eK k ⟨K,N,S,L⟩++iH k L
def iH (k:Int):List Exp→List Nm
 | []=>[]
 | x::l=>dm k x++iH k l
end
theorem zG (k:Int) (e:Exp):dm k e=eK k e++iH k e.L:=by cases e;rw[dm]
theorem yl (k:Int):∀ a b:List Exp,iH k (a++b)=iH k a++iH k b
 | [],b=>by simp[iH]
 | x::a,b=>by simp[iH,yl k a b]
theorem ww (k:Int) {l:List Exp} {i:Nat} {y:Exp} (h:l[i]?=some y):iH k (l.take (i+1))=iH k (l.take i)++dm k y:=by
 rw[List.take_add_one,h,yl];simp[iH]
theorem IM (k:Int) (n:Nm):∀ l:List Exp,n∈iH k l↔∃ y∈l,n∈dm k y
 | []=>by simp[iH]
 | x::l=>by rw[iH,List.mem_append,IM k n l];simp
theorem Yb (k:Int):∀ (e:Exp) (n:Nm),n∈dm k e↔n∈EL k e:=Exp.ind fun e ih n=>by
 rw[zG,Yt,List.mem_append,IM]
 constructor
 ·rintro (h|⟨y,hy,h⟩)
  ·exact .inl h
  ·exact .inr ⟨y,hy,(ih y hy n).1 h⟩
 ·rintro (h|⟨y,hy,h⟩)
  ·exact .inl h
  ·exact .inr ⟨y,hy,(ih y hy n).2 h⟩
theorem dU (k:Int):∀ e:Exp,(dm k e).length≤1+e.tot:=Exp.ind fun e ih=>by
 have key:∀ l:List Exp,(∀ y∈l,(dm k y).length≤1+y.tot)→(iH k l).length≤l.length+(l.map Exp.tot).sum:=by
  intro l
  induction l with
  | nil=>intro _;simp[iH]
  | cons y l ihl =>
   intro h
   have h1:=h y (by simp)
   have h2:=ihl fun z hz=>h z (by simp[hz])
   simp only[iH,List.length_append,List.length_cons,List.map_cons,List.sum_cons]
   omega
 have h1:=key e.L ih
 have h2:=e.tot_eq
 have h3:(eK k e).length≤1:=by unfold eK;split<;>simp
 rw[zG,List.length_append];omega
theorem sD {k:Int} {o:List Nm} {y:Exp}:au o (eK k y)=if y.K=k then put o y.S else o:=by
 unfold eK
 split<;>simp[au]
theorem fU (k:Int):∀ e:Exp,e.tot≤5000000→∀ o:List Nm,o.length+(1+e.tot)≤40000000→Says prog 186 [.osl 0 9 o.length (Ows (o.flatMap bG)),.agg (Cs e.d),.int .i64 k] (.osl 0 9 (au o (dm k e)).length (Ows ((au o (dm k e)).flatMap bG))) []:=Exp.ind fun e ih he o ho=>by
 have ht:=e.tot_eq
 have fP:=rJ o e.S (by omega)
 refine aP Go.Proofs.Tryz.func186 afJ ?_
 rw[zG,bK]
 have hl0:(au o (eK k e)).length≤o.length+1:=by
  have:=cO (eK k e) o
  have h3:(eK k e).length≤1:=by unfold eK;split<;>simp
  omega
 by_cases c:e.K=k
 ·rw[sD,if_pos c] at hl0 ⊢
  simp[XB,XW,c]
  refine ai fP ?_
  simp
  generalize put o e.S=A0 at hl0 ⊢
  refine aZ (l:=CY) (b:=Dl) rfl [7] (fun i=>[(0,.osl 0 9 (au A0 (iH k (e.L.take i))).length (Ows ((au A0 (iH k (e.L.take i))).flatMap bG))),(6,.int .i64 i)]) (fun i=>(au A0 (iH k (e.L.take i))).length≤A0.length+(i+((e.L.take i).map Exp.tot).sum)) e.L.length (by simp[iH,au]) (by simp[iH,au]) ?_ ?_
  ·intro i hi hI q hn hx hr
   obtain⟨y,hy0⟩:=ax hi
   have hrow:=row_drop Exp.d 4 Exp.d_len hy0
   have hwi:=wrap_succ (i:=i) (by omega)
   have hym:=List.mem_of_getElem? hy0
   have hs:=bQ Exp.tot hy0
   have hle:=AM.sum_take_le Exp.tot e.L (i+1)
   have ht1:=ww k hy0
   have hpl:=dU k y
   have hA:=cO (dm k y) (au A0 (iH k (e.L.take i)))
   rw[ht1,bK] at hn
   rw[hs] at hn hle
   generalize au A0 (iH k (e.L.take i))=A at hn hI hA ⊢
   have fy:=ih y hym (by omega) A (by omega)
   generalize au A (dm k y)=A3 at hn fy hA
   have fz:=bC fy
   simp at fz
   simp[hi,aj,hrow]
   refine bn [.gone] jw fz ?_
   simp[hwi]
   exact hn _ (by simp) (by omega)
  ·intro hI q hx hr
   rw[List.take_length]
   generalize au A0 (iH k e.L)=A at hx hr ⊢
   simp
   refine hx _ _ ?_
   simp
 ·rw[sD,if_neg c] at hl0 ⊢
  simp[XB,XW,c]
  have hA0:∃ A0,A0=o:=⟨_,rfl⟩
  obtain⟨A0,hA0⟩:=hA0
  rw[←hA0] at ho hl0 ⊢
  refine aZ (l:=CY) (b:=Dl) rfl [7] (fun i=>[(0,.osl 0 9 (au A0 (iH k (e.L.take i))).length (Ows ((au A0 (iH k (e.L.take i))).flatMap bG))),(6,.int .i64 i)]) (fun i=>(au A0 (iH k (e.L.take i))).length≤A0.length+(i+((e.L.take i).map Exp.tot).sum)) e.L.length (by simp[iH,au]) (by simp[iH,au]) ?_ ?_
  ·intro i hi hI q hn hx hr
   obtain⟨y,hy0⟩:=ax hi
   have hrow:=row_drop Exp.d 4 Exp.d_len hy0
   have hwi:=wrap_succ (i:=i) (by omega)
   have hym:=List.mem_of_getElem? hy0
   have hs:=bQ Exp.tot hy0
   have hle:=AM.sum_take_le Exp.tot e.L (i+1)
   have ht1:=ww k hy0
   have hpl:=dU k y
   have hA:=cO (dm k y) (au A0 (iH k (e.L.take i)))
   rw[ht1,bK] at hn
   rw[hs] at hn hle
   generalize au A0 (iH k (e.L.take i))=A at hn hI hA ⊢
   have fy:=ih y hym (by omega) A (by omega)
   generalize au A (dm k y)=A3 at hn fy hA
   have fz:=bC fy
   simp at fz
   simp[hi,aj,hrow]
   refine bn [.gone] jw fz ?_
   simp[hwi]
   exact hn _ (by simp) (by omega)
  ·intro hI q hx hr
   rw[List.take_length]
   generalize au A0 (iH k e.L)=A at hx hr ⊢
   simp
   refine hx _ _ ?_
   simp
set_option maxHeartbeats 8000000
def iC (k:Int) (x:Stmt):List Nm:=dm k x.At++(dm k x.E++(dm k x.Lo++dm k x.Hi))
theorem IB (k:Int) (x:Stmt):(iC k x).length≤Dn x:=by
 have h1:=dU k x.At
 have h2:=dU k x.E
 have h3:=dU k x.Lo
 have h4:=dU k x.Hi
 unfold iC Dn
 simp only[List.length_append];omega
theorem IL (k:Int) (x:Stmt) (n:Nm):n∈iC k x↔n∈oP k x:=by
 unfold iC oP
 simp only[List.mem_append,Yb]
theorem afs {k:Int} {l:List Stmt} {i:Nat} {y:Stmt} (h:l[i]?=some y) (o:List Nm) :
  au o (colS (iC k) (l.take (i+1)))=au (au (au (au (au (au o (colS (iC k) (l.take i))) (dm k y.At)) (dm k y.E)) (dm k y.Lo)) (dm k y.Hi)) (colS (iC k) y.Body):=by
 rw[Il (iC k) h]
 simp only[iC,bK]
theorem afq {l:List Stmt} {i:Nat} {y:Stmt} (h:l[i]?=some y) (hl:l.length+(l.map Stmt.tot).sum≤5000000):y.At.tot+y.E.tot+y.Lo.tot+y.Hi.tot+(y.Body.length+(y.Body.map Stmt.tot).sum)≤y.tot∧y.tot≤5000000:=by
 have:=az Stmt.tot (List.mem_of_getElem? h)
 have:=y.tot_eq
 omega
theorem NK (k:Int) (l:List Stmt) (hl:l.length+(l.map Stmt.tot).sum≤5000000) (hrec:∀ x∈l,∀ o:List Nm,o.length+(x.Body.map fun x=>4+5*x.tot).sum≤40000000→Says prog 113 [.osl 0 9 o.length (Ows (o.flatMap bG)),.rsl x.Body.length (Cs (x.Body.flatMap Stmt.d)),.int .i64 k] (.osl 0 9 (au o (colS (iC k) x.Body)).length (Ows ((au o (colS (iC k) x.Body)).flatMap bG))) [])
  (o:List Nm) (ho:o.length+(l.map fun x=>4+5*x.tot).sum≤40000000):Says prog 113 [.osl 0 9 o.length (Ows (o.flatMap bG)),.rsl l.length (Cs (l.flatMap Stmt.d)),.int .i64 k] (.osl 0 9 (au o (colS (iC k) l)).length (Ows ((au o (colS (iC k) l)).flatMap bG))) []:=by
 refine aP Go.Proofs.Tryz.func113 afM ?_
 simp[aCN,aDn]
 refine aZ (l:=MC) (b:=MQ) rfl [5] (fun i=>[(0,.osl 0 9 (au o (colS (iC k) (l.take i))).length (Ows ((au o (colS (iC k) (l.take i))).flatMap bG))),(4,.int .i64 i)]) (fun i=>(au o (colS (iC k) (l.take i))).length≤o.length+((l.take i).map fun x=>4+5*x.tot).sum) l.length (by simp[colS,au]) (by simp[colS,au]) ?_ ?_
 ·intro i hi hI q hn hx hr
  obtain⟨y,hy0⟩:=ax hi
  have hrow:=row_drop Stmt.d 19 Stmt.d_len hy0
  have hwi:=wrap_succ (i:=i) (by omega)
  have hym:=List.mem_of_getElem? hy0
  have hs:=bQ (fun x:Stmt=>4+5*x.tot) hy0
  have hle:=AM.sum_take_le (fun x:Stmt=>4+5*x.tot) l (i+1)
  have hw1:=nC y
  obtain⟨hq,hq2⟩:=afq hy0 hl
  have hcl:=rQ (f:=iC k) (w:=Dn) (fun x=>IB k x) nC y.Body
  rw[afs hy0] at hn
  rw[hs] at hn hle
  unfold Dn at hw1
  generalize au o (colS (iC k) (l.take i))=A0 at hn hI ⊢
  have l1:=cO (dm k y.At) A0
  have l2:=cO (dm k y.E) (au A0 (dm k y.At))
  have l3:=cO (dm k y.Lo) (au (au A0 (dm k y.At)) (dm k y.E))
  have l4:=cO (dm k y.Hi) (au (au (au A0 (dm k y.At)) (dm k y.E)) (dm k y.Lo))
  have l5:=cO (colS (iC k) y.Body) (au (au (au (au A0 (dm k y.At)) (dm k y.E)) (dm k y.Lo)) (dm k y.Hi))
  have p1:=dU k y.At
  have p2:=dU k y.E
  have p3:=dU k y.Lo
  have p4:=dU k y.Hi
  have f1:=bC (fU k y.At (by omega) A0 (by omega))
  generalize au A0 (dm k y.At)=A1 at hn l1 l2 l3 l4 l5 f1 ⊢
  have f2:=bC (fU k y.E (by omega) A1 (by omega))
  generalize au A1 (dm k y.E)=A2 at hn l2 l3 l4 l5 f2 ⊢
  have f3:=bC (fU k y.Lo (by omega) A2 (by omega))
  generalize au A2 (dm k y.Lo)=A3 at hn l3 l4 l5 f3 ⊢
  have f4:=bC (fU k y.Hi (by omega) A3 (by omega))
  generalize au A3 (dm k y.Hi)=A4 at hn l4 l5 f4 ⊢
  have f5:=bC (hrec y hym A4 (by omega))
  generalize au A4 (colS (iC k) y.Body)=A5 at hn l5 f5 ⊢
  simp at f1 f2 f3 f4 f5
  simp[hi,aj,hrow]
  refine bn [.gone] jw f1 ?_
  simp[hi,aj,hrow]
  refine bn [.gone] jw f2 ?_
  simp[hi,aj,hrow]
  refine bn [.gone] jw f3 ?_
  simp[hi,aj,hrow]
  refine bn [.gone] jw f4 ?_
  simp[hi,aj,hrow]
  refine bn [.gone] tC f5 ?_
  simp[hwi]
  exact hn _ (by simp) (by omega)
 ·intro hI q hx hr
  rw[List.take_length]
  generalize au o (colS (iC k) l)=A at hx hr ⊢
  simp
  refine hx _ _ ?_
  simp
theorem y5 (k:Int):∀ x:Stmt,x.tot≤5000000→∀ o:List Nm,o.length+(x.Body.map fun x=>4+5*x.tot).sum≤40000000→Says prog 113 [.osl 0 9 o.length (Ows (o.flatMap bG)),.rsl x.Body.length (Cs (x.Body.flatMap Stmt.d)),.int .i64 k] (.osl 0 9 (au o (colS (iC k) x.Body)).length (Ows ((au o (colS (iC k) x.Body)).flatMap bG))) []:=Stmt.ind fun x ih hx o ho=>by
 have ht:=x.tot_eq
 exact NK k x.Body (by omega) (fun y hy=>ih y hy (by have:=az Stmt.tot hy;omega)) o ho
theorem PH (k:Int) (l:List Stmt) (hl:l.length+(l.map Stmt.tot).sum≤5000000):Says prog 113 [.osl 0 9 0 [],.rsl l.length (Cs (l.flatMap Stmt.d)),.int .i64 k] (.osl 0 9 (nrm (colS (iC k) l)).length (Ows ((nrm (colS (iC k) l)).flatMap bG))) []:=by
 have:=NK k l hl (fun x hx o ho=>y5 k x (by have:=az Stmt.tot hx;omega) o ho) [] (by rw[AU];simp;omega)
 simpa [nrm] using this
def sN (A:List Nm):AV:=if A=[] then .rsl 0 [] else .osl 0 9 A.length (Ows (A.flatMap bG))
theorem gJ:sN []=.rsl 0 []:=rfl
theorem iG {A:List Nm} (h:A≠[]):sN A=.osl 0 9 A.length (Ows (A.flatMap bG)):=if_neg h
theorem SL (l:List Nm) (s:Nm):put l s≠[]:=by
 unfold put
 cases l with
 | nil=>simp[jf]
 | cons x xs =>
  by_cases h1:x<s
  ·have h2:¬x=s:=fun e=>List.lt_irrefl _ (e▸h1)
   simp[jf,h1,h2]
  ·simp[jf,h1]
theorem dF:∀ (r:List Nm) {A:List Nm},A≠[]→au A r≠[]
 | [],A,h=>by simpa [au] using h
 | s::r,A,_=>by
  show au (put A s) r≠[]
  exact dF r (SL A s)
theorem agc (k:Int):∀ e:Exp,e.tot≤5000000→Says prog 186 [.rsl 0 [],.agg (Cs e.d),.int .i64 k] (sN (au [] (dm k e))) []:=Exp.ind fun e ih he=>by
 have ht:=e.tot_eq
 have fP:=rJ [] e.S (by simp)
 refine aP Go.Proofs.Tryz.func186 afJ ?_
 rw[zG,bK]
 simp at fP
 by_cases c:e.K=k
 ·rw[sD,if_pos c]
  simp[XB,XW,c]
  refine ai fP ?_
  simp
  have hne:=SL [] e.S
  have hl0:=wR [] e.S
  generalize put [] e.S=A0 at hl0 hne ⊢
  simp at hl0
  refine aZ (l:=CY) (b:=Dl) rfl [7] (fun i=>[(0,sN (au A0 (iH k (e.L.take i)))),(6,.int .i64 i)]) (fun i=>(au A0 (iH k (e.L.take i))).length≤A0.length+(i+((e.L.take i).map Exp.tot).sum)) e.L.length (by simp[iH,au]) (by simp[iH,au,iG hne]) ?_ ?_
  ·intro i hi hI q hn hx hr
   obtain⟨y,hy0⟩:=ax hi
   have hrow:=row_drop Exp.d 4 Exp.d_len hy0
   have hwi:=wrap_succ (i:=i) (by omega)
   have hym:=List.mem_of_getElem? hy0
   have hs:=bQ Exp.tot hy0
   have hle:=AM.sum_take_le Exp.tot e.L (i+1)
   have ht1:=ww k hy0
   have hpl:=dU k y
   have hA:=cO (dm k y) (au A0 (iH k (e.L.take i)))
   rw[ht1,bK] at hn
   rw[hs] at hn hle
   generalize au A0 (iH k (e.L.take i))=A at hn hI hA ⊢
   by_cases c:A=[]
   ·subst c
    have fz:=ih y hym (by omega)
    have h3:(au [] (dm k y)).length≤0+(1+y.tot):=by have:=dU k y;simp at hA;omega
    generalize au [] (dm k y)=A3 at hn fz hA h3
    simp at fz
    rw[gJ]
    simp[hi,aj,hrow]
    refine bn [] jw fz ?_
    by_cases c3:A3=[]
    ·subst c3
     simp[gJ,hwi]
     exact hn _ (by simp[gJ]) (by simp)
    ·simp[iG c3,hwi]
     exact hn _ (by simp[iG c3]) (by simp at hI hA;omega)
   ·have fy:=bC (fU k y (by omega) A (by omega))
    have hne:=dF (dm k y) c
    generalize au A (dm k y)=A3 at hn fy hA hne
    simp at fy
    rw[iG c]
    simp[hi,aj,hrow]
    refine bn [.gone] jw fy ?_
    simp[hwi]
    exact hn _ (by simp[iG hne]) (by omega)
  ·intro hI q hx hr
   rw[List.take_length]
   generalize au A0 (iH k e.L)=A at hx hr ⊢
   by_cases c:A=[]
   ·subst c
    simp[gJ]
    refine hx _ _ ?_
    simp[gJ]
   ·simp[iG c]
    refine hx _ _ ?_
    simp[iG c]
 ·rw[sD,if_neg c]
  simp[XB,XW,c]
  have hA0:∃ A0:List Nm,A0=[]:=⟨_,rfl⟩
  obtain⟨A0,hA0⟩:=hA0
  have hl0:A0.length≤1:=by simp[hA0]
  rw[←hA0]
  refine aZ (l:=CY) (b:=Dl) rfl [7] (fun i=>[(0,sN (au A0 (iH k (e.L.take i)))),(6,.int .i64 i)]) (fun i=>(au A0 (iH k (e.L.take i))).length≤A0.length+(i+((e.L.take i).map Exp.tot).sum)) e.L.length (by simp[iH,au]) (by simp[iH,au,hA0,gJ]) ?_ ?_
  ·intro i hi hI q hn hx hr
   obtain⟨y,hy0⟩:=ax hi
   have hrow:=row_drop Exp.d 4 Exp.d_len hy0
   have hwi:=wrap_succ (i:=i) (by omega)
   have hym:=List.mem_of_getElem? hy0
   have hs:=bQ Exp.tot hy0
   have hle:=AM.sum_take_le Exp.tot e.L (i+1)
   have ht1:=ww k hy0
   have hpl:=dU k y
   have hA:=cO (dm k y) (au A0 (iH k (e.L.take i)))
   rw[ht1,bK] at hn
   rw[hs] at hn hle
   generalize au A0 (iH k (e.L.take i))=A at hn hI hA ⊢
   by_cases c:A=[]
   ·subst c
    have fz:=ih y hym (by omega)
    have h3:(au [] (dm k y)).length≤0+(1+y.tot):=by have:=dU k y;simp at hA;omega
    generalize au [] (dm k y)=A3 at hn fz hA h3
    simp at fz
    rw[gJ]
    simp[hi,aj,hrow]
    refine bn [] jw fz ?_
    by_cases c3:A3=[]
    ·subst c3
     simp[gJ,hwi]
     exact hn _ (by simp[gJ]) (by simp)
    ·simp[iG c3,hwi]
     exact hn _ (by simp[iG c3]) (by simp at hI hA;omega)
   ·have fy:=bC (fU k y (by omega) A (by omega))
    have hne:=dF (dm k y) c
    generalize au A (dm k y)=A3 at hn fy hA hne
    simp at fy
    rw[iG c]
    simp[hi,aj,hrow]
    refine bn [.gone] jw fy ?_
    simp[hwi]
    exact hn _ (by simp[iG hne]) (by omega)
  ·intro hI q hx hr
   rw[List.take_length]
   generalize au A0 (iH k e.L)=A at hx hr ⊢
   by_cases c:A=[]
   ·subst c
    simp[gJ]
    refine hx _ _ ?_
    simp[gJ]
   ·simp[iG c]
    refine hx _ _ ?_
    simp[iG c]
theorem U6 (k:Int) (l:List Stmt) (hl:l.length+(l.map Stmt.tot).sum≤5000000) (hrec:∀ x∈l,Says prog 113 [.rsl 0 [],.rsl x.Body.length (Cs (x.Body.flatMap Stmt.d)),.int .i64 k] (sN (au [] (colS (iC k) x.Body))) []) :
  Says prog 113 [.rsl 0 [],.rsl l.length (Cs (l.flatMap Stmt.d)),.int .i64 k] (sN (au [] (colS (iC k) l))) []:=by
 refine aP Go.Proofs.Tryz.func113 afM ?_
 simp[aCN,aDn]
 refine aZ (l:=MC) (b:=MQ) rfl [5] (fun i=>[(0,sN (au [] (colS (iC k) (l.take i)))),(4,.int .i64 i)]) (fun i=>(au [] (colS (iC k) (l.take i))).length≤((l.take i).map fun x=>4+5*x.tot).sum) l.length (by simp[colS,au]) (by simp[colS,au,gJ]) ?_ ?_
 ·intro i hi hI q hn hx hr
  obtain⟨y,hy0⟩:=ax hi
  have hrow:=row_drop Stmt.d 19 Stmt.d_len hy0
  have hwi:=wrap_succ (i:=i) (by omega)
  have hym:=List.mem_of_getElem? hy0
  have hs:=bQ (fun x:Stmt=>4+5*x.tot) hy0
  have hle:=AM.sum_take_le (fun x:Stmt=>4+5*x.tot) l (i+1)
  have hmax:((l.map fun x:Stmt=>4+5*x.tot)).sum≤25000000:=by rw[AU];omega
  have hw1:=nC y
  obtain⟨hq,hq2⟩:=afq hy0 hl
  have hcl:=rQ (f:=iC k) (w:=Dn) (fun x=>IB k x) nC y.Body
  rw[afs hy0] at hn
  rw[hs] at hn hle
  unfold Dn at hw1
  generalize au [] (colS (iC k) (l.take i))=A0 at hn hI ⊢
  have l1:=cO (dm k y.At) A0
  have l2:=cO (dm k y.E) (au A0 (dm k y.At))
  have l3:=cO (dm k y.Lo) (au (au A0 (dm k y.At)) (dm k y.E))
  have l4:=cO (dm k y.Hi) (au (au (au A0 (dm k y.At)) (dm k y.E)) (dm k y.Lo))
  have l5:=cO (colS (iC k) y.Body) (au (au (au (au A0 (dm k y.At)) (dm k y.E)) (dm k y.Lo)) (dm k y.Hi))
  have p1:=dU k y.At
  have p2:=dU k y.E
  have p3:=dU k y.Lo
  have p4:=dU k y.Hi
  by_cases n0:A0=[]
  ·subst n0
   rw[gJ]
   have f1:=agc k y.At (by omega)
   generalize au [] (dm k y.At)=A1 at *
   try simp at f1
   simp[hi,aj,hrow]
   refine bn [] jw f1 ?_
   by_cases n1:A1=[]
   ·subst n1
    rw[gJ]
    have f2:=agc k y.E (by omega)
    generalize au [] (dm k y.E)=A2 at *
    try simp at f2
    simp[hi,aj,hrow]
    refine bn [] jw f2 ?_
    by_cases n2:A2=[]
    ·subst n2
     rw[gJ]
     have f3:=agc k y.Lo (by omega)
     generalize au [] (dm k y.Lo)=A3 at *
     try simp at f3
     simp[hi,aj,hrow]
     refine bn [] jw f3 ?_
     by_cases n3:A3=[]
     ·subst n3
      rw[gJ]
      have f4:=agc k y.Hi (by omega)
      generalize au [] (dm k y.Hi)=A4 at *
      try simp at f4
      simp[hi,aj,hrow]
      refine bn [] jw f4 ?_
      by_cases n4:A4=[]
      ·subst n4
       rw[gJ]
       have f5:=hrec y hym
       generalize au [] (colS (iC k) y.Body)=A5 at *
       try simp at f5
       simp[hi,aj,hrow]
       refine bn [] tC f5 ?_
       by_cases n5:A5=[]
       ·subst n5
        rw[gJ]
        simp[gJ,hwi]
        exact hn _ (by simp[gJ]) (by simp)
       ·rw[iG n5]
        simp[hwi]
        exact hn _ (by simp[iG n5]) (by simp at *;omega)
      ·rw[iG n4]
       have f5:=bC (y5 k y (by omega) A4 (by simp at *;omega))
       have n5:=dF (colS (iC k) y.Body) n4
       generalize au A4 (colS (iC k) y.Body)=A5 at *
       try simp at f5
       simp[hi,aj,hrow]
       refine bn [.gone] tC f5 ?_
       simp[hwi]
       exact hn _ (by simp[iG n5]) (by simp at *;omega)
     ·rw[iG n3]
      have f4:=bC (fU k y.Hi (by omega) A3 (by omega))
      have n4:=dF (dm k y.Hi) n3
      generalize au A3 (dm k y.Hi)=A4 at *
      try simp at f4
      simp[hi,aj,hrow]
      refine bn [.gone] jw f4 ?_
      have f5:=bC (y5 k y (by omega) A4 (by simp at *;omega))
      have n5:=dF (colS (iC k) y.Body) n4
      generalize au A4 (colS (iC k) y.Body)=A5 at *
      try simp at f5
      simp[hi,aj,hrow]
      refine bn [.gone] tC f5 ?_
      simp[hwi]
      exact hn _ (by simp[iG n5]) (by simp at *;omega)
    ·rw[iG n2]
     have f3:=bC (fU k y.Lo (by omega) A2 (by omega))
     have n3:=dF (dm k y.Lo) n2
     generalize au A2 (dm k y.Lo)=A3 at *
     try simp at f3
     simp[hi,aj,hrow]
     refine bn [.gone] jw f3 ?_
     have f4:=bC (fU k y.Hi (by omega) A3 (by omega))
     have n4:=dF (dm k y.Hi) n3
     generalize au A3 (dm k y.Hi)=A4 at *
     try simp at f4
     simp[hi,aj,hrow]
     refine bn [.gone] jw f4 ?_
     have f5:=bC (y5 k y (by omega) A4 (by simp at *;omega))
     have n5:=dF (colS (iC k) y.Body) n4
     generalize au A4 (colS (iC k) y.Body)=A5 at *
     try simp at f5
     simp[hi,aj,hrow]
     refine bn [.gone] tC f5 ?_
     simp[hwi]
     exact hn _ (by simp[iG n5]) (by simp at *;omega)
   ·rw[iG n1]
    have f2:=bC (fU k y.E (by omega) A1 (by omega))
    have n2:=dF (dm k y.E) n1
    generalize au A1 (dm k y.E)=A2 at *
    try simp at f2
    simp[hi,aj,hrow]
    refine bn [.gone] jw f2 ?_
    have f3:=bC (fU k y.Lo (by omega) A2 (by omega))
    have n3:=dF (dm k y.Lo) n2
    generalize au A2 (dm k y.Lo)=A3 at *
    try simp at f3
    simp[hi,aj,hrow]
    refine bn [.gone] jw f3 ?_
    have f4:=bC (fU k y.Hi (by omega) A3 (by omega))
    have n4:=dF (dm k y.Hi) n3
    generalize au A3 (dm k y.Hi)=A4 at *
    try simp at f4
    simp[hi,aj,hrow]
    refine bn [.gone] jw f4 ?_
    have f5:=bC (y5 k y (by omega) A4 (by simp at *;omega))
    have n5:=dF (colS (iC k) y.Body) n4
    generalize au A4 (colS (iC k) y.Body)=A5 at *
    try simp at f5
    simp[hi,aj,hrow]
    refine bn [.gone] tC f5 ?_
    simp[hwi]
    exact hn _ (by simp[iG n5]) (by simp at *;omega)
  ·rw[iG n0]
   have f1:=bC (fU k y.At (by omega) A0 (by omega))
   have n1:=dF (dm k y.At) n0
   generalize au A0 (dm k y.At)=A1 at *
   try simp at f1
   simp[hi,aj,hrow]
   refine bn [.gone] jw f1 ?_
   have f2:=bC (fU k y.E (by omega) A1 (by omega))
   have n2:=dF (dm k y.E) n1
   generalize au A1 (dm k y.E)=A2 at *
   try simp at f2
   simp[hi,aj,hrow]
   refine bn [.gone] jw f2 ?_
   have f3:=bC (fU k y.Lo (by omega) A2 (by omega))
   have n3:=dF (dm k y.Lo) n2
   generalize au A2 (dm k y.Lo)=A3 at *
   try simp at f3
   simp[hi,aj,hrow]
   refine bn [.gone] jw f3 ?_
   have f4:=bC (fU k y.Hi (by omega) A3 (by omega))
   have n4:=dF (dm k y.Hi) n3
   generalize au A3 (dm k y.Hi)=A4 at *
   try simp at f4
   simp[hi,aj,hrow]
   refine bn [.gone] jw f4 ?_
   have f5:=bC (y5 k y (by omega) A4 (by simp at *;omega))
   have n5:=dF (colS (iC k) y.Body) n4
   generalize au A4 (colS (iC k) y.Body)=A5 at *
   try simp at f5
   simp[hi,aj,hrow]
   refine bn [.gone] tC f5 ?_
   simp[hwi]
   exact hn _ (by simp[iG n5]) (by simp at *;omega)
 ·intro hI q hx hr
  rw[List.take_length]
  generalize au [] (colS (iC k) l)=A at hx hr ⊢
  by_cases c:A=[]
  ·subst c
   simp[gJ]
   refine hx _ _ ?_
   simp[gJ]
  ·simp[iG c]
   refine hx _ _ ?_
   simp[iG c]
theorem aG1 (k:Int):∀ x:Stmt,x.tot≤5000000→Says prog 113 [.rsl 0 [],.rsl x.Body.length (Cs (x.Body.flatMap Stmt.d)),.int .i64 k] (sN (au [] (colS (iC k) x.Body))) []:=Stmt.ind fun x ih hx=>by
 have ht:=x.tot_eq
 exact U6 k x.Body (by omega) (fun y hy=>ih y hy (by have:=az Stmt.tot hy;omega))
theorem KO (k:Int) (l:List Stmt) (hl:l.length+(l.map Stmt.tot).sum≤5000000):Says prog 113 [.rsl 0 [],.rsl l.length (Cs (l.flatMap Stmt.d)),.int .i64 k] (sN (nrm (colS (iC k) l))) [] :=
 U6 k l hl fun x hx=>aG1 k x (by have:=az Stmt.tot hx;omega)
end Go.AmC
