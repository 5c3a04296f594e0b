import Derived.Test.YtafglhcclmbnbaaGreatLocksLt
import Derived.Test.YtafglhcclmbnbaaGreatLocksVarsS
import Derived.Test.YtafglhcclmbnbaaGreatLocksArrI
import Derived.Test.YtafglhcclmbnbaaGreatAmGrow
import Derived.Test.YtafglhcclmbnbaaGreatLocksMachD
set_option linter.unusedSimpArgs false
set_option linter.unusedVariables false
set_option maxRecDepth 20000
set_option maxHeartbeats 8000000
namespace Go.AmC
open Go Go.AM
open Go.Proofs.Tryz (prog)
def oL (p:Option (List UInt8)):List Arr→Bool
 | []=>true
 | a::l=>ja a.Name&&((decide (1≤a.Size)&&decide (a.Size≤16))&&(ltO p a.Name&&oL (some a.Name) l))
theorem FX {p:Option (List UInt8)} {a:Arr} {l:List Arr}:oL p (a::l)=(ja a.Name&&((decide (1≤a.Size)&&decide (a.Size≤16))&&(ltO p a.Name&&oL (some a.Name) l))):=by rw[oL]
def uT (l:List Arr) (i:Nat):Option (List UInt8):=if i=0 then none else (l[i-1]?).map (·.Name)
theorem uS {l:List Arr} {i:Nat} {a:Arr} (h:l[i]?=some a):uT l (i+1)=some a.Name:=by simp[uT,h]
theorem FW {l:List Arr} {i:Nat} {a:Arr} (h:l[i]?=some a) {b:Bool} (hI:oL (uT l i) (l.drop i)=b) :
  (ja a.Name&&((decide (1≤a.Size)&&decide (a.Size≤16))&&(ltO (uT l i) a.Name&&oL (uT l (i+1)) (l.drop (i+1)))))=b:=by
 rw[drop_cons h,FX] at hI
 rw[uS h];exact hI
def EO (l:List Arr):Bool:=oL none l&&decide (l.length≤4)
theorem Lh (l:List Arr) (hl:l.length+(l.map Arr.tot).sum≤5000000):Says prog 124 [.rsl l.length (Cs (l.flatMap Arr.d))] (.bool (EO l)) []:=by
 refine dD Go.Proofs.Tryz.func124 awV ?_
 generalize hR:EO l=R0
 unfold EO at hR
 generalize hR2:oL none l=R2 at hR
 simp[v124,aFN]
 refine eY (l:=PX) (b:=QZ) rfl [6,7,8] (fun i=>[(4,.int .i64 i)]) (fun i=>oL (uT l i) (l.drop i)=R2) l.length (by simpa [uT] using hR2) (by simp) ?_ ?_
 ·intro i hi hI q hn hx hr
  obtain⟨y,hy0⟩:=cu hi
  have hrow:=row_drop Arr.d 2 Arr.d_len hy0
  have hw:=wrap_succ (i:=i) (by omega)
  have hI2:=FW hy0 hI
  have fN:=zN y.Name (by have:=dV Arr.tot (List.mem_of_getElem? hy0);rw[Arr.tot_eq] at this;omega)
  have fK:=iE y.Size 1 16
  have bad:R2=false→R0=false:=fun h=>by rw[←hR,h];rfl
  cases c1:ja y.Name
  ·rw[c1] at fN hI2
   simp[hi,aT,hrow,splice]
   refine bZ fN ?_
   simp
   refine hr _ ?_
   simp at hI2
   simp[bad hI2]
  rw[c1] at fN hI2
  cases c3:(decide (1≤y.Size)&&decide (y.Size≤16))
  ·rw[c3] at fK hI2
   simp at hI2
   simp[hi,aT,hrow,splice]
   refine bZ fN ?_
   simp
   refine bZ fK ?_
   simp
   refine hr _ ?_
   simp[bad hI2]
  rw[c3] at fK hI2
  simp only[Bool.true_and] at hI2
  simp[hi,aT,hrow,splice]
  refine bZ fN ?_
  simp
  refine bZ fK ?_
  cases i with
  | zero =>
   have hw1:IntKind.i64.wrap 1=1:=by decide
   simp[hw1]
   exact hn _ (by simp) (by simpa [uT,ltO] using hI2)
  | succ j =>
   obtain⟨z,hz0⟩:=cu (xs:=l) (i:=j) (by omega)
   have hrow2:=row_drop Arr.d 2 Arr.d_len hz0
   have hwj:IntKind.i64.wrap ((j:Int)+1-1)=(j:Int):=by rw[bJ]<;>omega
   have hwj2:IntKind.i64.wrap (j:Int)=(j:Int):=by rw[bJ]<;>omega
   have hj:(0:Int)<(j:Int)+1:=by omega
   have hj2:j<l.length:=by omega
   have hw3:IntKind.i64.wrap ((j:Int)+1+1)=(j:Int)+1+1:=by rw[bJ]<;>omega
   rw[uS hz0] at hI2
   by_cases c4:z.Name<y.Name
   ·simp[hi,hj,hj2,hwj,hwj2,aT,hrow,hrow2,EN,EM,c4,hw3]
    exact hn _ (by simp) (by simpa [c4,ltO] using hI2)
   ·simp[hi,hj,hj2,hwj,hwj2,aT,hrow,hrow2,EN,EM,c4,hw3]
    refine hr _ ?_
    simp[c4,ltO] at hI2
    simp[bad hI2]
 ·intro hI q hx hr
  simp[oL] at hI
  simp
  refine hx _ _ ?_
  have e:decide ((l.length:Int)≤4)=decide (l.length≤4):=decide_eq_decide.2 (by omega)
  simp[←hR,←hI,e]
def headB (p:Prog):Bool:=oL none p.Arrs&&(p.Body.all Bz&&(decide (p.Arrs.length≤4)&&(decide (p.Body.length≤12)&&decide ((p.Body.map szS).sum≤40))))
theorem KE (p:Prog) (hp:p.tot≤5000000):Says prog 108 [.agg (Cs p.d)] (.bool (headB p)) []:=by
 have ht:=p.tot_eq
 have fS:=J5 p.Body (by omega)
 refine dD Go.Proofs.Tryz.func108 aw4 ?_
 generalize hR:headB p=R0
 unfold headB at hR
 generalize hR2:oL none p.Arrs=R2 at hR
 simp[aEv,aFW]
 refine eY (l:=P7) (b:=Q8) rfl [4,5] (fun i=>[(3,.int .i64 i)]) (fun i=>oL (uT p.Arrs i) (p.Arrs.drop i)=R2) p.Arrs.length (by simpa [uT] using hR2) (by simp) ?_ ?_
 ·intro i hi hI q hn hx hr
  obtain⟨y,hy0⟩:=cu hi
  have hrow:=row_drop Arr.d 2 Arr.d_len hy0
  have hw:=wrap_succ (i:=i) (by omega)
  have hI2:=FW hy0 hI
  have fN:=zM y.Name (by have:=dV Arr.tot (List.mem_of_getElem? hy0);rw[Arr.tot_eq] at this;omega)
  have fK:=iy y.Size 1 16
  have bad:R2=false→R0=false:=fun h=>by rw[←hR,h];rfl
  cases c1:ja y.Name
  ·rw[c1] at fN hI2
   simp[hi,aT,hrow,splice]
   refine bZ fN ?_
   simp
   refine hr _ ?_
   simp at hI2
   simp[bad hI2]
  rw[c1] at fN hI2
  cases c3:(decide (1≤y.Size)&&decide (y.Size≤16))
  ·rw[c3] at fK hI2
   simp at hI2
   simp[hi,aT,hrow,splice]
   refine bZ fN ?_
   simp[hi,aT,hrow]
   refine bZ fK ?_
   simp
   refine hr _ ?_
   simp[bad hI2]
  rw[c3] at fK hI2
  simp only[Bool.true_and] at hI2
  simp[hi,aT,hrow,splice]
  refine bZ fN ?_
  simp[hi,aT,hrow]
  refine bZ fK ?_
  cases i with
  | zero =>
   have hw1:IntKind.i64.wrap 1=1:=by decide
   simp[hw1]
   exact hn _ (by simp) (by simpa [uT,ltO] using hI2)
  | succ j =>
   obtain⟨z,hz0⟩:=cu (xs:=p.Arrs) (i:=j) (by omega)
   have hrow2:=row_drop Arr.d 2 Arr.d_len hz0
   have hwj:IntKind.i64.wrap ((j:Int)+1-1)=(j:Int):=by rw[bJ]<;>omega
   have hwj2:IntKind.i64.wrap (j:Int)=(j:Int):=by rw[bJ]<;>omega
   have hj:(0:Int)<(j:Int)+1:=by omega
   have hj2:j<p.Arrs.length:=by omega
   have hj3:(0:Int)≤(j:Int)+1:=by omega
   have hj4:(j:Int)+1<(p.Arrs.length:Int):=by omega
   have hw3:IntKind.i64.wrap ((j:Int)+1+1)=(j:Int)+1+1:=by rw[bJ]<;>omega
   rw[uS hz0] at hI2
   by_cases c4:z.Name<y.Name
   ·simp[hi,hj,hj2,hj3,hj4,hwj,hwj2,aT,hrow,hrow2,EN,EM,c4,hw3]
    exact hn _ (by simp) (by simpa [c4,ltO] using hI2)
   ·simp[hi,hj,hj2,hj3,hj4,hwj,hwj2,aT,hrow,hrow2,EN,EM,c4,hw3]
    refine hr _ ?_
    simp[c4,ltO] at hI2
    simp[bad hI2]
 ·intro hI q hx hr
  simp[oL] at hI
  subst hI
  simp
  refine hx _ _ ?_
  simp
  refine eY (l:=P8) (b:=Q9) rfl [7,8] (fun i=>[(6,.int .i64 i)]) (fun i=>(p.Body.take i).all Bz=true) p.Body.length (by simp) (by simp) ?_ ?_
  ·intro i hi hI q hn hx hr
   obtain⟨y,hy0⟩:=cu hi
   have hrow:=row_drop Stmt.d 19 Stmt.d_len hy0
   have hw:=wrap_succ (i:=i) (by omega)
   have hym:=List.mem_of_getElem? hy0
   have fy:=JZ y (by have:=dV Stmt.tot hym;omega)
   simp at fy
   cases hb:Bz y
   ·rw[hb] at fy
    simp[hi,aT,hrow]
    refine aX fy ?_
    simp
    refine hr _ ?_
    simp[←hR,kZ hy0 hb]
   ·rw[hb] at fy
    simp[hi,aT,hrow]
    refine aX fy ?_
    simp[hw]
    exact hn _ (by simp) (jR hI hy0 hb)
  ·intro hI q hx hr
   rw[List.take_length] at hI
   simp
   refine hx _ _ ?_
   simp only[hI,Bool.true_and] at hR
   generalize (p.Body.map szS).sum=z at fS hR
   have e:decide ((z:Int)≤40)=decide (z≤40):=decide_eq_decide.2 (by omega)
   by_cases c1:p.Arrs.length≤4
   ·have c1':(p.Arrs.length:Int)≤4:=by omega
    by_cases c2:p.Body.length≤12
    ·have c2':(p.Body.length:Int)≤12:=by omega
     simp[c1,c2] at hR
     simp[c1,c2,c1',c2']
     refine aX fS ?_
     simp[e,←hR]
    ·have c2':¬(p.Body.length:Int)≤12:=by omega
     simp[c1,c2] at hR
     subst hR
     simp[c1,c2,c1',c2']
   ·have c1':¬(p.Arrs.length:Int)≤4:=by omega
    simp[c1] at hR
    subst hR
    simp[c1,c1']
def kJ (p:Prog) (l:List Nm):Bool:=l.all fun n=>decide (n∈dw p.Arrs)
def apartB (a b:List Nm):Bool:=a.all fun n=>!decide (n∈b)
def okP (p:Prog):Bool:=headB p&&(kJ p (nD p.Body)&&(kJ p (oh p.Body)&&(apartB (dw p.Arrs) (varsOf p.Body)&&(apartB (dw p.Arrs) (dG p.Body)&&(apartB (dw p.Arrs) (jl p.Body)&&(apartB (varsOf p.Body) (dG p.Body)&&(kV [] p.Body&&decide ((varsOf p.Body).length≤6))))))))
theorem mD (k:Int) (l:List Stmt):(nrm (colS (ofK k) l)).length≤l.length+(l.map Stmt.tot).sum:=by
 have h1:=uh (colS (ofK k) l)
 have h2:=sH (f:=ofK k) (w:=fun _=>1) (fun x=>by unfold ofK;split<;>simp) (wt:=fun x=>1+x.tot) wt1 l
 rw[wP] at h2
 omega
theorem tH (k:Int) (l:List Stmt):(nrm (colS (pR k) l)).length≤4*l.length+5*(l.map Stmt.tot).sum:=by
 have h1:=uh (colS (pR k) l)
 have h2:=sH (f:=pR k) (w:=BL) (fun x=>by simpa [dW] using Ep k [] x) (wt:=fun x=>4+5*x.tot) oH l
 rw[Aq] at h2
 omega
theorem Oo (l:List Arr) (i:Nat) (y:Arr) (h:l[i]?=some y):dw (l.take (i+1))=dw (l.take i)++[y.Name]:=by
 rw[List.take_add_one,h];simp[dw]
theorem Eg (p:Prog) (hp:p.tot≤5000000):Says prog 51 [.agg (Cs p.d)] (.bool (okP p)) []:=by
 have ht:=p.tot_eq
 have hB:p.Body.length+(p.Body.map Stmt.tot).sum≤5000000:=by omega
 have fH:=KE p hp
 have fV:=rV p.Body hB
 have fL:=uq p.Body hB
 have fP:=dI (qw 2 p.Body hB)
 have fG:=Ie 3 p.Body hB
 rw[show nrm (colS (jk 3) p.Body)=oh p.Body from Js (Gj (FZ 3) p.Body)] at fG
 change Says prog _ _ (.osl 0 _ (nD p.Body).length (Ows ((nD p.Body).flatMap ed))) _ at fP
 have fA:=Iy p.Body hB
 have fN:=Kr p.Body hB
 have lV:=mD 1 p.Body
 have lL:=mD 3 p.Body
 have lP:=mD 2 p.Body
 have lG:=tH 3 p.Body
 have lA:=tH 2 p.Body
 change (varsOf p.Body).length≤_ at lV
 change (dG p.Body).length≤_ at lL
 change (nD p.Body).length≤_ at lP
 change (oh p.Body).length≤_ at lG
 change (jl p.Body).length≤_ at lA
 have gP:=DC p (nD p.Body) (by omega) (by omega)
 have gG:=DC p (oh p.Body) (by omega) (by omega)
 have lN:(dw p.Arrs).length=p.Arrs.length:=by simp[dw]
 have g1:=apart_spec (dw p.Arrs) (varsOf p.Body) (by omega) (by omega)
 have g2:=apart_spec (dw p.Arrs) (dG p.Body) (by omega) (by omega)
 have g3:=apart_spec (dw p.Arrs) (jl p.Body) (by omega) (by omega)
 have g4:=apart_spec (varsOf p.Body) (dG p.Body) (by omega) (by omega)
 refine dD Go.Proofs.Tryz.func51 aJA ?_
 generalize hR:okP p=R0
 unfold okP at hR
 change Says prog _ _ (.bool (kJ p (nD p.Body))) _ at gP
 change Says prog _ _ (.bool (kJ p (oh p.Body))) _ at gG
 change Says prog _ _ (.bool (apartB _ _)) _ at g1 g2 g3 g4
 generalize headB p=bH at hR fH
 generalize kJ p (nD p.Body)=b1 at hR gP
 generalize kJ p (oh p.Body)=b2 at hR gG
 generalize apartB (dw p.Arrs) (varsOf p.Body)=b3 at hR g1
 generalize apartB (dw p.Arrs) (dG p.Body)=b4 at hR g2
 generalize apartB (dw p.Arrs) (jl p.Body)=b5 at hR g3
 generalize apartB (varsOf p.Body) (dG p.Body)=b6 at hR g4
 generalize kV [] p.Body=b7 at hR fN
 generalize nD p.Body=xP at *
 generalize oh p.Body=xG at *
 generalize jl p.Body=xA at *
 generalize dG p.Body=xL at *
 generalize varsOf p.Body=xV at *
 have hb:p.Arrs.length+1≤bnd:=by unfold bnd;omega
 rw[lN] at g1 g2 g3
 simp at fH fV fL fP fG fA fN gP gG g1 g2 g3 g4
 simp[v51,r51,splice]
 refine aX fH ?_
 cases bH
 ·simp at hR
  subst hR
  simp
 simp
 refine eY (l:=ab6) (b:=acJ) rfl [6] (fun i=>[(4,.osl 0 9 i (Ows ((dw (p.Arrs.take i)).flatMap ed))),(5,.int .i64 i)]) (fun i=>True) p.Arrs.length trivial (by simp[dw]) ?_ ?_
 ·intro i hi hI q hn hx hr
  obtain⟨y,hy0⟩:=cu hi
  have hrow:=row_drop Arr.d 2 Arr.d_len hy0
  have hw:=wrap_succ (i:=i) (by omega)
  have e1:=Oo p.Arrs i y hy0
  have hb2:i+1≤bnd:=by omega
  simp[hi,aT,hrow,splice,hb2,hw]
  refine hn _ ?_ trivial
  simp[e1,List.flatMap_append]
 ·intro hI q hx hr
  rw[List.take_length]
  simp
  refine hx _ _ ?_
  simp
  refine aX fV ?_
  simp
  refine aX fL ?_
  simp
  refine eF [.gone 0] TB fP ?_
  simp[splice]
  generalize List.flatMap ed (dw p.Arrs)=AN at *
  refine bZ gP ?_
  cases b1
  ·simp at hR
   subst hR
   simp
  simp[splice]
  by_cases hx0:xG=[]
  ·subst hx0
   rw[iW] at fG
   simp at gG
   refine bZ fG ?_
   simp[splice]
   refine bZ gG ?_
   cases b2
   ·simp at hR
    subst hR
    simp
   simp[splice]
   refine bZ g1 ?_
   cases b3
   ·simp at hR
    subst hR
    simp
   simp[splice]
   refine bZ g2 ?_
   cases b4
   ·simp at hR
    subst hR
    simp
   simp[splice]
   refine bZ fA ?_
   simp[splice]
   refine bZ g3 ?_
   cases b5
   ·simp at hR
    subst hR
    simp
   simp[splice]
   refine bZ g4 ?_
   cases b6
   ·simp at hR
    subst hR
    simp
   simp[splice]
   refine bZ fN ?_
   cases b7
   ·simp at hR
    subst hR
    simp
   simp at hR
   by_cases c6:xV.length≤6
   ·simp[c6] at hR
    subst hR
    simp[c6]
    omega
   ·simp[c6] at hR
    subst hR
    simp[c6]
    omega
  ·rw[jo hx0] at fG
   refine bZ fG ?_
   simp[splice]
   refine bZ gG ?_
   cases b2
   ·simp at hR
    subst hR
    simp
   simp[splice]
   refine bZ g1 ?_
   cases b3
   ·simp at hR
    subst hR
    simp
   simp[splice]
   refine bZ g2 ?_
   cases b4
   ·simp at hR
    subst hR
    simp
   simp[splice]
   refine bZ fA ?_
   simp[splice]
   refine bZ g3 ?_
   cases b5
   ·simp at hR
    subst hR
    simp
   simp[splice]
   refine bZ g4 ?_
   cases b6
   ·simp at hR
    subst hR
    simp
   simp[splice]
   refine bZ fN ?_
   cases b7
   ·simp at hR
    subst hR
    simp
   simp at hR
   by_cases c6:xV.length≤6
   ·simp[c6] at hR
    subst hR
    simp[c6]
    omega
   ·simp[c6] at hR
    subst hR
    simp[c6]
    omega
set_option maxHeartbeats 4000000
theorem Aa (n:Nat) (hn:n≤1000000000):Says prog 265 [.nsl true,.int .i64 n] (.osl 0 9 0 []) [] :=
 KJ Go.Proofs.Tryz.growN (z:=.string ⟨#[]⟩) (size:=1) (bytes:=16) (by kernel_rfl) (by decide) (by decide) (by kernel_rfl) n (by omega) (by omega)
theorem Uu (a b c:List Nm) (h:a.length+(b.length+c.length)≤900000000) :
  Says prog 197 [.rsl 3 [.rsl a.length (Cs (a.flatMap ed)),.rsl b.length (Cs (b.flatMap ed)),.rsl c.length (Cs (c.flatMap ed))]]
   (.osl 0 9 (a.length+(b.length+c.length)) (Ows ((a++(b++c)).flatMap ed))) []:=by
 have f:=Aa (a.length+(b.length+c.length)) (by omega)
 have w1:IntKind.i64.wrap ((a.length:Int))=(a.length:Int):=by rw[bJ]<;>omega
 have w2:IntKind.i64.wrap ((a.length:Int)+b.length)=((a.length+b.length:Nat):Int):=by rw[bJ]<;>omega
 have w3:IntKind.i64.wrap ((a.length:Int)+b.length+c.length)=((a.length+(b.length+c.length):Nat):Int):=by rw[bJ]<;>omega
 have la:=lQ a
 have lb:=lQ b
 have lc:=lQ c
 have sa:=jH a
 have sb:=jH b
 have sc:=jH c
 have hb1:a.length≤bnd:=by unfold bnd;omega
 have hb2:a.length+b.length≤bnd:=by unfold bnd;omega
 have hb3:a.length+b.length+c.length≤bnd:=by unfold bnd;omega
 rw[List.flatMap_append,List.flatMap_append]
 generalize List.flatMap ed a=A at la sa ⊢
 generalize List.flatMap ed b=B at lb sb ⊢
 generalize List.flatMap ed c=C at lc sc ⊢
 generalize a.length=x at *
 generalize b.length=y at *
 generalize c.length=z at *
 simp at f
 have p0:0≤(x:Int)+y:=by omega
 have p1:0≤(x:Int)+(y+z):=by omega
 refine dD Go.Proofs.Tryz.func197 abG ?_
 simp[atv,atQ]
 refine eY (l:=IK) (b:=IQ) rfl [6,7,8] (fun i=>[(2,.int .i64 (if i=0 then 0 else if i=1 then (x:Int) else if i=2 then ((x+y:Nat):Int) else ((x+(y+z):Nat):Int))),(5,.int .i64 i)]) (fun i=>True) 3 trivial (by simp) ?_ ?_
 ·intro i hi hI q hn hx hr
  have hw:=wrap_succ (i:=i) (by omega)
  have hq:i=0∨i=1∨i=2:=by omega
  rcases hq with rfl|rfl|rfl
  all_goals
   simp at hw
   simp[w1,w2,w3,hw,p0,p1]
   refine hn _ ?_ trivial
   simp
 ·intro hI q hx hr
  simp
  refine hx _ _ ?_
  simp
  refine aX f ?_
  simp
  refine eY (l:=IL) (b:=IR) rfl [13,14] (fun i=>[(9,if i=0 then .osl 0 9 0 [] else if i=1 then .osl 0 9 x (Ows A) else if i=2 then .osl 0 9 (x+y) (Ows (A++B)) else .osl 0 9 (x+(y+z)) (Ows (A++(B++C)))),(12,.int .i64 i)]) (fun i=>True) 3 trivial (by simp) ?_ ?_
  ·intro i hi hI q hn hx hr
   have hw:=wrap_succ (i:=i) (by omega)
   have hq:i=0∨i=1∨i=2:=by omega
   rcases hq with rfl|rfl|rfl
   all_goals
    simp at hw
    simp[hw,ry,la,lb,lc,hb1,hb2,hb3]
    refine hn _ ?_ trivial
    simp[sa,sb,sc,Nat.add_assoc]
  ·intro hI q hx hr
   simp
   refine hx _ _ ?_
   simp
set_option maxHeartbeats 8000000
def oC (p:Prog) (l:List Nm):Bool:=l.any fun n=>decide (n∈dw p.Arrs)
def yO (p:Prog):Bool:=apartB (dG p.Body) (varsOf p.Body)&&(kJ p (oh p.Body)&&(kJ p (nD p.Body)&&(!oC p (varsOf p.Body++(dG p.Body++jl p.Body))&&(decide ((varsOf p.Body).length≤6)&&kV [] p.Body))))
theorem Ll {f:Nm→Bool} {l:List Nm} {i:Nat} {y:Nm} (hI:(l.take i).all f=true) (hy:l[i]?=some y) (hf:f y=true):(l.take (i+1)).all f=true:=by
 rw[List.take_add_one,hy];simp[hf];simpa using hI
theorem Ot {f:Nm→Bool} {l:List Nm} {i:Nat} {y:Nm} (hy:l[i]?=some y) (hf:f y=false):l.all f=false:=by
 rw[List.all_eq_false];exact⟨y,List.mem_of_getElem? hy,by simp[hf]⟩
theorem D6 (p:Prog) (hp:p.tot≤5000000):Says prog 126 [.agg (Cs p.d)] (.bool (yO p)) []:=by
 have ht:=p.tot_eq
 have hB:p.Body.length+(p.Body.map Stmt.tot).sum≤5000000:=by omega
 have fV:=xQ p.Body hB
 have fL:=ut p.Body hB
 have fG:=qN p.Body hB 3
 have fP:=qo p.Body hB 2
 change Says prog _ _ (.rsl (oh p.Body).length (Cs ((oh p.Body).flatMap ed))) _ at fG
 change Says prog _ _ (.rsl (nD p.Body).length (Cs ((nD p.Body).flatMap ed))) _ at fP
 have fA:=Iz p.Body hB
 have fN:=Kt p.Body hB
 have lV:=mD 1 p.Body
 have lL:=mD 3 p.Body
 have lP:=mD 2 p.Body
 have lG:=tH 3 p.Body
 have lA:=tH 2 p.Body
 change (varsOf p.Body).length≤_ at lV
 change (dG p.Body).length≤_ at lL
 change (nD p.Body).length≤_ at lP
 change (oh p.Body).length≤_ at lG
 change (jl p.Body).length≤_ at lA
 have gP:=qB p (nD p.Body) (by omega) (by omega)
 have gG:=qB p (oh p.Body) (by omega) (by omega)
 have gO:=qB p (varsOf p.Body++(dG p.Body++jl p.Body)) (by omega) (by simp only[List.length_append];omega)
 have fC:=Uu (varsOf p.Body) (dG p.Body) (jl p.Body) (by omega)
 refine dD Go.Proofs.Tryz.func126 awT ?_
 generalize hR:yO p=R0
 unfold yO at hR
 change Says prog _ _ (.tup _ [.bool (kJ p (nD p.Body)),.bool (oC p (nD p.Body))]) _ at gP
 change Says prog _ _ (.tup _ [.bool (kJ p (oh p.Body)),.bool (oC p (oh p.Body))]) _ at gG
 change Says prog _ _ (.tup _ [.bool (kJ p _),.bool (oC p (varsOf p.Body++(dG p.Body++jl p.Body)))]) _ at gO
 generalize kJ p (nD p.Body)=b1 at hR gP
 generalize kJ p (oh p.Body)=b2 at hR gG
 generalize oC p (nD p.Body)=c1 at hR gP
 generalize oC p (oh p.Body)=c2 at hR gG
 generalize kJ p (varsOf p.Body++(dG p.Body++jl p.Body))=c3 at hR gO
 generalize oC p (varsOf p.Body++(dG p.Body++jl p.Body))=b3 at hR gO
 generalize hb6:apartB (dG p.Body) (varsOf p.Body)=b6 at hR
 generalize kV [] p.Body=b7 at hR fN
 rw[List.length_append,List.length_append,List.flatMap_append,List.flatMap_append] at gO
 rw[List.flatMap_append,List.flatMap_append] at fC
 generalize nD p.Body=xP at *
 generalize oh p.Body=xG at *
 generalize jl p.Body=xA at *
 generalize dG p.Body=xL at *
 generalize varsOf p.Body=xV at *
 simp at fV fL fP fG fA fN gP gG gO fC
 simp[aEn,aFL,splice]
 refine bZ fV ?_
 simp[splice]
 refine bZ fL ?_
 simp
 refine eY (l:=PV) (b:=QX) rfl [8,9,10] (fun i=>[(7,.int .i64 i)]) (fun i=>(xL.take i).all (fun n=>!decide (n∈xV))=true) xL.length (by simp) (by simp) ?_ ?_
 ·intro i hi hI q hn hx hr
  obtain⟨y,hy0⟩:=cu hi
  have hrow:=row_drop ed 1 (fun _=>by simp) hy0
  rw[Nat.mul_one] at hrow
  have hw:=wrap_succ (i:=i) (by omega)
  have f:=Gf xV y (by omega)
  cases c:decide (y∈xV)
  ·rw[c] at f
   simp[hi,aT,hrow]
   refine aX f ?_
   simp[hw]
   exact hn _ (by simp) (Ll hI hy0 (by rw[c];rfl))
  ·rw[c] at f
   have h2:b6=false:=by rw[←hb6];exact Ot hy0 (by rw[c];rfl)
   rw[h2] at hR
   simp at hR
   subst hR
   simp[hi,aT,hrow]
   refine aX f ?_
   simp
   refine hr _ ?_
   simp
 ·intro hI q hx hr
  rw[List.take_length] at hI
  have h2:b6=true:=by rw[←hb6];exact hI
  subst h2
  simp
  refine hx _ _ ?_
  simp[splice]
  refine bZ fG ?_
  simp[splice]
  refine bZ gG ?_
  simp[splice]
  refine bZ fP ?_
  simp[splice]
  refine bZ gP ?_
  simp[splice]
  refine bZ fA ?_
  simp[splice]
  refine bZ fC ?_
  simp[splice]
  refine bZ gO ?_
  cases b2
  ·simp at hR
   subst hR
   simp
  cases b1
  ·simp at hR
   subst hR
   simp
  cases b3
  ·by_cases c6:xV.length≤6
   ·have c6':(xV.length:Int)≤6:=by omega
    simp[c6] at hR
    subst hR
    simp[c6',splice]
    refine aX fN ?_
    simp
   ·have c6':¬(xV.length:Int)≤6:=by omega
    simp[c6] at hR
    subst hR
    simp[c6']
  ·simp at hR
   subst hR
   simp
def okI (p:Prog):Bool:=EO p.Arrs&&(decide (p.Body.length≤12)&&(decide ((p.Body.map szS).sum≤40)&&(p.Body.all Bz&&yO p)))
theorem TN (p:Prog) (hp:p.tot≤5000000):Says prog 58 [.agg (Cs p.d)] (.bool (okI p)) []:=by
 have ht:=p.tot_eq
 have fA:=Lh p.Arrs (by omega)
 have fS:=CE p.Body (by omega)
 have fN:=D6 p hp
 refine dD Go.Proofs.Tryz.func58 aJw ?_
 generalize hR:okI p=R0
 unfold okI at hR
 generalize EO p.Arrs=b1 at hR fA
 generalize hz:(p.Body.map szS).sum=z at hR fS
 generalize hb4:p.Body.all Bz=b4 at hR
 generalize yO p=b5 at hR fN
 simp at fA fS fN
 simp[v58,r58,splice]
 refine aX fA ?_
 cases b1
 ·simp at hR
  subst hR
  simp
 by_cases c1:p.Body.length≤12
 ·have c1':¬12<(p.Body.length:Int):=by omega
  have c1b:(p.Body.length:Int)≤12:=by omega
  simp[c1'] at hR ⊢
  refine aX fS ?_
  by_cases c2:z≤40
  ·have c2':¬40<(z:Int):=by omega
   simp[c1,c2] at hR
   simp[c2',splice]
   refine eY (l:=ab3) (b:=acG) rfl [7,8,9] (fun i=>[(6,.int .i64 i)]) (fun i=>(p.Body.take i).all Bz=true) p.Body.length (by simp) (by simp) ?_ ?_
   ·intro i hi hI q hn hx hr
    obtain⟨y,hy0⟩:=cu hi
    have hrow:=row_drop Stmt.d 19 Stmt.d_len hy0
    have hw:=wrap_succ (i:=i) (by omega)
    have f:=J3 y (by have:=dV Stmt.tot (List.mem_of_getElem? hy0);omega)
    simp at f
    cases c:Bz y
    ·rw[c] at f
     have h2:b4=false:=by rw[←hb4];exact kZ hy0 c
     rw[h2] at hR
     simp at hR
     subst hR
     simp[hi,aT,hrow,splice]
     refine aX f ?_
     simp
     refine hr _ ?_
     simp
    ·rw[c] at f
     simp[hi,aT,hrow,splice]
     refine aX f ?_
     simp[hw]
     exact hn _ (by simp) (jR hI hy0 c)
   ·intro hI q hx hr
    rw[List.take_length] at hI
    have h2:b4=true:=by rw[←hb4];exact hI
    rw[h2] at hR
    simp at hR
    subst hR
    simp
    refine hx _ _ ?_
    simp[splice]
    refine aX fN ?_
    simp
  ·have c2':40<(z:Int):=by omega
   simp[c2] at hR
   subst hR
   simp[c2']
 ·have c1':12<(p.Body.length:Int):=by omega
  simp[c1] at hR
  subst hR
  simp[c1']
set_option maxHeartbeats 4000000
theorem Ar (a b:List Nm):apartB a b=apartB b a:=by
 rw[Bool.eq_iff_iff]
 simp only[apartB,List.all_eq_true,Bool.not_eq_true',decide_eq_false_iff_not]
 exact⟨fun h n h1 h2=>h n h2 h1,fun h n h1 h2=>h n h2 h1⟩
theorem DD (a b c:List Nm):apartB a (b++c)=(apartB a b&&apartB a c):=by
 rw[Bool.eq_iff_iff]
 simp only[apartB,List.all_eq_true,Bool.not_eq_true',decide_eq_false_iff_not,Bool.and_eq_true,List.mem_append,not_or]
 exact⟨fun h=>⟨fun n h1=>(h n h1).1,fun n h1=>(h n h1).2⟩,fun h n h1=>⟨h.1 n h1,h.2 n h1⟩⟩
theorem Lj (p:Prog) (l:List Nm):(!oC p l)=apartB (dw p.Arrs) l:=by
 rw[Ar,Bool.eq_iff_iff]
 simp only[oC,apartB,Bool.not_eq_true',List.any_eq_false,List.all_eq_true,decide_eq_true_eq,decide_eq_false_iff_not]
theorem ok_eq (p:Prog):okI p=okP p:=by
 unfold okI okP yO headB EO
 rw[Lj,DD,DD,Ar (dG p.Body)]
 generalize oL none p.Arrs=a1
 generalize decide (p.Arrs.length≤4)=a2
 generalize decide (p.Body.length≤12)=a3
 generalize decide ((p.Body.map szS).sum≤40)=a4
 generalize p.Body.all Bz=a5
 generalize kJ p _=a6
 generalize kJ p _=a7
 generalize apartB _ _=a8
 generalize apartB _ _=a9
 generalize apartB _ _=a10
 generalize apartB _ _=a11
 generalize kV _ _=a12
 generalize decide ((varsOf p.Body).length≤6)=a13
 ac_rfl
theorem FV (p:Prog) (hp:p.tot≤5000000):Says prog 58 [.agg (Cs p.d)] (.bool (okP p)) []:=by
 rw[←ok_eq];exact TN p hp
end Go.AmC
