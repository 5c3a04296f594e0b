import Derived.Test.YtafglhcclmbnbaaGreatSwapAllScal
import Derived.Test.YtafglhcclmbnbaaGreatSwapAllOkS
set_option linter.unusedSimpArgs false
set_option linter.unusedVariables false
set_option maxRecDepth 20000
set_option maxHeartbeats 4000000
namespace Go.AmC
open Go Go.AM
open Go.Proofs.Tryz (prog)
def isIt (n:Nm) (e:Exp):Bool:=decide (e.K=2)&&decide (e.S=n)
def FV (K:Int):Int:=if K=4 then 2 else if K=7 then 3 else if K=8 then 4 else 0
theorem Pe (e:Exp) (n:Nm):Says prog 399 [.agg (Cs e.d),.str n] (.bool (isIt n e)) []:=by
 refine aP Go.Proofs.Tryz.func399 aEt ?_
 unfold isIt
 by_cases c1:e.K=2<;>by_cases c2:e.S=n<;>simp[aLH,aNr,c1,c2]
def zt (n:Nm) (e:Exp):Int:=match e.L with
 | [a,b]=>if isIt n a&&decide (dA n b=0) then FV e.K else 0
 | _=>0
theorem Fg (e:Exp) (n:Nm) (he:e.tot≤5000000):Says prog 380 [.agg (Cs e.d),.str n] (.int .i64 (zt n e)) []:=by
 have ht:=e.tot_eq
 refine aP Go.Proofs.Tryz.func380 aEF ?_
 obtain⟨K,N,S,L⟩:=e
 simp only at ht
 by_cases c:L.length=2
 ·match L,c with
  | [a,b],_ =>
   have f1:=Pe a n
   have f2:=oO b n (by simp at ht;omega)
   simp at f1 f2
   simp only[zt]
   generalize isIt n a=x at f1 ⊢
   generalize dA n b=y at f2 ⊢
   simp[aCl,aCR]
   refine ai f1 ?_
   cases x
   ·simp
   ·simp
    refine ai f2 ?_
    by_cases c0:y=0
    ·by_cases k1:K=4
     ·simp[c0,k1,FV]
     ·by_cases k2:K=7
      ·simp[c0,k1,k2,FV]
      ·by_cases k3:K=8
       ·simp[c0,k1,k2,k3,FV]
       ·simp[c0,k1,k2,k3,FV]
    ·have:0<y:=by omega
     simp[c0,this]
 ·have h0:zt n ⟨K,N,S,L⟩=0:=by
   unfold zt
   match L,c with
   | [],_=>rfl
   | [a],_=>rfl
   | [a,b],c=>exact absurd rfl c
   | a::b::d::l,_=>rfl
  have c':¬((L.length:Int)=2):=by omega
  rw[h0]
  simp[aCl,aCR,c,c']
def touched (n:Nm) (x:Stmt):Nat:=sumT (dC n) x+sumT (mY n) x
theorem zg (n:Nm) (x:Stmt) (hx:x.tot≤5000000):sumT (dC n) x≤40000000∧sumT (mY n) x≤40000000:=by
 have h1:=wQ n [x]
 have h2:=wY n [x]
 simp[sets,asks,jW] at h1 h2
 omega
def zK (n:Nm):List Stmt→Bool
 | []=>false
 | x::l=>if 0<touched n x then decide (x.K=1)&&(decide (x.S=n)&&decide (sumT (mY n) x=0)) else zK n l
theorem Kv (l:List Stmt) (n:Nm) (hl:l.length+(l.map Stmt.tot).sum≤4000000):Says prog 381 [.rsl l.length (Cs (l.flatMap Stmt.d)),.str n] (.bool (zK n l)) []:=by
 refine aP Go.Proofs.Tryz.func381 aEE ?_
 generalize hR:zK n l=R0
 simp[aLS,aNC]
 refine aZ (l:=Tz) (b:=Vx) rfl [7,8,9] (fun i=>[(5,.int .i64 i)]) (fun i=>zK n (l.drop i)=R0) l.length (by simpa using hR) (by simp) ?_ ?_
 ·intro i hi hI q hn hx hr
  obtain⟨x,hx0⟩:=ax hi
  have hrow:=row_drop Stmt.d 19 Stmt.d_len hx0
  have hw:=wrap_succ (i:=i) (by omega)
  have hxm:=List.mem_of_getElem? hx0
  have hxt:=az Stmt.tot hxm
  obtain⟨b1,b2⟩:=zg n x (by omega)
  have f:=yE [x] n (by simp;omega)
  have e1:sets n [x]=sumT (dC n) x:=by simp[sets,jW]
  have e2:asks n [x]=sumT (mY n) x:=by simp[asks,jW]
  rw[e1,e2] at f
  rw[drop_cons hx0,zK] at hI
  unfold touched at hI
  generalize sumT (dC n) x=u at *
  generalize sumT (mY n) x=w at *
  have hw2:IntKind.i64.wrap ((u:Int)+w)=(u:Int)+w:=wrap64 (by omega) (by omega)
  simp at f
  simp[hi,aj,hrow,splice]
  refine ai f ?_
  by_cases c:0<u+w
  ·have c':(0:Int)<(u:Int)+w:=by omega
   rw[if_pos c] at hI
   by_cases c1:x.K=1<;>by_cases c2:x.S=n
   all_goals
    simp[hw2,c',c1,c2]
    refine hr _ ?_
    simp[c1,c2] at hI
    by_cases c3:w=0<;>simp[c3,←hI]
  ·have c':¬((0:Int)<(u:Int)+w):=by omega
   rw[if_neg c] at hI
   simp[hw2,c',hw]
   exact hn _ (by simp) hI
 ·intro hI q hx hr
  simp[zK] at hI
  simp
  refine hx _ _ ?_
  simp[hI]
def rX (n:Nm):List Stmt→Nat→Int
 | [],_=>-1
 | x::l,i=>if dC n x=1 then (i:Int) else rX n l (i+1)
theorem Ku (x:Stmt) (n:Nm):Says prog 379 [.agg (Cs x.d),.rp [.str n]] (.bool (decide (dC n x=1))) []:=by
 refine aP Go.Proofs.Tryz.func379 aEG ?_
 unfold dC
 by_cases c1:x.K=1<;>by_cases c2:x.S=n<;>simp[aLT,aND,c1,c2]
theorem JQ (l:List Stmt) (n:Nm) (hl:l.length≤4000000000):Says prog 378 [.rsl l.length (Cs (l.flatMap Stmt.d)),.fn 379 [.rp [.str n]]] (.int .i64 (rX n l 0)) []:=by
 refine aP Go.Proofs.Tryz.func378 aEH ?_
 have pl:aY prog 379=true:=by kernel_rfl
 generalize hR:rX n l 0=R0
 simp[aLU,aNE]
 refine aZ (l:=TA) (b:=Vy) rfl [6] (fun i=>[(4,.int .i64 i)]) (fun i=>rX n (l.drop i) i=R0) l.length (by simpa using hR) (by simp) ?_ ?_
 ·intro i hi hI q hn hx hr
  obtain⟨x,hx0⟩:=ax hi
  have hrow:=row_drop Stmt.d 19 Stmt.d_len hx0
  have hw:=wrap_succ (i:=i) (by omega)
  rw[drop_cons hx0,rX] at hI
  have f:=Ku x n
  simp at f
  simp[hi,aj,hrow]
  refine Lp pl f ?_
  by_cases c:dC n x=1
  ·simp[c]
   refine hr _ ?_
   rw[if_pos c] at hI
   simp[hI]
  ·simp[c,hw]
   rw[if_neg c] at hI
   exact hn _ (by simp) hI
 ·intro hI q hx hr
  simp[rX] at hI
  simp
  refine hx _ _ ?_
  simp[hI]
theorem OO (n:Nm) (all:List Stmt):∀ (l:List Stmt) (i:Nat),(∀ k y,l[k]?=some y→all[i+k]?=some y)→rX n l i=-1∨∃ k y,rX n l i=((i+k:Nat):Int)∧l[k]?=some y∧dC n y=1
 | [],i,h=>.inl rfl
 | x::l,i,h=>by
  rw[rX]
  split
  ·rename_i c;exact .inr ⟨0,x,by simp,by simp,c⟩
  ·rcases OO n all l (i+1) (fun k y hk=>by have:=h (k+1) y (by simpa using hk);rw[show i+1+k=i+(k+1) by omega];exact this) with h1|⟨k,y,h1,h2,h3⟩
   ·exact .inl h1
   ·exact .inr ⟨k+1,y,by rw[h1];congr 1;omega,by simpa using h2,h3⟩
def atI (n:Nm) (l:List Stmt):Option Stmt:=l.find? fun x=>decide (dC n x=1)
theorem Ir (n:Nm):∀ (l:List Stmt) (i:Nat),match atI n l with
  | none=>rX n l i=-1
  | some y=>∃ k:Nat,rX n l i=((i+k:Nat):Int)∧l[k]?=some y
 | [],i=>rfl
 | x::l,i=>by
  unfold atI
  rw[rX,List.find?_cons]
  by_cases c:dC n x=1
  ·simp only[c,decide_true,if_true]
   exact⟨0,by simp,by simp⟩
  ·simp only[c,decide_false,if_false]
   have:=Ir n l (i+1)
   unfold atI at this
   split at this
   ·rename_i h;rw[h];exact this
   ·rename_i y h;rw[h]
    obtain⟨k,h1,h2⟩:=this
    exact⟨k+1,by rw[h1];congr 1;omega,by simpa using h2⟩
def jy (x:Stmt) (n:Nm):Int :=
 if x.K≠3 then 0 else if sets n x.Body=0∧asks n x.Body=0 then 0 else if sets n x.Body=0 then 1 else if 1<sets n x.Body then 6
 else match atI n x.Body with
  | none=>6
  | some y=>if zt n y.E≠0∧asks n x.Body=1 then zt n y.E else if zK n x.Body then 5 else 6
theorem En (x:Stmt) (n:Nm) (hx:x.tot≤4000000):Says prog 345 [.agg (Cs x.d),.str n] (.int .i64 (jy x n)) []:=by
 have ht:=x.tot_eq
 have f1:=yE x.Body n (by omega)
 have f2:=JQ x.Body n (by omega)
 have f4:=Kv x.Body n (by omega)
 have hat:=Ir n x.Body 0
 have hb1:=wQ n x.Body
 have hb2:=wY n x.Body
 refine aP Go.Proofs.Tryz.func345 aEW ?_
 generalize hR:jy x n=R0
 unfold jy at hR
 by_cases c0:x.K=3
 ·rw[if_neg (by simp[c0])] at hR
  generalize sets n x.Body=u at *
  generalize asks n x.Body=w at *
  simp[aCr,aCX,c0]
  refine ai f1 ?_
  by_cases c1:u=0
  ·by_cases c2:w=0
   ·simp[c1,c2] at hR
    simp[c1,c2,hR]
   ·simp[c1,c2] at hR
    simp[c1,c2,hR]
  ·by_cases c2:1<u
   ·simp[c1,c2] at hR
    have:(1:Int)<u:=by omega
    simp[c1,c2,this,hR]
   ·simp[c1,c2] at hR
    have c2':¬((1:Int)<u):=by omega
    simp[c1,c2,c2']
    refine ai f2 ?_
    generalize atI n x.Body=o at *
    cases o with
    | none =>
     simp at hat
     simp at hR
     simp[hat,hR]
    | some y =>
     obtain⟨k,h1,h2⟩:=hat
     have hk:k<x.Body.length:=(List.getElem?_eq_some_iff.1 h2).1
     have hyt:=az Stmt.tot (List.mem_of_getElem? h2)
     have hyt2:=y.tot_eq
     have f3:=Fg y.E n (by omega)
     have hrow:=row_drop Stmt.d 19 Stmt.d_len h2
     simp at h1
     simp at f3
     simp only at hR
     have hk0:¬((k:Int)<0):=by omega
     generalize zt n y.E=v at *
     simp[h1,hk0,hk,aj,hrow]
     refine ay f3 ?_
     by_cases d1:v=0
     ·simp[d1] at hR
      simp[d1]
      refine ai f4 ?_
      cases hown:zK n x.Body
      ·simp[hown] at hR;simp[hR]
      ·simp[hown] at hR;simp[hR]
     ·by_cases d2:w=1
      ·simp[d1,d2] at hR
       subst hR
       simp[d1,d2]
      ·simp[d1,d2] at hR
       have d2':¬((w:Int)=1):=by omega
       simp[d1,d2,d2']
       refine ai f4 ?_
       cases hown:zK n x.Body
       ·simp[hown] at hR;simp[hR]
       ·simp[hown] at hR;simp[hR]
 ·rw[if_pos (by simpa using c0)] at hR
  simp[aCr,aCX,c0,hR]
def mQ (n:Nm):List Stmt→Nat→Int
 | [],_=>-1
 | x::l,i=>if 0<touched n x then (i:Int) else mQ n l (i+1)
def first (n:Nm):List Stmt→Option Stmt
 | []=>none
 | x::l=>if 0<touched n x then some x else first n l
theorem Aj (n:Nm):∀ (l:List Stmt) (i:Nat),match first n l with
  | none=>mQ n l i=-1
  | some y=>∃ k:Nat,mQ n l i=((i+k:Nat):Int)∧l[k]?=some y
 | [],i=>rfl
 | x::l,i=>by
  rw[mQ,first]
  by_cases c:0<touched n x
  ·rw[if_pos c,if_pos c]
   exact⟨0,by simp,by simp⟩
  ·rw[if_neg c,if_neg c]
   have:=Aj n l (i+1)
   split at this
   ·exact this
   ·obtain⟨k,h1,h2⟩:=this
    exact⟨k+1,by rw[h1];congr 1;omega,by simpa using h2⟩
theorem vw (n:Nm):∀ l:List Stmt,first n l=none→sets n l=0
 | [],_=>rfl
 | x::l,h=>by
  rw[first] at h
  by_cases c:0<touched n x
  ·rw[if_pos c] at h;cases h
  ·rw[if_neg c] at h
   have h1:=vw n l h
   have h2:sets n (x::l)=sumT (dC n) x+sets n l:=by simp[sets,jW]
   unfold touched at c
   omega
theorem KL (l:List Stmt) (n:Nm) (hl:l.length+(l.map Stmt.tot).sum≤4000000):Says prog 373 [.rsl l.length (Cs (l.flatMap Stmt.d)),.str n] (.int .i64 (mQ n l 0)) []:=by
 refine aP Go.Proofs.Tryz.func373 aEM ?_
 generalize hR:mQ n l 0=R0
 simp[aLX,aNH]
 refine aZ (l:=TC) (b:=VA) rfl [5,6] (fun i=>[(3,.int .i64 i)]) (fun i=>mQ n (l.drop i) i=R0) l.length (by simpa using hR) (by simp) ?_ ?_
 ·intro i hi hI q hn hx hr
  obtain⟨x,hx0⟩:=ax hi
  have hrow:=row_drop Stmt.d 19 Stmt.d_len hx0
  have hw:=wrap_succ (i:=i) (by omega)
  have hxt:=az Stmt.tot (List.mem_of_getElem? hx0)
  obtain⟨b1,b2⟩:=zg n x (by omega)
  have f:=SB n x (by omega)
  rw[drop_cons hx0,mQ] at hI
  unfold touched at hI
  generalize sumT (dC n) x=u at *
  generalize sumT (mY n) x=w at *
  have hw2:IntKind.i64.wrap ((u:Int)+w)=(u:Int)+w:=wrap64 (by omega) (by omega)
  simp at f
  simp[hi,aj,hrow]
  refine ai f ?_
  by_cases c:0<u+w
  ·have c':(0:Int)<(u:Int)+w:=by omega
   rw[if_pos c] at hI
   simp[hw2,c']
   refine hr _ ?_
   simp[hI]
  ·have c':¬((0:Int)<(u:Int)+w):=by omega
   rw[if_neg c] at hI
   simp[hw2,c',hw]
   exact hn _ (by simp) hI
 ·intro hI q hx hr
  simp[mQ] at hI
  simp
  refine hx _ _ ?_
  simp[hI]
def CO (n:Nm) (x:Stmt):Int:=if dC n x=1 then match x.E.L with
  | [a,_]=>if isIt n a then FV x.E.K else 0
  | _=>0
 else 0
theorem OC (x:Stmt) (n:Nm) (hx:x.tot≤5000000):Says prog 374 [.agg (Cs x.d),.str n] (.int .i64 (CO n x)) []:=by
 have ht:=x.tot_eq
 have he:=x.E.tot_eq
 refine aP Go.Proofs.Tryz.func374 aEL ?_
 unfold CO dC
 obtain⟨K,S,At,E,Lo,Hi,B⟩:=x
 by_cases c1:K=1
 ·by_cases c2:S=n
  ·obtain⟨EK,EN,ES,L⟩:=E
   by_cases c:L.length=2
   ·match L,c with
    | [a,b],_ =>
     by_cases c3:a.K=2
     ·by_cases c4:a.S=n
      ·by_cases k1:EK=4
       ·simp[Ih,Iz,c1,c2,c3,c4,k1,isIt,FV]
       ·by_cases k2:EK=7
        ·simp[Ih,Iz,c1,c2,c3,c4,k1,k2,isIt,FV]
        ·by_cases k3:EK=8
         ·simp[Ih,Iz,c1,c2,c3,c4,k1,k2,k3,isIt,FV]
         ·simp[Ih,Iz,c1,c2,c3,c4,k1,k2,k3,isIt,FV]
      ·simp[Ih,Iz,c1,c2,c3,c4,isIt]
     ·simp[Ih,Iz,c1,c2,c3,isIt]
   ·have c':¬((L.length:Int)=2):=by omega
    have h0:(match L with
     | [a,_]=>if isIt n a then FV EK else 0
     | _=>0)=0:=by
     match L,c with
     | [],_=>rfl
     | [a],_=>rfl
     | [a,b],c=>exact absurd rfl c
     | a::b::d::l,_=>rfl
    simp only[h0]
    simp[Ih,Iz,c1,c2,c,c']
  ·simp[Ih,Iz,c1,c2]
 ·simp[Ih,Iz,c1]
def lQ (x:Stmt) (n:Nm):Int :=
 if x.K≠3 then 0 else if sets n x.Body=0∧asks n x.Body=0 then 0 else if sets n x.Body=0 then 1 else if 1<sets n x.Body then 6
 else match first n x.Body with
  | none=>0
  | some y=>if asks n x.Body=1∧CO n y≠0 then CO n y else if dC n y=1∧dA n y.E=0 then 5 else 6
theorem Em (x:Stmt) (n:Nm) (hx:x.tot≤4000000):Says prog 341 [.agg (Cs x.d),.str n] (.int .i64 (lQ x n)) []:=by
 have ht:=x.tot_eq
 have f1:=H7 x.Body n (by omega)
 have f2:=KL x.Body n (by omega)
 have hat:=Aj n x.Body 0
 have hno:=vw n x.Body
 have hb1:=wQ n x.Body
 have hb2:=wY n x.Body
 refine aP Go.Proofs.Tryz.func341 aE0 ?_
 generalize hR:lQ x n=R0
 unfold lQ at hR
 generalize sets n x.Body=u at *
 generalize asks n x.Body=w at *
 by_cases c0:x.K=3
 ·rw[if_neg (by simp[c0])] at hR
  simp[aCt,aCZ,c0]
  refine ai f1 ?_
  by_cases c1:u=0
  ·by_cases c2:w=0
   ·simp[c1,c2] at hR
    simp[c0,c1,c2,hR]
   ·simp[c1,c2] at hR
    simp[c0,c1,c2,hR]
  ·by_cases c2:1<u
   ·simp[c1,c2] at hR
    have:(1:Int)<u:=by omega
    simp[c0,c1,c2,this,hR]
   ·simp[c1,c2] at hR
    have c2':¬((1:Int)<u):=by omega
    simp[c0,c1,c2,c2']
    refine ai f2 ?_
    generalize first n x.Body=o at *
    cases o with
    | none=>exact absurd (hno rfl) c1
    | some y =>
     obtain⟨k,h1,h2⟩:=hat
     have hk:k<x.Body.length:=(List.getElem?_eq_some_iff.1 h2).1
     have hyt:=az Stmt.tot (List.mem_of_getElem? h2)
     have hyt2:=y.tot_eq
     have f3:=OC y n (by omega)
     have f4:=oN n y.E (by omega)
     have hrow:=row_drop Stmt.d 19 Stmt.d_len h2
     simp at h1
     simp at f3 f4
     simp only at hR
     generalize CO n y=v at *
     generalize dA n y.E=t at *
     have hset:dC n y=if y.K=1∧y.S=n then 1 else 0:=rfl
     rw[hset] at hR
     by_cases d2:w=1
     ·have d2':(w:Int)=1:=by omega
      by_cases d1:v=0
      ·simp[d1,d2] at hR
       by_cases e1:y.K=1
       ·by_cases e2:y.S=n
        ·simp[e1,e2] at hR f3
         simp[h1,hk,aj,hrow,d2,d2',e1,e2]
         refine ai f3 ?_
         simp[d1,e1,e2]
         refine ai f4 ?_
         by_cases e3:t=0
         ·simp[e3] at hR;simp[e3,hR]
         ·simp[e3] at hR;simp[e3,hR]
        ·simp[e1,e2] at hR f3
         simp[h1,hk,aj,hrow,d2,d2',e1,e2]
         refine ai f3 ?_
         simp[d1,e1,e2,hR]
       ·simp[e1] at hR
        simp[h1,hk,aj,hrow,d2,d2',e1]
        refine ai f3 ?_
        simp[d1,e1,hR]
      ·simp[d1,d2] at hR
       simp[h1,hk,aj,hrow,d2,d2']
       refine ai f3 ?_
       simp[d1]
       refine ai f3 ?_
       simp[hR]
     ·simp[d2] at hR
      have d2':¬((w:Int)=1):=by omega
      by_cases e1:y.K=1
      ·by_cases e2:y.S=n
       ·simp[e1,e2] at hR
        simp[h1,hk,aj,hrow,d2,d2',e1,e2]
        refine ai f4 ?_
        by_cases e3:t=0
        ·simp[e3] at hR;simp[e3,hR]
        ·simp[e3] at hR;simp[e3,hR]
       ·simp[e1,e2] at hR
        simp[h1,hk,aj,hrow,d2,d2',e1,e2,hR]
      ·simp[e1] at hR
       simp[h1,hk,aj,hrow,d2,d2',e1,hR]
 ·rw[if_pos (by simpa using c0)] at hR
  simp[aCt,aCZ,c0]
  refine ai f1 ?_
  simp[c0,hR]
def BA (x:Stmt):Prop:=x.K=1→x.Body=[]∧x.At.L=[]∧x.At.K=0∧x.Lo.L=[]∧x.Lo.K=0∧x.Hi.L=[]∧x.Hi.K=0
theorem aDy (n:Nm) (e:Exp) (h:e.L=[]) (hk:e.K=0):dA n e=0:=by rw[wZ,h];simp[isV,hk]
theorem Yf (n:Nm) (x:Stmt) (h:dC n x=1):x.K=1∧x.S=n:=by
 unfold dC at h
 split at h
 ·assumption
 ·cases h
theorem zI (n:Nm) (x:Stmt) (hp:BA x) (h:x.K=1):sumT (mY n) x=dA n x.E:=by
 obtain⟨hB,a1,a2,l1,l2,h1,h2⟩:=hp h
 rw[nX,hB]
 simp[mY,jW,aDy n _ a1 a2,aDy n _ l1 l2,aDy n _ h1 h2]
theorem yc (n:Nm) (x:Stmt) (h:dC n x=1):0<touched n x:=by
 unfold touched;rw[nX,h];omega
theorem Ec (n:Nm):∀ l:List Stmt,zK n l=match first n l with
  | none=>false
  | some y=>decide (y.K=1)&&(decide (y.S=n)&&decide (sumT (mY n) y=0))
 | []=>rfl
 | x::l=>by
  rw[zK,first]
  split
  ·rfl
  ·exact Ec n l
theorem EI (n:Nm):∀ (l:List Stmt) (y:Stmt),first n l=some y→y∈l
 | x::l,y,h=>by
  rw[first] at h
  split at h
  ·simp_all
  ·exact List.mem_cons_of_mem _ (EI n l y h)
theorem at_mem (n:Nm) (l:List Stmt) (y:Stmt) (h:atI n l=some y):y∈l∧dC n y=1 :=
 ⟨List.mem_of_find?_eq_some h,by simpa using List.find?_some h⟩
theorem Cc (n:Nm):∀ (l:List Stmt) (y:Stmt),first n l=some y→dC n y=1→atI n l=some y
 | x::l,y,h,hs=>by
  rw[first] at h
  unfold atI
  rw[List.find?_cons]
  by_cases c:0<touched n x
  ·rw[if_pos c] at h;cases h;simp[hs]
  ·rw[if_neg c] at h
   have c2:¬dC n x=1:=fun h=>c (yc n x h)
   simp only[c2,decide_false]
   exact Cc n l y h hs
theorem OM (n:Nm) (x:Stmt) (l:List Stmt):sets n (x::l)=sumT (dC n) x+sets n l:=by simp[sets,jW]
theorem PS (n:Nm) (x:Stmt) (l:List Stmt):asks n (x::l)=sumT (mY n) x+asks n l:=by simp[asks,jW]
theorem QG (n:Nm) {l:List Stmt} {y:Stmt} (h:y∈l):sumT (dC n) y≤sets n l:=az (sumT (dC n)) h
theorem Ce (n:Nm) {l:List Stmt} {y:Stmt} (h:y∈l):sumT (mY n) y≤asks n l:=az (sumT (mY n)) h
theorem EH (n:Nm):∀ (l:List Stmt) (z:Stmt),sets n l=1→asks n l=1→atI n l=some z→1≤sumT (mY n) z→first n l=some z
 | x::l,z,h1,h2,ha,hz=>by
  unfold atI at ha
  rw[List.find?_cons] at ha
  rw[first]
  by_cases c:dC n x=1
  ·simp only[c,decide_true] at ha
   cases ha
   rw[if_pos (yc n x c)]
  ·simp only[c,decide_false] at ha
   obtain⟨hm,hs⟩:=at_mem n l z ha
   have m1:=QG n hm
   have m2:=Ce n hm
   have m3:1≤sumT (dC n) z:=by rw[nX,hs];omega
   rw[OM] at h1
   rw[PS] at h2
   rw[if_neg (by unfold touched;omega)]
   exact EH n l z (by omega) (by omega) ha hz
theorem IV (n:Nm) (e:Exp) (h:isIt n e=true):1≤dA n e:=by
 rw[wZ]
 have:isV n e=1:=by simp[isIt] at h;simp[isV,h]
 omega
theorem Qz (n:Nm) (e:Exp) (h:zt n e≠0):1≤dA n e:=by
 unfold zt at h
 split at h
 ·rename_i a b hL
  split at h
  ·rename_i hc
   simp only[Bool.and_eq_true] at hc
   have:=IV n a hc.1
   rw[wZ,hL];simp;omega
  ·exact absurd rfl h
 ·exact absurd rfl h
theorem Ob (n:Nm) (x:Stmt):dA n x.E≤sumT (mY n) x:=by rw[nX];unfold mY;omega
theorem Ip (n:Nm) (x:Stmt) (hs:dC n x=1) (h:dA n x.E≤1):CO n x=zt n x.E:=by
 unfold CO zt
 rw[if_pos hs]
 have h2:=wZ n x.E
 rcases hL:x.E.L with _|⟨a,_|⟨b,_|⟨d,l⟩⟩⟩
 ·rfl
 ·rfl
 ·rw[hL] at h2
  simp at h2
  cases hi:isIt n a
  ·simp[hi]
  ·have h1:=IV n a hi
   have:dA n b=0:=by omega
   simp[this]
 ·rfl
theorem O7 (x:Stmt) (n:Nm) (hp:∀ y∈x.Body,BA y):jy x n=lQ x n:=by
 unfold jy lQ
 by_cases c0:x.K≠3
 ·rw[if_pos c0,if_pos c0]
 rw[if_neg c0,if_neg c0]
 by_cases c1:sets n x.Body=0∧asks n x.Body=0
 ·rw[if_pos c1,if_pos c1]
 rw[if_neg c1,if_neg c1]
 by_cases c2:sets n x.Body=0
 ·rw[if_pos c2,if_pos c2]
 rw[if_neg c2,if_neg c2]
 by_cases c3:1<sets n x.Body
 ·rw[if_pos c3,if_pos c3]
 rw[if_neg c3,if_neg c3]
 have h1:sets n x.Body=1:=by omega
 cases hf:first n x.Body with
 | none=>exact absurd (vw n _ hf) c2
 | some y =>
  have hym:=EI n _ _ hf
  have hpy:=hp y hym
  have how:=Ec n x.Body
  rw[hf] at how
  simp only at how
  cases ha:atI n x.Body with
  | none =>
   simp only
   have hns:¬dC n y=1:=fun h=>by rw[Cc n _ y hf h] at ha;cases ha
   have:CO n y=0:=by unfold CO;rw[if_neg hns]
   simp[this,hns]
  | some z =>
   simp only
   obtain⟨hzm,hzs⟩:=at_mem n _ _ ha
   have own:(zK n x.Body=true)↔(dC n y=1∧dA n y.E=0):=by
    rw[how]
    constructor
    ·intro h
     simp only[Bool.and_eq_true,decide_eq_true_eq] at h
     refine⟨by simp[dC,h.1,h.2.1],?_⟩
     rw[←zI n y hpy h.1];exact h.2.2
    ·rintro⟨h2,h3⟩
     obtain⟨k1,k2⟩:=Yf n y h2
     simp only[Bool.and_eq_true,decide_eq_true_eq]
     exact⟨k1,k2,by rw[zI n y hpy k1];exact h3⟩
   by_cases hw:asks n x.Body=1
   ·by_cases hz:zt n z.E≠0
    ·have hz1:=Qz n z.E hz
     have hz2:=Ob n z
     have:=EH n _ z h1 hw ha (by omega)
     rw[hf] at this
     obtain rfl:=Option.some.inj this
     have hle:=Ce n hym
     have:=Ip n y hzs (by omega)
     rw[if_pos ⟨hz,hw⟩,if_pos ⟨hw,by rw[this];exact hz⟩,this]
    ·have hx0:CO n y=0:=by
      by_cases hs:dC n y=1
      ·have:=Cc n _ y hf hs
       rw[ha] at this
       obtain rfl:=Option.some.inj this
       have hle:=Ce n hym
       have hz2:=Ob n z
       rw[Ip n z hs (by omega)];simpa using hz
      ·unfold CO;rw[if_neg hs]
     have n1:¬(zt n z.E≠0∧asks n x.Body=1):=fun h=>hz h.1
     have n2:¬(asks n x.Body=1∧CO n y≠0):=fun h=>h.2 hx0
     rw[if_neg n1,if_neg n2]
     by_cases ho:zK n x.Body=true
     ·rw[if_pos ho,if_pos (own.1 ho)]
     ·rw[if_neg ho,if_neg (fun h=>ho (own.2 h))]
   ·have n1:¬(zt n z.E≠0∧asks n x.Body=1):=fun h=>hw h.2
    have n2:¬(asks n x.Body=1∧CO n y≠0):=fun h=>hw h.1
    rw[if_neg n1,if_neg n2]
    by_cases ho:zK n x.Body=true
    ·rw[if_pos ho,if_pos (own.1 ho)]
    ·rw[if_neg ho,if_neg (fun h=>ho (own.2 h))]
end Go.AmC
