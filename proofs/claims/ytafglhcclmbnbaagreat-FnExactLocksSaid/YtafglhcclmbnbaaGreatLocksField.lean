import Derived.Test.YtafglhcclmbnbaaGreatLocksMachD
set_option linter.unusedSimpArgs false
set_option linter.unusedVariables false
set_option maxRecDepth 20000
set_option maxHeartbeats 4000000
namespace Go.AmC
open Go Go.AM
open Go.Proofs.Tryz (prog)
def szS:Stmt→Nat
 | ⟨_,_,_,_,_,_,B⟩=>1+(B.map szS).sum
theorem EC (x:Stmt):szS x=1+(x.Body.map szS).sum:=by cases x;rw[szS]
theorem adb:∀ x:Stmt,szS x≤1+x.tot:=Stmt.ind fun x ih=>by
 have h:∀ l:List Stmt,(∀ y∈l,szS y≤1+y.tot)→(l.map szS).sum≤l.length+(l.map Stmt.tot).sum:=by
  intro l
  induction l with
  | nil=>intro _;simp
  | cons y l ih =>
   intro h
   have h1:=h y (by simp)
   have h2:=ih (fun z hz=>h z (by simp[hz]))
   simp only[List.map_cons,List.sum_cons,List.length_cons]
   omega
 have:=h x.Body ih
 rw[EC,x.tot_eq]
 omega
theorem OL (l:List Stmt):(l.map szS).sum≤l.length+(l.map Stmt.tot).sum:=by
 induction l with
 | nil=>simp
 | cons y l ih =>
  have:=adb y
  simp only[List.map_cons,List.sum_cons,List.length_cons]
  omega
def bdS (x:Stmt):Nat:=(x.Body.map szS).sum
theorem asN (l:List Stmt):(l.map szS).sum=l.length+(l.map bdS).sum:=by
 induction l with
 | nil=>simp
 | cons y l ih =>
  simp only[List.map_cons,List.sum_cons,List.length_cons,ih,EC y,bdS]
  omega
theorem tV {f:Stmt→Nat} {l:List Stmt} {i:Nat} {y:Stmt} (hy:l[i]?=some y):((l.take (i+1)).map f).sum=((l.take i).map f).sum+f y:=by
 rw[List.take_add_one,hy];simp
theorem sum_take_le {f:Stmt→Nat} (l:List Stmt) (i:Nat):((l.take i).map f).sum≤(l.map f).sum:=by
 have:l.map f=(l.take i).map f++(l.drop i).map f:=by rw[←List.map_append,List.take_append_drop]
 rw[this,List.sum_append];omega
theorem zl (l:List Stmt) (hl:l.length+(l.map Stmt.tot).sum≤10000000) (h:∀ x∈l,Says prog 125 [.rsl x.Body.length (Cs (x.Body.flatMap Stmt.d))] (.int .i64 (bdS x:Nat)) []) :
  Says prog 125 [.rsl l.length (Cs (l.flatMap Stmt.d))] (.int .i64 ((l.map szS).sum:Nat)) []:=by
 have hle:=OL l
 have hsum:=asN l
 refine dD Go.Proofs.Tryz.func125 awU ?_
 simp[aEo,aFM]
 refine iF (l:=PW) (b:=QY) rfl [7] (fun i=>[.rsl l.length (Cs (l.flatMap Stmt.d)),.int .i64 0,.int .i64 ((l.length+((l.take i).map bdS).sum:Nat):Int),.rsl l.length (Cs (l.flatMap Stmt.d)),.int .i64 l.length,.int .i64 (i:Int),.dead,.dead]) (fun _=>True) l.length
  (fun ex en=>ex=.exit 0∧en=[.rsl l.length (Cs (l.flatMap Stmt.d)),.int .i64 0,.int .i64 ((l.map szS).sum:Nat),.rsl l.length (Cs (l.flatMap Stmt.d)),.int .i64 l.length,.int .i64 l.length,.dead,.dead]) ?_ ?_ trivial (by simp) ?_
 ·intro i hi _ q hn hx hr
  obtain⟨y,hy0⟩:=cu hi
  have hrow:=row_drop Stmt.d 19 Stmt.d_len hy0
  have hwi:=wrap_succ (i:=i) (by omega)
  have hf:=h y (List.mem_of_getElem? hy0)
  have hs:=tV (f:=bdS) hy0
  have hb:=sum_take_le (f:=bdS) l (i+1)
  rw[hs] at hn hb
  generalize ((l.take i).map bdS).sum=A at hn hb ⊢
  generalize bdS y=z at hf hn hb
  have hw:IntKind.i64.wrap (((l.length+A:Nat):Int)+(z:Int))=((l.length+(A+z):Nat):Int):=by rw[bJ]<;>omega
  simp[hi,aT,hrow,splice]
  refine aX hf ?_
  simp at hw
  simp[hwi,hw]
  refine hn _ ?_ trivial
  simp
 ·intro _ q hx hr
  simp
  exact hx _ _ ⟨rfl,by simp[hsum]⟩
 ·rintro ex en ⟨rfl,rfl⟩
  simp
theorem zk (l:List Stmt) (hl:l.length+(l.map Stmt.tot).sum≤10000000) (h:∀ x∈l,Says prog 183 [.rsl x.Body.length (Cs (x.Body.flatMap Stmt.d))] (.int .i64 (bdS x:Nat)) []) :
  Says prog 183 [.rsl l.length (Cs (l.flatMap Stmt.d))] (.int .i64 ((l.map szS).sum:Nat)) []:=by
 have hle:=OL l
 refine dD Go.Proofs.Tryz.func183 aws ?_
 simp[v183,aFy]
 refine iF (l:=PI) (b:=QK) rfl [] (fun i=>[.rsl l.length (Cs (l.flatMap Stmt.d)),.int .i64 0,.int .i64 (((l.take i).map szS).sum:Nat),.int .i64 (i:Int),.dead]) (fun _=>True) l.length
  (fun ex en=>ex=.exit 0∧en=[.rsl l.length (Cs (l.flatMap Stmt.d)),.int .i64 0,.int .i64 ((l.map szS).sum:Nat),.int .i64 l.length,.dead]) ?_ ?_ trivial (by simp) ?_
 ·intro i hi _ q hn hx hr
  obtain⟨y,hy0⟩:=cu hi
  have hrow:=row_drop Stmt.d 19 Stmt.d_len hy0
  have hwi:=wrap_succ (i:=i) (by omega)
  have hf:=h y (List.mem_of_getElem? hy0)
  have hs:=tV (f:=szS) hy0
  have hb:=sum_take_le (f:=szS) l (i+1)
  rw[hs,EC y,←bdS] at hn hb
  generalize ((l.take i).map szS).sum=A at hn hb ⊢
  generalize bdS y=z at hf hn hb
  have hw1:IntKind.i64.wrap ((A:Int)+1)=((A+1:Nat):Int):=by rw[bJ]<;>omega
  have hw:IntKind.i64.wrap ((A:Int)+1+(z:Int))=((A+(1+z):Nat):Int):=by rw[bJ]<;>omega
  simp[hi,aT,hrow]
  refine aX hf ?_
  simp at hw hw1
  simp[hwi,hw,hw1]
  refine hn _ ?_ trivial
  simp
 ·intro _ q hx hr
  simp
  exact hx _ _ ⟨rfl,by simp⟩
 ·rintro ex en ⟨rfl,rfl⟩
  simp
theorem Hm:∀ x:Stmt,x.tot≤10000000→Says prog 125 [.rsl x.Body.length (Cs (x.Body.flatMap Stmt.d))] (.int .i64 (bdS x:Nat)) []:=Stmt.ind fun x ih hx=>by
 have ht:=x.tot_eq
 exact zl x.Body (by omega) fun y hy=>ih y hy (by have:=dV Stmt.tot hy;omega)
theorem CE (l:List Stmt) (hl:l.length+(l.map Stmt.tot).sum≤10000000):Says prog 125 [.rsl l.length (Cs (l.flatMap Stmt.d))] (.int .i64 ((l.map szS).sum:Nat)) [] :=
 zl l hl fun x hx=>Hm x (by have:=dV Stmt.tot hx;omega)
theorem Hl:∀ x:Stmt,x.tot≤10000000→Says prog 183 [.rsl x.Body.length (Cs (x.Body.flatMap Stmt.d))] (.int .i64 (bdS x:Nat)) []:=Stmt.ind fun x ih hx=>by
 have ht:=x.tot_eq
 exact zk x.Body (by omega) fun y hy=>ih y hy (by have:=dV Stmt.tot hy;omega)
theorem J5 (l:List Stmt) (hl:l.length+(l.map Stmt.tot).sum≤10000000):Says prog 183 [.rsl l.length (Cs (l.flatMap Stmt.d))] (.int .i64 ((l.map szS).sum:Nat)) [] :=
 zk l hl fun x hx=>Hl x (by have:=dV Stmt.tot hx;omega)
def wH (e:Exp):Bool :=
 if e.K=1 then (decide (0≤e.N)&&decide (e.N≤999999))&&decide (e.S=[])&&decide (e.L.length=0)
 else if e.K=2 then ja e.S&&decide (e.N=0)&&decide (e.L.length=0)
 else if e.K=3 then ja e.S&&decide (e.N=0)&&decide (e.L.length=1)
 else (decide (4≤e.K)&&decide (e.K≤8))&&decide (e.N=0)&&decide (e.S=[])&&decide (e.L.length=2)
theorem Fe (k:Int):Says prog 369 [.int .i64 k] (.bool (decide (4≤k)&&decide (k≤8))) []:=by
 refine dD Go.Proofs.Tryz.func369 au3 ?_
 simp[aDv,aEE]
 refine aX (iE k 4 8) ?_
 simp
theorem Hw (e:Exp) (hs:e.S.length≤5000000):Says prog 372 [.agg (Cs e.d)] (.bool (wH e)) []:=by
 have f1:=iE e.N 0 999999
 have f2:=zN e.S (by omega)
 have f3:=Fe e.K
 have h0:((e.L.length:Int)==0)=decide (e.L=[]):=by rw[Bool.eq_iff_iff];simp
 have h1:((e.L.length:Int)==1)=decide (e.L.length=1):=by rw[Bool.eq_iff_iff];simp;omega
 have h2:((e.L.length:Int)==2)=decide (e.L.length=2):=by rw[Bool.eq_iff_iff];simp;omega
 refine dD Go.Proofs.Tryz.func372 au2 ?_
 unfold wH
 by_cases c1:e.K=1
 ·by_cases a1:0≤e.N<;>by_cases a2:e.N≤999999<;>by_cases a3:e.S=[]<;>simp[a1,a2] at f1<;>simp[RZ,Tu,c1]<;>refine aX f1 ?_<;>simp[c1,a1,a2,a3,h0]
 ·by_cases c2:e.K=2
  ·cases hb:ja e.S<;>rw[hb] at f2<;>by_cases a1:e.N=0<;>simp[RZ,Tu,c2]<;>refine aX f2 ?_<;>simp[a1,h0,h1]
  ·by_cases c3:e.K=3
   ·cases hb:ja e.S<;>rw[hb] at f2<;>by_cases a1:e.N=0<;>simp[RZ,Tu,c3]<;>refine aX f2 ?_<;>simp[a1,h0,h1]
   ·by_cases a0:4≤e.K<;>by_cases a1:e.K≤8<;>by_cases a2:e.N=0<;>by_cases a3:e.S=[]<;>simp[a0,a1] at f3<;>simp[RZ,Tu,c1,c2,c3]<;>refine aX f3 ?_<;>simp[a0,a1,a2,a3,h2]
def lw (k:Int):Int:=if k=1∨k=2 then 0 else if k=3 then 1 else if 4≤k∧k≤8 then 2 else -1
theorem E5 (k:Int):Says prog 368 [.int .i64 k] (.int .i64 (lw k)) []:=by
 refine dD Go.Proofs.Tryz.func368 au4 ?_
 by_cases c:k=1∨k=2∨k=3∨k=4∨k=5∨k=6∨k=7∨k=8
 ·rcases c with rfl|rfl|rfl|rfl|rfl|rfl|rfl|rfl<;>simp[atg,atB,lw]
 ·simp only[not_or] at c
  obtain⟨c1,c2,c3,c4,c5,c6,c7,c8⟩:=c
  have e:lw k=-1:=by
   unfold lw
   rw[if_neg (by omega),if_neg c3,if_neg (by omega)]
  rw[e]
  simp[atg,atB,c1,c2,c3,c4,c5,c6,c7,c8]
theorem KD (e:Exp) (hs:e.S.length≤5000000):Says prog 333 [.agg (Cs e.d)] (.bool (wH e)) []:=by
 have f1:=iy e.N 0 999999
 have f2:=zM e.S (by omega)
 have f3:=E5 e.K
 refine dD Go.Proofs.Tryz.func333 au8 ?_
 unfold wH
 by_cases c1:e.K=1
 ·have p1:lw e.K=0:=by simp[lw,c1]
  rw[p1] at f3
  by_cases a4:e.L.length=0
  ·have h0:e.L=[]:=List.eq_nil_of_length_eq_zero a4
   by_cases a1:0≤e.N<;>by_cases a2:e.N≤999999<;>by_cases a3:e.S=[]<;>simp[a1,a2] at f1<;>simp[Fv,FQ,c1]<;>(try simp only[c1] at f3)<;>refine bZ f3 ?_<;>simp[h0,c1]<;>refine aX f1 ?_<;>simp[a1,a2,a3]
  ·have h0:¬e.L=[]:=fun h=>a4 (by rw[h];rfl)
   have h1:¬(0:Int)=(e.L.length:Int):=by omega
   simp[Fv,FQ,c1]
   try simp only[c1] at f3
   refine bZ f3 ?_
   simp[h0,h1,c1]
 ·by_cases c2:e.K=2
  ·have p1:lw e.K=0:=by simp[lw,c2]
   rw[p1] at f3
   by_cases a4:e.L.length=0
   ·have h0:e.L=[]:=List.eq_nil_of_length_eq_zero a4
    cases hb:ja e.S<;>rw[hb] at f2<;>by_cases a1:e.N=0<;>simp[Fv,FQ,c2]<;>(try simp only[c2] at f3)<;>refine bZ f3 ?_<;>simp[h0,c2,a1]<;>refine aX f2 ?_<;>simp
   ·have h0:¬e.L=[]:=fun h=>a4 (by rw[h];rfl)
    have h1:¬(0:Int)=(e.L.length:Int):=by omega
    simp[Fv,FQ,c2]
    try simp only[c2] at f3
    refine bZ f3 ?_
    simp[h0,h1,c2]
  ·by_cases c3:e.K=3
   ·have p1:lw e.K=1:=by simp[lw,c3]
    rw[p1] at f3
    by_cases a4:e.L.length=1
    ·cases hb:ja e.S<;>rw[hb] at f2<;>by_cases a1:e.N=0<;>simp[Fv,FQ,c3]<;>(try simp only[c3] at f3)<;>refine bZ f3 ?_<;>simp[a4,c3,a1]<;>refine aX f2 ?_<;>simp
    ·have h1:¬(1:Int)=(e.L.length:Int):=by omega
     simp[Fv,FQ,c3]
     try simp only[c3] at f3
     refine bZ f3 ?_
     simp[a4,h1,c3]
   ·by_cases c4:4≤e.K∧e.K≤8
    ·obtain⟨k1,k2⟩:=c4
     have p1:lw e.K=2:=by
      unfold lw
      rw[if_neg (by omega),if_neg c3,if_pos ⟨k1,k2⟩]
     rw[p1] at f3
     by_cases a4:e.L.length=2
     ·by_cases a1:e.N=0<;>by_cases a3:e.S=[]<;>simp[Fv,FQ]<;>refine bZ f3 ?_<;>simp[a4,c1,c2,c3,k1,k2,a1,a3]
     ·have h1:¬(2:Int)=(e.L.length:Int):=by omega
      simp[Fv,FQ]
      refine bZ f3 ?_
      simp[a4,h1,c1,c2,c3]
    ·have p1:lw e.K=-1:=by
      unfold lw
      rw[if_neg (by omega),if_neg c3,if_neg c4]
     rw[p1] at f3
     have h1:¬(-1:Int)=(e.L.length:Int):=by omega
     have h2:(decide (4≤e.K)&&decide (e.K≤8))=false:=by
      rw[Bool.eq_false_iff];simpa using c4
     rw[if_neg c1,if_neg c2,if_neg c3,h2]
     simp[Fv,FQ]
     refine bZ f3 ?_
     simp[h1]
mutual
def rD (d:Int):Exp→Option Nat
 | ⟨K,N,S,L⟩=>if d≤8∧wH ⟨K,N,S,L⟩=true then Aj (d+1) 1 L else none
def Aj (d:Int) (n:Nat):List Exp→Option Nat
 | []=>some n
 | x::l=>match rD d x with
  | some m=>Aj d (n+m) l
  | none=>none
end
theorem Eo (d:Int) (e:Exp):rD d e=if d≤8∧wH e=true then Aj (d+1) 1 e.L else none:=by cases e;rw[rD]
theorem Bd {d:Int}:∀ {l:List Exp} {n m:Nat},(∀ x∈l,∀ k,rD d x=some k→k≤1+x.tot)→Aj d n l=some m→n≤m∧m≤n+(l.length+(l.map Exp.tot).sum)
 | [],n,m,_,h=>by simp[Aj] at h;subst h;simp
 | x::l,n,m,hx,h=>by
  rw[Aj] at h
  cases hc:rD d x with
  | none=>rw[hc] at h;cases h
  | some k =>
   rw[hc] at h
   have h1:=hx x (by simp) k hc
   obtain⟨h2,h3⟩:=Bd (fun y hy=>hx y (by simp[hy])) h
   simp only[List.map_cons,List.sum_cons,List.length_cons]
   omega
theorem Be:∀ (e:Exp) (d:Int) (k:Nat),rD d e=some k→1≤k∧k≤1+e.tot:=Exp.ind fun e ih d k h=>by
 rw[Eo] at h
 have ht:=e.tot_eq
 split at h
 ·obtain⟨h1,h2⟩:=Bd (fun x hx k hk=>(ih x hx _ k hk).2) h
  omega
 ·cases h
def Dy (o:Option Nat):Int:=match o with|some n=>n|none=>-1
def Gt (d:Int) (L:List Exp) (i:Nat):Nat:=1+((L.take i).map fun x=>(rD d x).getD 0).sum
theorem Lr {d:Int} {L:List Exp} {i:Nat} {y:Exp} {m:Nat} (hy:L[i]?=some y) (hm:rD d y=some m):Gt d L (i+1)=Gt d L i+m:=by
 unfold Gt
 rw[List.take_add_one,hy]
 simp[hm];omega
theorem drop_at {L:List Exp} {i:Nat} {y:Exp} (hy:L[i]?=some y):L.drop i=y::L.drop (i+1):=by
 rw[List.drop_eq_getElem_cons (List.getElem?_eq_some_iff.1 hy).1,(List.getElem?_eq_some_iff.1 hy).2]
theorem asO (d:Int) (L:List Exp) (i:Nat):Gt d L i≤1+(L.length+(L.map Exp.tot).sum):=by
 have key:∀ M:List Exp,((M.map fun x=>(rD d x).getD 0).sum)≤M.length+(M.map Exp.tot).sum:=by
  intro M
  induction M with
  | nil=>simp
  | cons x M ih =>
   have:(rD d x).getD 0≤1+x.tot:=by
    cases h:rD d x with
    | none=>simp
    | some k=>have:=(Be x d k h).2;simpa using this
   simp only[List.map_cons,List.sum_cons,List.length_cons]
   omega
 have h1:=key (L.take i)
 have h2:L.map Exp.tot=(L.take i).map Exp.tot++(L.drop i).map Exp.tot:=by rw[←List.map_append,List.take_append_drop]
 have h3:(L.map Exp.tot).sum=((L.take i).map Exp.tot).sum+((L.drop i).map Exp.tot).sum:=by rw[h2,List.sum_append]
 have h4:(L.take i).length≤L.length:=by simp;omega
 unfold Gt
 omega
theorem D8:∀ e:Exp,e.tot≤5000000→∀ d:Int,0≤d→d≤100→Says prog 340 [.agg (Cs e.d),.int .i64 d] (.int .i64 (Dy (rD d e))) []:=Exp.ind fun e ih he d d0 d1=>by
 have ht:=e.tot_eq
 have f1:=Hw e (by omega)
 have hw:IntKind.i64.wrap (d+1)=d+1:=wrap64 (by omega) (by omega)
 refine dD Go.Proofs.Tryz.func340 au7 ?_
 rw[Eo]
 simp at f1
 by_cases c1:d≤8
 ·have c1':¬8<d:=by omega
  cases hb:wH e
  ·rw[hb] at f1
   simp[aba,abq,c1,c1']
   refine aX f1 ?_
   simp[Dy]
  ·rw[hb] at f1
   simp[aba,abq,c1,c1']
   refine aX f1 ?_
   simp
   generalize hR:Aj (d+1) 1 e.L=R
   refine eY (l:=O1) (b:=Qj) rfl [10,11,12] (fun i=>[(5,.int .i64 (Gt (d+1) e.L i:Nat)),(8,.int .i64 i)]) (fun i=>Aj (d+1) (Gt (d+1) e.L i) (e.L.drop i)=R) e.L.length (by simpa [Gt] using hR) (by simp[Gt]) ?_ ?_
   ·intro i hi hI q hn hx hr
    obtain⟨y,hy0⟩:=cu hi
    have hrow:=row_drop Exp.d 4 Exp.d_len hy0
    have hwi:=wrap_succ (i:=i) (by omega)
    have hf:=ih y (List.mem_of_getElem? hy0) (by have:=dV Exp.tot (List.mem_of_getElem? hy0);omega) (d+1) (by omega) (by omega)
    rw[drop_at hy0,Aj] at hI
    cases hc:rD (d+1) y with
    | none =>
     rw[hc] at hI hf
     simp only at hI
     simp[Dy] at hf
     simp[hi,aT,hrow,hw]
     refine aX hf ?_
     simp
     refine hr _ ?_
     simp[←hI,Dy]
    | some m =>
     rw[hc] at hI hf
     simp only at hI
     have hs:=Lr hy0 hc
     have hle:=asO (d+1) e.L (i+1)
     rw[hs] at hle hn
     simp[Dy] at hf
     generalize Gt (d+1) e.L i=A at hn hI hle ⊢
     have hwa:IntKind.i64.wrap ((A:Int)+(m:Int))=((A+m:Nat):Int):=by rw[bJ]<;>omega
     have hm0:¬((m:Int)<0):=by omega
     simp[hi,aT,hrow,hw]
     refine aX hf ?_
     simp at hwa
     simp[hm0,hwa,hwi]
     refine hn _ ?_ hI
     simp
   ·intro hI q hx hr
    simp[Aj] at hI
    simp
    refine hx _ _ ?_
    simp[←hI,Dy]
 ·have c1':8<d:=by omega
  simp[aba,abq,c1,c1',Dy]
mutual
def vF (d:Int):Exp→Nat
 | ⟨K,N,S,L⟩=>if d≤8∧wH ⟨K,N,S,L⟩=true then oO (d+1) 1 L else 100
def oO (d:Int) (n:Nat):List Exp→Nat
 | []=>n
 | x::l=>if n≤60 then oO d (n+vF d x) l else n
end
theorem En (d:Int) (e:Exp):vF d e=if d≤8∧wH e=true then oO (d+1) 1 e.L else 100:=by cases e;rw[vF]
theorem Bc {d:Int}:∀ {l:List Exp} {n:Nat},n≤oO d n l
 | [],n=>by simp[oO]
 | x::l,n=>by
  rw[oO]
  split
  ·have:=Bc (d:=d) (l:=l) (n:=n+vF d x);omega
  ·omega
theorem JJ {d:Int} {l:List Exp} {n k:Nat} (h:Aj d n l=some k):n≤k:=(Bd (fun x _ k hk=>(Be x d k hk).2) h).1
def Like (v:Nat) (o:Option Nat):Prop:=(v≤60→o=some v)∧∀ k,o=some k→k≤60→v=k
theorem O0 {d:Int}:∀ {l:List Exp} {n:Nat},(∀ x∈l,Like (vF d x) (rD d x))→Like (oO d n l) (Aj d n l)
 | [],n,_=>by simp[Like,oO,Aj]
 | x::l,n,h=>by
  have h0:=h x (by simp)
  rw[oO,Aj]
  by_cases hn:n≤60
  ·rw[if_pos hn]
   cases hc:rD d x with
   | none =>
    have hv:¬vF d x≤60:=fun hv=>by have:=h0.1 hv;rw[hc] at this;cases this
    have:=Bc (d:=d) (l:=l) (n:=n+vF d x)
    exact⟨fun hh=>by omega,fun k hk=>by cases hk⟩
   | some m =>
    by_cases hm:m≤60
    ·rw[h0.2 m hc hm]
     exact O0 fun y hy=>h y (by simp[hy])
    ·have hv:¬vF d x≤60:=fun hv=>by have:=h0.1 hv;rw[hc] at this;cases this;exact hm hv
     have:=Bc (d:=d) (l:=l) (n:=n+vF d x)
     refine⟨fun hh=>by omega,fun k hk hk2=>?_⟩
     have:=JJ hk
     omega
  ·rw[if_neg hn]
   refine⟨fun hh=>absurd hh hn,fun k hk hk2=>?_⟩
   split at hk
   ·have:=JJ hk;omega
   ·cases hk
theorem adB:∀ (e:Exp) (d:Int),Like (vF d e) (rD d e):=Exp.ind fun e ih d=>by
 rw[En,Eo]
 split
 ·exact O0 fun x hx=>ih x hx _
 ·exact⟨fun h=>by omega,fun k hk=>by cases hk⟩
theorem Gn {d:Int} {B:Nat}:∀ {l:List Exp} {n:Nat},(∀ x∈l,vF d x≤B)→oO d n l≤max n (60+B)
 | [],n,_=>by simp only[oO];omega
 | x::l,n,h=>by
  rw[oO]
  split
  ·have h1:=h x (by simp)
   have:=Gn (l:=l) (n:=n+vF d x) (fun y hy=>h y (by simp[hy]))
   omega
  ·omega
theorem Uy:∀ (e:Exp) (d:Int),vF d e≤100+60*(9-d).toNat:=Exp.ind fun e ih d=>by
 rw[En]
 split
 ·rename_i h
  have:=Gn (l:=e.L) (n:=1) (B:=100+60*(9-(d+1)).toNat) (fun x hx=>ih x hx (d+1))
  have h2:(9-d).toNat=(9-(d+1)).toNat+1:=by omega
  omega
 ·omega
def JP (d:Int) (L:List Exp) (i:Nat):Nat:=1+((L.take i).map (vF d)).sum
theorem Lp {d:Int} {L:List Exp} {i:Nat} {y:Exp} (hy:L[i]?=some y):JP d L (i+1)=JP d L i+vF d y:=by
 unfold JP
 rw[List.take_add_one,hy]
 simp;omega
theorem Il:∀ e:Exp,e.tot≤5000000→∀ d:Int,0≤d→d≤100→Says prog 295 [.agg (Cs e.d),.int .i64 d] (.int .i64 (vF d e:Nat)) []:=Exp.ind fun e ih he d d0 d1=>by
 have ht:=e.tot_eq
 have f1:=KD e (by omega)
 have hw:IntKind.i64.wrap (d+1)=d+1:=wrap64 (by omega) (by omega)
 refine dD Go.Proofs.Tryz.func295 avh ?_
 rw[En]
 simp at f1
 by_cases c1:d≤8
 ·have c1':¬8<d:=by omega
  cases hb:wH e
  ·rw[hb] at f1
   simp[abb,abr,c1,c1']
   refine aX f1 ?_
   simp
  ·rw[hb] at f1
   simp[abb,abr,c1,c1']
   refine aX f1 ?_
   simp
   generalize hR:oO (d+1) 1 e.L=R
   refine eY (l:=O5) (b:=Qm) rfl [] (fun i=>[(5,.int .i64 (JP (d+1) e.L i:Nat)),(6,.int .i64 i)]) (fun i=>oO (d+1) (JP (d+1) e.L i) (e.L.drop i)=R) e.L.length (by simpa [JP] using hR) (by simp[JP]) ?_ ?_
   ·intro i hi hI q hn hx hr
    obtain⟨y,hy0⟩:=cu hi
    have hrow:=row_drop Exp.d 4 Exp.d_len hy0
    have hwi:=wrap_succ (i:=i) (by omega)
    have hf:=ih y (List.mem_of_getElem? hy0) (by have:=dV Exp.tot (List.mem_of_getElem? hy0);omega) (d+1) (by omega) (by omega)
    have hle:=Uy y (d+1)
    have hs:=Lp (d:=d+1) hy0
    rw[drop_at hy0,oO] at hI
    rw[hs] at hn
    simp at hf
    generalize JP (d+1) e.L i=A at hn hI ⊢
    generalize vF (d+1) y=z at hf hn hI hle
    by_cases hA:A≤60
    ·rw[if_pos hA] at hI
     have hA':(A:Int)≤60:=by omega
     have hwa:IntKind.i64.wrap ((A:Int)+(z:Int))=((A+z:Nat):Int):=by rw[bJ]<;>omega
     simp[hi,aT,hrow,hw,hA']
     refine aX hf ?_
     simp at hwa
     simp[hwa,hwi]
     refine hn _ ?_ hI
     simp
    ·rw[if_neg hA] at hI
     have hA':¬(A:Int)≤60:=by omega
     simp[hi,hA']
     refine hx _ _ ?_
     simp[←hI]
   ·intro hI q hx hr
    simp[oO] at hI
    simp
    refine hx _ _ ?_
    simp[←hI]
 ·have c1':8<d:=by omega
  simp[abb,abr,c1,c1']
def tu (e:Exp):Bool:=match rD 1 e with
 | some n=>decide (n≤60)
 | none=>false
theorem Ig (e:Exp) (he:e.tot≤5000000):Says prog 308 [.agg (Cs e.d)] (.bool (tu e)) []:=by
 have f:=D8 e he 1 (by omega) (by omega)
 have g:=iE (Dy (rD 1 e)) 1 60
 have hv:(decide (1≤Dy (rD 1 e))&&decide (Dy (rD 1 e)≤60))=tu e:=by
  unfold tu
  cases hc:rD 1 e with
  | none=>simp[Dy]
  | some n =>
   have:=(Be e 1 n hc).1
   show (decide (1≤(n:Int))&&decide ((n:Int)≤60))=decide (n≤60)
   rw[Bool.eq_iff_iff,Bool.and_eq_true,decide_eq_true_iff,decide_eq_true_iff,decide_eq_true_iff]
   omega
 rw[hv] at g
 generalize Dy (rD 1 e)=z at f g
 simp at f
 refine dD Go.Proofs.Tryz.func308 ave ?_
 simp[aDC,aEL]
 refine aX f ?_
 simp
 refine aX g ?_
 simp
theorem kG (e:Exp) (he:e.tot≤5000000):Says prog 235 [.agg (Cs e.d)] (.bool (tu e)) []:=by
 have f:=Il e he 1 (by omega) (by omega)
 have hl:=adB e 1
 have hv:decide (((vF 1 e:Nat):Int)≤60)=tu e:=by
  unfold tu
  cases hc:rD 1 e with
  | none =>
   have:¬vF 1 e≤60:=fun h=>by have:=hl.1 h;rw[hc] at this;cases this
   simp;omega
  | some n =>
   rw[Bool.eq_iff_iff]
   simp
   constructor
   ·intro h
    have h1:=hl.1 (by omega)
    rw[hc] at h1;cases h1;omega
   ·intro h
    have:=hl.2 n hc h
    omega
 simp at f
 refine dD Go.Proofs.Tryz.func235 avN ?_
 simp[aDY,aE8]
 refine aX f ?_
 try simp at hv
 simp[hv]
def vU (e:Exp):Bool:=decide (e.K=0)&&(decide (e.N=0)&&(decide (e.S=[])&&decide (e.L=[])))
theorem kK (e:Exp):Says prog 234 [.agg (Cs e.d)] (.bool (vU e)) []:=by
 have h0:((e.L.length:Int)==0)=decide (e.L=[]):=by rw[Bool.eq_iff_iff];simp
 refine dD Go.Proofs.Tryz.func234 avO ?_
 unfold vU
 by_cases c1:e.K=0<;>by_cases c2:e.N=0<;>by_cases c3:e.S=[]<;>simp[v234,aE9,c1,c2,c3,h0]
theorem JS (e:Exp):Says prog 309 [.agg (Cs e.d)] (.bool (vU e)) []:=by
 have h0:((e.L.length:Int)==0)=decide (e.L=[]):=by rw[Bool.eq_iff_iff];simp
 refine dD Go.Proofs.Tryz.func309 avd ?_
 unfold vU
 by_cases c1:e.K=0<;>by_cases c2:e.N=0<;>by_cases c3:e.S=[]<;>simp[aDB,aEK,c1,c2,c3,h0]
theorem jJ (e:Exp) (b:Bool) (he:e.tot≤5000000):Says prog 247 [.agg (Cs e.d),.bool b] (.bool (if b then tu e else vU e)) []:=by
 have f1:=Ig e he
 have f2:=JS e
 simp at f1 f2
 refine dD Go.Proofs.Tryz.func247 avK ?_
 cases b
 ·simp[ato,atI]
  refine aX f2 ?_
  simp
 ·simp[ato,atI]
  refine aX f1 ?_
  simp
theorem yj (k:Int):Says prog 246 [.int .i64 k] (.tup [none,none,none,none] [.bool (decide (k=2)),.bool (decide (k≠3)),.bool (decide (k=3)),.bool (decide (k=1∨k=2∨k=3))]) []:=by
 refine dD Go.Proofs.Tryz.func246 avL ?_
 by_cases c1:k=1
 ·subst c1;simp[Si,Tv]
 ·by_cases c2:k=2
  ·subst c2;simp[Si,Tv]
  ·by_cases c3:k=3
   ·subst c3;simp[Si,Tv]
   ·simp[Si,Tv,c1,c2,c3]
end Go.AmC
