import Derived.Test.YtafglhcclmbnbaaGreatSwapAllSize
set_option linter.unusedSimpArgs false
set_option linter.unusedVariables false
set_option maxRecDepth 20000
set_option maxHeartbeats 4000000
namespace Go.AmC
open Go Go.AM
open Go.Proofs.Tryz (prog)
def uY (e:Exp):Bool :=
 if e.K=1 then (decide (0≤e.N)&&decide (e.N≤999999))&&decide (e.S=[])&&decide (e.L.length=0)
 else if e.K=2 then bZ e.S&&decide (e.N=0)&&decide (e.L.length=0)
 else if e.K=3 then bZ e.S&&decide (e.N=0)&&decide (e.L.length=1)
 else (decide (4≤e.K)&&decide (e.K≤8))&&decide (e.N=0)&&decide (e.S=[])&&decide (e.L.length=2)
theorem Hu (k:Int):Says prog 369 [.int .i64 k] (.bool (decide (4≤k)&&decide (k≤8))) []:=by
 refine aP Go.Proofs.Tryz.func369 afE ?_
 simp[aCn,aCT]
 refine ai (iq k 4 8) ?_
 simp
theorem J3 (e:Exp) (hs:e.S.length≤5000000):Says prog 372 [.agg (Cs e.d)] (.bool (uY e)) []:=by
 have f1:=iq e.N 0 999999
 have f2:=qF e.S (by omega)
 have f3:=Hu e.K
 have h0:((e.L.length:Int)==0)=decide (e.L=[]):=by rw[Bool.eq_iff_iff];simp
 have h1:((e.L.length:Int)==1)=decide (e.L.length=1):=by rw[Bool.eq_iff_iff];simp;omega
 have h2:((e.L.length:Int)==2)=decide (e.L.length=2):=by rw[Bool.eq_iff_iff];simp;omega
 refine aP Go.Proofs.Tryz.func372 aEN ?_
 unfold uY
 by_cases c1:e.K=1
 ·by_cases a1:0≤e.N<;>by_cases a2:e.N≤999999<;>by_cases a3:e.S=[]<;>simp[a1,a2] at f1<;>simp[Xw,XQ,c1]<;>refine ai f1 ?_<;>simp[c1,a1,a2,a3,h0]
 ·by_cases c2:e.K=2
  ·cases hb:bZ e.S<;>rw[hb] at f2<;>by_cases a1:e.N=0<;>simp[Xw,XQ,c2]<;>refine ai f2 ?_<;>simp[a1,h0,h1]
  ·by_cases c3:e.K=3
   ·cases hb:bZ e.S<;>rw[hb] at f2<;>by_cases a1:e.N=0<;>simp[Xw,XQ,c3]<;>refine ai f2 ?_<;>simp[a1,h0,h1]
   ·by_cases a0:4≤e.K<;>by_cases a1:e.K≤8<;>by_cases a2:e.N=0<;>by_cases a3:e.S=[]<;>simp[a0,a1] at f3<;>simp[Xw,XQ,c1,c2,c3]<;>refine ai f3 ?_<;>simp[a0,a1,a2,a3,h2]
def kH (k:Int):Int:=if k=1∨k=2 then 0 else if k=3 then 1 else if 4≤k∧k≤8 then 2 else -1
theorem Ho (k:Int):Says prog 368 [.int .i64 k] (.int .i64 (kH k)) []:=by
 refine aP Go.Proofs.Tryz.func368 aEP ?_
 by_cases c:k=1∨k=2∨k=3∨k=4∨k=5∨k=6∨k=7∨k=8
 ·rcases c with rfl|rfl|rfl|rfl|rfl|rfl|rfl|rfl<;>simp[aCo,aCU,kH]
 ·simp only[not_or] at c
  obtain⟨c1,c2,c3,c4,c5,c6,c7,c8⟩:=c
  have e:kH k=-1:=by
   unfold kH
   rw[if_neg (by omega),if_neg c3,if_neg (by omega)]
  rw[e]
  simp[aCo,aCU,c1,c2,c3,c4,c5,c6,c7,c8]
theorem Pi (e:Exp) (hs:e.S.length≤5000000):Says prog 333 [.agg (Cs e.d)] (.bool (uY e)) []:=by
 have f1:=iU e.N 0 999999
 have f2:=tK e.S (by omega)
 have f3:=Ho e.K
 refine aP Go.Proofs.Tryz.func333 aE7 ?_
 unfold uY
 by_cases c1:e.K=1
 ·have p1:kH e.K=0:=by simp[kH,c1]
  rw[p1] at f3
  by_cases a4:e.L.length=0
  ·have h0:e.L=[]:=List.eq_nil_of_length_eq_zero a4
   by_cases a1:0≤e.N<;>by_cases a2:e.N≤999999<;>by_cases a3:e.S=[]<;>simp[a1,a2] at f1<;>simp[Ii,IA,c1]<;>(try simp only[c1] at f3)<;>refine ay f3 ?_<;>simp[h0,c1]<;>refine ai f1 ?_<;>simp[a1,a2,a3]
  ·have h0:¬e.L=[]:=fun h=>a4 (by rw[h];rfl)
   have h1:¬(0:Int)=(e.L.length:Int):=by omega
   simp[Ii,IA,c1]
   try simp only[c1] at f3
   refine ay f3 ?_
   simp[h0,h1,c1]
 ·by_cases c2:e.K=2
  ·have p1:kH e.K=0:=by simp[kH,c2]
   rw[p1] at f3
   by_cases a4:e.L.length=0
   ·have h0:e.L=[]:=List.eq_nil_of_length_eq_zero a4
    cases hb:bZ e.S<;>rw[hb] at f2<;>by_cases a1:e.N=0<;>simp[Ii,IA,c2]<;>(try simp only[c2] at f3)<;>refine ay f3 ?_<;>simp[h0,c2,a1]<;>refine ai f2 ?_<;>simp
   ·have h0:¬e.L=[]:=fun h=>a4 (by rw[h];rfl)
    have h1:¬(0:Int)=(e.L.length:Int):=by omega
    simp[Ii,IA,c2]
    try simp only[c2] at f3
    refine ay f3 ?_
    simp[h0,h1,c2]
  ·by_cases c3:e.K=3
   ·have p1:kH e.K=1:=by simp[kH,c3]
    rw[p1] at f3
    by_cases a4:e.L.length=1
    ·cases hb:bZ e.S<;>rw[hb] at f2<;>by_cases a1:e.N=0<;>simp[Ii,IA,c3]<;>(try simp only[c3] at f3)<;>refine ay f3 ?_<;>simp[a4,c3,a1]<;>refine ai f2 ?_<;>simp
    ·have h1:¬(1:Int)=(e.L.length:Int):=by omega
     simp[Ii,IA,c3]
     try simp only[c3] at f3
     refine ay f3 ?_
     simp[a4,h1,c3]
   ·by_cases c4:4≤e.K∧e.K≤8
    ·obtain⟨k1,k2⟩:=c4
     have p1:kH e.K=2:=by
      unfold kH
      rw[if_neg (by omega),if_neg c3,if_pos ⟨k1,k2⟩]
     rw[p1] at f3
     by_cases a4:e.L.length=2
     ·by_cases a1:e.N=0<;>by_cases a3:e.S=[]<;>simp[Ii,IA]<;>refine ay f3 ?_<;>simp[a4,c1,c2,c3,k1,k2,a1,a3]
     ·have h1:¬(2:Int)=(e.L.length:Int):=by omega
      simp[Ii,IA]
      refine ay f3 ?_
      simp[a4,h1,c1,c2,c3]
    ·have p1:kH e.K=-1:=by
      unfold kH
      rw[if_neg (by omega),if_neg c3,if_neg c4]
     rw[p1] at f3
     have h1:¬(-1:Int)=(e.L.length:Int):=by omega
     have h2:(decide (4≤e.K)&&decide (e.K≤8))=false:=by
      rw[Bool.eq_false_iff];simpa using c4
     rw[if_neg c1,if_neg c2,if_neg c3,h2]
     simp[Ii,IA]
     refine ay f3 ?_
     simp[h1]
mutual
def oM (d:Int):Exp→Option Nat
 | ⟨K,N,S,L⟩=>if d≤8∧uY ⟨K,N,S,L⟩=true then wW (d+1) 1 L else none
def wW (d:Int) (n:Nat):List Exp→Option Nat
 | []=>some n
 | x::l=>match oM d x with
  | some m=>wW d (n+m) l
  | none=>none
end
theorem AC (d:Int) (e:Exp):oM d e=if d≤8∧uY e=true then wW (d+1) 1 e.L else none:=by cases e;rw[oM]
theorem BX {d:Int}:∀ {l:List Exp} {n m:Nat},(∀ x∈l,∀ k,oM d x=some k→k≤1+x.tot)→wW d n l=some m→n≤m∧m≤n+(l.length+(l.map Exp.tot).sum)
 | [],n,m,_,h=>by simp[wW] at h;subst h;simp
 | x::l,n,m,hx,h=>by
  rw[wW] at h
  cases hc:oM d x with
  | none=>rw[hc] at h;cases h
  | some k =>
   rw[hc] at h
   have h1:=hx x (by simp) k hc
   obtain⟨h2,h3⟩:=BX (fun y hy=>hx y (by simp[hy])) h
   simp only[List.map_cons,List.sum_cons,List.length_cons]
   omega
theorem BZ:∀ (e:Exp) (d:Int) (k:Nat),oM d e=some k→1≤k∧k≤1+e.tot:=Exp.ind fun e ih d k h=>by
 rw[AC] at h
 have ht:=e.tot_eq
 split at h
 ·obtain⟨h1,h2⟩:=BX (fun x hx k hk=>(ih x hx _ k hk).2) h
  omega
 ·cases h
def EO (o:Option Nat):Int:=match o with|some n=>n|none=>-1
def Jo (d:Int) (L:List Exp) (i:Nat):Nat:=1+((L.take i).map fun x=>(oM d x).getD 0).sum
theorem PY {d:Int} {L:List Exp} {i:Nat} {y:Exp} {m:Nat} (hy:L[i]?=some y) (hm:oM d y=some m):Jo d L (i+1)=Jo d L i+m:=by
 unfold Jo
 rw[List.take_add_one,hy]
 simp[hm];omega
theorem drop_at {L:List Exp} {i:Nat} {y:Exp} (hy:L[i]?=some y):L.drop i=y::L.drop (i+1):=by
 rw[List.drop_eq_getElem_cons (List.getElem?_eq_some_iff.1 hy).1,(List.getElem?_eq_some_iff.1 hy).2]
theorem aB1 (d:Int) (L:List Exp) (i:Nat):Jo d L i≤1+(L.length+(L.map Exp.tot).sum):=by
 have key:∀ M:List Exp,((M.map fun x=>(oM d x).getD 0).sum)≤M.length+(M.map Exp.tot).sum:=by
  intro M
  induction M with
  | nil=>simp
  | cons x M ih =>
   have:(oM d x).getD 0≤1+x.tot:=by
    cases h:oM d x with
    | none=>simp
    | some k=>have:=(BZ x d k h).2;simpa using this
   simp only[List.map_cons,List.sum_cons,List.length_cons]
   omega
 have h1:=key (L.take i)
 have h2:L.map Exp.tot=(L.take i).map Exp.tot++(L.drop i).map Exp.tot:=by rw[←List.map_append,List.take_append_drop]
 have h3:(L.map Exp.tot).sum=((L.take i).map Exp.tot).sum+((L.drop i).map Exp.tot).sum:=by rw[h2,List.sum_append]
 have h4:(L.take i).length≤L.length:=by simp;omega
 unfold Jo
 omega
theorem Fz:∀ e:Exp,e.tot≤5000000→∀ d:Int,0≤d→d≤100→Says prog 340 [.agg (Cs e.d),.int .i64 d] (.int .i64 (EO (oM d e))) []:=Exp.ind fun e ih he d d0 d1=>by
 have ht:=e.tot_eq
 have f1:=J3 e (by omega)
 have hw:IntKind.i64.wrap (d+1)=d+1:=wrap64 (by omega) (by omega)
 refine aP Go.Proofs.Tryz.func340 aE1 ?_
 rw[AC]
 simp at f1
 by_cases c1:d≤8
 ·have c1':¬8<d:=by omega
  cases hb:uY e
  ·rw[hb] at f1
   simp[afj,afv,c1,c1']
   refine ai f1 ?_
   simp[EO]
  ·rw[hb] at f1
   simp[afj,afv,c1,c1']
   refine ai f1 ?_
   simp
   generalize hR:wW (d+1) 1 e.L=R
   refine aZ (l:=TM) (b:=VH) rfl [10,11,12] (fun i=>[(5,.int .i64 (Jo (d+1) e.L i:Nat)),(8,.int .i64 i)]) (fun i=>wW (d+1) (Jo (d+1) e.L i) (e.L.drop i)=R) e.L.length (by simpa [Jo] using hR) (by simp[Jo]) ?_ ?_
   ·intro i hi hI q hn hx hr
    obtain⟨y,hy0⟩:=ax hi
    have hrow:=row_drop Exp.d 4 Exp.d_len hy0
    have hwi:=wrap_succ (i:=i) (by omega)
    have hf:=ih y (List.mem_of_getElem? hy0) (by have:=az Exp.tot (List.mem_of_getElem? hy0);omega) (d+1) (by omega) (by omega)
    rw[drop_at hy0,wW] at hI
    cases hc:oM (d+1) y with
    | none =>
     rw[hc] at hI hf
     simp only at hI
     simp[EO] at hf
     simp[hi,aj,hrow,hw]
     refine ai hf ?_
     simp
     refine hr _ ?_
     simp[←hI,EO]
    | some m =>
     rw[hc] at hI hf
     simp only at hI
     have hs:=PY hy0 hc
     have hle:=aB1 (d+1) e.L (i+1)
     rw[hs] at hle hn
     simp[EO] at hf
     generalize Jo (d+1) e.L i=A at hn hI hle ⊢
     have hwa:IntKind.i64.wrap ((A:Int)+(m:Int))=((A+m:Nat):Int):=by rw[aA]<;>omega
     have hm0:¬((m:Int)<0):=by omega
     simp[hi,aj,hrow,hw]
     refine ai hf ?_
     simp at hwa
     simp[hm0,hwa,hwi]
     refine hn _ ?_ hI
     simp
   ·intro hI q hx hr
    simp[wW] at hI
    simp
    refine hx _ _ ?_
    simp[←hI,EO]
 ·have c1':8<d:=by omega
  simp[afj,afv,c1,c1',EO]
mutual
def vI (d:Int):Exp→Nat
 | ⟨K,N,S,L⟩=>if d≤8∧uY ⟨K,N,S,L⟩=true then nR (d+1) 1 L else 100
def nR (d:Int) (n:Nat):List Exp→Nat
 | []=>n
 | x::l=>if n≤60 then nR d (n+vI d x) l else n
end
theorem Gl (d:Int) (e:Exp):vI d e=if d≤8∧uY e=true then nR (d+1) 1 e.L else 100:=by cases e;rw[vI]
theorem BV {d:Int}:∀ {l:List Exp} {n:Nat},n≤nR d n l
 | [],n=>by simp[nR]
 | x::l,n=>by
  rw[nR]
  split
  ·have:=BV (d:=d) (l:=l) (n:=n+vI d x);omega
  ·omega
theorem N7 {d:Int} {l:List Exp} {n k:Nat} (h:wW d n l=some k):n≤k:=(BX (fun x _ k hk=>(BZ x d k hk).2) h).1
def Like (v:Nat) (o:Option Nat):Prop:=(v≤60→o=some v)∧∀ k,o=some k→k≤60→v=k
theorem SQ {d:Int}:∀ {l:List Exp} {n:Nat},(∀ x∈l,Like (vI d x) (oM d x))→Like (nR d n l) (wW d n l)
 | [],n,_=>by simp[Like,nR,wW]
 | x::l,n,h=>by
  have h0:=h x (by simp)
  rw[nR,wW]
  by_cases hn:n≤60
  ·rw[if_pos hn]
   cases hc:oM d x with
   | none =>
    have hv:¬vI d x≤60:=fun hv=>by have:=h0.1 hv;rw[hc] at this;cases this
    have:=BV (d:=d) (l:=l) (n:=n+vI d x)
    exact⟨fun hh=>by omega,fun k hk=>by cases hk⟩
   | some m =>
    by_cases hm:m≤60
    ·rw[h0.2 m hc hm]
     exact SQ fun y hy=>h y (by simp[hy])
    ·have hv:¬vI d x≤60:=fun hv=>by have:=h0.1 hv;rw[hc] at this;cases this;exact hm hv
     have:=BV (d:=d) (l:=l) (n:=n+vI d x)
     refine⟨fun hh=>by omega,fun k hk hk2=>?_⟩
     have:=N7 hk
     omega
  ·rw[if_neg hn]
   refine⟨fun hh=>absurd hh hn,fun k hk hk2=>?_⟩
   split at hk
   ·have:=N7 hk;omega
   ·cases hk
theorem agY:∀ (e:Exp) (d:Int),Like (vI d e) (oM d e):=Exp.ind fun e ih d=>by
 rw[Gl,AC]
 split
 ·exact SQ fun x hx=>ih x hx _
 ·exact⟨fun h=>by omega,fun k hk=>by cases hk⟩
theorem Jh {d:Int} {B:Nat}:∀ {l:List Exp} {n:Nat},(∀ x∈l,vI d x≤B)→nR d n l≤max n (60+B)
 | [],n,_=>by simp only[nR];omega
 | x::l,n,h=>by
  rw[nR]
  split
  ·have h1:=h x (by simp)
   have:=Jh (l:=l) (n:=n+vI d x) (fun y hy=>h y (by simp[hy]))
   omega
  ·omega
theorem Yu:∀ (e:Exp) (d:Int),vI d e≤100+60*(9-d).toNat:=Exp.ind fun e ih d=>by
 rw[Gl]
 split
 ·rename_i h
  have:=Jh (l:=e.L) (n:=1) (B:=100+60*(9-(d+1)).toNat) (fun x hx=>ih x hx (d+1))
  have h2:(9-d).toNat=(9-(d+1)).toNat+1:=by omega
  omega
 ·omega
def Og (d:Int) (L:List Exp) (i:Nat):Nat:=1+((L.take i).map (vI d)).sum
theorem PX {d:Int} {L:List Exp} {i:Nat} {y:Exp} (hy:L[i]?=some y):Og d L (i+1)=Og d L i+vI d y:=by
 unfold Og
 rw[List.take_add_one,hy]
 simp;omega
theorem KY:∀ e:Exp,e.tot≤5000000→∀ d:Int,0≤d→d≤100→Says prog 295 [.agg (Cs e.d),.int .i64 d] (.int .i64 (vI d e:Nat)) []:=Exp.ind fun e ih he d d0 d1=>by
 have ht:=e.tot_eq
 have f1:=Pi e (by omega)
 have hw:IntKind.i64.wrap (d+1)=d+1:=wrap64 (by omega) (by omega)
 refine aP Go.Proofs.Tryz.func295 aFB ?_
 rw[Gl]
 simp at f1
 by_cases c1:d≤8
 ·have c1':¬8<d:=by omega
  cases hb:uY e
  ·rw[hb] at f1
   simp[afm,afy,c1,c1']
   refine ai f1 ?_
   simp
  ·rw[hb] at f1
   simp[afm,afy,c1,c1']
   refine ai f1 ?_
   simp
   generalize hR:nR (d+1) 1 e.L=R
   refine aZ (l:=Ud) (b:=VX) rfl [] (fun i=>[(5,.int .i64 (Og (d+1) e.L i:Nat)),(6,.int .i64 i)]) (fun i=>nR (d+1) (Og (d+1) e.L i) (e.L.drop i)=R) e.L.length (by simpa [Og] using hR) (by simp[Og]) ?_ ?_
   ·intro i hi hI q hn hx hr
    obtain⟨y,hy0⟩:=ax hi
    have hrow:=row_drop Exp.d 4 Exp.d_len hy0
    have hwi:=wrap_succ (i:=i) (by omega)
    have hf:=ih y (List.mem_of_getElem? hy0) (by have:=az Exp.tot (List.mem_of_getElem? hy0);omega) (d+1) (by omega) (by omega)
    have hle:=Yu y (d+1)
    have hs:=PX (d:=d+1) hy0
    rw[drop_at hy0,nR] at hI
    rw[hs] at hn
    simp at hf
    generalize Og (d+1) e.L i=A at hn hI ⊢
    generalize vI (d+1) y=z at hf hn hI hle
    by_cases hA:A≤60
    ·rw[if_pos hA] at hI
     have hA':(A:Int)≤60:=by omega
     have hwa:IntKind.i64.wrap ((A:Int)+(z:Int))=((A+z:Nat):Int):=by rw[aA]<;>omega
     simp[hi,aj,hrow,hw,hA']
     refine ai hf ?_
     simp at hwa
     simp[hwa,hwi]
     refine hn _ ?_ hI
     simp
    ·rw[if_neg hA] at hI
     have hA':¬(A:Int)≤60:=by omega
     simp[hi,hA']
     refine hx _ _ ?_
     simp[←hI]
   ·intro hI q hx hr
    simp[nR] at hI
    simp
    refine hx _ _ ?_
    simp[←hI]
 ·have c1':8<d:=by omega
  simp[afm,afy,c1,c1']
def qV (e:Exp):Bool:=match oM 1 e with
 | some n=>decide (n≤60)
 | none=>false
theorem KP (e:Exp) (he:e.tot≤5000000):Says prog 308 [.agg (Cs e.d)] (.bool (qV e)) []:=by
 have f:=Fz e he 1 (by omega) (by omega)
 have g:=iq (EO (oM 1 e)) 1 60
 have hv:(decide (1≤EO (oM 1 e))&&decide (EO (oM 1 e)≤60))=qV e:=by
  unfold qV
  cases hc:oM 1 e with
  | none=>simp[EO]
  | some n =>
   have:=(BZ e 1 n hc).1
   show (decide (1≤(n:Int))&&decide ((n:Int)≤60))=decide (n≤60)
   rw[Bool.eq_iff_iff,Bool.and_eq_true,decide_eq_true_iff,decide_eq_true_iff,decide_eq_true_iff]
   omega
 rw[hv] at g
 generalize EO (oM 1 e)=z at f g
 simp at f
 refine aP Go.Proofs.Tryz.func308 aFp ?_
 simp[aMj,aN3]
 refine ai f ?_
 simp
 refine ai g ?_
 simp
theorem jF (e:Exp) (he:e.tot≤5000000):Says prog 235 [.agg (Cs e.d)] (.bool (qV e)) []:=by
 have f:=KY e he 1 (by omega) (by omega)
 have hl:=agY e 1
 have hv:decide (((vI 1 e:Nat):Int)≤60)=qV e:=by
  unfold qV
  cases hc:oM 1 e with
  | none =>
   have:¬vI 1 e≤60:=fun h=>by have:=hl.1 h;rw[hc] at this;cases this
   simp;omega
  | some n =>
   rw[Bool.eq_iff_iff]
   simp
   constructor
   ·intro h
    have h1:=hl.1 (by omega)
    rw[hc] at h1;cases h1;omega
   ·intro h
    have:=hl.2 n hc h
    omega
 simp at f
 refine aP Go.Proofs.Tryz.func235 aF8 ?_
 simp[aMM,aOx]
 refine ai f ?_
 try simp at hv
 simp[hv]
def qP (e:Exp):Bool:=decide (e.K=0)&&(decide (e.N=0)&&(decide (e.S=[])&&decide (e.L=[])))
theorem jJ (e:Exp):Says prog 234 [.agg (Cs e.d)] (.bool (qP e)) []:=by
 have h0:((e.L.length:Int)==0)=decide (e.L=[]):=by rw[Bool.eq_iff_iff];simp
 refine aP Go.Proofs.Tryz.func234 aF9 ?_
 unfold qP
 by_cases c1:e.K=0<;>by_cases c2:e.N=0<;>by_cases c3:e.S=[]<;>simp[v234,aOy,c1,c2,c3,h0]
theorem Om (e:Exp):Says prog 309 [.agg (Cs e.d)] (.bool (qP e)) []:=by
 have h0:((e.L.length:Int)==0)=decide (e.L=[]):=by rw[Bool.eq_iff_iff];simp
 refine aP Go.Proofs.Tryz.func309 aFo ?_
 unfold qP
 by_cases c1:e.K=0<;>by_cases c2:e.N=0<;>by_cases c3:e.S=[]<;>simp[aMi,aN2,c1,c2,c3,h0]
theorem iW (e:Exp) (b:Bool) (he:e.tot≤5000000):Says prog 247 [.agg (Cs e.d),.bool b] (.bool (if b then qV e else qP e)) []:=by
 have f1:=KP e he
 have f2:=Om e
 simp at f1 f2
 refine aP Go.Proofs.Tryz.func247 aF0 ?_
 cases b
 ·simp[aCH,aDd]
  refine ai f2 ?_
  simp
 ·simp[aCH,aDd]
  refine ai f1 ?_
  simp
theorem yC (k:Int):Says prog 246 [.int .i64 k] (.tup [none,none,none,none] [.bool (decide (k=2)),.bool (decide (k≠3)),.bool (decide (k=3)),.bool (decide (k=1∨k=2∨k=3))]) []:=by
 refine aP Go.Proofs.Tryz.func246 aF1 ?_
 by_cases c1:k=1
 ·subst c1;simp[Xz,XU]
 ·by_cases c2:k=2
  ·subst c2;simp[Xz,XU]
  ·by_cases c3:k=3
   ·subst c3;simp[Xz,XU]
   ·simp[Xz,XU,c1,c2,c3]
set_option maxHeartbeats 8000000
def cZ (e:Exp) (b:Bool):Bool:=if b then qV e else qP e
def ownB (x:Stmt):Bool :=
 (decide (1≤x.K)&&decide (x.K≤4))&&(cZ x.At (decide (x.K=2))&&(cZ x.E (decide (x.K≠3))&&(cZ x.Lo (decide (x.K=3))&&(cZ x.Hi (decide (x.K=3))&&(if x.K=4 then decide (x.S=[]) else bZ x.S)))))
mutual
def gK (f:Int):Stmt→Bool
 | ⟨K,S,At,E,Lo,Hi,B⟩=>ownB ⟨K,S,At,E,Lo,Hi,B⟩&&(if K=3 then decide (f<3)&&((decide (1≤B.length)&&decide (B.length≤6))&&sZ (f+1) B) else decide (B.length=0))
def sZ (f:Int):List Stmt→Bool
 | []=>true
 | x::l=>gK f x&&sZ f l
end
theorem rY (f:Int) (x:Stmt):gK f x=(ownB x&&(if x.K=3 then decide (f<3)&&((decide (1≤x.Body.length)&&decide (x.Body.length≤6))&&sZ (f+1) x.Body) else decide (x.Body.length=0))):=by cases x;rw[gK]
def Aa (f:Int) (x:Stmt):Bool:=decide (x.K=3)&&(ownB x&&(decide (f<3)&&(decide (1≤x.Body.length)&&decide (x.Body.length≤6))))
theorem Hf (x:Stmt) (hx:x.tot≤5000000) (f:Int) (g0:0≤f) (g1:f≤3) (hno:Aa f x=false):Says prog 175 [.agg (Cs x.d),.int .i64 f] (.bool (gK f x)) []:=by
 have ht:=x.tot_eq
 have f1:=iq x.K 1 4
 have f2:=yC x.K
 have f3:=iW x.At (decide (x.K=2)) (by omega)
 have f4:=iW x.E (decide (x.K≠3)) (by omega)
 have f5:=iW x.Lo (decide (x.K=3)) (by omega)
 have f6:=iW x.Hi (decide (x.K=3)) (by omega)
 have f7:=qF x.S (by omega)
 refine aP Go.Proofs.Tryz.func175 afK ?_
 rw[rY]
 by_cases c0:1≤x.K∧x.K≤4
 ·have c00:(decide (1≤x.K)&&decide (x.K≤4))=true:=by simpa using c0
  rw[c00] at f1
  have hown:ownB x=(cZ x.At (decide (x.K=2))&&(cZ x.E (decide (x.K≠3))&&(cZ x.Lo (decide (x.K=3))&&(cZ x.Hi (decide (x.K=3))&&(if x.K=4 then decide (x.S=[]) else bZ x.S))))):=by unfold ownB;rw[c00,Bool.true_and]
  unfold Aa at hno
  rw[hown] at hno ⊢
  change Says _ _ _ (.bool (cZ x.At _)) _ at f3
  change Says _ _ _ (.bool (cZ x.E _)) _ at f4
  change Says _ _ _ (.bool (cZ x.Lo _)) _ at f5
  change Says _ _ _ (.bool (cZ x.Hi _)) _ at f6
  generalize cZ x.At (decide (x.K=2))=b3 at f3 hno ⊢
  generalize cZ x.E (decide (x.K≠3))=b4 at f4 hno ⊢
  generalize cZ x.Lo (decide (x.K=3))=b5 at f5 hno ⊢
  generalize cZ x.Hi (decide (x.K=3))=b6 at f6 hno ⊢
  generalize bZ x.S=b7 at f7 hno ⊢
  have hK:x.K=1∨x.K=2∨x.K=4∨x.K=3:=by omega
  have h0:((x.Body.length:Int)==0)=decide (x.Body.length=0):=by rw[Bool.eq_iff_iff];simp
  rcases hK with k|k|k|k
  ·simp[k] at f1 f2 f3 f4 f5 f6 f7
   cases b3
   ·simp[v175,nD,k]
    repeat' (first|refine ai (by assumption) ?_|refine ay (by assumption) ?_|simp[k])
   cases b4
   ·simp[v175,nD,k]
    repeat' (first|refine ai (by assumption) ?_|refine ay (by assumption) ?_|simp[k])
   cases b5
   ·simp[v175,nD,k]
    repeat' (first|refine ai (by assumption) ?_|refine ay (by assumption) ?_|simp[k])
   cases b6
   ·simp[v175,nD,k]
    repeat' (first|refine ai (by assumption) ?_|refine ay (by assumption) ?_|simp[k])
   cases b7
   ·simp[v175,nD,k]
    repeat' (first|refine ai (by assumption) ?_|refine ay (by assumption) ?_|simp[k])
   simp[v175,nD,k]
   repeat' (first|refine ai (by assumption) ?_|refine ay (by assumption) ?_|simp[k,h0])
  ·simp[k] at f1 f2 f3 f4 f5 f6 f7
   cases b3
   ·simp[v175,nD,k]
    repeat' (first|refine ai (by assumption) ?_|refine ay (by assumption) ?_|simp[k])
   cases b4
   ·simp[v175,nD,k]
    repeat' (first|refine ai (by assumption) ?_|refine ay (by assumption) ?_|simp[k])
   cases b5
   ·simp[v175,nD,k]
    repeat' (first|refine ai (by assumption) ?_|refine ay (by assumption) ?_|simp[k])
   cases b6
   ·simp[v175,nD,k]
    repeat' (first|refine ai (by assumption) ?_|refine ay (by assumption) ?_|simp[k])
   cases b7
   ·simp[v175,nD,k]
    repeat' (first|refine ai (by assumption) ?_|refine ay (by assumption) ?_|simp[k])
   simp[v175,nD,k]
   repeat' (first|refine ai (by assumption) ?_|refine ay (by assumption) ?_|simp[k,h0])
  ·simp[k] at f1 f2 f3 f4 f5 f6
   cases b3
   ·simp[v175,nD,k]
    repeat' (first|refine ai (by assumption) ?_|refine ay (by assumption) ?_|simp[k])
   cases b4
   ·simp[v175,nD,k]
    repeat' (first|refine ai (by assumption) ?_|refine ay (by assumption) ?_|simp[k])
   cases b5
   ·simp[v175,nD,k]
    repeat' (first|refine ai (by assumption) ?_|refine ay (by assumption) ?_|simp[k])
   cases b6
   ·simp[v175,nD,k]
    repeat' (first|refine ai (by assumption) ?_|refine ay (by assumption) ?_|simp[k])
   by_cases c7:x.S=[]
   ·simp[v175,nD,k]
    repeat' (first|refine ai (by assumption) ?_|refine ay (by assumption) ?_|simp[k,h0,c7])
   ·simp[v175,nD,k]
    repeat' (first|refine ai (by assumption) ?_|refine ay (by assumption) ?_|simp[k,h0,c7])
  ·simp[k] at f1 f2 f3 f4 f5 f6 f7
   cases b3
   ·simp[v175,nD,k]
    repeat' (first|refine ai (by assumption) ?_|refine ay (by assumption) ?_|simp[k])
   cases b4
   ·simp[v175,nD,k]
    repeat' (first|refine ai (by assumption) ?_|refine ay (by assumption) ?_|simp[k])
   cases b5
   ·simp[v175,nD,k]
    repeat' (first|refine ai (by assumption) ?_|refine ay (by assumption) ?_|simp[k])
   cases b6
   ·simp[v175,nD,k]
    repeat' (first|refine ai (by assumption) ?_|refine ay (by assumption) ?_|simp[k])
   cases b7
   ·simp[v175,nD,k]
    repeat' (first|refine ai (by assumption) ?_|refine ay (by assumption) ?_|simp[k])
   have g8:=iq (x.Body.length:Int) 1 6
   have e1:decide ((1:Int)≤(x.Body.length:Int))=decide (1≤x.Body.length):=decide_eq_decide.2 (by omega)
   have e2:decide ((x.Body.length:Int)≤6)=decide (x.Body.length≤6):=decide_eq_decide.2 (by omega)
   rw[e1,e2] at g8
   by_cases c8:f=3
   ·subst c8
    simp[v175,nD,k]
    repeat' (first|refine ai (by assumption) ?_|refine ay (by assumption) ?_|simp[k])
   have c8':f<3:=by omega
   cases hb:(decide (1≤x.Body.length)&&decide (x.Body.length≤6))
   ·rw[hb] at g8
    simp[v175,nD,k,c8,c8']
    repeat' (first|refine ai (by assumption) ?_|refine ay (by assumption) ?_|simp[k,c8,c8'])
   rw[hb] at hno
   simp[k,c8'] at hno
 ·have c00:(decide (1≤x.K)&&decide (x.K≤4))=false:=by simpa using c0
  rw[c00] at f1
  have hown:ownB x=false:=by unfold ownB;rw[c00,Bool.false_and]
  try simp at f1
  simp[v175,nD,hown]
  refine ai f1 ?_
  simp
end Go.AmC
