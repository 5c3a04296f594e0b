import Derived.Shelf.Spec.SlicesGrow
import Derived.Test.YtafglhcclmbnbaaGreatProg
import Derived.Test.YtafglhcclmbnbaaGreatLocksLay1
import Derived.Test.YtafglhcclmbnbaaGreatAmGrow
namespace Go.Proofs
open Go.Shelf
def Tryz.growN_ren:Go.Shelf.Ren:=⟨fun|4=>265|n=>n,fun|22=>137|25=>9|3=>3|4=>4|9=>9|20=>20|0=>0|n=>n,fun|n=>n⟩
theorem Tryz.growN:Go.Proofs.Lays8.n4 Tryz.prog Tryz.growN_ren:={
 mixed:=by kernel_rfl
 f4:=⟨Tryz.f265.name,by decide,Tryz.func265.trans (congrArg some (by kernel_rfl))⟩
 t0:=Tryz.underlying0
 a0:=Tryz.isAgg0
 z0:=Tryz.sizeOf0
 v0:=Tryz.zeroValue0
 t3:=Tryz.underlying3
 a3:=Tryz.isAgg3
 z3:=Tryz.sizeOf3
 v3:=Tryz.zeroValue3
 t4:=Tryz.underlying4
 a4:=Tryz.isAgg4
 z4:=Tryz.sizeOf4
 v4:=Tryz.zeroValue4
 t9:=Tryz.underlying9
 a9:=Tryz.isAgg9
 z9:=Tryz.sizeOf9
 v9:=Tryz.zeroValue9
 t20:=Tryz.underlying20
 a20:=Tryz.isAgg20
 z20:=Tryz.sizeOf20
 v20:=Tryz.zeroValue20
 t22:=Tryz.underlying137
 a22:=Tryz.isAgg137
 z22:=Tryz.sizeOf137
 v22:=Tryz.zeroValue137 }
end Go.Proofs
set_option linter.unusedSimpArgs false
set_option linter.unusedVariables false
set_option maxRecDepth 20000
set_option maxHeartbeats 4000000
namespace Go.AmC
open Go Go.AM
open Go.Proofs.Tryz (prog)
theorem iE (n a b:Int):Says prog 54 [.int .i64 n,.int .i64 a,.int .i64 b] (.bool (decide (a≤n)&&decide (n≤b))) []:=by
 refine dD Go.Proofs.Tryz.func54 aJx ?_
 by_cases h:a≤n<;>simp[v54,r54,h]
theorem iy (n a b:Int):Says prog 49 [.int .i64 n,.int .i64 a,.int .i64 b] (.bool (decide (a≤n)&&decide (n≤b))) []:=by
 refine dD Go.Proofs.Tryz.func49 aJB ?_
 by_cases h:a≤n<;>simp[v49,r49,h]
theorem wrap_succ {i:Nat} (h:i<4611686018427387904):IntKind.i64.wrap ((i:Int)+1)=((i+1:Nat):Int):=by rw[bJ]<;>omega
theorem jR {α:Type} {p:α→Bool} {xs:List α} {i:Nat} {x:α} (h:(xs.take i).all p=true) (hx:xs[i]?=some x) (hp:p x=true):(xs.take (i+1)).all p=true:=by
 rw[List.take_add_one,hx,List.all_append,h];simp[hp]
theorem cu {α:Type} {xs:List α} {i:Nat} (h:i<xs.length):∃ x,xs[i]?=some x:=⟨_,List.getElem?_eq_getElem h⟩
theorem kZ {α:Type} {p:α→Bool} {xs:List α} {i:Nat} {x:α} (hx:xs[i]?=some x) (hp:p x=false):xs.all p=false:=by
 rw[List.all_eq_false];exact⟨x,List.mem_of_getElem? hx,by simp[hp]⟩
def isLow (c:UInt8):Bool:=decide (97≤c.toNat)&&decide (c.toNat≤122)
def EF:List (List UInt8):=[[97,114,114,97,121],[102,111,114],[116,111],[112,114,105,110,116],[109,105,110],[109,97,120]]
def kept (s:List UInt8):Bool:=decide (s∈EF)
def ja (s:List UInt8):Bool:=s.all isLow&&(decide (1≤s.length)&&decide (s.length≤6))&&!kept s
theorem NQ (c:UInt8):Says prog 252 [.int .u8 c.toNat] (.bool (isLow c)) []:=by
 have f:=iy (c.toNat:Int) 97 122
 have hc:c.toNat<256:=c.toNat_lt
 have hw:IntKind.i64.wrap (c.toNat:Int)=c.toNat:=by rw[bJ]<;>omega
 refine dD Go.Proofs.Tryz.func252 avJ ?_
 simp[aDX,aE6,hw]
 refine aX f ?_
 have e1:(97≤(c.toNat:Int))↔97≤c.toNat:=by omega
 have e2:((c.toNat:Int)≤122)↔c.toNat≤122:=by omega
 simp[isLow,e1,e2]
theorem NR (c:UInt8):Says prog 257 [.int .u8 c.toNat] (.bool (isLow c)) []:=by
 refine dD Go.Proofs.Tryz.func257 avH ?_
 have e1:(97≤(c.toNat:Int))↔97≤c.toNat:=by omega
 have e2:((c.toNat:Int)≤122)↔c.toNat≤122:=by omega
 by_cases h:97≤c.toNat<;>simp[aDV,aE4,h,isLow,e1,e2]
theorem AY (xs:List (List UInt8)) (s:List UInt8) (hm:xs.length≤4000000000):Says prog 187 [.rsl xs.length (Cs (xs.flatMap ed)),.str s] (.bool (decide (s∈xs))) []:=by
 refine dD Go.Proofs.Tryz.func187 awp ?_
 generalize hR:decide (s∈xs)=R0
 simp[aEb,aFv]
 refine eY (l:=PE) (b:=QH) rfl [] (fun i=>[(3,.int .i64 i)]) (fun i=>s ∉ xs.take i) xs.length (by simp) (by simp) ?_ ?_
 ·intro i hi hI q hn hx hr
  obtain⟨x,hx0⟩:=cu hi
  have hrow:=row_drop ed 1 (fun _=>by simp) hx0
  rw[Nat.mul_one] at hrow
  have hw:=wrap_succ (i:=i) (by omega)
  by_cases c:x=s
  ·simp[hi,aT,hrow,c]
   refine hr _ ?_
   simp[←hR,←c,List.mem_of_getElem? hx0]
  ·simp[hi,aT,hrow,c,hw]
   refine hn _ (by simp) ?_
   rw[List.take_add_one,hx0];simp[hI,Ne.symm c]
 ·intro hI q hx hr
  rw[List.take_length] at hI
  simp
  refine hx _ _ ?_
  simp[←hR,hI]
theorem Kz (s:List UInt8):Says prog 253 [.str s] (.bool (kept s)) []:=by
 have f:=AY EF s (by simp[EF])
 simp[EF] at f
 refine dD Go.Proofs.Tryz.func253 avI ?_
 simp[aDW,aE5,List.replicate,splice]
 refine aX f ?_
 simp[kept,EF]
theorem KA (s:List UInt8):Says prog 258 [.str s] (.bool (kept s)) []:=by
 refine dD Go.Proofs.Tryz.func258 avG ?_
 generalize hR:kept s=R0
 unfold kept EF at hR
 by_cases h1:s=[97,114,114,97,121]
 ·simp[I5,Jg,←hR,h1]
 by_cases h2:s=[102,111,114]
 ·simp[I5,Jg,←hR,h2]
 by_cases h3:s=[116,111]
 ·simp[I5,Jg,←hR,h3]
 by_cases h4:s=[112,114,105,110,116]
 ·simp[I5,Jg,←hR,h4]
 by_cases h5:s=[109,105,110]
 ·simp[I5,Jg,←hR,h5]
 by_cases h6:s=[109,97,120]
 ·simp[I5,Jg,←hR,h6]
 simp[I5,Jg,←hR,h1,h2,h3,h4,h5,h6]
theorem zM (s:List UInt8) (hm:s.length≤4294967296):Says prog 182 [.str s] (.bool (ja s)) []:=by
 have f1:=iy (s.length:Int) 1 6
 have f2:=Kz s
 refine dD Go.Proofs.Tryz.func182 awt ?_
 generalize hR:ja s=R0
 unfold ja at hR
 simp[v182,aFz]
 refine eY (l:=PK) (b:=QL) rfl [] (fun i=>[(2,.int .i64 i)]) (fun i=>(s.take i).all isLow=true) s.length (by simp) (by simp) ?_ ?_
 ·intro i hi hI q hn hx hr
  obtain⟨c,hc⟩:=cu hi
  have hw:=wrap_succ (i:=i) (by omega)
  have hg:=(List.getElem?_eq_some_iff.1 hc).2
  have f:=NQ c
  simp[hi,hc,hg]
  refine aX f ?_
  cases h:isLow c
  ·simp
   refine hr _ ?_
   simp[←hR,kZ hc h]
  ·simp[hw]
   exact hn _ (by simp) (jR hI hc h)
 ·intro hI q hx hr
  rw[List.take_length] at hI
  simp
  refine hx _ _ ?_
  simp
  refine aX f1 ?_
  have e1:((1:Int)≤s.length)↔1≤s.length:=by omega
  have e2:((s.length:Int)≤6)↔s.length≤6:=by omega
  by_cases c1:1≤s.length∧s.length≤6
  ·simp[e1,e2,c1]
   refine aX f2 ?_
   simp[←hR,hI,c1]
  ·have c2:(decide (1≤s.length)&&decide (s.length≤6))=false:=by simpa using c1
   simp only[e1,e2,c2]
   simp[←hR,c2]
theorem zN (s:List UInt8) (hm:s.length≤4294967296):Says prog 190 [.str s] (.bool (ja s)) []:=by
 have f1:=iE (s.length:Int) 1 6
 have f2:=KA s
 refine dD Go.Proofs.Tryz.func190 awo ?_
 generalize hR:ja s=R0
 unfold ja at hR
 simp[aEa,aFu]
 refine eY (l:=PD) (b:=QG) rfl [] (fun i=>[(2,.int .i64 i)]) (fun i=>(s.take i).all isLow=true) s.length (by simp) (by simp) ?_ ?_
 ·intro i hi hI q hn hx hr
  obtain⟨c,hc⟩:=cu hi
  have hw:=wrap_succ (i:=i) (by omega)
  have hg:=(List.getElem?_eq_some_iff.1 hc).2
  have f:=NR c
  simp[hi,hc,hg]
  refine aX f ?_
  cases h:isLow c
  ·simp
   refine hr _ ?_
   simp[←hR,kZ hc h]
  ·simp[hw]
   exact hn _ (by simp) (jR hI hc h)
 ·intro hI q hx hr
  rw[List.take_length] at hI
  simp
  refine hx _ _ ?_
  simp
  refine aX f1 ?_
  have e1:((1:Int)≤s.length)↔1≤s.length:=by omega
  have e2:((s.length:Int)≤6)↔s.length≤6:=by omega
  by_cases c1:1≤s.length∧s.length≤6
  ·simp[e1,e2,c1]
   refine aX f2 ?_
   simp[←hR,hI,c1]
  ·have c2:(decide (1≤s.length)&&decide (s.length≤6))=false:=by simpa using c1
   simp only[e1,e2,c2]
   simp[←hR,c2]
end Go.AmC
set_option linter.unusedSimpArgs false
set_option linter.unusedVariables false
set_option maxRecDepth 20000
set_option maxHeartbeats 4000000
namespace Go.AmC
open Go Go.AM
mutual
theorem abh:∀ v:AV,jd v=true→upV v=v
 | .osl s e n cs,h=>by simp only[jd,Bool.and_eq_true,beq_iff_eq] at h;simp only[upV,h.1,if_true,tN cs h.2]
 | .bx s e cs,h=>by simp only[jd,Bool.and_eq_true,beq_iff_eq] at h;simp only[upV,h.1,if_true,tN cs h.2]
 | .agg cs,h=>by simp only[jd] at h;simp only[upV,tN cs h]
 | .tup sh cs,h=>by simp only[jd] at h;simp only[upV,tN cs h]
 | .fn g cs,h=>by simp only[jd] at h;simp only[upV,tN cs h]
 | .int _ _,_=>rfl
 | .bool _,_=>rfl
 | .str _,_=>rfl
 | .rsl _ _,_=>rfl
 | .rp _,_=>rfl
 | .dead,_=>rfl
 | .gone s,h=>by simp only[jd,beq_iff_eq] at h;subst h;simp[upV]
 | .ps _ _ _,_=>rfl
 | .pp _ _ _,_=>rfl
 | .pf _ _ _,_=>rfl
 | .pw _ _ _ _ _ _,_=>rfl
 | .nsl _,_=>rfl
 | .nilf,_=>rfl
 | .nilp,_=>rfl
theorem tN:∀ cs:List AV,gJ cs=true→qG cs=cs
 | [],_=>rfl
 | c::cs,h=>by
  simp only[gJ,Bool.and_eq_true] at h
  simp only[qG,abh c h.1,tN cs h.2]
end
mutual
theorem acr:∀ v:AV,jd v=true→dnV v=v
 | .osl s e n cs,h=>by simp only[jd,Bool.and_eq_true,beq_iff_eq] at h;simp only[dnV,h.1,Nat.zero_sub,uD cs h.2]
 | .bx s e cs,h=>by simp only[jd,Bool.and_eq_true,beq_iff_eq] at h;simp only[dnV,h.1,Nat.zero_sub,uD cs h.2]
 | .agg cs,h=>by simp only[jd] at h;simp only[dnV,uD cs h]
 | .tup sh cs,h=>by simp only[jd] at h;simp only[dnV,uD cs h]
 | .fn g cs,h=>by simp only[jd] at h;simp only[dnV,uD cs h]
 | .int _ _,_=>rfl
 | .bool _,_=>rfl
 | .str _,_=>rfl
 | .rsl _ _,_=>rfl
 | .rp _,_=>rfl
 | .dead,_=>rfl
 | .gone s,h=>by simp only[jd,beq_iff_eq] at h;subst h;simp[dnV]
 | .ps _ _ _,_=>rfl
 | .pp _ _ _,_=>rfl
 | .pf _ _ _,_=>rfl
 | .pw _ _ _ _ _ _,_=>rfl
 | .nsl _,_=>rfl
 | .nilf,_=>rfl
 | .nilp,_=>rfl
theorem uD:∀ cs:List AV,gJ cs=true→qR cs=cs
 | [],_=>rfl
 | c::cs,h=>by
  simp only[gJ,Bool.and_eq_true] at h
  simp only[qR,acr c h.1,uD cs h.2]
end
mutual
theorem Ja:∀ v:AV,jd v=true→xR v=true
 | .osl s e n cs,h=>by simp only[jd,Bool.and_eq_true,beq_iff_eq] at h;simp[xR,h.1,mf cs h.2]
 | .bx s e cs,h=>by simp only[jd,Bool.and_eq_true,beq_iff_eq] at h;simp[xR,h.1,mf cs h.2]
 | .agg cs,h=>by simp only[jd] at h;simp only[xR,mf cs h]
 | .tup sh cs,h=>by simp only[jd] at h;simp only[xR,mf cs h]
 | .fn g cs,h=>by simp only[jd] at h;simp only[xR,mf cs h]
 | .int _ _,_=>rfl
 | .bool _,_=>rfl
 | .str _,_=>rfl
 | .rsl _ _,_=>rfl
 | .rp _,_=>rfl
 | .dead,_=>rfl
 | .gone s,h=>by simp only[jd,beq_iff_eq] at h;subst h;simp[xR]
 | .ps _ _ _,_=>rfl
 | .pp _ _ _,_=>rfl
 | .pf _ _ _,_=>rfl
 | .pw _ _ _ _ _ _,_=>rfl
 | .nsl _,_=>rfl
 | .nilf,_=>rfl
 | .nilp,_=>rfl
theorem mf:∀ cs:List AV,gJ cs=true→lX cs=true
 | [],_=>rfl
 | c::cs,h=>by
  simp only[gJ,Bool.and_eq_true] at h
  simp only[lX,Ja c h.1,mf cs h.2,Bool.and_self]
end
theorem aV (l:List D):qG (Ows l)=Ows l:=tN _ (ay l)
theorem aW (l:List D):qR (Ows l)=Ows l:=uD _ (ay l)
theorem ai (l:List D):lX (Ows l)=true:=mf _ (ay l)
theorem bi (A:List D) (X:List AV):qG (Ows A++X)=Ows A++qG X:=by
 induction A with
 | nil=>simp
 | cons a A ih=>simp only[qi,List.cons_append,qG,ih,abh _ (ui a)]
theorem bn (A:List D) (X:List AV):qR (Ows A++X)=Ows A++qR X:=by
 induction A with
 | nil=>simp
 | cons a A ih=>simp only[qi,List.cons_append,qR,ih,acr _ (ui a)]
theorem az (A:List D) (X:List AV):lX (Ows A++X)=lX X:=by
 induction A with
 | nil=>simp
 | cons a A ih=>simp only[qi,List.cons_append,lX,ih,Ja _ (ui a),Bool.true_and]
end Go.AmC
set_option linter.unusedSimpArgs false
set_option linter.unusedVariables false
set_option maxRecDepth 20000
set_option maxHeartbeats 4000000
namespace Go.AmC
open Go Go.AM
open Go.Proofs.Tryz (prog)
def hC (h:Hand):List AV:=[.int .i64 h.Pc,.osl 0 3 h.Stack.length (Ows (h.Stack.flatMap eu)),.osl 0 3 h.Regs.length (Ows (h.Regs.flatMap eu)),.osl 0 176 h.Shelf.length (Ows (h.Shelf.flatMap Put.d)),.bool h.Here,.bool h.Done]
def hRow (A:List D) (h:Hand) (B:List D):List AV:=Ows A++(hC h++Ows B)
def mF (s n:Nat) (mem out:List Int) (A:List D) (h:Hand) (B:List D) (t:Bool):List AV :=
 [.osl 0 3 mem.length (Ows (mem.flatMap eu)),.osl s 158 n (hRow A h B),.osl 0 3 out.length (Ows (out.flatMap eu)),.bool t]
def mZ (n:Nat) (mem out:List Int) (A:List D) (h:Hand) (B:List D) (t:Bool):List AV :=
 [.rsl mem.length (Cs (mem.flatMap eu)),.rsl n (Cs A++(Cs h.d++Cs B)),.rsl out.length (Cs (out.flatMap eu)),.bool t]
theorem sF (A:List D) (h:Hand) (B:List D):hRow A h B=Ows (A++(h.d++B)):=by simp[hRow,hC]
theorem dK (A:List D) (h:Hand) (B:List D):gJ (hRow A h B)=true:=by rw[sF];exact ay _
theorem iO (A:List D) (h:Hand) (B:List D):qG (hRow A h B)=hRow A h B:=tN _ (dK A h B)
theorem iR (A:List D) (h:Hand) (B:List D):qR (hRow A h B)=hRow A h B:=uD _ (dK A h B)
theorem dX (A:List D) (h:Hand) (B:List D):lX (hRow A h B)=true:=mf _ (dK A h B)
theorem gQ (A:List D) (h:Hand) (B:List D):hrs (hRow A h B)=false:=by rw[sF];exact aQ _
theorem fF (A:List D) (h:Hand) (B:List D):jZ (hRow A h B)=some (Cs A++(Cs h.d++Cs B)):=by rw[sF,wJ];simp
theorem row_ne (A:List D) (h:Hand) (B:List D):¬hRow A h B=[]:=by simp[hRow,hC]
theorem aEC (A:List D) (h:Hand) (B:List D):(hRow A h B).length=A.length+(6+B.length):=by simp[hRow,hC];omega
section
variable {A : List D} {k : Nat} (hA : A.length = k * 6)
include hA
theorem cd (X:List AV) (j:Nat):(Cs A++X).drop (k*6+j)=X.drop j:=AX (by simp[hA]) j
theorem cd0 (X:List AV):(Cs A++X).drop (k*6)=X:=Dc (by simp[hA])
theorem md (X:List AV) (j:Nat):(Ows A++X).drop (k*6+j)=X.drop j:=AX (by simp[hA]) j
theorem md0 (X:List AV):(Ows A++X).drop (k*6)=X:=Dc (by simp[hA])
theorem mg (X:List AV) (j:Nat):(Ows A++X)[k*6+j]?=X[j]?:=Ju (by simp[hA]) j
theorem mg0 (X:List AV):(Ows A++X)[k*6]?=X[0]?:=NL (by simp[hA])
theorem ms (X:List AV) (j:Nat) (v:AV):(Ows A++X).set (k*6+j) v=Ows A++X.set j v:=Jt (by simp[hA]) j v
theorem ms0 (X:List AV) (v:AV):(Ows A++X).set (k*6) v=Ows A++X.set 0 v:=NK (by simp[hA]) v
theorem mp (X:List AV) (j:Nat) (vs:List AV):splice (Ows A++X) (k*6+j) vs=Ows A++spl X j vs:=zT (by simp[hA]) j vs
theorem mp0 (X:List AV) (vs:List AV):splice (Ows A++X) (k*6) vs=Ows A++spl X 0 vs:=Fa (by simp[hA]) vs
end
theorem lh {A:List D} {k:Nat} (hA:A.length=k*6) (B:List D):(k*6+1≤A.length+(B.length+1+1+1+1+1+1))∧(k*6+1+1≤A.length+(B.length+1+1+1+1+1+1))∧(k*6+2+1≤A.length+(B.length+1+1+1+1+1+1))∧(k*6+3+1≤A.length+(B.length+1+1+1+1+1+1))∧(k*6+4+1≤A.length+(B.length+1+1+1+1+1+1))∧(k*6+5+1≤A.length+(B.length+1+1+1+1+1+1)):=by omega
section
variable {a b c d x : AV}
theorem sq0:splice [a,b] 0 [x]=[x,b]:=rfl
theorem sq1:splice [a,b] 1 [x]=[a,x]:=rfl
theorem sp0:splice [a,b,c,d] 0 [x]=[x,b,c,d]:=rfl
theorem sp1:splice [a,b,c,d] 1 [x]=[a,x,c,d]:=rfl
theorem sp2:splice [a,b,c,d] 2 [x]=[a,b,x,d]:=rfl
theorem sp3:splice [a,b,c,d] 3 [x]=[a,b,c,x]:=rfl
end
theorem EE {α:Type} {l:List α} (h:l.length≤100000):IntKind.i64.wrap (l.length:Int)=l.length:=by rw[bJ]<;>omega
theorem adC {α:Type} {l:List α} (h:l.length≤100000):IntKind.i64.wrap ((l.length:Int)+1)=(l.length:Int)+1:=by rw[bJ]<;>omega
theorem aY {α:Type} {l:List α}:¬(l.length:Int)+1=0:=by omega
theorem bf {α:Type} {l:List α}:(l.length:Int)≤(l.length:Int)+1:=by omega
theorem uj {α:Type} (l:List α):l=[]∨∃ l' x,l=l'++[x]:=by
 rcases List.eq_nil_or_concat l with h|⟨a,b,h⟩
 ·exact .inl h
 ·exact .inr ⟨a,b,by rw[h,List.concat_eq_append]⟩
theorem aC (l:List Int):(l.flatMap eu).length=l.length:=by induction l<;>simp_all
theorem aF (l:List Put):(l.flatMap Put.d).length=l.length*2:=by rw[jg Put.d 2 Put.d_len]
theorem aJ (l:List Int):(Ows (l.flatMap eu)).all dR=true:=by induction l<;>simp_all[dR]
theorem aI (l:List Put):(Ows (l.flatMap Put.d)).all dR=true:=by induction l<;>simp_all[dR]
theorem aH {cs:List AV} (h:cs.all dR=true) (n:Nat):(cs.take n).all dR=true:=List.all_eq_true.2 fun x hx=>List.all_eq_true.1 h x (List.mem_of_mem_take hx)
theorem aO {cs:List AV} (h:cs.all dR=true) (n:Nat):(cs.drop n).all dR=true:=List.all_eq_true.2 fun x hx=>List.all_eq_true.1 h x (List.mem_of_mem_drop hx)
theorem aj {e:Env} {r:Nat} {p:List Nat}:∀ {cs:List AV} {o:Nat},cs.all dR=true→dQ e (lzc r p o cs)=some (cs,e)
 | [],o,_=>rfl
 | c::cs,o,h=>by
  simp only[List.all_cons,Bool.and_eq_true] at h
  have ih:=aj (e:=e) (r:=r) (p:=p) (o:=o+1) h.2
  cases c<;>simp[dR] at h<;>simp[lzc,lz1,dQ,takeC,ih]
theorem zX (l:List Int):(Ows (l.flatMap eu)).length=l.length:=by rw[Az,aC]
theorem au (l:List Int) (Y:List AV):List.take l.length (Ows (l.flatMap eu)++Y)=Ows (l.flatMap eu):=List.take_left' (zX l)
theorem aG (l:List Int) (Y:List AV):(Ows (l.flatMap eu)++Y)[l.length]?=Y[0]?:=by rw[List.getElem?_append_right (by rw[zX];omega),zX,Nat.sub_self]
theorem ax (l:List Int) (Y:List AV):List.drop l.length (Ows (l.flatMap eu)++Y)=Y:=List.drop_left' (zX l)
theorem aU {n:Nat} (h:n≤100000):n≤bnd:=by unfold bnd;omega
theorem aP {α:Type} {l:List α}:(l.length:Int)<(l.length:Int)+1:=by omega
theorem aZ {α:Type} (l:List α) (x:α):(l++[x]).isEmpty=false:=by cases l<;>rfl
theorem aun (l:List Put) (Y:List AV) (i:Nat) {p:Put} (h:l[i]?=some p):∃ Z,(Ows (l.flatMap Put.d)).drop (i*2)=.int .i64 p.At::.int .i64 p.N::Z:=by
 refine⟨Ows ((l.drop (i+1)).flatMap Put.d),?_⟩
 rw[Bj,row_drop Put.d 2 Put.d_len h];simp
theorem ints_at {l:List Int} {i:Nat} {v:Int} (h:l[i]?=some v):(Ows (l.flatMap eu)).drop i=.int .i64 v::Ows ((l.drop (i+1)).flatMap eu):=by
 have:=row_drop eu 1 (fun _=>rfl) h
 rw[Nat.mul_one] at this
 rw[Bj,this];simp
theorem uy {l:List Int} {i:Nat} {v:Int} (h:l[i]?=some v):(l.flatMap eu).drop i=.I .i64 v::(l.drop (i+1)).flatMap eu:=by
 have:=row_drop eu 1 (fun _=>rfl) h
 rw[Nat.mul_one] at this
 rw[this];simp
theorem ints_set {l:List Int} {i:Nat} (v:Int) (h:i<l.length):splice (Ows (l.flatMap eu)) i [.int .i64 v]=Ows ((l.set i v).flatMap eu):=by
 induction l generalizing i with
 | nil=>simp at h
 | cons a l ih=>cases i with
  | zero=>simp[splice]
  | succ i =>
   simp at h
   have:=ih h
   simp[splice] at this ⊢
   exact this
theorem iw {l:List Int} {i:Nat} (h:i<l.length):¬Ows (l.flatMap eu)=[]:=by
 cases l with
 | nil=>simp at h
 | cons a l=>simp
theorem bg {α:Type} {l:List α}:(1:Int)≤(l.length:Int)+1:=by omega
theorem ak (l:List Put):List.take (l.length*2) (Ows (l.flatMap Put.d))=Ows (l.flatMap Put.d):=List.take_of_length_le (by rw[Az,aF];omega)
theorem bF {n:Nat}:(n*2+1+1=(n+1)*2)↔True:=iff_true_intro (by omega)
theorem bD {n:Nat}:1+n≤n+1:=by omega
theorem as9 (l:List Int) (i:Nat):(l.flatMap eu).drop i=(l.drop i).flatMap eu:=by
 have:∀ l:List Int,l.flatMap eu=l.map (D.I .i64):=fun l=>by induction l<;>simp_all
 rw[this,this,List.map_drop]
theorem as8 (l:List Int) (i:Nat):(l.flatMap eu).take i=(l.take i).flatMap eu:=by
 have:∀ l:List Int,l.flatMap eu=l.map (D.I .i64):=fun l=>by induction l<;>simp_all
 rw[this,this,List.map_take]
end Go.AmC
