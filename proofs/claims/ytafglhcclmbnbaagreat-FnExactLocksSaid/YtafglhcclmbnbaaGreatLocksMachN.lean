import Derived.Test.YtafglhcclmbnbaaGreatLocksMachI
set_option linter.unusedSimpArgs false
set_option linter.unusedVariables false
set_option linter.unusedSectionVars false
set_option maxRecDepth 20000
set_option maxHeartbeats 8000000
namespace Go.AmC
open Go Go.AM
open Go.Proofs.Tryz (prog)
def fJ (h:Hand) (t:Bool) (i:Ins):Int × Hand × Bool :=
 (i.A+(dB h t).1,(dB h t).2.1,(dB h t).2.2||!(decide (0≤(dB h t).1)&&decide ((dB h t).1≤i.B-1)))
section
variable (s2 s3 n k : Nat) (mem out : List Int) (A B : List D) (h : Hand) (t : Bool) (lc : List AV) (cn : Nat) (cc : List AV) (hA : A.length = k * 6) (hk : k < n) (hs2 : s2 ≠ 0) (hs3 : s3 ≠ 0)
include hA hk hs2 hs3
theorem zx (i:Ins) (hs:h.Stack.length≤1000) (hb:1≤i.B∧i.B≤16) :
  kR prog 272 [.bx 1 182 (sC s2 s3 n mem out A h B t lc cn cc),.pp 0 [0,0,1] (k*6),.agg (Cs i.d)] (.int .i64 (IntKind.i64.wrap (fJ h t i).1)) (num 1 [.bx 1 182 (sC s2 s3 n mem out A (fJ h t i).2.1 B (fJ h t i).2.2 lc cn cc)]):=by
 have f:=nJ (s2+1000) (s3+1000) n k mem out A B h t lc cn cc hA hk (by omega) (by omega) hs
 unfold fJ
 generalize dB h t=F at f ⊢
 obtain⟨x,⟨pc,st,rg,sh,he,dn⟩,t2⟩:=F
 obtain⟨op,a,b⟩:=i
 have g:=iE x 0 (b-1)
 simp[sC,mF,hRow,hC] at f
 have p2:0<s2:=by omega
 have p3:0<s3:=by omega
 obtain⟨pc0,st0,rg0,sh0,he0,dn0⟩:=h
 refine vI [1] [_] Go.Proofs.Tryz.func272 avu (by simp) ?_
 simp[aDN,aEW,sC,mF,hRow,hC,hk,md hA,md0 hA,mg hA,mg0 hA,ms hA,ms0 hA,mp hA,mp0 hA,lh hA,spl,sp0,sp1,sp2,sp3,sq0,sq1,aY,bf,-List.length_flatMap,aC,aF,aJ,aI,aH,aO,aj,au,aG,ax,aP,aZ,aU,bg,ak,bF,bD,bi,bn,az,aV,aW,ai,af,ah,ay,aQ,-bz,bK,bu,bY,dh,bU,bV,bI,bQ,bT,cO,df,bG,bW,bP,cZ,hs2,hs3]
 simp only at hb
 have hw:IntKind.i64.wrap (b-1)=b-1:=by rw[bJ]<;>omega
 refine eQ [_] rfl f ?_
 cases t2 with
 | true=>simp[mF,hRow,hC,hk,md hA,md0 hA,mg hA,mg0 hA,ms hA,ms0 hA,mp hA,mp0 hA,lh hA,spl,sp0,sp1,sp2,sp3,sq0,sq1,aY,bf,-List.length_flatMap,aC,aF,aJ,aI,aH,aO,aj,au,aG,ax,aP,aZ,aU,bg,ak,bF,bD,bi,bn,az,aV,aW,ai,af,ah,ay,aQ,-bz,bK,bu,bY,dh,bU,bV,bI,bQ,bT,cO,df,bG,bW,bP,cZ,hs2,hs3,p2,p3]
 | false =>
  simp[mF,hRow,hC,hk,md hA,md0 hA,mg hA,mg0 hA,ms hA,ms0 hA,mp hA,mp0 hA,lh hA,spl,sp0,sp1,sp2,sp3,sq0,sq1,aY,bf,-List.length_flatMap,aC,aF,aJ,aI,aH,aO,aj,au,aG,ax,aP,aZ,aU,bg,ak,bF,bD,bi,bn,az,aV,aW,ai,af,ah,ay,aQ,-bz,bK,bu,bY,dh,bU,bV,bI,bQ,bT,cO,df,bG,bW,bP,cZ,hs2,hs3,p2,p3,hw]
  refine aX g ?_
  by_cases c:0≤x∧x≤b-1
  ·simp[mF,hRow,hC,hk,md hA,md0 hA,mg hA,mg0 hA,ms hA,ms0 hA,mp hA,mp0 hA,lh hA,spl,sp0,sp1,sp2,sp3,sq0,sq1,aY,bf,-List.length_flatMap,aC,aF,aJ,aI,aH,aO,aj,au,aG,ax,aP,aZ,aU,bg,ak,bF,bD,bi,bn,az,aV,aW,ai,af,ah,ay,aQ,-bz,bK,bu,bY,dh,bU,bV,bI,bQ,bT,cO,df,bG,bW,bP,cZ,hs2,hs3,p2,p3,c.1,c.2]
  ·have c2:(decide (0≤x)&&decide (x≤b-1))=false:=by simpa using c
   have c3:(!decide (0≤x)||!decide (x≤b-1))=true:=by rw[←Bool.not_and,c2];rfl
   rw[c2,c3]
   simp[mF,hRow,hC,hk,md hA,md0 hA,mg hA,mg0 hA,ms hA,ms0 hA,mp hA,mp0 hA,lh hA,spl,sp0,sp1,sp2,sp3,sq0,sq1,aY,bf,-List.length_flatMap,aC,aF,aJ,aI,aH,aO,aj,au,aG,ax,aP,aZ,aU,bg,ak,bF,bD,bi,bn,az,aV,aW,ai,af,ah,ay,aQ,-bz,bK,bu,bY,dh,bU,bV,bI,bQ,bT,cO,df,bG,bW,bP,cZ,hs2,hs3,p2,p3]
end
def ML (h:Hand) (t:Bool) (i:Ins):Hand × Bool :=
 if (dB (dB h t).2.1 (dB h t).2.2).2.2=true then ((dB (dB h t).2.1 (dB h t).2.2).2.1,true)
 else if i.Op=14 then ({ (dB (dB h t).2.1 (dB h t).2.2).2.1 with Pc:=if (dB h t).1<(dB (dB h t).2.1 (dB h t).2.2).1 then i.A else (dB (dB h t).2.1 (dB h t).2.2).2.1.Pc+1 },false)
 else nG (dB (dB h t).2.1 (dB h t).2.2).2.1 (opE (i.Op-4) (dB (dB h t).2.1 (dB h t).2.2).1 (dB h t).1) false
theorem lJ (h:Hand) (t:Bool):(dB h t).2.1.Stack.length≤h.Stack.length∧(dB h t).2.1.Pc=h.Pc:=by
 unfold dB;split<;>simp[gy]
section
variable (s2 s3 n k : Nat) (mem out : List Int) (A B : List D) (h : Hand) (t : Bool) (lc : List AV) (cn : Nat) (cc : List AV) (hA : A.length = k * 6) (hk : k < n) (hs2 : s2 ≠ 0) (hs3 : s3 ≠ 0)
include hA hk hs2 hs3
theorem MX (i:Ins) (hs:h.Stack.length≤1000) (hpc:0≤h.Pc∧h.Pc≤4000) (hop:8≤i.Op∧i.Op≤14) :
  kR prog 276 [.bx 1 182 (sC s2 s3 n mem out A h B t lc cn cc),.pp 0 [0,0,1] (k*6),.agg (Cs i.d)] (.tup [] []) (num 1 [.bx 1 182 (sC s2 s3 n mem out A (ML h t i).1 B (ML h t i).2 lc cn cc)]):=by
 have p2:0<s2:=by omega
 have p3:0<s3:=by omega
 have f:=nJ (s2+1000) (s3+1000) n k mem out A B h t lc cn cc hA hk (by omega) (by omega) hs
 obtain⟨l1,l2⟩:=lJ h t
 unfold ML
 generalize dB h t=F at f l1 l2 ⊢
 obtain⟨y,h1,t1⟩:=F
 simp only at l1 l2
 have f2:=nJ (s2+1000) (s3+1000) n k mem out A B h1 t1 lc cn cc hA hk (by omega) (by omega) (by omega)
 obtain⟨l3,l4⟩:=lJ h1 t1
 simp only
 generalize dB h1 t1=F2 at f2 l3 l4 ⊢
 obtain⟨x,h2,t2⟩:=F2
 simp only at l3 l4
 obtain⟨op,a,b⟩:=i
 simp only at hop
 have f3:=CW (s2+1000) (s3+1000) n k mem out A B h2 false lc cn cc hA hk (by omega) (by omega) (opE (op-4) x y) (by omega) (by omega)
 have fo:=TM (op-4) x y
 have w1:IntKind.i64.wrap (4+op)=4+op:=by rw[bJ]<;>omega
 have w2:IntKind.i64.wrap (4+op-8)=op-4:=by rw[bJ]<;>omega
 have w4:IntKind.i64.wrap (h2.Pc+1)=h2.Pc+1:=by rw[bJ]<;>omega
 simp[sC,mF,hRow,hC] at f f2
 refine vI [1] [_] Go.Proofs.Tryz.func276 avp (by simp) ?_
 simp[aDK,aET,sC,mF,hRow,hC,hk,md hA,md0 hA,mg hA,mg0 hA,ms hA,ms0 hA,mp hA,mp0 hA,lh hA,spl,sp0,sp1,sp2,sp3,sq0,sq1,aY,bf,-List.length_flatMap,aC,aF,aJ,aI,aH,aO,aj,au,aG,ax,aP,aZ,aU,bg,ak,bF,bD,bi,bn,az,aV,aW,ai,af,ah,ay,aQ,-bz,bK,bu,bY,dh,bU,bV,bI,bQ,bT,cO,df,bG,bW,bP,cZ,hs2,hs3]
 refine eQ [_] rfl f ?_
 simp[mF,hRow,hC,hk,md hA,md0 hA,mg hA,mg0 hA,ms hA,ms0 hA,mp hA,mp0 hA,lh hA,spl,sp0,sp1,sp2,sp3,sq0,sq1,aY,bf,-List.length_flatMap,aC,aF,aJ,aI,aH,aO,aj,au,aG,ax,aP,aZ,aU,bg,ak,bF,bD,bi,bn,az,aV,aW,ai,af,ah,ay,aQ,-bz,bK,bu,bY,dh,bU,bV,bI,bQ,bT,cO,df,bG,bW,bP,cZ,hs2,hs3,p2,p3]
 refine eQ [_] rfl f2 ?_
 cases t2 with
 | true=>simp[mF,hRow,hC,hk,md hA,md0 hA,mg hA,mg0 hA,ms hA,ms0 hA,mp hA,mp0 hA,lh hA,spl,sp0,sp1,sp2,sp3,sq0,sq1,aY,bf,-List.length_flatMap,aC,aF,aJ,aI,aH,aO,aj,au,aG,ax,aP,aZ,aU,bg,ak,bF,bD,bi,bn,az,aV,aW,ai,af,ah,ay,aQ,-bz,bK,bu,bY,dh,bU,bV,bI,bQ,bT,cO,df,bG,bW,bP,cZ,hs2,hs3,p2,p3]
 | false =>
  by_cases c:op=14
  ·by_cases d:y<x<;>simp[mF,hRow,hC,hk,md hA,md0 hA,mg hA,mg0 hA,ms hA,ms0 hA,mp hA,mp0 hA,lh hA,spl,sp0,sp1,sp2,sp3,sq0,sq1,aY,bf,-List.length_flatMap,aC,aF,aJ,aI,aH,aO,aj,au,aG,ax,aP,aZ,aU,bg,ak,bF,bD,bi,bn,az,aV,aW,ai,af,ah,ay,aQ,-bz,bK,bu,bY,dh,bU,bV,bI,bQ,bT,cO,df,bG,bW,bP,cZ,hs2,hs3,p2,p3,c,d,w4]
  ·simp[mF,hRow,hC,hk,md hA,md0 hA,mg hA,mg0 hA,ms hA,ms0 hA,mp hA,mp0 hA,lh hA,spl,sp0,sp1,sp2,sp3,sq0,sq1,aY,bf,-List.length_flatMap,aC,aF,aJ,aI,aH,aO,aj,au,aG,ax,aP,aZ,aU,bg,ak,bF,bD,bi,bn,az,aV,aW,ai,af,ah,ay,aQ,-bz,bK,bu,bY,dh,bU,bV,bI,bQ,bT,cO,df,bG,bW,bP,cZ,hs2,hs3,p2,p3,c,w1,w2]
   refine aX fo ?_
   simp[mF,hRow,hC,hk,md hA,md0 hA,mg hA,mg0 hA,ms hA,ms0 hA,mp hA,mp0 hA,lh hA,spl,sp0,sp1,sp2,sp3,sq0,sq1,aY,bf,-List.length_flatMap,aC,aF,aJ,aI,aH,aO,aj,au,aG,ax,aP,aZ,aU,bg,ak,bF,bD,bi,bn,az,aV,aW,ai,af,ah,ay,aQ,-bz,bK,bu,bY,dh,bU,bV,bI,bQ,bT,cO,df,bG,bW,bP,cZ,hs2,hs3,p2,p3,c]
   generalize nG h2 _ false=G at f3 ⊢
   simp[sC,mF,hRow,hC] at f3
   refine eQ [_] rfl f3 ?_
   simp[mF,hRow,hC,hk,md hA,md0 hA,mg hA,mg0 hA,ms hA,ms0 hA,mp hA,mp0 hA,lh hA,spl,sp0,sp1,sp2,sp3,sq0,sq1,aY,bf,-List.length_flatMap,aC,aF,aJ,aI,aH,aO,aj,au,aG,ax,aP,aZ,aU,bg,ak,bF,bD,bi,bn,az,aV,aW,ai,af,ah,ay,aQ,-bz,bK,bu,bY,dh,bU,bV,bI,bQ,bT,cO,df,bG,bW,bP,cZ,hs2,hs3,p2,p3]
end
def vW (mem:List Int) (h:Hand) (t:Bool) (j:Nat):Bool × Hand × Bool :=
 if h.Stack.isEmpty=false∧lU mem j<iL h then (false,h,t)
 else (true,if (dB h t).2.2=true then (dB h t).2.1 else kD (dB h t).2.1,(dB h t).2.2)
section
variable (s2 s3 n k : Nat) (mem out : List Int) (A B : List D) (h : Hand) (t : Bool) (lc : List AV) (cn : Nat) (cc : List AV) (hA : A.length = k * 6) (hk : k < n) (hs2 : s2 ≠ 0) (hs3 : s3 ≠ 0)
include hA hk hs2 hs3
theorem JU (j:Nat) (hs:h.Stack.length≤1000) (hpc:0≤h.Pc∧h.Pc≤4000) (hj:j<mem.length) :
  kR prog 204 [.bx 1 182 (sC s2 s3 n mem out A h B t lc cn cc),.pp 0 [0,0,1] (k*6),.int .i64 (j:Int)] (.bool (vW mem h t j).1) (num 1 [.bx 1 182 (sC s2 s3 n mem out A (vW mem h t j).2.1 B (vW mem h t j).2.2 lc cn cc)]):=by
 have p2:0<s2:=by omega
 have p3:0<s3:=by omega
 have hj1:j+1≤mem.length:=hj
 have hv:=jP hj
 have f:=nJ (s2+1000) (s3+1000) n k mem out A B h t lc cn cc hA hk (by omega) (by omega) hs
 obtain⟨l1,l2⟩:=lJ h t
 unfold vW
 obtain⟨v,hvv⟩:∃ v,lU mem j=v:=⟨_,rfl⟩
 rw[hvv] at hv
 rw[hvv]
 obtain⟨pc,st,rg,sh,he,dn⟩:=h
 refine vI [1] [_] Go.Proofs.Tryz.func204 av9 (by simp) ?_
 generalize dB _ t=F at f l1 l2 ⊢
 obtain⟨y,h1,t1⟩:=F
 simp only at l1 l2 hpc hs
 have w4:IntKind.i64.wrap (h1.Pc+1)=h1.Pc+1:=by rw[l2,bJ]<;>omega
 simp[sC,mF,hRow,hC] at f
 rcases uj st with rfl|⟨st',x,rfl⟩
 ·simp[abf,abw,sC,mF,hRow,hC,hk,md hA,md0 hA,mg hA,mg0 hA,ms hA,ms0 hA,mp hA,mp0 hA,lh hA,spl,sp0,sp1,sp2,sp3,sq0,sq1,aY,bf,-List.length_flatMap,aC,aF,aJ,aI,aH,aO,aj,au,aG,ax,aP,aZ,aU,bg,ak,bF,bD,bi,bn,az,aV,aW,ai,af,ah,ay,aQ,-bz,bK,bu,bY,dh,bU,bV,bI,bQ,bT,cO,df,bG,bW,bP,cZ,hs2,hs3]
  refine eQ [_] rfl f ?_
  cases t1<;>simp[mF,hRow,hC,hk,md hA,md0 hA,mg hA,mg0 hA,ms hA,ms0 hA,mp hA,mp0 hA,lh hA,spl,sp0,sp1,sp2,sp3,sq0,sq1,aY,bf,-List.length_flatMap,aC,aF,aJ,aI,aH,aO,aj,au,aG,ax,aP,aZ,aU,bg,ak,bF,bD,bi,bn,az,aV,aW,ai,af,ah,ay,aQ,-bz,bK,bu,bY,dh,bU,bV,bI,bQ,bT,cO,df,bG,bW,bP,cZ,hs2,hs3,p2,p3,w4,kD]
 ·have hst:st'.length≤100000:=by simp at hs;omega
  have hp:iL ⟨pc,st'++[x],rg,sh,he,dn⟩=x:=by simp[iL]
  rw[hp,aZ]
  have hl0:(0:Int)<(st'.length:Int)+1:=by omega
  simp at f
  by_cases c:v<x
  ·simp[abf,abw,sC,mF,hRow,hC,hk,md hA,md0 hA,mg hA,mg0 hA,ms hA,ms0 hA,mp hA,mp0 hA,lh hA,spl,sp0,sp1,sp2,sp3,sq0,sq1,aY,bf,-List.length_flatMap,aC,aF,aJ,aI,aH,aO,aj,au,aG,ax,aP,aZ,aU,bg,ak,bF,bD,bi,bn,az,aV,aW,ai,af,ah,ay,aQ,-bz,bK,bu,bY,dh,bU,bV,bI,bQ,bT,cO,df,bG,bW,bP,cZ,hs2,hs3,hj,hj1,ints_at hv,iw hj,EE hst,hl0,c]
  ·simp[abf,abw,sC,mF,hRow,hC,hk,md hA,md0 hA,mg hA,mg0 hA,ms hA,ms0 hA,mp hA,mp0 hA,lh hA,spl,sp0,sp1,sp2,sp3,sq0,sq1,aY,bf,-List.length_flatMap,aC,aF,aJ,aI,aH,aO,aj,au,aG,ax,aP,aZ,aU,bg,ak,bF,bD,bi,bn,az,aV,aW,ai,af,ah,ay,aQ,-bz,bK,bu,bY,dh,bU,bV,bI,bQ,bT,cO,df,bG,bW,bP,cZ,hs2,hs3,hj,hj1,ints_at hv,iw hj,EE hst,hl0,c]
   refine eQ [_] rfl f ?_
   cases t1<;>simp[mF,hRow,hC,hk,md hA,md0 hA,mg hA,mg0 hA,ms hA,ms0 hA,mp hA,mp0 hA,lh hA,spl,sp0,sp1,sp2,sp3,sq0,sq1,aY,bf,-List.length_flatMap,aC,aF,aJ,aI,aH,aO,aj,au,aG,ax,aP,aZ,aU,bg,ak,bF,bD,bi,bn,az,aV,aW,ai,af,ah,ay,aQ,-bz,bK,bu,bY,dh,bU,bV,bI,bQ,bT,cO,df,bG,bW,bP,cZ,hs2,hs3,p2,p3,w4,kD]
end
def vk (a b V R:AV) (size:Int):List AV:=[a,b,V,R,.int .i64 size]
section
variable (a b : AV) (nv nr : Nat) (V R : List AV) (size : Int) (hs : 0 ≤ size ∧ size ≤ 1000000) (hn : nv ≤ 1000000)
include hs hn
theorem KO (h:Int) (hh:0≤h∧h≤1000):Says prog 322 [.rp (vk a b (.rsl nv V) (.rsl nr R) size),.int .i64 h] (.int .i64 (size+nv+h)) []:=by
 have w1:IntKind.i64.wrap (size+nv)=size+nv:=by rw[bJ]<;>omega
 have w2:IntKind.i64.wrap (size+nv+h)=size+nv+h:=by rw[bJ]<;>omega
 refine dD Go.Proofs.Tryz.func322 ava ?_
 simp[aDy,aEH,vk,w1,w2]
theorem J4 (h k:Int) (hh:0≤h∧h≤1000) (hk:0≤k∧k≤1000):Says prog 269 [.rp (vk a b (.rsl nv V) (.rsl nr R) size),.int .i64 h,.int .i64 k] (.int .i64 (size+nv+4+h*6+k)) []:=by
 have f:=KO a b nv nr V R size hs hn 4 (by omega)
 have w1:IntKind.i64.wrap (h*6)=h*6:=by rw[bJ]<;>omega
 have w2:IntKind.i64.wrap (size+nv+4+h*6)=size+nv+4+h*6:=by rw[bJ]<;>omega
 have w3:IntKind.i64.wrap (size+nv+4+h*6+k)=size+nv+4+h*6+k:=by rw[bJ]<;>omega
 simp[vk] at f
 refine dD Go.Proofs.Tryz.func269 avw ?_
 simp[aDO,aEX,vk]
 first|refine aX f ?_|refine bZ f ?_
 simp[w1,w2,w3]
theorem vG (h:Int) (hh:0≤h∧h≤1000):Says prog 203 [.rp (vk a b (.rsl nv V) (.rsl nr R) size),.int .i64 h] (.int .i64 (size+nv+28+h)) []:=by
 have f:=J4 a b nv nr V R size hs hn 4 0 (by omega) (by omega)
 have e:size+nv+4+4*6+0=size+nv+28:=by omega
 have w2:IntKind.i64.wrap (size+nv+28+h)=size+nv+28+h:=by rw[bJ]<;>omega
 rw[e] at f
 simp[vk] at f
 refine dD Go.Proofs.Tryz.func203 awc ?_
 simp[v203,aFk,vk]
 first|refine aX f ?_|refine bZ f ?_
 simp[w2]
theorem NM:Says prog 224 [.rp (vk a b (.rsl nv V) (.rsl nr R) size)] (.int .i64 (size+nv+32)) []:=by
 have f:=vG a b nv nr V R size hs hn 4 (by omega)
 have e:size+nv+28+4=size+nv+32:=by omega
 rw[e] at f
 simp[vk] at f
 refine dD Go.Proofs.Tryz.func224 avP ?_
 simp[aDZ,aFa,vk]
 first|refine aX f ?_|refine bZ f ?_
 simp
end
theorem aDr {v:Int} (h:-2147483648≤v∧v≤2147483647):MS v 1=w32 (v+1):=by
 have e:∀ x,-2147483648≤x→x≤2147483647→w32 x=x:=fun x h1 h2=>by
  unfold w32
  simp only[IntKind.wrap,IntKind.bits,IntKind.signed]
  simp
  split<;>omega
 unfold MS
 rw[e v h.1 h.2,e 1 (by decide) (by decide)]
section
variable (s2 s3 n k : Nat) (mem out : List Int) (A B : List D) (h : Hand) (t : Bool) (lc : List AV) (cn : Nat) (cc : List AV) (hA : A.length = k * 6) (hk : k < n) (hs2 : s2 ≠ 0) (hs3 : s3 ≠ 0)
include hA hk hs2 hs3
theorem Ld (b:Nat) (la lb:AV) (nv nr:Nat) (V R:List AV) (size:Int) (hb:size+nv+28=(b:Int)) (hsz:0≤size∧size≤1000000) (hnv:nv≤1000000) (hlc:lc=vk la lb (.rsl nv V) (.rsl nr R) size) (hn:n≤4) (hm:mem.length≤100000) (hmb:mem.length=b+4)
  (hw:∀ x∈mem,-2147483648≤x∧x≤2147483647) (hpc:0≤h.Pc∧h.Pc≤4000) :
  kR prog 202 [.bx 1 182 (sC s2 s3 n mem out A h B t lc cn cc),.pp 0 [0,0,1] (k*6),.int .i64 ((b+k:Nat):Int)] (.bool (yw mem n b k h).1) (num 1 [.bx 1 182 (sC s2 s3 n (yw mem n b k h).2.1 out A (yw mem n b k h).2.2 B t lc cn cc)]):=by
 have hi:b+k<mem.length:=by omega
 have hv:=jP hi
 have hr:=hw _ (List.mem_of_getElem? hv)
 have w4:IntKind.i64.wrap (h.Pc+1)=h.Pc+1:=by rw[bJ]<;>omega
 have i1:((b+k:Nat):Int)<mem.length:=by omega
 have i2:b+k+1≤mem.length:=hi
 have i0:(0:Int)≤((b+k:Nat):Int):=Int.natCast_nonneg _
 have i3:((b+k:Nat):Int).toNat=b+k:=Int.toNat_natCast _
 have f:=DW (lU mem (b+k)) 1
 rw[aDr hr] at f
 have fl:∀ i:Nat,i<n→Says prog 203 [.rp lc,.int .i64 (i:Int)] (.int .i64 ((b+i:Nat):Int)) []:=fun i hin=>by
  have:=vG la lb nv nr V R size hsz hnv i (by omega)
  rw[hb,←hlc] at this
  rw[Int.natCast_add];exact this
 clear hlc
 obtain⟨pc,st,rg,sh,he,dn⟩:=h
 simp only at hpc w4
 unfold yw
 generalize lU mem (b+k)=v at *
 refine vI [1] [_] Go.Proofs.Tryz.func202 awd (by simp) ?_
 have loop:∀ i,i<n→∃ u,mem[b+i]?=some u∧lU mem (b+i)=u∧b+i<mem.length:=fun i hi=>⟨_,jP (by omega),rfl,by omega⟩
 cases he with
 | false =>
  simp[-Int.natCast_add,att,atO,sC,mF,hRow,hC,hk,md hA,md0 hA,mg hA,mg0 hA,ms hA,ms0 hA,mp hA,mp0 hA,lh hA,spl,sp0,sp1,sp2,sp3,sq0,sq1,aY,bf,-List.length_flatMap,aC,aF,aJ,aI,aH,aO,aj,au,aG,ax,aP,aZ,aU,bg,ak,bF,bD,bi,bn,az,aV,aW,ai,af,ah,ay,aQ,-bz,bK,bu,bY,dh,bU,bV,bI,bQ,bT,cO,df,bG,bW,bP,cZ,hs2,hs3,i0,i1,i2,i3,ints_at hv,iw hi]
  refine bZ f ?_
  simp[-Int.natCast_add,mF,hRow,hC,hk,md hA,md0 hA,mg hA,mg0 hA,ms hA,ms0 hA,mp hA,mp0 hA,lh hA,spl,sp0,sp1,sp2,sp3,sq0,sq1,aY,bf,-List.length_flatMap,aC,aF,aJ,aI,aH,aO,aj,au,aG,ax,aP,aZ,aU,bg,ak,bF,bD,bi,bn,az,aV,aW,ai,af,ah,ay,aQ,-bz,bK,bu,bY,dh,bU,bV,bI,bQ,bT,cO,df,bG,bW,bP,cZ,hs2,hs3,i0,i1,i2,i3,ints_at hv,iw hi,ints_set _ hi]
 | true =>
  have hI:rO mem n b v=true∨∃ i,i<n∧lU mem (b+i)<v:=by
   cases c:rO mem n b v with
   | true=>exact .inl rfl
   | false =>
    unfold rO at c
    rw[List.all_eq_false] at c
    obtain⟨i,h1,h2⟩:=c
    exact .inr ⟨i,List.mem_range.1 h1,by simpa using h2⟩
  have hJ:∀ i,i<n→lU mem (b+i)<v→rO mem n b v=false:=fun i h1 h2=>by
   unfold rO;rw[List.all_eq_false];exact⟨i,List.mem_range.2 h1,by simpa using h2⟩
  simp[-Int.natCast_add,att,atO,sC,mF,hRow,hC,hk,md hA,md0 hA,mg hA,mg0 hA,ms hA,ms0 hA,mp hA,mp0 hA,lh hA,spl,sp0,sp1,sp2,sp3,sq0,sq1,aY,bf,-List.length_flatMap,aC,aF,aJ,aI,aH,aO,aj,au,aG,ax,aP,aZ,aU,bg,ak,bF,bD,bi,bn,az,aV,aW,ai,af,ah,ay,aQ,-bz,bK,bu,bY,dh,bU,bV,bI,bQ,bT,cO,df,bG,bW,bP,cZ,hs2,hs3,i0,i1,i2,i3,ints_at hv,iw hi]
  refine eY (l:=Pv) (b:=QB) rfl [7,8,9] (fun i=>[(6,.int .i64 i)]) (fun i=>∀ j,j<i→¬lU mem (b+j)<v) n (fun j hj=>absurd hj (by omega)) (by simp) ?_ ?_
  ·intro i hin hinv q hn hx hr
   obtain⟨u,hu,hu2,hil⟩:=loop i hin
   have z2:((b+i:Nat):Int)<mem.length:=by omega
   have z3:b+i+1≤mem.length:=hil
   have z4:(0:Int)≤((b+i:Nat):Int):=Int.natCast_nonneg _
   have z5:((b+i:Nat):Int).toNat=b+i:=Int.toNat_natCast _
   have z6:=wrap_succ (i:=i) (by omega)
   have fi:=fl i hin
   by_cases c:u<v
   ·rw[hJ i hin (by omega)] at hr
    simp[-Int.natCast_add,mF,hRow,hC,hk,md hA,md0 hA,mg hA,mg0 hA,ms hA,ms0 hA,mp hA,mp0 hA,lh hA,spl,sp0,sp1,sp2,sp3,sq0,sq1,aY,bf,-List.length_flatMap,aC,aF,aJ,aI,aH,aO,aj,au,aG,ax,aP,aZ,aU,bg,ak,bF,bD,bi,bn,az,aV,aW,ai,af,ah,ay,aQ,-bz,bK,bu,bY,dh,bU,bV,bI,bQ,bT,cO,df,bG,bW,bP,cZ,hs2,hs3,hin]
    refine bZ fi ?_
    simp[-Int.natCast_add,mF,hRow,hC,hk,md hA,md0 hA,mg hA,mg0 hA,ms hA,ms0 hA,mp hA,mp0 hA,lh hA,spl,sp0,sp1,sp2,sp3,sq0,sq1,aY,bf,-List.length_flatMap,aC,aF,aJ,aI,aH,aO,aj,au,aG,ax,aP,aZ,aU,bg,ak,bF,bD,bi,bn,az,aV,aW,ai,af,ah,ay,aQ,-bz,bK,bu,bY,dh,bU,bV,bI,bQ,bT,cO,df,bG,bW,bP,cZ,hs2,hs3,hin,z2,z3,z4,z5,i0,i1,i2,i3,ints_at hv,ints_at hu,iw hi,c]
    refine hr _ ?_
    simp
   ·simp[-Int.natCast_add,mF,hRow,hC,hk,md hA,md0 hA,mg hA,mg0 hA,ms hA,ms0 hA,mp hA,mp0 hA,lh hA,spl,sp0,sp1,sp2,sp3,sq0,sq1,aY,bf,-List.length_flatMap,aC,aF,aJ,aI,aH,aO,aj,au,aG,ax,aP,aZ,aU,bg,ak,bF,bD,bi,bn,az,aV,aW,ai,af,ah,ay,aQ,-bz,bK,bu,bY,dh,bU,bV,bI,bQ,bT,cO,df,bG,bW,bP,cZ,hs2,hs3,hin]
    refine bZ fi ?_
    simp[-Int.natCast_add,mF,hRow,hC,hk,md hA,md0 hA,mg hA,mg0 hA,ms hA,ms0 hA,mp hA,mp0 hA,lh hA,spl,sp0,sp1,sp2,sp3,sq0,sq1,aY,bf,-List.length_flatMap,aC,aF,aJ,aI,aH,aO,aj,au,aG,ax,aP,aZ,aU,bg,ak,bF,bD,bi,bn,az,aV,aW,ai,af,ah,ay,aQ,-bz,bK,bu,bY,dh,bU,bV,bI,bQ,bT,cO,df,bG,bW,bP,cZ,hs2,hs3,hin,z2,z3,z4,z5,z6,i0,i1,i2,i3,ints_at hv,ints_at hu,iw hi,c]
    refine hn _ ?_ ?_
    ·simp
    ·intro j hj
     rcases Nat.lt_or_ge j i with h1|h1
     ·exact hinv j h1
     ·have:j=i:=by omega
      subst this;omega
  ·intro hinv q hx hr
   have e:rO mem n b v=true:=by
    rcases hI with h1|⟨i,h1,h2⟩
    ·exact h1
    ·exact absurd h2 (hinv i h1)
   rw[e] at hx hr
   simp[-Int.natCast_add,mF,hRow,hC,hk,md hA,md0 hA,mg hA,mg0 hA,ms hA,ms0 hA,mp hA,mp0 hA,lh hA,spl,sp0,sp1,sp2,sp3,sq0,sq1,aY,bf,-List.length_flatMap,aC,aF,aJ,aI,aH,aO,aj,au,aG,ax,aP,aZ,aU,bg,ak,bF,bD,bi,bn,az,aV,aW,ai,af,ah,ay,aQ,-bz,bK,bu,bY,dh,bU,bV,bI,bQ,bT,cO,df,bG,bW,bP,cZ,hs2,hs3]
   refine hx _ _ ?_
   simp[mF,hRow,hC,hk,md hA,md0 hA,mg hA,mg0 hA,ms hA,ms0 hA,mp hA,mp0 hA,lh hA,spl,sp0,sp1,sp2,sp3,sq0,sq1,aY,bf,-List.length_flatMap,aC,aF,aJ,aI,aH,aO,aj,au,aG,ax,aP,aZ,aU,bg,ak,bF,bD,bi,bn,az,aV,aW,ai,af,ah,ay,aQ,-bz,bK,bu,bY,dh,bU,bV,bI,bQ,bT,cO,df,bG,bW,bP,cZ,hs2,hs3,w4]
end
theorem CJ (n k:Nat) (mem out:List Int) (A B:List D) (h:Hand) (t:Bool) (j:Nat) (hA:A.length=k*6) (hk:k<n) (hs:h.Shelf.length≤1000) (hm:mem.length≤100000) (hj:j<mem.length) :
  Says prog 273 [.rp (mZ n mem out A h B t),.int .i64 (k:Int),.int .i64 (j:Int)] (.int .i64 (lY mem h j)) []:=by
 obtain⟨pc,st,rg,sh,he,dn⟩:=h
 simp only at hs
 have hs':sh.length≤100000:=by omega
 have hw:IntKind.i64.wrap ((sh.length:Int)-1)=(sh.length:Int)-1:=by rw[bJ]<;>omega
 refine dD Go.Proofs.Tryz.func273 avt ?_
 simp[aDM,aEV,mF,hRow,hC,hk,md hA,md0 hA,mg hA,mg0 hA,ms hA,ms0 hA,mp hA,mp0 hA,lh hA,spl,sp0,sp1,sp2,sp3,sq0,sq1,aY,bf,-List.length_flatMap,aC,aF,aJ,aI,aH,aO,aj,au,aG,ax,aP,aZ,aU,bg,ak,bF,bD,bi,bn,az,aV,aW,ai,af,ah,ay,aQ,-bz,bK,bu,bY,dh,bU,bV,bI,bQ,bT,cO,df,bG,bW,bP,cZ,mZ,cd hA,cd0 hA,hw]
 generalize hR:lY mem _ _=R
 simp only[lY] at hR
 refine RH (α:=Nat) (l:=O7) (b:=Qo) rfl [6,7] (fun c=>[(5,.int .i64 ((c:Int)-1))]) (fun c=>c) (fun c=>c≤sh.length∧zn mem j (sh.take c).reverse=R) sh.length ⟨Nat.le_refl _,by rw[List.take_length];exact hR⟩ (by simp) ?_
 rintro c ⟨hc,h1⟩ q hn hx hr
 cases c with
 | zero =>
  simp
  refine hx _ _ ?_
  obtain⟨v,hv⟩:=cu hj
  have e:R=v:=by simp[zn,hv] at h1;exact h1.symm
  have hj1:(j:Int)<mem.length:=by omega
  simp[-List.length_flatMap,aC,hj,hj1,aT,uy hv,e]
 | succ c =>
  obtain⟨p,hp⟩:=cu (show c<sh.length by omega)
  have e:(sh.take (c+1)).reverse=p::(sh.take c).reverse:=by rw[List.take_add_one,hp];simp
  rw[e,zn] at h1
  have hw2:IntKind.i64.wrap ((c:Int)-1)=(c:Int)-1:=by rw[bJ]<;>omega
  have hc1:(c:Int)<sh.length:=by omega
  have hrow:=row_drop Put.d 2 Put.d_len hp
  by_cases d:p.At=j
  ·rw[if_pos d] at h1
   simp[hc1,aT,hrow,d]
   refine hr _ ?_
   simp[h1]
  ·rw[if_neg d] at h1
   simp[hc1,aT,hrow,d,hw2]
   refine hn _ c ?_ ⟨by omega,h1⟩ (by omega)
   simp
end Go.AmC
