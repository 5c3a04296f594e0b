import Derived.Test.YtafglhcclmbnbaaGreatLocksMachW
set_option linter.unusedSimpArgs false
set_option linter.unusedVariables false
set_option maxRecDepth 20000
set_option maxHeartbeats 8000000
namespace Go.AmC
open Go Go.AM
open Go.Proofs.Tryz (prog)
def fZ (mem out:List Int) (h:Hand) (i:Ins):List Int × (Hand × Bool) × Int :=
 if i.Op=1 then (out,pushed h i.A false,h.Pc+1)
 else if i.Op=2 then (out,pushed h (lU h.Regs i.A.toNat) false,h.Pc+1)
 else if i.Op=3 then (if h.Stack.isEmpty=true then (out,(gy h,true),h.Pc+1) else (out,({ gy h with Regs:=h.Regs.set i.A.toNat (iL h) },false),h.Pc+1))
 else if i.Op=4∨i.Op=5 then (out,yx mem i h false,h.Pc+1)
 else if i.Op=6 then (out,pushed h (lY mem h i.A) false,h.Pc+1)
 else if i.Op=7 then (if h.Stack.isEmpty=true then (out,(gy h,true),h.Pc+1) else (out,(pW (gy h) ⟨i.A,iL h⟩,false),h.Pc+1))
 else if i.Op=13 then (out,(h,false),i.A)
 else if i.Op=14 then (out,(jU h false).2,if (jU h false).1.2<(jU h false).1.1 then i.A else h.Pc+1)
 else if i.Op=15 then (if h.Stack.isEmpty=true then (out,(gy h,true),h.Pc+1) else (out++[iL h],(gy h,false),h.Pc+1))
 else (out,(if (jU h false).2.2=true then (jU h false).2 else pushed (jU h false).2.1 (opE (sW i.Op) (jU h false).1.1 (jU h false).1.2) false),h.Pc+1)
def iI (mem out:List Int) (h:Hand) (i:Ins):List Int × Hand × Bool :=
 ((fZ mem out h i).1,if (fZ mem out h i).2.1.2=true then (fZ mem out h i).2.1 else ({ (fZ mem out h i).2.1.1 with Pc:=(fZ mem out h i).2.2 },false))
theorem Hu (s n k:Nat) (mem out:List Int) (A B:List D) (h:Hand) (i:Ins) (hA:A.length=k*6) (hk:k<n) (hn:n≤4) (hs0:s≠0) (hm:mem.length≤100000) (ho:out.length≤1000000000) (hs:h.Stack.length≤40) (hsh:h.Shelf.length≤60) (hrg:h.Regs.length≤100000000)
  (hpc:0≤h.Pc∧h.Pc≤4000) (ha1:i.Op=2∨i.Op=3→0≤i.A∧i.A<h.Regs.length) (ha2:i.Op=4∨i.Op=5→(1≤i.B∧i.B≤16)∧0≤i.A∧i.A+i.B≤mem.length) (ha3:i.Op=6∨i.Op=7→0≤i.A∧i.A<mem.length) (hop:1≤i.Op∧i.Op≤15) :
  Says prog 143 [.bx 1 49 (mF s n mem out A h B false),.int .i64 (k:Int),.agg (Cs i.d)] (.tup [] []) (num 1 [.bx 1 49 (mF s n mem (iI mem out h i).1 A (iI mem out h i).2.1 B (iI mem out h i).2.2)]):=by
 have hs1:¬s+1000=0:=by omega
 have hs2:0<s:=by omega
 have w4:IntKind.i64.wrap (h.Pc+1)=h.Pc+1:=by rw[bJ]<;>omega
 have pushf:=fun x=>xu (s+1000) n k mem out A B h false x hA hk (by omega) (by omega)
 have popf:=mr (s+1000) n k mem out A B h false hA hk (by omega) (by omega)
 refine kX [1] [_] Go.Proofs.Tryz.func143 awF (by simp) ?_
 unfold iI
 obtain⟨op,a,ib⟩:=i
 simp only at ha1 ha2 ha3 hop
 by_cases c1:op=1
 ·subst c1
  have f:=pushf a
  have e:fZ mem out h ⟨1,a,ib⟩=(out,pushed h a false,h.Pc+1):=by simp[fZ]
  rw[e]
  generalize pushed h a false=F at f ⊢
  obtain⟨⟨pc,st,rg,sh,he,dn⟩,t2⟩:=F
  simp[mF,hRow,hC] at f
  obtain⟨pc0,st0,rg0,sh0,he0,dn0⟩:=h
  simp only at w4
  simp[v143,yU,mF,hRow,hC,hk,md hA,md0 hA,mg hA,mg0 hA,ms hA,ms0 hA,mp hA,mp0 hA,lh hA,spl,sp0,sp1,sp2,sp3,sq0,sq1,aY,bf,-List.length_flatMap,aC,aF,aJ,aI,aH,aO,aj,au,aG,ax,aP,aZ,aU,bg,ak,bF,bD,bi,bn,az,aV,aW,ai,af,ah,ay,aQ,hs0,hs1,hs2,w4]
  simp only at f
  refine eQ [_] rfl (ik f (by simp[mF,hRow,hC,hk,md hA,md0 hA,mg hA,mg0 hA,ms hA,ms0 hA,mp hA,mp0 hA,lh hA,spl,sp0,sp1,sp2,sp3,sq0,sq1,aY,bf,-List.length_flatMap,aC,aF,aJ,aI,aH,aO,aj,au,aG,ax,aP,aZ,aU,bg,ak,bF,bD,bi,bn,az,aV,aW,ai,af,ah,ay,aQ])) ?_
  cases t2<;>simp[mF,hRow,hC,hk,md hA,md0 hA,mg hA,mg0 hA,ms hA,ms0 hA,mp hA,mp0 hA,lh hA,spl,sp0,sp1,sp2,sp3,sq0,sq1,aY,bf,-List.length_flatMap,aC,aF,aJ,aI,aH,aO,aj,au,aG,ax,aP,aZ,aU,bg,ak,bF,bD,bi,bn,az,aV,aW,ai,af,ah,ay,aQ,hs0,hs1,hs2]
 by_cases c2:op=2
 ·subst c2
  obtain⟨q0,q1⟩:=ha1 (.inl rfl)
  obtain⟨j,rfl⟩:=Int.eq_ofNat_of_zero_le q0
  have hj:j<h.Regs.length:=by omega
  have hj1:j+1≤h.Regs.length:=hj
  have hv:=jP hj
  have f:=pushf (lU h.Regs j)
  have e:fZ mem out h ⟨2,j,ib⟩=(out,pushed h (lU h.Regs j) false,h.Pc+1):=by simp[fZ]
  rw[e]
  generalize lU h.Regs j=v at f hv ⊢
  generalize pushed h v false=F at f ⊢
  obtain⟨⟨pc,st,rg,sh,he,dn⟩,t2⟩:=F
  simp[mF,hRow,hC] at f
  obtain⟨pc0,st0,rg0,sh0,he0,dn0⟩:=h
  simp only at w4 hj hj1 hv
  simp[v143,yU,mF,hRow,hC,hk,md hA,md0 hA,mg hA,mg0 hA,ms hA,ms0 hA,mp hA,mp0 hA,lh hA,spl,sp0,sp1,sp2,sp3,sq0,sq1,aY,bf,-List.length_flatMap,aC,aF,aJ,aI,aH,aO,aj,au,aG,ax,aP,aZ,aU,bg,ak,bF,bD,bi,bn,az,aV,aW,ai,af,ah,ay,aQ,hs0,hs1,hs2,w4,hj,hj1,ints_at hv,iw hj]
  simp only at f
  refine eQ [_] rfl (ik f (by simp[mF,hRow,hC,hk,md hA,md0 hA,mg hA,mg0 hA,ms hA,ms0 hA,mp hA,mp0 hA,lh hA,spl,sp0,sp1,sp2,sp3,sq0,sq1,aY,bf,-List.length_flatMap,aC,aF,aJ,aI,aH,aO,aj,au,aG,ax,aP,aZ,aU,bg,ak,bF,bD,bi,bn,az,aV,aW,ai,af,ah,ay,aQ])) ?_
  cases t2<;>simp[mF,hRow,hC,hk,md hA,md0 hA,mg hA,mg0 hA,ms hA,ms0 hA,mp hA,mp0 hA,lh hA,spl,sp0,sp1,sp2,sp3,sq0,sq1,aY,bf,-List.length_flatMap,aC,aF,aJ,aI,aH,aO,aj,au,aG,ax,aP,aZ,aU,bg,ak,bF,bD,bi,bn,az,aV,aW,ai,af,ah,ay,aQ,hs0,hs1,hs2]
 by_cases c3:op=3
 ·subst c3
  obtain⟨q0,q1⟩:=ha1 (.inr rfl)
  obtain⟨j,rfl⟩:=Int.eq_ofNat_of_zero_le q0
  have hj:j<h.Regs.length:=by omega
  have hj1:j+1≤h.Regs.length:=hj
  have hv:=jP hj
  obtain⟨pc0,st0,rg0,sh0,he0,dn0⟩:=h
  simp only at w4 hj hj1 hv
  rcases uj st0 with rfl|⟨st',x,rfl⟩
  ·simp[mF,hRow,hC,gy,iL] at popf
   simp[v143,yU,mF,hRow,hC,hk,md hA,md0 hA,mg hA,mg0 hA,ms hA,ms0 hA,mp hA,mp0 hA,lh hA,spl,sp0,sp1,sp2,sp3,sq0,sq1,aY,bf,-List.length_flatMap,aC,aF,aJ,aI,aH,aO,aj,au,aG,ax,aP,aZ,aU,bg,ak,bF,bD,bi,bn,az,aV,aW,ai,af,ah,ay,aQ,hs0,hs1,hs2,w4,fZ,gy]
   refine eQ [_] rfl (ik popf (by simp[mF,hRow,hC,hk,md hA,md0 hA,mg hA,mg0 hA,ms hA,ms0 hA,mp hA,mp0 hA,lh hA,spl,sp0,sp1,sp2,sp3,sq0,sq1,aY,bf,-List.length_flatMap,aC,aF,aJ,aI,aH,aO,aj,au,aG,ax,aP,aZ,aU,bg,ak,bF,bD,bi,bn,az,aV,aW,ai,af,ah,ay,aQ])) ?_
   simp[mF,hRow,hC,hk,md hA,md0 hA,mg hA,mg0 hA,ms hA,ms0 hA,mp hA,mp0 hA,lh hA,spl,sp0,sp1,sp2,sp3,sq0,sq1,aY,bf,-List.length_flatMap,aC,aF,aJ,aI,aH,aO,aj,au,aG,ax,aP,aZ,aU,bg,ak,bF,bD,bi,bn,az,aV,aW,ai,af,ah,ay,aQ,hs0,hs1,hs2]
  ·have e0:((st'++[x]).isEmpty)=false:=aZ _ _
   simp only[e0] at popf
   simp[mF,hRow,hC,gy,iL] at popf
   simp[v143,yU,mF,hRow,hC,hk,md hA,md0 hA,mg hA,mg0 hA,ms hA,ms0 hA,mp hA,mp0 hA,lh hA,spl,sp0,sp1,sp2,sp3,sq0,sq1,aY,bf,-List.length_flatMap,aC,aF,aJ,aI,aH,aO,aj,au,aG,ax,aP,aZ,aU,bg,ak,bF,bD,bi,bn,az,aV,aW,ai,af,ah,ay,aQ,hs0,hs1,hs2,w4,fZ,gy,iL]
   refine eQ [_] rfl (ik popf (by simp[mF,hRow,hC,hk,md hA,md0 hA,mg hA,mg0 hA,ms hA,ms0 hA,mp hA,mp0 hA,lh hA,spl,sp0,sp1,sp2,sp3,sq0,sq1,aY,bf,-List.length_flatMap,aC,aF,aJ,aI,aH,aO,aj,au,aG,ax,aP,aZ,aU,bg,ak,bF,bD,bi,bn,az,aV,aW,ai,af,ah,ay,aQ])) ?_
   simp[mF,hRow,hC,hk,md hA,md0 hA,mg hA,mg0 hA,ms hA,ms0 hA,mp hA,mp0 hA,lh hA,spl,sp0,sp1,sp2,sp3,sq0,sq1,aY,bf,-List.length_flatMap,aC,aF,aJ,aI,aH,aO,aj,au,aG,ax,aP,aZ,aU,bg,ak,bF,bD,bi,bn,az,aV,aW,ai,af,ah,ay,aQ,hs0,hs1,hs2,w4,hj,hj1,ints_at hv,iw hj,ints_set _ hj]
 by_cases c45:op=4∨op=5
 ·obtain⟨q1,q2⟩:=ha2 c45
  have f:=Oq (s+1000) n k mem out A B h false ⟨op,a,ib⟩ hA hk (by omega) hs1 (by omega) (by omega) hm q1 q2
  have e:fZ mem out h ⟨op,a,ib⟩=(out,yx mem ⟨op,a,ib⟩ h false,h.Pc+1):=by unfold fZ;simp only[c1,c2,c3,c45,if_true,if_false]
  rw[e]
  generalize yx mem ⟨op,a,ib⟩ h false=F at f ⊢
  obtain⟨⟨pc,st,rg,sh,he,dn⟩,t2⟩:=F
  simp[mF,hRow,hC] at f
  obtain⟨pc0,st0,rg0,sh0,he0,dn0⟩:=h
  simp only at w4
  rcases c45 with rfl|rfl
  ·simp[v143,yU,mF,hRow,hC,hk,md hA,md0 hA,mg hA,mg0 hA,ms hA,ms0 hA,mp hA,mp0 hA,lh hA,spl,sp0,sp1,sp2,sp3,sq0,sq1,aY,bf,-List.length_flatMap,aC,aF,aJ,aI,aH,aO,aj,au,aG,ax,aP,aZ,aU,bg,ak,bF,bD,bi,bn,az,aV,aW,ai,af,ah,ay,aQ,hs0,hs1,hs2,w4]
   simp only at f
   refine eQ [_] rfl (ik f (by simp[mF,hRow,hC,hk,md hA,md0 hA,mg hA,mg0 hA,ms hA,ms0 hA,mp hA,mp0 hA,lh hA,spl,sp0,sp1,sp2,sp3,sq0,sq1,aY,bf,-List.length_flatMap,aC,aF,aJ,aI,aH,aO,aj,au,aG,ax,aP,aZ,aU,bg,ak,bF,bD,bi,bn,az,aV,aW,ai,af,ah,ay,aQ])) ?_
   cases t2<;>simp[mF,hRow,hC,hk,md hA,md0 hA,mg hA,mg0 hA,ms hA,ms0 hA,mp hA,mp0 hA,lh hA,spl,sp0,sp1,sp2,sp3,sq0,sq1,aY,bf,-List.length_flatMap,aC,aF,aJ,aI,aH,aO,aj,au,aG,ax,aP,aZ,aU,bg,ak,bF,bD,bi,bn,az,aV,aW,ai,af,ah,ay,aQ,hs0,hs1,hs2]
  ·simp[v143,yU,mF,hRow,hC,hk,md hA,md0 hA,mg hA,mg0 hA,ms hA,ms0 hA,mp hA,mp0 hA,lh hA,spl,sp0,sp1,sp2,sp3,sq0,sq1,aY,bf,-List.length_flatMap,aC,aF,aJ,aI,aH,aO,aj,au,aG,ax,aP,aZ,aU,bg,ak,bF,bD,bi,bn,az,aV,aW,ai,af,ah,ay,aQ,hs0,hs1,hs2,w4]
   simp only at f
   refine eQ [_] rfl (ik f (by simp[mF,hRow,hC,hk,md hA,md0 hA,mg hA,mg0 hA,ms hA,ms0 hA,mp hA,mp0 hA,lh hA,spl,sp0,sp1,sp2,sp3,sq0,sq1,aY,bf,-List.length_flatMap,aC,aF,aJ,aI,aH,aO,aj,au,aG,ax,aP,aZ,aU,bg,ak,bF,bD,bi,bn,az,aV,aW,ai,af,ah,ay,aQ])) ?_
   cases t2<;>simp[mF,hRow,hC,hk,md hA,md0 hA,mg hA,mg0 hA,ms hA,ms0 hA,mp hA,mp0 hA,lh hA,spl,sp0,sp1,sp2,sp3,sq0,sq1,aY,bf,-List.length_flatMap,aC,aF,aJ,aI,aH,aO,aj,au,aG,ax,aP,aZ,aU,bg,ak,bF,bD,bi,bn,az,aV,aW,ai,af,ah,ay,aQ,hs0,hs1,hs2]
 by_cases c6:op=6
 ·subst c6
  obtain⟨q0,q1⟩:=ha3 (.inl rfl)
  obtain⟨j,rfl⟩:=Int.eq_ofNat_of_zero_le q0
  have f0:=CG n k mem out A B h false j hA hk (by omega) hm (by omega)
  have f:=pushf (lY mem h j)
  have e:fZ mem out h ⟨6,j,ib⟩=(out,pushed h (lY mem h j) false,h.Pc+1):=by simp[fZ]
  rw[e]
  generalize lY mem h j=v at f f0 ⊢
  generalize pushed h v false=F at f ⊢
  obtain⟨⟨pc,st,rg,sh,he,dn⟩,t2⟩:=F
  simp[mF,hRow,hC] at f
  simp[mZ] at f0
  obtain⟨pc0,st0,rg0,sh0,he0,dn0⟩:=h
  simp only at w4
  simp[v143,yU,mF,hRow,hC,hk,md hA,md0 hA,mg hA,mg0 hA,ms hA,ms0 hA,mp hA,mp0 hA,lh hA,spl,sp0,sp1,sp2,sp3,sq0,sq1,aY,bf,-List.length_flatMap,aC,aF,aJ,aI,aH,aO,aj,au,aG,ax,aP,aZ,aU,bg,ak,bF,bD,bi,bn,az,aV,aW,ai,af,ah,ay,aQ,hs0,hs1,hs2,w4]
  refine aX f0 ?_
  simp[mF,hRow,hC,hk,md hA,md0 hA,mg hA,mg0 hA,ms hA,ms0 hA,mp hA,mp0 hA,lh hA,spl,sp0,sp1,sp2,sp3,sq0,sq1,aY,bf,-List.length_flatMap,aC,aF,aJ,aI,aH,aO,aj,au,aG,ax,aP,aZ,aU,bg,ak,bF,bD,bi,bn,az,aV,aW,ai,af,ah,ay,aQ,hs0,hs1,hs2]
  simp only at f
  refine eQ [_] rfl (ik f (by simp[mF,hRow,hC,hk,md hA,md0 hA,mg hA,mg0 hA,ms hA,ms0 hA,mp hA,mp0 hA,lh hA,spl,sp0,sp1,sp2,sp3,sq0,sq1,aY,bf,-List.length_flatMap,aC,aF,aJ,aI,aH,aO,aj,au,aG,ax,aP,aZ,aU,bg,ak,bF,bD,bi,bn,az,aV,aW,ai,af,ah,ay,aQ])) ?_
  cases t2<;>simp[mF,hRow,hC,hk,md hA,md0 hA,mg hA,mg0 hA,ms hA,ms0 hA,mp hA,mp0 hA,lh hA,spl,sp0,sp1,sp2,sp3,sq0,sq1,aY,bf,-List.length_flatMap,aC,aF,aJ,aI,aH,aO,aj,au,aG,ax,aP,aZ,aU,bg,ak,bF,bD,bi,bn,az,aV,aW,ai,af,ah,ay,aQ,hs0,hs1,hs2]
 by_cases c7:op=7
 ·subst c7
  have f:=zf (s+1000) n k mem out A B (gy h) false ⟨a,iL h⟩ hA hk hs1 (by simp[gy];omega)
  obtain⟨pc0,st0,rg0,sh0,he0,dn0⟩:=h
  simp only at w4
  rcases uj st0 with rfl|⟨st',x,rfl⟩
  ·simp[mF,hRow,hC,gy,iL] at popf
   simp[v143,yU,mF,hRow,hC,hk,md hA,md0 hA,mg hA,mg0 hA,ms hA,ms0 hA,mp hA,mp0 hA,lh hA,spl,sp0,sp1,sp2,sp3,sq0,sq1,aY,bf,-List.length_flatMap,aC,aF,aJ,aI,aH,aO,aj,au,aG,ax,aP,aZ,aU,bg,ak,bF,bD,bi,bn,az,aV,aW,ai,af,ah,ay,aQ,hs0,hs1,hs2,w4,fZ,gy]
   refine eQ [_] rfl (ik popf (by simp[mF,hRow,hC,hk,md hA,md0 hA,mg hA,mg0 hA,ms hA,ms0 hA,mp hA,mp0 hA,lh hA,spl,sp0,sp1,sp2,sp3,sq0,sq1,aY,bf,-List.length_flatMap,aC,aF,aJ,aI,aH,aO,aj,au,aG,ax,aP,aZ,aU,bg,ak,bF,bD,bi,bn,az,aV,aW,ai,af,ah,ay,aQ])) ?_
   simp[mF,hRow,hC,hk,md hA,md0 hA,mg hA,mg0 hA,ms hA,ms0 hA,mp hA,mp0 hA,lh hA,spl,sp0,sp1,sp2,sp3,sq0,sq1,aY,bf,-List.length_flatMap,aC,aF,aJ,aI,aH,aO,aj,au,aG,ax,aP,aZ,aU,bg,ak,bF,bD,bi,bn,az,aV,aW,ai,af,ah,ay,aQ,hs0,hs1,hs2]
  ·have e0:((st'++[x]).isEmpty)=false:=aZ _ _
   simp only[e0] at popf
   simp[mF,hRow,hC,gy,iL] at popf
   simp[mF,hRow,hC,gy,iL,pW] at f
   simp[v143,yU,mF,hRow,hC,hk,md hA,md0 hA,mg hA,mg0 hA,ms hA,ms0 hA,mp hA,mp0 hA,lh hA,spl,sp0,sp1,sp2,sp3,sq0,sq1,aY,bf,-List.length_flatMap,aC,aF,aJ,aI,aH,aO,aj,au,aG,ax,aP,aZ,aU,bg,ak,bF,bD,bi,bn,az,aV,aW,ai,af,ah,ay,aQ,hs0,hs1,hs2,w4,fZ,gy,iL,pW]
   refine eQ [_] rfl (ik popf (by simp[mF,hRow,hC,hk,md hA,md0 hA,mg hA,mg0 hA,ms hA,ms0 hA,mp hA,mp0 hA,lh hA,spl,sp0,sp1,sp2,sp3,sq0,sq1,aY,bf,-List.length_flatMap,aC,aF,aJ,aI,aH,aO,aj,au,aG,ax,aP,aZ,aU,bg,ak,bF,bD,bi,bn,az,aV,aW,ai,af,ah,ay,aQ])) ?_
   simp[mF,hRow,hC,hk,md hA,md0 hA,mg hA,mg0 hA,ms hA,ms0 hA,mp hA,mp0 hA,lh hA,spl,sp0,sp1,sp2,sp3,sq0,sq1,aY,bf,-List.length_flatMap,aC,aF,aJ,aI,aH,aO,aj,au,aG,ax,aP,aZ,aU,bg,ak,bF,bD,bi,bn,az,aV,aW,ai,af,ah,ay,aQ,hs0,hs1,hs2,w4]
   refine eQ [_] rfl (ik f (by simp[mF,hRow,hC,hk,md hA,md0 hA,mg hA,mg0 hA,ms hA,ms0 hA,mp hA,mp0 hA,lh hA,spl,sp0,sp1,sp2,sp3,sq0,sq1,aY,bf,-List.length_flatMap,aC,aF,aJ,aI,aH,aO,aj,au,aG,ax,aP,aZ,aU,bg,ak,bF,bD,bi,bn,az,aV,aW,ai,af,ah,ay,aQ])) ?_
   simp[mF,hRow,hC,hk,md hA,md0 hA,mg hA,mg0 hA,ms hA,ms0 hA,mp hA,mp0 hA,lh hA,spl,sp0,sp1,sp2,sp3,sq0,sq1,aY,bf,-List.length_flatMap,aC,aF,aJ,aI,aH,aO,aj,au,aG,ax,aP,aZ,aU,bg,ak,bF,bD,bi,bn,az,aV,aW,ai,af,ah,ay,aQ,hs0,hs1,hs2,w4]
 by_cases c13:op=13
 ·subst c13
  obtain⟨pc0,st0,rg0,sh0,he0,dn0⟩:=h
  simp only at w4
  simp[v143,yU,mF,hRow,hC,hk,md hA,md0 hA,mg hA,mg0 hA,ms hA,ms0 hA,mp hA,mp0 hA,lh hA,spl,sp0,sp1,sp2,sp3,sq0,sq1,aY,bf,-List.length_flatMap,aC,aF,aJ,aI,aH,aO,aj,au,aG,ax,aP,aZ,aU,bg,ak,bF,bD,bi,bn,az,aV,aW,ai,af,ah,ay,aQ,hs0,hs1,hs2,w4,fZ]
 by_cases c15:op=15
 ·subst c15
  obtain⟨pc0,st0,rg0,sh0,he0,dn0⟩:=h
  simp only at w4
  have hb:out.length+1≤bnd:=by unfold bnd;omega
  have hb0:out.length≤bnd:=by unfold bnd;omega
  rcases uj st0 with rfl|⟨st',x,rfl⟩
  ·simp[mF,hRow,hC,gy,iL] at popf
   simp[v143,yU,mF,hRow,hC,hk,md hA,md0 hA,mg hA,mg0 hA,ms hA,ms0 hA,mp hA,mp0 hA,lh hA,spl,sp0,sp1,sp2,sp3,sq0,sq1,aY,bf,-List.length_flatMap,aC,aF,aJ,aI,aH,aO,aj,au,aG,ax,aP,aZ,aU,bg,ak,bF,bD,bi,bn,az,aV,aW,ai,af,ah,ay,aQ,hs0,hs1,hs2,w4,fZ,gy]
   refine eQ [_] rfl (ik popf (by simp[mF,hRow,hC,hk,md hA,md0 hA,mg hA,mg0 hA,ms hA,ms0 hA,mp hA,mp0 hA,lh hA,spl,sp0,sp1,sp2,sp3,sq0,sq1,aY,bf,-List.length_flatMap,aC,aF,aJ,aI,aH,aO,aj,au,aG,ax,aP,aZ,aU,bg,ak,bF,bD,bi,bn,az,aV,aW,ai,af,ah,ay,aQ])) ?_
   simp[mF,hRow,hC,hk,md hA,md0 hA,mg hA,mg0 hA,ms hA,ms0 hA,mp hA,mp0 hA,lh hA,spl,sp0,sp1,sp2,sp3,sq0,sq1,aY,bf,-List.length_flatMap,aC,aF,aJ,aI,aH,aO,aj,au,aG,ax,aP,aZ,aU,bg,ak,bF,bD,bi,bn,az,aV,aW,ai,af,ah,ay,aQ,hs0,hs1,hs2]
  ·have e0:((st'++[x]).isEmpty)=false:=aZ _ _
   simp only[e0] at popf
   simp[mF,hRow,hC,gy,iL] at popf
   simp[v143,yU,mF,hRow,hC,hk,md hA,md0 hA,mg hA,mg0 hA,ms hA,ms0 hA,mp hA,mp0 hA,lh hA,spl,sp0,sp1,sp2,sp3,sq0,sq1,aY,bf,-List.length_flatMap,aC,aF,aJ,aI,aH,aO,aj,au,aG,ax,aP,aZ,aU,bg,ak,bF,bD,bi,bn,az,aV,aW,ai,af,ah,ay,aQ,hs0,hs1,hs2,w4,fZ,gy,iL]
   refine eQ [_] rfl (ik popf (by simp[mF,hRow,hC,hk,md hA,md0 hA,mg hA,mg0 hA,ms hA,ms0 hA,mp hA,mp0 hA,lh hA,spl,sp0,sp1,sp2,sp3,sq0,sq1,aY,bf,-List.length_flatMap,aC,aF,aJ,aI,aH,aO,aj,au,aG,ax,aP,aZ,aU,bg,ak,bF,bD,bi,bn,az,aV,aW,ai,af,ah,ay,aQ])) ?_
   simp[mF,hRow,hC,hk,md hA,md0 hA,mg hA,mg0 hA,ms hA,ms0 hA,mp hA,mp0 hA,lh hA,spl,sp0,sp1,sp2,sp3,sq0,sq1,aY,bf,-List.length_flatMap,aC,aF,aJ,aI,aH,aO,aj,au,aG,ax,aP,aZ,aU,bg,ak,bF,bD,bi,bn,az,aV,aW,ai,af,ah,ay,aQ,hs0,hs1,hs2,w4,hb,hb0]
 have ftwo:=MW (s+1000) n k mem out A B h false hA hk (by omega) hs1 (by omega)
 by_cases c14:op=14
 ·subst c14
  have e:fZ mem out h ⟨14,a,ib⟩=(out,(jU h false).2,if (jU h false).1.2<(jU h false).1.1 then a else h.Pc+1):=by simp[fZ]
  rw[e]
  generalize jU h false=F at ftwo ⊢
  obtain⟨⟨x,y⟩,⟨pc,st,rg,sh,he,dn⟩,t2⟩:=F
  simp[mF,hRow,hC] at ftwo
  obtain⟨pc0,st0,rg0,sh0,he0,dn0⟩:=h
  simp only at w4
  simp[v143,yU,mF,hRow,hC,hk,md hA,md0 hA,mg hA,mg0 hA,ms hA,ms0 hA,mp hA,mp0 hA,lh hA,spl,sp0,sp1,sp2,sp3,sq0,sq1,aY,bf,-List.length_flatMap,aC,aF,aJ,aI,aH,aO,aj,au,aG,ax,aP,aZ,aU,bg,ak,bF,bD,bi,bn,az,aV,aW,ai,af,ah,ay,aQ,hs0,hs1,hs2,w4]
  refine eQ [_] rfl (ik ftwo (by simp[mF,hRow,hC,hk,md hA,md0 hA,mg hA,mg0 hA,ms hA,ms0 hA,mp hA,mp0 hA,lh hA,spl,sp0,sp1,sp2,sp3,sq0,sq1,aY,bf,-List.length_flatMap,aC,aF,aJ,aI,aH,aO,aj,au,aG,ax,aP,aZ,aU,bg,ak,bF,bD,bi,bn,az,aV,aW,ai,af,ah,ay,aQ])) ?_
  by_cases c:y<x<;>cases t2<;>simp[mF,hRow,hC,hk,md hA,md0 hA,mg hA,mg0 hA,ms hA,ms0 hA,mp hA,mp0 hA,lh hA,spl,sp0,sp1,sp2,sp3,sq0,sq1,aY,bf,-List.length_flatMap,aC,aF,aJ,aI,aH,aO,aj,au,aG,ax,aP,aZ,aU,bg,ak,bF,bD,bi,bn,az,aV,aW,ai,af,ah,ay,aQ,hs0,hs1,hs2,c]
 have e:fZ mem out h ⟨op,a,ib⟩=(out,(if (jU h false).2.2=true then (jU h false).2 else pushed (jU h false).2.1 (opE (sW op) (jU h false).1.1 (jU h false).1.2) false),h.Pc+1):=by
  unfold fZ;simp only[c1,c2,c3,c45,c6,c7,c13,c14,c15,if_false]
 rw[e]
 have hl2:(jU h false).2.1.Stack.length≤40:=by unfold jU;split<;>simp[gy]<;>omega
 have fk:=Ky op
 have hk2:4≤sW op∧sW op≤8:=by unfold sW;split<;>(try split)<;>(try split)<;>(try split)<;>omega
 generalize jU h false=F at ftwo hl2 ⊢
 obtain⟨⟨x,y⟩,⟨pc,st,rg,sh,he,dn⟩,t2⟩:=F
 simp only at hl2
 have fo:=TK (sW op) x y hk2
 have fp:=xu (s+1000) n k mem out A B ⟨pc,st,rg,sh,he,dn⟩ false (opE (sW op) x y) hA hk (by omega) (by simp only;omega)
 have o4:¬op=4:=fun h=>c45 (.inl h)
 have o5:¬op=5:=fun h=>c45 (.inr h)
 simp[mF,hRow,hC] at ftwo
 obtain⟨pc0,st0,rg0,sh0,he0,dn0⟩:=h
 simp only at w4
 simp[v143,yU,mF,hRow,hC,hk,md hA,md0 hA,mg hA,mg0 hA,ms hA,ms0 hA,mp hA,mp0 hA,lh hA,spl,sp0,sp1,sp2,sp3,sq0,sq1,aY,bf,-List.length_flatMap,aC,aF,aJ,aI,aH,aO,aj,au,aG,ax,aP,aZ,aU,bg,ak,bF,bD,bi,bn,az,aV,aW,ai,af,ah,ay,aQ,hs0,hs1,hs2,w4,c1,c2,c3,o4,o5,c6,c7,c13,c14,c15]
 refine eQ [_] rfl (ik ftwo (by simp[mF,hRow,hC,hk,md hA,md0 hA,mg hA,mg0 hA,ms hA,ms0 hA,mp hA,mp0 hA,lh hA,spl,sp0,sp1,sp2,sp3,sq0,sq1,aY,bf,-List.length_flatMap,aC,aF,aJ,aI,aH,aO,aj,au,aG,ax,aP,aZ,aU,bg,ak,bF,bD,bi,bn,az,aV,aW,ai,af,ah,ay,aQ])) ?_
 cases t2 with
 | true=>simp[mF,hRow,hC,hk,md hA,md0 hA,mg hA,mg0 hA,ms hA,ms0 hA,mp hA,mp0 hA,lh hA,spl,sp0,sp1,sp2,sp3,sq0,sq1,aY,bf,-List.length_flatMap,aC,aF,aJ,aI,aH,aO,aj,au,aG,ax,aP,aZ,aU,bg,ak,bF,bD,bi,bn,az,aV,aW,ai,af,ah,ay,aQ,hs0,hs1,hs2]
 | false =>
  simp only[if_false,Bool.false_eq_true]
  generalize pushed _ _ false=G at fp ⊢
  obtain⟨⟨pc,st,rg,sh,he,dn⟩,t3⟩:=G
  simp[mF,hRow,hC] at fp
  simp[mF,hRow,hC,hk,md hA,md0 hA,mg hA,mg0 hA,ms hA,ms0 hA,mp hA,mp0 hA,lh hA,spl,sp0,sp1,sp2,sp3,sq0,sq1,aY,bf,-List.length_flatMap,aC,aF,aJ,aI,aH,aO,aj,au,aG,ax,aP,aZ,aU,bg,ak,bF,bD,bi,bn,az,aV,aW,ai,af,ah,ay,aQ,hs0,hs1,hs2]
  refine aX fk ?_
  simp[mF,hRow,hC,hk,md hA,md0 hA,mg hA,mg0 hA,ms hA,ms0 hA,mp hA,mp0 hA,lh hA,spl,sp0,sp1,sp2,sp3,sq0,sq1,aY,bf,-List.length_flatMap,aC,aF,aJ,aI,aH,aO,aj,au,aG,ax,aP,aZ,aU,bg,ak,bF,bD,bi,bn,az,aV,aW,ai,af,ah,ay,aQ,hs0,hs1,hs2]
  refine aX fo ?_
  simp[mF,hRow,hC,hk,md hA,md0 hA,mg hA,mg0 hA,ms hA,ms0 hA,mp hA,mp0 hA,lh hA,spl,sp0,sp1,sp2,sp3,sq0,sq1,aY,bf,-List.length_flatMap,aC,aF,aJ,aI,aH,aO,aj,au,aG,ax,aP,aZ,aU,bg,ak,bF,bD,bi,bn,az,aV,aW,ai,af,ah,ay,aQ,hs0,hs1,hs2]
  refine eQ [_] rfl (ik fp (by simp[mF,hRow,hC,hk,md hA,md0 hA,mg hA,mg0 hA,ms hA,ms0 hA,mp hA,mp0 hA,lh hA,spl,sp0,sp1,sp2,sp3,sq0,sq1,aY,bf,-List.length_flatMap,aC,aF,aJ,aI,aH,aO,aj,au,aG,ax,aP,aZ,aU,bg,ak,bF,bD,bi,bn,az,aV,aW,ai,af,ah,ay,aQ])) ?_
  cases t3<;>simp[mF,hRow,hC,hk,md hA,md0 hA,mg hA,mg0 hA,ms hA,ms0 hA,mp hA,mp0 hA,lh hA,spl,sp0,sp1,sp2,sp3,sq0,sq1,aY,bf,-List.length_flatMap,aC,aF,aJ,aI,aH,aO,aj,au,aG,ax,aP,aZ,aU,bg,ak,bF,bD,bi,bn,az,aV,aW,ai,af,ah,ay,aQ,hs0,hs1,hs2]
end Go.AmC
