import Derived.Test.YtafglhcclmbnbaaGreatLocksMachQ
set_option linter.unusedSimpArgs false
set_option linter.unusedVariables false
set_option linter.unusedSectionVars false
set_option maxRecDepth 20000
set_option maxHeartbeats 8000000
namespace Go.AmC
open Go Go.AM
open Go.Proofs.Tryz (prog)
def Gs (mem out:List Int) (h:Hand) (i:Ins):List Int × List Int × Hand × Bool :=
 if i.Op=1 then (mem,out,nG h i.A false)
 else if i.Op=2 then (mem,out,nG h (lU h.Regs i.A.toNat) false)
 else if i.Op=4 then (if (fJ h false i).2.2=true then (mem,out,(fJ h false i).2.1,true) else (mem,out,nG (fJ h false i).2.1 (lY mem (fJ h false i).2.1 (fJ h false i).1) false))
 else if i.Op=6 then (mem,out,nG h (lY mem h i.A) false)
 else if i.Op=5 then (mem,out,jr (fJ (dB h false).2.1 (dB h false).2.2 i).2.1 ⟨(fJ (dB h false).2.1 (dB h false).2.2 i).1,(dB h false).1⟩ (fJ (dB h false).2.1 (dB h false).2.2 i).2.2,(fJ (dB h false).2.1 (dB h false).2.2 i).2.2)
 else if i.Op=7 then (mem,out,jr (dB h false).2.1 ⟨i.A,(dB h false).1⟩ (dB h false).2.2,(dB h false).2.2)
 else if i.Op=13 then (mem,out,{ h with Pc:=i.A },false)
 else if i.Op=19 then (mem,out,{ h with Done:=true },false)
 else if i.Op=3∨i.Op=15∨i.Op=17 then pU mem out h false i
 else (mem,out,ML h false i)
theorem zy (h:Hand) (t:Bool) (i:Ins):(fJ h t i).2.1.Stack.length≤h.Stack.length∧(fJ h t i).2.1.Pc=h.Pc∧(fJ h t i).2.1.Shelf=h.Shelf:=by
 have a:=lJ h t;have b:=qH h t
 exact⟨a.1,a.2,b.2⟩
theorem CX {h:Hand} {t:Bool} {i:Ins} (ht:(fJ h t i).2.2=false):i.A≤(fJ h t i).1∧(fJ h t i).1<i.A+i.B:=by
 unfold fJ at *
 simp only[Bool.or_eq_false_iff,Bool.not_eq_false',Bool.and_eq_true,decide_eq_true_eq] at ht
 omega
theorem aa9 {h:Hand} {t:Bool} {i:Ins} (ht:t=true):(fJ h t i).2.2=true:=by
 subst ht;simp[fJ,dB]
section
variable (s2 s3 n k : Nat) (mem out : List Int) (A B : List D) (h : Hand) (t : Bool) (lc : List AV) (cn : Nat) (cc : List AV) (hA : A.length = k * 6) (hk : k < n) (hs2 : s2 ≠ 0) (hs3 : s3 ≠ 0)
include hA hk hs2 hs3
theorem Ov (i:Ins) (hs:h.Stack.length≤40) (hsh:h.Shelf.length≤60) (hpc:0≤h.Pc∧h.Pc≤4000) (hm:mem.length≤100000) (ho:out.length≤1000000000)
  (ha1:i.Op=2∨i.Op=3→0≤i.A∧i.A<h.Regs.length) (ha2:i.Op=4∨i.Op=5→(1≤i.B∧i.B≤16)∧0≤i.A∧i.A+i.B≤mem.length) (ha3:i.Op=6∨i.Op=17→0≤i.A∧i.A<mem.length) (hop:(1≤i.Op∧i.Op≤19)∧i.Op≠16∧i.Op≠18) :
  kR prog 205 [.bx 1 182 (sC s2 s3 n mem out A h B false lc cn cc),.pp 0 [0,0,1] (k*6),.int .i64 (k:Int),.agg (Cs i.d)] (.tup [] []) (num 1 [.bx 1 182 (sC s2 s3 n (Gs mem out h i).1 (Gs mem out h i).2.1 A (Gs mem out h i).2.2.1 B (Gs mem out h i).2.2.2 lc cn cc)]):=by
 have p2:0<s2:=by omega
 have p3:0<s3:=by omega
 have pushf:=fun (h':Hand) (x:Int) (h1:h'.Stack.length≤1000) (h2:0≤h'.Pc∧h'.Pc≤4000)=>CW (s2+1000) (s3+1000) n k mem out A B h' false lc cn cc hA hk (by omega) (by omega) x h1 h2
 have takef:=nJ (s2+1000) (s3+1000) n k mem out A B h false lc cn cc hA hk (by omega) (by omega) (by omega)
 refine vI [1] [_] Go.Proofs.Tryz.func205 av8 (by simp) ?_
 unfold Gs
 obtain⟨op,a,ib⟩:=i
 simp only at ha1 ha2 ha3 hop
 by_cases c1:op=1
 ·subst c1
  have f:=pushf h a (by omega) hpc
  simp only[if_true]
  generalize nG h a false=F at f ⊢
  obtain⟨⟨pc,st,rg,sh,he,dn⟩,t2⟩:=F
  simp[sC,mF,hRow,hC] at f
  obtain⟨pc0,st0,rg0,sh0,he0,dn0⟩:=h
  simp[yX,zo,sC,mF,hRow,hC,hk,md hA,md0 hA,mg hA,mg0 hA,ms hA,ms0 hA,mp hA,mp0 hA,lh hA,spl,sp0,sp1,sp2,sp3,sq0,sq1,aY,bf,-List.length_flatMap,aC,aF,aJ,aI,aH,aO,aj,au,aG,ax,aP,aZ,aU,bg,ak,bF,bD,bi,bn,az,aV,aW,ai,af,ah,ay,aQ,-bz,bK,bu,bY,dh,bU,bV,bI,bQ,bT,cO,df,bG,bW,bP,cZ,hs2,hs3]
  simp only at f
  refine eQ [_] rfl f ?_
  simp[mF,hRow,hC,hk,md hA,md0 hA,mg hA,mg0 hA,ms hA,ms0 hA,mp hA,mp0 hA,lh hA,spl,sp0,sp1,sp2,sp3,sq0,sq1,aY,bf,-List.length_flatMap,aC,aF,aJ,aI,aH,aO,aj,au,aG,ax,aP,aZ,aU,bg,ak,bF,bD,bi,bn,az,aV,aW,ai,af,ah,ay,aQ,-bz,bK,bu,bY,dh,bU,bV,bI,bQ,bT,cO,df,bG,bW,bP,cZ,hs2,hs3,p2,p3]
 by_cases c2:op=2
 ·subst c2
  obtain⟨q0,q1⟩:=ha1 (.inl rfl)
  obtain⟨j,rfl⟩:=Int.eq_ofNat_of_zero_le q0
  have hj:j<h.Regs.length:=by omega
  have hj1:j+1≤h.Regs.length:=hj
  have hv:=jP hj
  have f:=pushf h (lU h.Regs j) (by omega) hpc
  simp only[if_true,if_false,Int.toNat_natCast,show ¬(2:Int)=1 by decide]
  generalize lU h.Regs j=v at f hv ⊢
  generalize nG h v false=F at f ⊢
  obtain⟨⟨pc,st,rg,sh,he,dn⟩,t2⟩:=F
  simp[sC,mF,hRow,hC] at f
  obtain⟨pc0,st0,rg0,sh0,he0,dn0⟩:=h
  simp only at hj hj1 hv
  simp[yX,zo,sC,mF,hRow,hC,hk,md hA,md0 hA,mg hA,mg0 hA,ms hA,ms0 hA,mp hA,mp0 hA,lh hA,spl,sp0,sp1,sp2,sp3,sq0,sq1,aY,bf,-List.length_flatMap,aC,aF,aJ,aI,aH,aO,aj,au,aG,ax,aP,aZ,aU,bg,ak,bF,bD,bi,bn,az,aV,aW,ai,af,ah,ay,aQ,-bz,bK,bu,bY,dh,bU,bV,bI,bQ,bT,cO,df,bG,bW,bP,cZ,hs2,hs3,hj,hj1,ints_at hv,iw hj]
  simp only at f
  refine eQ [_] rfl f ?_
  simp[mF,hRow,hC,hk,md hA,md0 hA,mg hA,mg0 hA,ms hA,ms0 hA,mp hA,mp0 hA,lh hA,spl,sp0,sp1,sp2,sp3,sq0,sq1,aY,bf,-List.length_flatMap,aC,aF,aJ,aI,aH,aO,aj,au,aG,ax,aP,aZ,aU,bg,ak,bF,bD,bi,bn,az,aV,aW,ai,af,ah,ay,aQ,-bz,bK,bu,bY,dh,bU,bV,bI,bQ,bT,cO,df,bG,bW,bP,cZ,hs2,hs3,p2,p3]
 by_cases c4:op=4
 ·subst c4
  obtain⟨q1,q2⟩:=ha2 (.inl rfl)
  have f:=zx (s2+1000) (s3+1000) n k mem out A B h false lc cn cc hA hk (by omega) (by omega) ⟨4,a,ib⟩ (by omega) q1
  obtain⟨l1,l2,l3⟩:=zy h false ⟨4,a,ib⟩
  have l5:=CX (h:=h) (t:=false) (i:=⟨4,a,ib⟩)
  simp only[if_true,if_false,show ¬(4:Int)=1 by decide,show ¬(4:Int)=2 by decide]
  generalize fJ h false ⟨4,a,ib⟩=F at f l1 l2 l3 l5 ⊢
  obtain⟨y,h1,t1⟩:=F
  simp only at l1 l2 l3 l5
  cases t1 with
  | true =>
   simp[sC,mF,hRow,hC] at f
   obtain⟨pc0,st0,rg0,sh0,he0,dn0⟩:=h
   simp[yX,zo,sC,mF,hRow,hC,hk,md hA,md0 hA,mg hA,mg0 hA,ms hA,ms0 hA,mp hA,mp0 hA,lh hA,spl,sp0,sp1,sp2,sp3,sq0,sq1,aY,bf,-List.length_flatMap,aC,aF,aJ,aI,aH,aO,aj,au,aG,ax,aP,aZ,aU,bg,ak,bF,bD,bi,bn,az,aV,aW,ai,af,ah,ay,aQ,-bz,bK,bu,bY,dh,bU,bV,bI,bQ,bT,cO,df,bG,bW,bP,cZ,hs2,hs3]
   simp only at f
   refine eQ [_] rfl f ?_
   simp[mF,hRow,hC,hk,md hA,md0 hA,mg hA,mg0 hA,ms hA,ms0 hA,mp hA,mp0 hA,lh hA,spl,sp0,sp1,sp2,sp3,sq0,sq1,aY,bf,-List.length_flatMap,aC,aF,aJ,aI,aH,aO,aj,au,aG,ax,aP,aZ,aU,bg,ak,bF,bD,bi,bn,az,aV,aW,ai,af,ah,ay,aQ,-bz,bK,bu,bY,dh,bU,bV,bI,bQ,bT,cO,df,bG,bW,bP,cZ,hs2,hs3,p2,p3]
  | false =>
   obtain⟨l6,l7⟩:=l5 rfl
   obtain⟨j,rfl⟩:=Int.eq_ofNat_of_zero_le (show 0≤y by omega)
   have hj:j<mem.length:=by omega
   have wj:IntKind.i64.wrap (j:Int)=(j:Int):=by rw[bJ]<;>omega
   have f0:=CJ n k mem out A B h1 false j hA hk (by rw[l3];omega) hm hj
   have f2:=pushf h1 (lY mem h1 j) (by omega) (by omega)
   simp only[Bool.false_eq_true,if_false]
   rw[wj] at f
   generalize lY mem h1 j=v at f0 f2 ⊢
   generalize nG h1 v false=G at f2 ⊢
   obtain⟨⟨pc,st,rg,sh,he,dn⟩,t2⟩:=G
   simp[sC,mF,hRow,hC] at f f2
   simp[mZ] at f0
   obtain⟨pc0,st0,rg0,sh0,he0,dn0⟩:=h
   obtain⟨pc1,st1,rg1,sh1,he1,dn1⟩:=h1
   simp[yX,zo,sC,mF,hRow,hC,hk,md hA,md0 hA,mg hA,mg0 hA,ms hA,ms0 hA,mp hA,mp0 hA,lh hA,spl,sp0,sp1,sp2,sp3,sq0,sq1,aY,bf,-List.length_flatMap,aC,aF,aJ,aI,aH,aO,aj,au,aG,ax,aP,aZ,aU,bg,ak,bF,bD,bi,bn,az,aV,aW,ai,af,ah,ay,aQ,-bz,bK,bu,bY,dh,bU,bV,bI,bQ,bT,cO,df,bG,bW,bP,cZ,hs2,hs3]
   simp only at f f2 f0
   refine eQ [_] rfl f ?_
   simp[mF,hRow,hC,hk,md hA,md0 hA,mg hA,mg0 hA,ms hA,ms0 hA,mp hA,mp0 hA,lh hA,spl,sp0,sp1,sp2,sp3,sq0,sq1,aY,bf,-List.length_flatMap,aC,aF,aJ,aI,aH,aO,aj,au,aG,ax,aP,aZ,aU,bg,ak,bF,bD,bi,bn,az,aV,aW,ai,af,ah,ay,aQ,-bz,bK,bu,bY,dh,bU,bV,bI,bQ,bT,cO,df,bG,bW,bP,cZ,hs2,hs3,p2,p3]
   refine aX f0 ?_
   simp[mF,hRow,hC,hk,md hA,md0 hA,mg hA,mg0 hA,ms hA,ms0 hA,mp hA,mp0 hA,lh hA,spl,sp0,sp1,sp2,sp3,sq0,sq1,aY,bf,-List.length_flatMap,aC,aF,aJ,aI,aH,aO,aj,au,aG,ax,aP,aZ,aU,bg,ak,bF,bD,bi,bn,az,aV,aW,ai,af,ah,ay,aQ,-bz,bK,bu,bY,dh,bU,bV,bI,bQ,bT,cO,df,bG,bW,bP,cZ,hs2,hs3,p2,p3]
   refine eQ [_] rfl f2 ?_
   simp[mF,hRow,hC,hk,md hA,md0 hA,mg hA,mg0 hA,ms hA,ms0 hA,mp hA,mp0 hA,lh hA,spl,sp0,sp1,sp2,sp3,sq0,sq1,aY,bf,-List.length_flatMap,aC,aF,aJ,aI,aH,aO,aj,au,aG,ax,aP,aZ,aU,bg,ak,bF,bD,bi,bn,az,aV,aW,ai,af,ah,ay,aQ,-bz,bK,bu,bY,dh,bU,bV,bI,bQ,bT,cO,df,bG,bW,bP,cZ,hs2,hs3,p2,p3]
 by_cases c6:op=6
 ·subst c6
  obtain⟨q0,q1⟩:=ha3 (.inl rfl)
  obtain⟨j,rfl⟩:=Int.eq_ofNat_of_zero_le q0
  have hj:j<mem.length:=by omega
  have f0:=CJ n k mem out A B h false j hA hk (by omega) hm hj
  have f:=pushf h (lY mem h j) (by omega) hpc
  simp only[if_true,if_false,show ¬(6:Int)=1 by decide,show ¬(6:Int)=2 by decide,show ¬(6:Int)=4 by decide]
  generalize lY mem h j=v at f f0 ⊢
  generalize nG h v false=F at f ⊢
  obtain⟨⟨pc,st,rg,sh,he,dn⟩,t2⟩:=F
  simp[sC,mF,hRow,hC] at f
  simp[mZ] at f0
  obtain⟨pc0,st0,rg0,sh0,he0,dn0⟩:=h
  simp[yX,zo,sC,mF,hRow,hC,hk,md hA,md0 hA,mg hA,mg0 hA,ms hA,ms0 hA,mp hA,mp0 hA,lh hA,spl,sp0,sp1,sp2,sp3,sq0,sq1,aY,bf,-List.length_flatMap,aC,aF,aJ,aI,aH,aO,aj,au,aG,ax,aP,aZ,aU,bg,ak,bF,bD,bi,bn,az,aV,aW,ai,af,ah,ay,aQ,-bz,bK,bu,bY,dh,bU,bV,bI,bQ,bT,cO,df,bG,bW,bP,cZ,hs2,hs3]
  simp only at f f0
  first|refine aX f0 ?_|refine bZ f0 ?_
  simp[mF,hRow,hC,hk,md hA,md0 hA,mg hA,mg0 hA,ms hA,ms0 hA,mp hA,mp0 hA,lh hA,spl,sp0,sp1,sp2,sp3,sq0,sq1,aY,bf,-List.length_flatMap,aC,aF,aJ,aI,aH,aO,aj,au,aG,ax,aP,aZ,aU,bg,ak,bF,bD,bi,bn,az,aV,aW,ai,af,ah,ay,aQ,-bz,bK,bu,bY,dh,bU,bV,bI,bQ,bT,cO,df,bG,bW,bP,cZ,hs2,hs3,p2,p3]
  refine eQ [_] rfl f ?_
  simp[mF,hRow,hC,hk,md hA,md0 hA,mg hA,mg0 hA,ms hA,ms0 hA,mp hA,mp0 hA,lh hA,spl,sp0,sp1,sp2,sp3,sq0,sq1,aY,bf,-List.length_flatMap,aC,aF,aJ,aI,aH,aO,aj,au,aG,ax,aP,aZ,aU,bg,ak,bF,bD,bi,bn,az,aV,aW,ai,af,ah,ay,aQ,-bz,bK,bu,bY,dh,bU,bV,bI,bQ,bT,cO,df,bG,bW,bP,cZ,hs2,hs3,p2,p3]
 by_cases c5:op=5
 ·subst c5
  obtain⟨q1,q2⟩:=ha2 (.inr rfl)
  obtain⟨l1,l2⟩:=lJ h false
  obtain⟨l3,l4⟩:=qH h false
  simp only[if_true,if_false,show ¬(5:Int)=1 by decide,show ¬(5:Int)=2 by decide,show ¬(5:Int)=4 by decide,show ¬(5:Int)=6 by decide]
  generalize dB h false=E at takef l1 l2 l3 l4 ⊢
  obtain⟨x,h0,t0⟩:=E
  simp only at l1 l2 l3 l4
  have f:=zx (s2+1000) (s3+1000) n k mem out A B h0 t0 lc cn cc hA hk (by omega) (by omega) ⟨5,a,ib⟩ (by omega) q1
  obtain⟨m1,m2,m3⟩:=zy h0 t0 ⟨5,a,ib⟩
  have m5:=CX (h:=h0) (t:=t0) (i:=⟨5,a,ib⟩)
  simp only
  generalize fJ h0 t0 ⟨5,a,ib⟩=F at f m1 m2 m3 m5 ⊢
  obtain⟨y,h1,t1⟩:=F
  simp only at m1 m2 m3 m5
  have f2:∀ y',(t1=false→y'=y)→kR prog 274 [.bx 1 182 (sC (s2+1000) (s3+1000) n mem out A h1 B t1 lc cn cc),.pp 0 [0,0,1] (k*6),.int .i64 y',.int .i64 x] (.tup [] []) (num 1 [.bx 1 182 (sC (s2+1000) (s3+1000) n mem out A (jr h1 ⟨y,x⟩ t1) B t1 lc cn cc)]):=fun y' hy=>by
   have:=xY (s2+1000) (s3+1000) n k mem out A B h1 t1 lc cn cc hA hk (by omega) (by omega) ⟨y',x⟩ (by rw[m3,l4];omega) (by omega)
   cases t1 with
   | true=>simpa [jr] using this
   | false=>have e:=hy rfl;subst e;exact this
  have wy:t1=false→IntKind.i64.wrap y=y:=fun h=>by
   have:=m5 h
   rw[bJ]<;>omega
  have f2:=f2 _ wy
  generalize IntKind.i64.wrap y=y' at f f2
  generalize jr h1 ⟨y,x⟩ t1=H at f2 ⊢
  simp[sC,mF,hRow,hC] at f f2 takef
  obtain⟨pc0,st0,rg0,sh0,he0,dn0⟩:=h
  simp[yX,zo,sC,mF,hRow,hC,hk,md hA,md0 hA,mg hA,mg0 hA,ms hA,ms0 hA,mp hA,mp0 hA,lh hA,spl,sp0,sp1,sp2,sp3,sq0,sq1,aY,bf,-List.length_flatMap,aC,aF,aJ,aI,aH,aO,aj,au,aG,ax,aP,aZ,aU,bg,ak,bF,bD,bi,bn,az,aV,aW,ai,af,ah,ay,aQ,-bz,bK,bu,bY,dh,bU,bV,bI,bQ,bT,cO,df,bG,bW,bP,cZ,hs2,hs3]
  simp only at takef
  refine eQ [_] rfl takef ?_
  simp[mF,hRow,hC,hk,md hA,md0 hA,mg hA,mg0 hA,ms hA,ms0 hA,mp hA,mp0 hA,lh hA,spl,sp0,sp1,sp2,sp3,sq0,sq1,aY,bf,-List.length_flatMap,aC,aF,aJ,aI,aH,aO,aj,au,aG,ax,aP,aZ,aU,bg,ak,bF,bD,bi,bn,az,aV,aW,ai,af,ah,ay,aQ,-bz,bK,bu,bY,dh,bU,bV,bI,bQ,bT,cO,df,bG,bW,bP,cZ,hs2,hs3,p2,p3]
  refine eQ [_] rfl f ?_
  simp[mF,hRow,hC,hk,md hA,md0 hA,mg hA,mg0 hA,ms hA,ms0 hA,mp hA,mp0 hA,lh hA,spl,sp0,sp1,sp2,sp3,sq0,sq1,aY,bf,-List.length_flatMap,aC,aF,aJ,aI,aH,aO,aj,au,aG,ax,aP,aZ,aU,bg,ak,bF,bD,bi,bn,az,aV,aW,ai,af,ah,ay,aQ,-bz,bK,bu,bY,dh,bU,bV,bI,bQ,bT,cO,df,bG,bW,bP,cZ,hs2,hs3,p2,p3]
  refine eQ [_] rfl f2 ?_
  simp[mF,hRow,hC,hk,md hA,md0 hA,mg hA,mg0 hA,ms hA,ms0 hA,mp hA,mp0 hA,lh hA,spl,sp0,sp1,sp2,sp3,sq0,sq1,aY,bf,-List.length_flatMap,aC,aF,aJ,aI,aH,aO,aj,au,aG,ax,aP,aZ,aU,bg,ak,bF,bD,bi,bn,az,aV,aW,ai,af,ah,ay,aQ,-bz,bK,bu,bY,dh,bU,bV,bI,bQ,bT,cO,df,bG,bW,bP,cZ,hs2,hs3,p2,p3]
 by_cases c7:op=7
 ·subst c7
  obtain⟨l1,l2⟩:=lJ h false
  obtain⟨l3,l4⟩:=qH h false
  simp only[if_true,if_false,show ¬(7:Int)=1 by decide,show ¬(7:Int)=2 by decide,show ¬(7:Int)=4 by decide,show ¬(7:Int)=6 by decide,show ¬(7:Int)=5 by decide]
  generalize dB h false=E at takef l1 l2 l3 l4 ⊢
  obtain⟨x,h1,t1⟩:=E
  simp only at l1 l2 l3 l4
  have f2:=xY (s2+1000) (s3+1000) n k mem out A B h1 t1 lc cn cc hA hk (by omega) (by omega) ⟨a,x⟩ (by rw[l4];omega) (by omega)
  simp only
  generalize jr h1 ⟨a,x⟩ t1=H at f2 ⊢
  simp[sC,mF,hRow,hC] at f2 takef
  obtain⟨pc0,st0,rg0,sh0,he0,dn0⟩:=h
  simp[yX,zo,sC,mF,hRow,hC,hk,md hA,md0 hA,mg hA,mg0 hA,ms hA,ms0 hA,mp hA,mp0 hA,lh hA,spl,sp0,sp1,sp2,sp3,sq0,sq1,aY,bf,-List.length_flatMap,aC,aF,aJ,aI,aH,aO,aj,au,aG,ax,aP,aZ,aU,bg,ak,bF,bD,bi,bn,az,aV,aW,ai,af,ah,ay,aQ,-bz,bK,bu,bY,dh,bU,bV,bI,bQ,bT,cO,df,bG,bW,bP,cZ,hs2,hs3]
  simp only at takef
  refine eQ [_] rfl takef ?_
  simp[mF,hRow,hC,hk,md hA,md0 hA,mg hA,mg0 hA,ms hA,ms0 hA,mp hA,mp0 hA,lh hA,spl,sp0,sp1,sp2,sp3,sq0,sq1,aY,bf,-List.length_flatMap,aC,aF,aJ,aI,aH,aO,aj,au,aG,ax,aP,aZ,aU,bg,ak,bF,bD,bi,bn,az,aV,aW,ai,af,ah,ay,aQ,-bz,bK,bu,bY,dh,bU,bV,bI,bQ,bT,cO,df,bG,bW,bP,cZ,hs2,hs3,p2,p3]
  refine eQ [_] rfl f2 ?_
  simp[mF,hRow,hC,hk,md hA,md0 hA,mg hA,mg0 hA,ms hA,ms0 hA,mp hA,mp0 hA,lh hA,spl,sp0,sp1,sp2,sp3,sq0,sq1,aY,bf,-List.length_flatMap,aC,aF,aJ,aI,aH,aO,aj,au,aG,ax,aP,aZ,aU,bg,ak,bF,bD,bi,bn,az,aV,aW,ai,af,ah,ay,aQ,-bz,bK,bu,bY,dh,bU,bV,bI,bQ,bT,cO,df,bG,bW,bP,cZ,hs2,hs3,p2,p3]
 by_cases c13:op=13
 ·subst c13
  obtain⟨pc0,st0,rg0,sh0,he0,dn0⟩:=h
  simp[yX,zo,sC,mF,hRow,hC,hk,md hA,md0 hA,mg hA,mg0 hA,ms hA,ms0 hA,mp hA,mp0 hA,lh hA,spl,sp0,sp1,sp2,sp3,sq0,sq1,aY,bf,-List.length_flatMap,aC,aF,aJ,aI,aH,aO,aj,au,aG,ax,aP,aZ,aU,bg,ak,bF,bD,bi,bn,az,aV,aW,ai,af,ah,ay,aQ,-bz,bK,bu,bY,dh,bU,bV,bI,bQ,bT,cO,df,bG,bW,bP,cZ,hs2,hs3]
 by_cases c19:op=19
 ·subst c19
  obtain⟨pc0,st0,rg0,sh0,he0,dn0⟩:=h
  simp[yX,zo,sC,mF,hRow,hC,hk,md hA,md0 hA,mg hA,mg0 hA,ms hA,ms0 hA,mp hA,mp0 hA,lh hA,spl,sp0,sp1,sp2,sp3,sq0,sq1,aY,bf,-List.length_flatMap,aC,aF,aJ,aI,aH,aO,aj,au,aG,ax,aP,aZ,aU,bg,ak,bF,bD,bi,bn,az,aV,aW,ai,af,ah,ay,aQ,-bz,bK,bu,bY,dh,bU,bV,bI,bQ,bT,cO,df,bG,bW,bP,cZ,hs2,hs3]
 by_cases c3:op=3∨op=15∨op=17
 ·have f:=GV (s2+1000) (s3+1000) n k mem out A B h false lc cn cc hA hk (by omega) (by omega) ⟨op,a,ib⟩ (by omega) hpc ho c3 (fun e=>ha1 (.inr e)) (fun e=>ha3 (.inr e))
  simp only[c1,c2,c4,c5,c6,c7,c13,c19,c3,if_true,if_false]
  generalize pU mem out h false ⟨op,a,ib⟩=F at f ⊢
  obtain⟨mem1,out1,⟨pc,st,rg,sh,he,dn⟩,t2⟩:=F
  simp[sC,mF,hRow,hC] at f
  obtain⟨pc0,st0,rg0,sh0,he0,dn0⟩:=h
  simp only at f
  rcases c3 with rfl|rfl|rfl
  ·simp[yX,zo,sC,mF,hRow,hC,hk,md hA,md0 hA,mg hA,mg0 hA,ms hA,ms0 hA,mp hA,mp0 hA,lh hA,spl,sp0,sp1,sp2,sp3,sq0,sq1,aY,bf,-List.length_flatMap,aC,aF,aJ,aI,aH,aO,aj,au,aG,ax,aP,aZ,aU,bg,ak,bF,bD,bi,bn,az,aV,aW,ai,af,ah,ay,aQ,-bz,bK,bu,bY,dh,bU,bV,bI,bQ,bT,cO,df,bG,bW,bP,cZ,hs2,hs3]
   refine eQ [_] rfl f ?_
   simp[mF,hRow,hC,hk,md hA,md0 hA,mg hA,mg0 hA,ms hA,ms0 hA,mp hA,mp0 hA,lh hA,spl,sp0,sp1,sp2,sp3,sq0,sq1,aY,bf,-List.length_flatMap,aC,aF,aJ,aI,aH,aO,aj,au,aG,ax,aP,aZ,aU,bg,ak,bF,bD,bi,bn,az,aV,aW,ai,af,ah,ay,aQ,-bz,bK,bu,bY,dh,bU,bV,bI,bQ,bT,cO,df,bG,bW,bP,cZ,hs2,hs3,p2,p3]
  ·simp[yX,zo,sC,mF,hRow,hC,hk,md hA,md0 hA,mg hA,mg0 hA,ms hA,ms0 hA,mp hA,mp0 hA,lh hA,spl,sp0,sp1,sp2,sp3,sq0,sq1,aY,bf,-List.length_flatMap,aC,aF,aJ,aI,aH,aO,aj,au,aG,ax,aP,aZ,aU,bg,ak,bF,bD,bi,bn,az,aV,aW,ai,af,ah,ay,aQ,-bz,bK,bu,bY,dh,bU,bV,bI,bQ,bT,cO,df,bG,bW,bP,cZ,hs2,hs3]
   refine eQ [_] rfl f ?_
   simp[mF,hRow,hC,hk,md hA,md0 hA,mg hA,mg0 hA,ms hA,ms0 hA,mp hA,mp0 hA,lh hA,spl,sp0,sp1,sp2,sp3,sq0,sq1,aY,bf,-List.length_flatMap,aC,aF,aJ,aI,aH,aO,aj,au,aG,ax,aP,aZ,aU,bg,ak,bF,bD,bi,bn,az,aV,aW,ai,af,ah,ay,aQ,-bz,bK,bu,bY,dh,bU,bV,bI,bQ,bT,cO,df,bG,bW,bP,cZ,hs2,hs3,p2,p3]
  ·simp[yX,zo,sC,mF,hRow,hC,hk,md hA,md0 hA,mg hA,mg0 hA,ms hA,ms0 hA,mp hA,mp0 hA,lh hA,spl,sp0,sp1,sp2,sp3,sq0,sq1,aY,bf,-List.length_flatMap,aC,aF,aJ,aI,aH,aO,aj,au,aG,ax,aP,aZ,aU,bg,ak,bF,bD,bi,bn,az,aV,aW,ai,af,ah,ay,aQ,-bz,bK,bu,bY,dh,bU,bV,bI,bQ,bT,cO,df,bG,bW,bP,cZ,hs2,hs3]
   refine eQ [_] rfl f ?_
   simp[mF,hRow,hC,hk,md hA,md0 hA,mg hA,mg0 hA,ms hA,ms0 hA,mp hA,mp0 hA,lh hA,spl,sp0,sp1,sp2,sp3,sq0,sq1,aY,bf,-List.length_flatMap,aC,aF,aJ,aI,aH,aO,aj,au,aG,ax,aP,aZ,aU,bg,ak,bF,bD,bi,bn,az,aV,aW,ai,af,ah,ay,aQ,-bz,bK,bu,bY,dh,bU,bV,bI,bQ,bT,cO,df,bG,bW,bP,cZ,hs2,hs3,p2,p3]
 ·have f:=MX (s2+1000) (s3+1000) n k mem out A B h false lc cn cc hA hk (by omega) (by omega) ⟨op,a,ib⟩ (by omega) hpc (by simp only;omega)
  have d3:¬op=3:=fun h=>c3 (.inl h)
  have d15:¬op=15:=fun h=>c3 (.inr (.inl h))
  have d17:¬op=17:=fun h=>c3 (.inr (.inr h))
  simp only[c1,c2,c4,c5,c6,c7,c13,c19,d3,d15,d17,or_self,if_true,if_false]
  generalize ML h false ⟨op,a,ib⟩=F at f ⊢
  obtain⟨⟨pc,st,rg,sh,he,dn⟩,t2⟩:=F
  simp[sC,mF,hRow,hC] at f
  obtain⟨pc0,st0,rg0,sh0,he0,dn0⟩:=h
  simp only at f
  simp[yX,zo,sC,mF,hRow,hC,hk,md hA,md0 hA,mg hA,mg0 hA,ms hA,ms0 hA,mp hA,mp0 hA,lh hA,spl,sp0,sp1,sp2,sp3,sq0,sq1,aY,bf,-List.length_flatMap,aC,aF,aJ,aI,aH,aO,aj,au,aG,ax,aP,aZ,aU,bg,ak,bF,bD,bi,bn,az,aV,aW,ai,af,ah,ay,aQ,-bz,bK,bu,bY,dh,bU,bV,bI,bQ,bT,cO,df,bG,bW,bP,cZ,hs2,hs3,c1,c2,c4,c5,c6,c7,c13,c19,d3,d15,d17]
  refine eQ [_] rfl f ?_
  simp[mF,hRow,hC,hk,md hA,md0 hA,mg hA,mg0 hA,ms hA,ms0 hA,mp hA,mp0 hA,lh hA,spl,sp0,sp1,sp2,sp3,sq0,sq1,aY,bf,-List.length_flatMap,aC,aF,aJ,aI,aH,aO,aj,au,aG,ax,aP,aZ,aU,bg,ak,bF,bD,bi,bn,az,aV,aW,ai,af,ah,ay,aQ,-bz,bK,bu,bY,dh,bU,bV,bI,bQ,bT,cO,df,bG,bW,bP,cZ,hs2,hs3,p2,p3]
end
end Go.AmC
