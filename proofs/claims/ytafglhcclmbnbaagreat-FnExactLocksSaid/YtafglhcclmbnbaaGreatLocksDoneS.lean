import Derived.Test.YtafglhcclmbnbaaGreatLocksMachH
import Derived.Test.YtafglhcclmbnbaaGreatLocksArrI
import Derived.Test.YtafglhcclmbnbaaGreatLocksMachI
set_option linter.unusedSimpArgs false
set_option linter.unusedVariables false
set_option maxRecDepth 20000
set_option maxHeartbeats 8000000
namespace Go.AmC
open Go Go.AM
open Go.Proofs.Tryz (prog)
mutual
theorem abN (ss:List Nat):∀ v:AV,jd v=true→mpV ss v=v
 | .osl s e n cs,h=>by simp only[jd,Bool.and_eq_true,beq_iff_eq] at h;simp only[mpV,Ef,h.1,if_true,vP ss cs h.2]
 | .bx s e cs,h=>by simp only[jd,Bool.and_eq_true,beq_iff_eq] at h;simp only[mpV,Ef,h.1,if_true,vP ss cs h.2]
 | .agg cs,h=>by simp only[jd] at h;simp only[mpV,vP ss cs h]
 | .tup sh cs,h=>by simp only[jd] at h;simp only[mpV,vP ss cs h]
 | .fn g cs,h=>by simp only[jd] at h;simp only[mpV,vP ss cs h]
 | .int _ _,_=>rfl
 | .bool _,_=>rfl
 | .str _,_=>rfl
 | .rsl _ _,_=>rfl
 | .rp _,_=>rfl
 | .dead,_=>rfl
 | .gone s,h=>by simp only[jd,beq_iff_eq] at h;subst h;simp[mpV,Ef]
 | .ps _ _ _,_=>rfl
 | .pp _ _ _,_=>rfl
 | .pf _ _ _,_=>rfl
 | .pw _ _ _ _ _ _,_=>rfl
 | .nsl _,_=>rfl
 | .nilf,_=>rfl
 | .nilp,_=>rfl
theorem vP (ss:List Nat):∀ cs:List AV,gJ cs=true→rP ss cs=cs
 | [],_=>rfl
 | c::cs,h=>by
  simp only[gJ,Bool.and_eq_true] at h
  simp only[rP,abN ss c h.1,vP ss cs h.2]
end
theorem jh:inner .nilp=none:=rfl
theorem mY (r:Nat) (p:List Nat) (o:Nat):inner (.pp r p o)=none:=rfl
theorem mX (ss:List Nat) (l:List D):rP ss (Ows l)=Ows l:=vP ss _ (ay l)
theorem rG (ss:List Nat) (A:List D) (X:List AV):rP ss (Ows A++X)=Ows A++rP ss X:=by
 induction A with
 | nil=>simp
 | cons a A ih=>simp only[qi,List.cons_append,rP,ih,abN ss _ (ui a)]
theorem Ff {l:List Hand} {k:Nat} {h:Hand} (hv:l[k]?=some h):l.flatMap Hand.d=(l.take k).flatMap Hand.d++(h.d++(l.drop (k+1)).flatMap Hand.d):=by
 obtain⟨hk,rfl⟩:=List.getElem?_eq_some_iff.1 hv
 have e:l=l.take k++(l[k]::l.drop (k+1)):=by rw[←List.drop_eq_getElem_cons hk,List.take_append_drop]
 conv=>lhs;rw[e]
 rw[List.flatMap_append,List.flatMap_cons]
theorem Ru (s:Nat) (m:Mach) (k:Nat) (h:Hand) (hv:m.Hands[k]?=some h):mO s m=mF s m.Hands.length m.Mem m.Out ((m.Hands.take k).flatMap Hand.d) h ((m.Hands.drop (k+1)).flatMap Hand.d) m.Trap:=by
 unfold mO mF
 rw[Ff hv,sF]
theorem Jv {p:Prog} {code:List (List Ins)} {m:Mach} (hp:p.tot≤5000000) (hm:m.tot≤5000000) (hmay:BD p code m=true) {k:Nat} (hk:k<m.Hands.length) :
  ∃ (h:Hand) (l:List Ins) (b:Nat),m.Hands[k]?=some h∧code[k]?=some l∧b=iD p-4∧gm p.Arrs+(varsOf p.Body).length+28=(b:Int)∧(0≤gm p.Arrs∧gm p.Arrs≤1000000)∧(varsOf p.Body).length≤1000000∧code.length≤100∧l.length≤4000∧m.Hands.length≤4 ∧
   m.Mem.length≤100000∧m.Mem.length=b+4∧m.Out.length≤1000000000∧h.Stack.length≤40∧h.Shelf.length≤60∧h.Regs.length≤100000000∧(∀ x∈m.Mem,-2147483648≤x∧x≤2147483647)∧(0≤h.Pc∧h.Pc≤4000)∧(∀ i∈l,BG i m.Mem.length h.Regs.length):=by
 have hmt:=m.tot_eq
 obtain⟨b1,b2,b3⟩:=qc p hp
 unfold BD BJ uZ at hmay
 simp only[Bool.and_eq_true,decide_eq_true_eq] at hmay
 obtain⟨⟨hok,hn,hml,hh,hwm,hwo⟩,hcl,hcs⟩:=hmay
 simp only[bet,Bool.and_eq_true,decide_eq_true_eq] at hn
 obtain⟨h,hv⟩:=cu hk
 obtain⟨l,hl⟩:=cu (xs:=code) (i:=k) (by omega)
 have c1:=List.all_eq_true.1 hh h (List.mem_of_getElem? hv)
 have c2:=List.all_eq_true.1 hcs l (List.mem_of_getElem? hl)
 have e:iD p=(gm p.Arrs).toNat+(varsOf p.Body).length+32:=by unfold iD;rw[if_pos hok]
 obtain⟨hz,h4,h6⟩:=oD hok
 have hs:=yK hz
 unfold tq at c1
 simp only[Bool.and_eq_true,decide_eq_true_eq] at c1
 obtain⟨p1,p2,p3,p4,-⟩:=c1
 unfold qU at c2
 simp only[bet,Bool.and_eq_true,decide_eq_true_eq] at c2
 obtain⟨q1,-,q2⟩:=c2
 refine⟨h,l,iD p-4,hv,hl,rfl,by omega,by omega,by omega,by omega,by omega,by omega,by omega,by omega,by omega,p3,p4,by omega,?_,p1,?_⟩
 ·intro x hx
  have:=List.all_eq_true.1 hwm x hx
  unfold jb at this
  simpa using this
 ·intro i hi
  have:=List.all_eq_true.1 q2 i hi
  have e2:(iD p:Int)=(m.Mem.length:Int):=by omega
  rw[←p2,e2] at this
  exact adE this
def stepM (p:Prog) (code:List (List Ins)) (m:Mach) (k:Nat):Mach × Bool :=
 if BD p code m=true then match m.Hands[k]?,code[k]? with
  | some h,some l=>(⟨(nX m.Mem m.Out m.Hands.length (iD p-4) k h m.Trap l).2.1,m.Hands.take k++((nX m.Mem m.Out m.Hands.length (iD p-4) k h m.Trap l).2.2.2.1::m.Hands.drop (k+1)),(nX m.Mem m.Out m.Hands.length (iD p-4) k h m.Trap l).2.2.1,(nX m.Mem m.Out m.Hands.length (iD p-4) k h m.Trap l).2.2.2.2⟩,(nX m.Mem m.Out m.Hands.length (iD p-4) k h m.Trap l).1)
  | _,_=>(m,false)
 else (m,false)
theorem Ua {α:Type} {l:List α} {k:Nat} {h:α} (h2:α) (hv:l[k]?=some h):(l.take k++(h2::l.drop (k+1))).length=l.length:=by
 obtain⟨hk,-⟩:=List.getElem?_eq_some_iff.1 hv
 simp;omega
theorem FD {p:Prog} {code:List (List Ins)} {m:Mach} {k:Nat} {h:Hand} {l:List Ins} {F:Bool × List Int × List Int × Hand × Bool} (hv:m.Hands[k]?=some h) (hl:code[k]?=some l) (hmay:BD p code m=true) (hF:nX m.Mem m.Out m.Hands.length (iD p-4) k h m.Trap l=F) (s:Nat) :
  (stepM p code m k).2=F.1∧mO s (stepM p code m k).1=mF s m.Hands.length F.2.1 F.2.2.1 ((m.Hands.take k).flatMap Hand.d) F.2.2.2.1 ((m.Hands.drop (k+1)).flatMap Hand.d) F.2.2.2.2:=by
 unfold stepM
 rw[if_pos hmay,hv,hl]
 subst hF
 refine⟨rfl,?_⟩
 have e:=Ua (nX m.Mem m.Out m.Hands.length (iD p-4) k h m.Trap l).2.2.2.1 hv
 unfold mO mF
 simp only[e,sF]
 simp
theorem Gz (m:Mach):Ows m.d=mO 0 m:=by
 rw[Mach.d_eq];simp[mO]
theorem aF1 (m:Mach) {k:Nat} (hk:k<m.Hands.length):((m.Hands.take k).flatMap Hand.d).length=k*6:=by
 rw[KG];simp;omega
theorem LC (p:Prog) (code:List (List Ins)) (m:Mach) (hp:p.tot≤5000000) (hc:fU code≤5000000) (hm:m.tot≤5000000) {k:Nat} (hk:k<m.Hands.length) :
  Says prog 73 [.agg (Cs p.d),.rsl code.length (Cs (code.flatMap dCode)),.agg (Cs m.d),.int .i64 (k:Int)] (.tup [some 4,none] (mO 0 (stepM p code m k).1++[.bool (stepM p code m k).2])) []:=by
 have f0:=La m hm
 rw[Gz] at f0
 cases hmay:BD p code m with
 | false =>
  have f1:=fun s=>G6 p code m s hp hc hm hmay
  have e:stepM p code m k=(m,false):=by unfold stepM;rw[hmay];rfl
  rw[e]
  refine uH (IE [] [] Go.Proofs.Tryz.func73 aFY (by simp) (by simp[mO]) ?_)
  obtain⟨arrs,body⟩:=p
  obtain⟨mem,hands,out,trap⟩:=m
  simp only[Mach.d_eq,Prog.d_eq,jL,nS,C_I,C_L,C_B,mO] at f0 f1 ⊢
  simp[-List.length_flatMap,v73,r73]
  refine aX f0 ?_
  simp[-List.length_flatMap,jh,mY,mX,aV,aW,ai,ay,aQ]
  refine eQ _ (by kernel_rfl) (ik (f1 _) (by simp[aQ])) ?_
  simp[-List.length_flatMap,jh,mY,mX,aV,aW,ai,ay,aQ]
  done
 | true =>
  have f1:=fun s=>EX p code m s hp hc hm hmay
  obtain⟨h,l,b,hv,hl,rfl,g1,g2,g3,g4,g5,g6,g7,g8,g9,g10,g11,g12,g13,g14,g15⟩:=Jv hp hm hmay hk
  have hA:=aF1 m hk
  generalize hF:nX m.Mem m.Out m.Hands.length (iD p-4) k h m.Trap l=F
  have f2:=fun s2 s3 h2 h3=>G7 s2 s3 m.Hands.length k m.Mem m.Out ((m.Hands.take k).flatMap Hand.d) ((m.Hands.drop (k+1)).flatMap Hand.d) h m.Trap (Jy p) hA hk h2 h3 (iD p-4) _ _ _ _ _ _ (gm p.Arrs) g1 g2 g3 rfl code l hl g4 g5 g6 g7 g8 g9 g10 g11 g13 g14 g15
  rw[Tf _ _ _ _ _ _ _ _ _ _ g10 g11 g15,hF] at f2
  obtain⟨e1,e2⟩:=FD hv hl hmay hF 0
  rw[e1,e2]
  rw[Ru 0 m k h hv] at f0
  simp only[Ru _ m k h hv] at f1
  refine uH (IE [] [] Go.Proofs.Tryz.func73 aFY (by simp) (by simp[mF,hRow,hC]) ?_)
  generalize Jy p=LA at *
  obtain⟨arrs,body⟩:=p
  obtain⟨mem,hands,out,trap⟩:=m
  simp only[Mach.d_eq,Prog.d_eq,jL,nS,C_I,C_L,C_B,mF,hRow,hC] at f0 f1 ⊢
  simp[-List.length_flatMap,v73,r73]
  refine aX f0 ?_
  simp[mF,hRow,hC,hk,md hA,md0 hA,mg hA,mg0 hA,ms hA,ms0 hA,mp hA,mp0 hA,lh hA,spl,sp0,sp1,sp2,sp3,sq0,sq1,aY,bf,-List.length_flatMap,aC,aF,aJ,aI,aH,aO,aj,au,aG,ax,aP,aZ,aU,bg,ak,bF,bD,bi,bn,az,aV,aW,ai,af,ah,ay,aQ,-bz,bK,bu,bY,dh,bU,bV,bI,bQ,bT,cO,df,bG,bW,bP,cZ,jh,mY,mX,rG]
  refine eQ _ (by kernel_rfl) (ik (f1 _) (by simp[mF,hRow,hC,hk,md hA,md0 hA,mg hA,mg0 hA,ms hA,ms0 hA,mp hA,mp0 hA,lh hA,spl,sp0,sp1,sp2,sp3,sq0,sq1,aY,bf,-List.length_flatMap,aC,aF,aJ,aI,aH,aO,aj,au,aG,ax,aP,aZ,aU,bg,ak,bF,bD,bi,bn,az,aV,aW,ai,af,ah,ay,aQ,-bz,bK,bu,bY,dh,bU,bV,bI,bQ,bT,cO,df,bG,bW,bP,cZ,jh,mY,mX,rG])) ?_
  simp[mF,hRow,hC,hk,md hA,md0 hA,mg hA,mg0 hA,ms hA,ms0 hA,mp hA,mp0 hA,lh hA,spl,sp0,sp1,sp2,sp3,sq0,sq1,aY,bf,-List.length_flatMap,aC,aF,aJ,aI,aH,aO,aj,au,aG,ax,aP,aZ,aU,bg,ak,bF,bD,bi,bn,az,aV,aW,ai,af,ah,ay,aQ,-bz,bK,bu,bY,dh,bU,bV,bI,bQ,bT,cO,df,bG,bW,bP,cZ,jh,mY,mX,rG]
  simp only[sC,mF,hRow,hC] at f2
  refine eQ [_] (by kernel_rfl) (ik (f2 1001001 1001002 (by decide) (by decide)) (by simp[mF,hRow,hC,hk,md hA,md0 hA,mg hA,mg0 hA,ms hA,ms0 hA,mp hA,mp0 hA,lh hA,spl,sp0,sp1,sp2,sp3,sq0,sq1,aY,bf,-List.length_flatMap,aC,aF,aJ,aI,aH,aO,aj,au,aG,ax,aP,aZ,aU,bg,ak,bF,bD,bi,bn,az,aV,aW,ai,af,ah,ay,aQ,-bz,bK,bu,bY,dh,bU,bV,bI,bQ,bT,cO,df,bG,bW,bP,cZ,jh,mY,mX,rG])) ?_
  simp[mF,hRow,hC,hk,md hA,md0 hA,mg hA,mg0 hA,ms hA,ms0 hA,mp hA,mp0 hA,lh hA,spl,sp0,sp1,sp2,sp3,sq0,sq1,aY,bf,-List.length_flatMap,aC,aF,aJ,aI,aH,aO,aj,au,aG,ax,aP,aZ,aU,bg,ak,bF,bD,bi,bn,az,aV,aW,ai,af,ah,ay,aQ,-bz,bK,bu,bY,dh,bU,bV,bI,bQ,bT,cO,df,bG,bW,bP,cZ,jh,mY,mX,rG]
  done
theorem Lu (p:Prog) (code:List (List Ins)) (m:Mach) (hp:p.tot≤5000000) (hc:fU code≤5000000) (hm:m.tot≤5000000) {k:Nat} (hk:k<m.Hands.length) :
  Says prog 69 [.agg (Cs p.d),.rsl code.length (Cs (code.flatMap dCode)),.agg (Cs m.d),.int .i64 (k:Int)] (.tup [some 4,none] (mO 0 (stepM p code m k).1++[.bool (stepM p code m k).2])) []:=by
 have f0:=KZ m hm
 rw[Gz] at f0
 have f1:=NP p code m hp hc hm
 have hmt:=m.tot_eq
 have g:=iy (k:Int) 0 ((m.Hands.length:Int)-1)
 have c0:(decide (0≤(k:Int))&&decide ((k:Int)≤(m.Hands.length:Int)-1))=true:=by simp;omega
 rw[c0] at g
 have hw1:IntKind.i64.wrap ((m.Hands.length:Int)-1)=(m.Hands.length:Int)-1:=by rw[bJ]<;>omega
 cases hmay:BD p code m with
 | false =>
  have e:stepM p code m k=(m,false):=by unfold stepM;rw[hmay];rfl
  rw[e]
  rw[hmay] at f1
  refine uH (IE [] [] Go.Proofs.Tryz.func69 aFZ (by simp) (by simp[mO]) ?_)
  obtain⟨arrs,body⟩:=p
  obtain⟨mem,hands,out,trap⟩:=m
  simp only[Mach.d_eq,Prog.d_eq,jL,nS,C_I,C_L,C_B,mO] at f0 f1 ⊢
  simp[-List.length_flatMap,v69,r69]
  refine aX f0 ?_
  simp[-List.length_flatMap,jh,mY,mX,aV,aW,ai,ay,aQ]
  refine aX f1 ?_
  simp[-List.length_flatMap,jh,mY,mX,aV,aW,ai,ay,aQ]
 | true =>
  rw[hmay] at f1
  obtain⟨h,l,b,hv,hl,rfl,g1,g2,g3,g4,g5,g6,g7,g8,g9,g10,g11,g12,g13,g14,g15⟩:=Jv hp hm hmay hk
  have hA:=aF1 m hk
  generalize hF:nX m.Mem m.Out m.Hands.length (iD p-4) k h m.Trap l=F
  have f2:=fun s (h0:s≠0)=>JY s m.Hands.length k (iD p-4) m.Mem m.Out ((m.Hands.take k).flatMap Hand.d) ((m.Hands.drop (k+1)).flatMap Hand.d) h m.Trap code l hl g4 g5 hA hk g6 h0 g7 g8 g9 g10 g11 g12 g13 g14 g15
  rw[hF] at f2
  obtain⟨e1,e2⟩:=FD hv hl hmay hF 0
  rw[e1,e2]
  rw[Ru 0 m k h hv] at f0
  refine uH (IE [] [] Go.Proofs.Tryz.func69 aFZ (by simp) (by simp[mF,hRow,hC]) ?_)
  obtain⟨arrs,body⟩:=p
  obtain⟨mem,hands,out,trap⟩:=m
  simp only at hw1 g hk
  simp only[Mach.d_eq,Prog.d_eq,jL,nS,C_I,C_L,C_B,mF,hRow,hC] at f0 f1 ⊢
  simp[-List.length_flatMap,v69,r69]
  refine aX f0 ?_
  simp[mF,hRow,hC,hk,md hA,md0 hA,mg hA,mg0 hA,ms hA,ms0 hA,mp hA,mp0 hA,lh hA,spl,sp0,sp1,sp2,sp3,sq0,sq1,aY,bf,-List.length_flatMap,aC,aF,aJ,aI,aH,aO,aj,au,aG,ax,aP,aZ,aU,bg,ak,bF,bD,bi,bn,az,aV,aW,ai,af,ah,ay,aQ,-bz,bK,bu,bY,dh,bU,bV,bI,bQ,bT,cO,df,bG,bW,bP,cZ,jh,mY,mX,rG]
  refine aX f1 ?_
  simp[mF,hRow,hC,hk,md hA,md0 hA,mg hA,mg0 hA,ms hA,ms0 hA,mp hA,mp0 hA,lh hA,spl,sp0,sp1,sp2,sp3,sq0,sq1,aY,bf,-List.length_flatMap,aC,aF,aJ,aI,aH,aO,aj,au,aG,ax,aP,aZ,aU,bg,ak,bF,bD,bi,bn,az,aV,aW,ai,af,ah,ay,aQ,-bz,bK,bu,bY,dh,bU,bV,bI,bQ,bT,cO,df,bG,bW,bP,cZ,jh,mY,mX,rG,hw1]
  refine aX g ?_
  simp[mF,hRow,hC,hk,md hA,md0 hA,mg hA,mg0 hA,ms hA,ms0 hA,mp hA,mp0 hA,lh hA,spl,sp0,sp1,sp2,sp3,sq0,sq1,aY,bf,-List.length_flatMap,aC,aF,aJ,aI,aH,aO,aj,au,aG,ax,aP,aZ,aU,bg,ak,bF,bD,bi,bn,az,aV,aW,ai,af,ah,ay,aQ,-bz,bK,bu,bY,dh,bU,bV,bI,bQ,bT,cO,df,bG,bW,bP,cZ,jh,mY,mX,rG]
  simp only[mF,hRow,hC] at f2
  refine eF [_] rfl (f2 1001002 (by decide)) ?_
  simp[mF,hRow,hC,hk,md hA,md0 hA,mg hA,mg0 hA,ms hA,ms0 hA,mp hA,mp0 hA,lh hA,spl,sp0,sp1,sp2,sp3,sq0,sq1,aY,bf,-List.length_flatMap,aC,aF,aJ,aI,aH,aO,aj,au,aG,ax,aP,aZ,aU,bg,ak,bF,bD,bi,bn,az,aV,aW,ai,af,ah,ay,aQ,-bz,bK,bu,bY,dh,bU,bV,bI,bQ,bT,cO,df,bG,bW,bP,cZ,jh,mY,mX,rG]
set_option maxHeartbeats 4000000
def Ur (m:Mach):Bool:=m.Hands.all fun h=>h.Done&&!m.Trap
def aGa (m:Mach):Bool:=decide (0<m.Hands.length)&&Ur m
def jC (m:Mach) (h:Hand):Bool:=!h.Done&&!m.Trap
theorem KX (m:Mach) (hm:m.Hands.length≤1000000000):Says prog 68 [.agg (Cs m.d)] (.bool (decide (0<m.Hands.length)&&!(m.Hands.any (jC m)))) []:=by
 refine dD Go.Proofs.Tryz.func68 aJq ?_
 generalize hR:(decide (0<m.Hands.length)&&!(m.Hands.any (jC m)))=R0
 simp[v68,r68]
 generalize hc:[AV.rsl m.Mem.length (Cs (List.flatMap eu m.Mem)),AV.rsl m.Hands.length (Cs (List.flatMap Hand.d m.Hands)),AV.rsl m.Out.length (Cs (List.flatMap eu m.Out)),AV.bool m.Trap]=cs
 refine iF (l:=abY) (b:=acC) rfl [] (fun i=>[.agg cs,.bx 0 49 cs,.bool false,.int .i64 (i:Int),.dead,.dead]) (fun i=>(m.Hands.take i).any (jC m)=false) m.Hands.length
  (fun ex e=>(m.Hands.any (jC m)=false∧ex=.exit 0∧e=[.agg cs,.bx 0 49 cs,.bool false,.int .i64 m.Hands.length,.dead,.dead])∨(m.Hands.any (jC m)=true∧ex=.ret∧∃ a,e=[.agg cs,.bx 0 49 cs,.bool false,a,.dead,.dead])) ?_ ?_ rfl (by simp) ?_
 ·subst hc
  intro i hi hI q hn hx hr
  obtain⟨x,hx0⟩:∃ x,m.Hands[i]?=some x:=⟨_,List.getElem?_eq_getElem hi⟩
  have hrow:=row_drop Hand.d 6 Hand.d_len hx0
  have hw:IntKind.i64.wrap ((i:Int)+1)=((i+1:Nat):Int):=by rw[bJ]<;>omega
  by_cases c:x.Done=false∧m.Trap=false
  ·simp[hi,aT,hrow,hw,c.1,c.2]
   refine hr _ (.inr ⟨List.any_eq_true.2 ⟨x,List.mem_of_getElem? hx0,by simp[jC,c.1,c.2]⟩,rfl,.int .i64 (i:Int),by rw[c.2]⟩)
  ·have hI2:(m.Hands.take (i+1)).any (jC m)=false:=by
    rw[List.take_add_one,hx0];simp[hI,jC]
    revert c;cases x.Done<;>cases m.Trap<;>simp
   have:x.Done=true∨(x.Done=false∧m.Trap=true):=by revert c;cases x.Done<;>cases m.Trap<;>simp
   rcases this with c|⟨c,c2⟩
   ·simp[hi,aT,hrow,hw,c]
    refine hn _ ?_ hI2;simp
   ·simp[hi,aT,hrow,hw,c,c2]
    refine hn _ ?_ hI2;simp[c2]
 ·subst hc
  intro hI q hx hr
  simp at hI
  simp
  exact hx _ _ (.inl ⟨by simpa using hI,rfl,by simp⟩)
 ·subst hc
  rintro ex e (⟨h1,rfl,rfl⟩|⟨h1,rfl,a,rfl⟩)
  ·simp[←hR,h1]
  ·simp[←hR,h1]
theorem KY (m:Mach) (hm:m.Hands.length≤1000000000):Says prog 72 [.agg (Cs m.d)] (.bool (decide (0<m.Hands.length)&&!(m.Hands.any (jC m)))) []:=by
 refine dD Go.Proofs.Tryz.func72 aJn ?_
 by_cases hz:m.Hands=[]
 ·simp[v72,r72,hz]
 have hz':¬m.Hands.length=0:=by simpa using hz
 generalize hR:(decide (0<m.Hands.length)&&!(m.Hands.any (jC m)))=R0
 simp[v72,r72,hz]
 generalize hc:[AV.rsl m.Mem.length (Cs (List.flatMap eu m.Mem)),AV.rsl m.Hands.length (Cs (List.flatMap Hand.d m.Hands)),AV.rsl m.Out.length (Cs (List.flatMap eu m.Out)),AV.bool m.Trap]=cs
 refine iF (l:=abV) (b:=acz) rfl [8] (fun i=>[.agg cs,.bx 0 49 cs,.bool false,.dead,.rsl m.Hands.length (Cs (m.Hands.flatMap Hand.d)),.int .i64 m.Hands.length,.int .i64 (i:Int),.dead,.dead,.dead]) (fun i=>(m.Hands.take i).any (jC m)=false) m.Hands.length
  (fun ex e=>(m.Hands.any (jC m)=false∧ex=.exit 0∧e=[.agg cs,.bx 0 49 cs,.bool false,.dead,.rsl m.Hands.length (Cs (m.Hands.flatMap Hand.d)),.int .i64 m.Hands.length,.int .i64 m.Hands.length,.dead,.dead,.dead])∨(m.Hands.any (jC m)=true∧ex=.ret∧∃ a b,iQ b=false∧e=[.agg cs,.bx 0 49 cs,.bool false,.dead,.rsl m.Hands.length (Cs (m.Hands.flatMap Hand.d)),.int .i64 m.Hands.length,a,.dead,b,.dead])) ?_ ?_ rfl (by simp) ?_
 ·subst hc
  intro i hi hI q hn hx hr
  obtain⟨x,hx0⟩:∃ x,m.Hands[i]?=some x:=⟨_,List.getElem?_eq_getElem hi⟩
  have hrow:=row_drop Hand.d 6 Hand.d_len hx0
  have hw:IntKind.i64.wrap ((i:Int)+1)=((i+1:Nat):Int):=by rw[bJ]<;>omega
  by_cases c:x.Done=false∧m.Trap=false
  ·simp[hi,aT,hrow,hw,c.1,c.2,splice]
   refine hr _ (.inr ⟨List.any_eq_true.2 ⟨x,List.mem_of_getElem? hx0,by simp[jC,c.1,c.2]⟩,rfl,.int .i64 (i:Int),_,?_,by rw[c.2]⟩)
   simp
  ·have hI2:(m.Hands.take (i+1)).any (jC m)=false:=by
    rw[List.take_add_one,hx0];simp[hI,jC]
    revert c;cases x.Done<;>cases m.Trap<;>simp
   have:x.Done=true∨(x.Done=false∧m.Trap=true):=by revert c;cases x.Done<;>cases m.Trap<;>simp
   rcases this with c|⟨c,c2⟩
   ·simp[hi,aT,hrow,hw,c,splice]
    refine hn _ ?_ hI2;simp
   ·simp[hi,aT,hrow,hw,c,c2,splice]
    refine hn _ ?_ hI2;simp[c2]
 ·subst hc
  intro hI q hx hr
  simp at hI
  simp
  exact hx _ _ (.inl ⟨by simpa using hI,rfl,by simp⟩)
 ·subst hc
  have hpos:0<m.Hands.length:=by omega
  rintro ex e (⟨h1,rfl,rfl⟩|⟨h1,rfl,a,b,hb,rfl⟩)
  ·simp[←hR,h1,hpos]
  ·simp[←hR,h1,hpos]
end Go.AmC
