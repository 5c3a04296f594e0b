import Derived.Test.YtafglhcclmbnbaaGreatLocksMachG
set_option linter.unusedSimpArgs false
set_option linter.unusedVariables false
set_option maxRecDepth 20000
set_option maxHeartbeats 8000000
namespace Go.AmC
open Go Go.AM
open Go.Proofs.Tryz (prog)
theorem pK:∀ xs:List Int,Cs (xs.flatMap eu)=Ows (xs.flatMap eu)
 | []=>by simp
 | x::xs=>by have:=pK xs;simp only[List.flatMap_cons,tJ,vH,this];simp
theorem xq:∀ xs:List Put,Cs (xs.flatMap Put.d)=Ows (xs.flatMap Put.d)
 | []=>by simp
 | x::xs=>by have:=xq xs;simp only[List.flatMap_cons,tJ,vH,this];simp
theorem qV (xs:List Int) (hl:xs.length≤1000000000):Says prog 144 [.rsl xs.length (Cs (xs.flatMap eu))] (.osl 0 3 xs.length (Ows (xs.flatMap eu))) []:=by
 cases xs with
 | nil =>
  refine Bi 0 (by simp) fun t=>?_
  refine dD Go.Proofs.Tryz.func144 abL ?_
  cases t<;>simp[aty,atW]
 | cons x xs =>
  refine dD Go.Proofs.Tryz.func144 abL ?_
  have h1:=aC (x::xs)
  have h2:=pK (x::xs)
  have hb:xs.length+1≤bnd:=by unfold bnd;simp at hl;omega
  simp only[List.length_cons] at h1 ⊢
  generalize List.flatMap eu (x::xs)=A at h1 h2 ⊢
  simp[-List.length_flatMap,aty,atW,ry,h1,hb,h2]
theorem Ip (xs:List Put) (hl:xs.length≤1000000000):Says prog 145 [.rsl xs.length (Cs (xs.flatMap Put.d))] (.osl 0 176 xs.length (Ows (xs.flatMap Put.d))) []:=by
 cases xs with
 | nil =>
  refine Bi 0 (by simp) fun t=>?_
  refine dD Go.Proofs.Tryz.func145 abK ?_
  cases t<;>simp[v145,atV]
 | cons x xs =>
  refine dD Go.Proofs.Tryz.func145 abK ?_
  have h1:=aF (x::xs)
  have h2:=xq (x::xs)
  have hb:xs.length+1≤bnd:=by unfold bnd;simp at hl;omega
  simp only[List.length_cons] at h1 ⊢
  generalize List.flatMap Put.d (x::xs)=A at h1 h2 ⊢
  simp[-List.length_flatMap,v145,atV,ry,h1,hb,h2]
theorem KG (l:List Hand):(l.flatMap Hand.d).length=l.length*6:=by rw[jg Hand.d 6 Hand.d_len]
theorem Du {l:List Hand} {i:Nat} {h:Hand} (hv:l[i]?=some h):(l.take (i+1)).flatMap Hand.d=(l.take i).flatMap Hand.d++h.d:=by
 rw[List.take_add_one,hv];simp
theorem La (m:Mach) (hm:m.tot≤5000000):Says prog 79 [.agg (Cs m.d)] (.agg (Ows m.d)) []:=by
 have hmt:=m.tot_eq
 have f1:=qV m.Mem (by omega)
 have f2:=qV m.Out (by omega)
 have fh:=fun (h:Hand) (hh:h∈m.Hands)=>wI hm hh
 refine dD Go.Proofs.Tryz.func79 aJh ?_
 obtain⟨mem,hands,out,trap⟩:=m
 simp only at f1 f2 fh hmt
 simp[-List.length_flatMap,v79,r79,splice]
 refine bZ f1 ?_
 simp[-List.length_flatMap,splice]
 refine bZ f2 ?_
 simp[-List.length_flatMap,splice]
 refine eY (l:=abQ) (b:=acu) rfl [7,8] (fun i=>[(3,.bx 0 49 [.osl 0 3 mem.length (Ows (mem.flatMap eu)),.osl 0 158 i (Ows ((hands.take i).flatMap Hand.d)),.osl 0 3 out.length (Ows (out.flatMap eu)),.bool trap]),(6,.int .i64 i)]) (fun i=>True) hands.length trivial (by simp) ?_ ?_
 ·intro i hi hI q hn hx hr
  have hw:=wrap_succ (i:=i) (by omega)
  obtain⟨h,hv⟩:=cu hi
  obtain⟨z1,z2,z3⟩:=fh h (List.mem_of_getElem? hv)
  have hrow:=row_drop Hand.d 6 Hand.d_len hv
  have hs:=Du hv
  obtain⟨pc,st,rg,sh,he,dn⟩:=h
  simp only at z1 z2 z3
  have g1:=qV st (by omega)
  have g2:=qV rg (by omega)
  have g3:=Ip sh (by omega)
  have hb:i≤bnd:=by unfold bnd;omega
  have hb1:i+1≤bnd:=by unfold bnd;omega
  simp[-List.length_flatMap,hi,aT,hrow,splice]
  refine aX g1 ?_
  simp[-List.length_flatMap,splice]
  refine aX g2 ?_
  simp[-List.length_flatMap,splice]
  refine aX g3 ?_
  simp[-List.length_flatMap,splice,hb,hb1,hw]
  refine hn _ ?_ trivial
  simp[-List.length_flatMap,hw,hs,splice]
 ·intro hI q hx hr
  simp[-List.length_flatMap]
  refine hx _ _ ?_
  simp[-List.length_flatMap,splice]
theorem KZ (m:Mach) (hm:m.tot≤5000000):Says prog 76 [.agg (Cs m.d)] (.agg (Ows m.d)) []:=by
 have hmt:=m.tot_eq
 have fh:=fun (h:Hand) (hh:h∈m.Hands)=>wI hm hh
 refine dD Go.Proofs.Tryz.func76 aJk ?_
 obtain⟨mem,hands,out,trap⟩:=m
 simp only at fh hmt
 have b1:mem.length≤bnd:=by unfold bnd;omega
 have b2:out.length≤bnd:=by unfold bnd;omega
 simp[-List.length_flatMap,v76,r76,splice,ry,aC,b1,b2,pK]
 refine eY (l:=abS) (b:=acw) rfl [5,6] (fun i=>[(3,.bx 0 49 [.osl 0 3 mem.length (Ows (mem.flatMap eu)),.osl 0 158 i (Ows ((hands.take i).flatMap Hand.d)),.osl 0 3 out.length (Ows (out.flatMap eu)),.bool trap]),(4,.int .i64 i)]) (fun i=>True) hands.length trivial (by simp[pK]) ?_ ?_
 ·intro i hi hI q hn hx hr
  have hw:=wrap_succ (i:=i) (by omega)
  obtain⟨h,hv⟩:=cu hi
  obtain⟨z1,z2,z3⟩:=fh h (List.mem_of_getElem? hv)
  have hrow:=row_drop Hand.d 6 Hand.d_len hv
  have hs:=Du hv
  obtain⟨pc,st,rg,sh,he,dn⟩:=h
  simp only at z1 z2 z3
  have c1:st.length≤bnd:=by unfold bnd;omega
  have c2:rg.length≤bnd:=by unfold bnd;omega
  have c3:sh.length≤bnd:=by unfold bnd;omega
  have hb:i≤bnd:=by unfold bnd;omega
  have hb1:i+1≤bnd:=by unfold bnd;omega
  simp[-List.length_flatMap,hi,aT,hrow,splice,ry,aC,aF,c1,c2,c3,pK,xq,hb,hb1,hw]
  refine hn _ ?_ trivial
  simp[-List.length_flatMap,hw,hs,splice]
 ·intro hI q hx hr
  simp[-List.length_flatMap]
  refine hx _ _ ?_
  simp[-List.length_flatMap,splice]
set_option linter.unusedSectionVars false
def BJ (p:Prog) (code:List (List Ins)):Bool:=code.all fun l=>qU l (iD p) (nC p)
def BD (p:Prog) (code:List (List Ins)) (m:Mach):Bool:=uZ p m&&(decide (code.length=m.Hands.length)&&BJ p code)
def fU (code:List (List Ins)):Nat:=code.length+(code.map List.length).sum
theorem A8 {code:List (List Ins)} {l:List Ins} (hc:fU code≤5000000) (hl:l∈code):l.length≤10000000:=by
 unfold fU at hc
 have:l.length≤(code.map List.length).sum:=by
  clear hc
  revert hl
  induction code with
  | nil=>simp
  | cons a c ih =>
   intro hl
   rcases List.mem_cons.1 hl with rfl|hl
   ·simp
   ·have:=ih hl
    simp;omega
 omega
theorem fM (code:List (List Ins)):(code.flatMap dCode).length=code.length:=by rw[jg dCode 1 (fun _=>rfl),Nat.mul_one]
theorem NP (p:Prog) (code:List (List Ins)) (m:Mach) (hp:p.tot≤5000000) (hc:fU code≤5000000) (hm:m.tot≤5000000):Says prog 77 [.agg (Cs p.d),.rsl code.length (Cs (code.flatMap dCode)),.agg (Cs m.d)] (.bool (BD p code m)) []:=by
 have hmt:=m.tot_eq
 have hct:code.length≤5000000:=by unfold fU at hc;omega
 obtain⟨b1,b2,b3⟩:=qc p hp
 have f0:=Ku p m hp hm
 have f1:=vJ p hp
 have f2:=CP p hp
 have fc:=fun (l:List Ins) (hl:l∈code)=>Lc l (iD p) (nC p) (A8 hc hl) (by omega) (by omega)
 refine dD Go.Proofs.Tryz.func77 aJj ?_
 generalize hR:BD p code m=R0
 unfold BD BJ at hR
 generalize uZ p m=bM at f0 hR
 generalize iD p=ms at *
 generalize nC p=rs at *
 obtain⟨arrs,body⟩:=p
 obtain⟨mem,hands,out,trap⟩:=m
 simp only at hR hmt
 simp only[Mach.d_eq,Prog.d_eq,jL,nS,C_I,C_L,C_B] at f0 f1 f2
 simp[-List.length_flatMap,v77,r77]
 refine aX f0 ?_
 cases bM with
 | false=>simp at hR;simp[hR]
 | true =>
  by_cases c1:code.length=hands.length
  ·have c1':(code.length:Int)=hands.length:=by omega
   simp only[c1,decide_true,Bool.true_and] at hR
   simp[-List.length_flatMap,c1']
   rw[←c1]
   refine eY (l:=abR) (b:=acv) rfl [8,9] (fun i=>[(7,.int .i64 i)]) (fun i=>((code.take i).all fun l=>qU l ms rs)=true) code.length (by simp) (by simp) ?_ ?_
   ·intro i hi hI q hn hx2 hr2
    have hw:=wrap_succ (i:=i) (by omega)
    obtain⟨l,hv⟩:=cu hi
    have hrow:=row_drop dCode 1 (fun _=>rfl) hv
    rw[Nat.mul_one] at hrow
    have f:=fc l (List.mem_of_getElem? hv)
    cases e:qU l ms rs with
    | false =>
     rw[e] at f
     simp[-List.length_flatMap,fM,hi,hw,aT,hrow,dCode]
     refine bZ f1 ?_
     simp[-List.length_flatMap,fM,hi,hw,aT,hrow,dCode]
     refine bZ f2 ?_
     simp[-List.length_flatMap,fM,hi,hw,aT,hrow,dCode]
     refine bZ f ?_
     simp
     refine hr2 _ ?_
     rw[nP hv e] at hR
     simp[←hR]
    | true =>
     rw[e] at f
     simp[-List.length_flatMap,fM,hi,hw,aT,hrow,dCode]
     refine bZ f1 ?_
     simp[-List.length_flatMap,fM,hi,hw,aT,hrow,dCode]
     refine bZ f2 ?_
     simp[-List.length_flatMap,fM,hi,hw,aT,hrow,dCode]
     refine bZ f ?_
     simp
     refine hn _ ?_ (ni hI hv e)
     simp[hw]
   ·intro hI q hx2 hr2
    rw[List.take_length] at hI
    rw[hI] at hR
    simp
    refine hx2 _ _ ?_
    simp[←hR]
  ·have c1':¬(code.length:Int)=hands.length:=by omega
   simp[c1] at hR
   simp[-List.length_flatMap,c1',hR]
def mO (s:Nat) (m:Mach):List AV:=[.osl 0 3 m.Mem.length (Ows (m.Mem.flatMap eu)),.osl s 158 m.Hands.length (Ows (m.Hands.flatMap Hand.d)),.osl 0 3 m.Out.length (Ows (m.Out.flatMap eu)),.bool m.Trap]
theorem LG {P:Program} {g:Nat} {args:List AV} {res:AV} (h:Says P g args res []):Says P g args res (num 1 [.gone 0]):=by
 intro w Φ σ cargs fa h1 h2 h3
 refine (h w Φ σ cargs fa h1 h2 h3).mono ?_
 rintro en w' ⟨cv,Φ',f1,f2,e,hext,hs1,hs2,hv,hr0,ho,_,hi,hn⟩
 refine⟨cv,Φ',f1,f2,e,hext,hs1,hs2,hv,hr0,?_,rfl,hi,hn⟩
 simp only[List.map_nil,CR] at ho
 exact iG (v:=.gone 0) (by simp only[VR];exact⟨fun h=>absurd rfl h,ho.2⟩)
section
variable (p : Prog) (code : List (List Ins)) (m : Mach) (s : Nat) (hp : p.tot ≤ 5000000) (hc : fU code ≤ 5000000) (hm : m.tot ≤ 5000000)
include hp hc hm
theorem G6 (h:BD p code m=false):Says prog 87 [.agg (Cs p.d),.rsl code.length (Cs (code.flatMap dCode)),.bx 1 49 (mO s m)] (.tup [none,none] [.nilp,.bool false]) (num 1 [.bx 1 49 (mO s m)]):=by
 have hmt:=m.tot_eq
 have hct:code.length≤5000000:=by unfold fU at hc;omega
 obtain⟨b1,b2,b3⟩:=qc p hp
 have f0:=Df p m hp hm
 have f1:=qp p hp
 have f2:=xn p hp
 have fc:=fun (l:List Ins) (hl:l∈code)=>Dx l (iD p) (nC p) (A8 hc hl) (by omega) (by omega)
 refine kX [1] [_] Go.Proofs.Tryz.func87 aFX (by simp) ?_
 unfold BD BJ at h
 generalize uZ p m=bM at f0 h
 generalize iD p=ms at *
 generalize nC p=rs at *
 obtain⟨arrs,body⟩:=p
 obtain⟨mem,hands,out,trap⟩:=m
 simp only at h hmt
 simp only[Mach.d_eq,Prog.d_eq,jL,nS,C_I,C_L,C_B] at f0 f1 f2
 simp[-List.length_flatMap,v87,r87,mO]
 refine bZ f0 ?_
 cases bM with
 | false=>simp
 | true =>
  by_cases c1:code.length=hands.length
  ·have c1':(code.length:Int)=hands.length:=by omega
   simp only[c1,decide_true,Bool.true_and] at h
   simp[-List.length_flatMap,c1']
   have h0:=h
   rw[List.all_eq_false] at h
   obtain⟨l0,hl0,hl1⟩:=h
   refine eY (l:=Rw) (b:=RF) rfl [10,11,12] (fun i=>[(9,.int .i64 i)]) (fun i=>((code.take i).all fun l=>qU l ms rs)=true) code.length (by simp) (by simp[c1']) ?_ ?_
   ·intro i hi hI q hn hx2 hr2
    have hw:=wrap_succ (i:=i) (by omega)
    have hi2:i<hands.length:=by omega
    obtain⟨l,hv⟩:=cu hi
    have hrow:=row_drop dCode 1 (fun _=>rfl) hv
    rw[Nat.mul_one] at hrow
    have f:=fc l (List.mem_of_getElem? hv)
    cases e:qU l ms rs with
    | false =>
     rw[e] at f
     simp[-List.length_flatMap,fM,hi,hi2,hw,aT,hrow,dCode,c1']
     refine bZ f1 ?_
     simp[-List.length_flatMap,fM,hi,hi2,hw,aT,hrow,dCode,c1']
     refine bZ f2 ?_
     simp[-List.length_flatMap,fM,hi,hi2,hw,aT,hrow,dCode,c1']
     refine bZ f ?_
     simp
     refine hr2 _ ?_
     simp
    | true =>
     rw[e] at f
     simp[-List.length_flatMap,fM,hi,hi2,hw,aT,hrow,dCode,c1']
     refine bZ f1 ?_
     simp[-List.length_flatMap,fM,hi,hi2,hw,aT,hrow,dCode,c1']
     refine bZ f2 ?_
     simp[-List.length_flatMap,fM,hi,hi2,hw,aT,hrow,dCode,c1']
     refine bZ f ?_
     simp
     refine hn _ ?_ (ni hI hv e)
     simp[hw,c1']
   ·intro hI q hx2 hr2
    rw[List.take_length] at hI
    rw[hI] at h0;cases h0
  ·have c1':¬(code.length:Int)=hands.length:=by omega
   simp[-List.length_flatMap,c1']
theorem EX (h:BD p code m=true):Says prog 87 [.agg (Cs p.d),.rsl code.length (Cs (code.flatMap dCode)),.bx 1 49 (mO s m)] (.tup [none,none] [.bx 0 182 [.bx 1 49 (mO s m),.rp (Jy p),.rsl code.length (Cs (code.flatMap dCode))],.bool true]) (num 1 [.gone 0]):=by
 have hmt:=m.tot_eq
 have hct:code.length≤5000000:=by unfold fU at hc;omega
 obtain⟨b1,b2,b3⟩:=qc p hp
 have f0:=Df p m hp hm
 have f1:=qp p hp
 have f2:=xn p hp
 have fc:=fun (l:List Ins) (hl:l∈code)=>Dx l (iD p) (nC p) (A8 hc hl) (by omega) (by omega)
 unfold BD BJ at h
 simp only[Bool.and_eq_true,decide_eq_true_eq] at h
 obtain⟨h1,h2,h3⟩:=h
 have hok:okP p=true:=by unfold uZ at h1;simp only[Bool.and_eq_true] at h1;exact h1.1
 have fl:=vg p hp hok
 unfold Jy at fl ⊢
 rw[h1] at f0
 refine LG (kX [] [] Go.Proofs.Tryz.func87 aFX (by simp) ?_)
 generalize iD p=ms at *
 generalize nC p=rs at *
 generalize varsOf p.Body=V at *
 generalize lZ p=R at *
 obtain⟨arrs,body⟩:=p
 obtain⟨mem,hands,out,trap⟩:=m
 simp only at h2 hmt fl ⊢
 simp only[Mach.d_eq,Prog.d_eq,jL,nS,C_I,C_L,C_B] at f0 f1 f2 fl
 simp only[vk] at fl ⊢
 have c1':(code.length:Int)=hands.length:=by omega
 simp[-List.length_flatMap,v87,r87,mO]
 refine bZ f0 ?_
 simp[-List.length_flatMap,c1']
 refine eY (l:=Rw) (b:=RF) rfl [10,11,12] (fun i=>[(9,.int .i64 i)]) (fun i=>((code.take i).all fun l=>qU l ms rs)=true) code.length (by simp) (by simp[c1']) ?_ ?_
 ·intro i hi hI q hn hx2 hr2
  have hw:=wrap_succ (i:=i) (by omega)
  have hi2:i<hands.length:=by omega
  obtain⟨l,hv⟩:=cu hi
  have hrow:=row_drop dCode 1 (fun _=>rfl) hv
  rw[Nat.mul_one] at hrow
  have f:=fc l (List.mem_of_getElem? hv)
  have e:qU l ms rs=true:=List.all_eq_true.1 h3 l (List.mem_of_getElem? hv)
  rw[e] at f
  simp[-List.length_flatMap,fM,hi,hi2,hw,aT,hrow,dCode,c1']
  refine bZ f1 ?_
  simp[-List.length_flatMap,fM,hi,hi2,hw,aT,hrow,dCode,c1']
  refine bZ f2 ?_
  simp[-List.length_flatMap,fM,hi,hi2,hw,aT,hrow,dCode,c1']
  refine bZ f ?_
  simp
  refine hn _ ?_ (ni hI hv e)
  simp[hw,c1']
 ·intro hI q hx2 hr2
  simp[c1']
  refine hx2 _ _ ?_
  simp[-List.length_flatMap]
  refine adV fl ?_
  simp[-List.length_flatMap,splice]
end
end Go.AmC
