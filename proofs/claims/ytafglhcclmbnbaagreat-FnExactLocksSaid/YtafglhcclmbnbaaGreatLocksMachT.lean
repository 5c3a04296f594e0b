import Derived.Test.YtafglhcclmbnbaaGreatLocksMachD
set_option linter.unusedSimpArgs false
set_option linter.unusedVariables false
set_option maxRecDepth 20000
set_option maxHeartbeats 8000000
namespace Go.AmC
open Go Go.AM
open Go.Proofs.Tryz (prog)
def jb (n:Int):Bool:=decide (-2147483648≤n)&&decide (n≤2147483647)
def OW (mem:Int) (p:Put):Bool:=(decide (0≤p.At)&&decide (p.At≤mem-1))&&jb p.N
def tq (mem regs:Int) (h:Hand):Bool:=(decide (0≤h.Pc)&&decide (h.Pc≤4000))&&(decide ((h.Regs.length:Int)=regs)&&(decide (h.Stack.length≤40)&&(decide (h.Shelf.length≤60)&&(h.Shelf.all (OW mem)&&(h.Stack.all jb&&h.Regs.all jb)))))
theorem ni {α:Type} {f:α→Bool} {l:List α} {i:Nat} {y:α} (hI:(l.take i).all f=true) (hy:l[i]?=some y) (hf:f y=true):(l.take (i+1)).all f=true:=by
 rw[List.take_add_one,hy];simp[hf];simpa using hI
theorem nP {α:Type} {f:α→Bool} {l:List α} {i:Nat} {y:α} (hy:l[i]?=some y) (hf:f y=false):l.all f=false:=by
 rw[List.all_eq_false];exact⟨y,List.mem_of_getElem? hy,by simp[hf]⟩
theorem wZ (n:Int):Says prog 283 [.int .i64 n] (.bool (jb n)) []:=by
 have f:=iE n (-2147483648) 2147483647
 unfold jb
 refine dD Go.Proofs.Tryz.func283 avi ?_
 simp[aDF,aEO]
 try (refine aX f ?_;simp)
theorem qE (l:List Int) (hl:l.length≤1000000000):Says prog 221 [.rsl l.length (Cs (l.flatMap eu))] (.bool (l.all jb)) []:=by
 refine dD Go.Proofs.Tryz.func221 avS ?_
 generalize hR:l.all jb=R0
 simp[-List.length_flatMap,aD0,aFc]
 refine eY (l:=Ph) (b:=Qu) rfl [5,6,7] (fun i=>[(4,.int .i64 i)]) (fun i=>(l.take i).all jb=true) l.length (by simp) (by simp) ?_ ?_
 ·intro i hi hI q hn hx hr
  have hw:=wrap_succ (i:=i) (by omega)
  obtain⟨v,hv⟩:=cu hi
  have f:=wZ v
  cases c:jb v with
  | false =>
   rw[c] at f
   simp[-List.length_flatMap,hi,hw,aT,uy hv]
   refine aX f ?_
   simp
   refine hr _ ?_
   rw[nP hv c] at hR
   simp[←hR]
  | true =>
   rw[c] at f
   simp[-List.length_flatMap,hi,hw,aT,uy hv]
   refine aX f ?_
   simp
   refine hn _ ?_ (ni hI hv c)
   simp[hw]
 ·intro hI q hx hr
  rw[List.take_length] at hI
  rw[hI] at hR
  simp
  refine hx _ _ ?_
  simp[←hR]
theorem qC (l:List Int) (hl:l.length≤1000000000):Says prog 208 [.rsl l.length (Cs (l.flatMap eu))] (.bool (l.all jb)) []:=by
 refine dD Go.Proofs.Tryz.func208 av5 ?_
 generalize hR:l.all jb=R0
 simp[-List.length_flatMap,v208,aFh]
 refine eY (l:=Pn) (b:=Qy) rfl [3,4] (fun i=>[(2,.int .i64 i)]) (fun i=>(l.take i).all jb=true) l.length (by simp) (by simp) ?_ ?_
 ·intro i hi hI q hn hx hr
  have hw:=wrap_succ (i:=i) (by omega)
  obtain⟨v,hv⟩:=cu hi
  have f:=iy v (-2147483648) 2147483647
  change Says prog _ _ (.bool (jb v)) [] at f
  cases c:jb v with
  | false =>
   rw[c] at f
   simp[-List.length_flatMap,hi,hw,aT,uy hv]
   refine aX f ?_
   simp
   refine hr _ ?_
   rw[nP hv c] at hR
   simp[←hR]
  | true =>
   rw[c] at f
   simp[-List.length_flatMap,hi,hw,aT,uy hv]
   refine aX f ?_
   simp
   refine hn _ ?_ (ni hI hv c)
   simp[hw]
 ·intro hI q hx hr
  rw[List.take_length] at hI
  rw[hI] at hR
  simp
  refine hx _ _ ?_
  simp[←hR]
theorem KI (h:Hand) (mem regs:Int) (hm:0≤mem∧mem≤100000000) (hh:h.Stack.length≤1000000000∧h.Regs.length≤1000000000∧h.Shelf.length≤1000000000):Says prog 222 [.agg (Cs h.d),.int .i64 mem,.int .i64 regs] (.bool (tq mem regs h)) []:=by
 obtain⟨pc,st,rg,sh,he,dn⟩:=h
 simp only at hh
 have f1:=iE pc 0 4000
 have f2:=qE st (by omega)
 have f3:=qE rg (by omega)
 have wm:IntKind.i64.wrap (mem-1)=mem-1:=by rw[bJ]<;>omega
 refine dD Go.Proofs.Tryz.func222 avR ?_
 generalize hR:tq mem regs ⟨pc,st,rg,sh,he,dn⟩=R0
 unfold tq at hR
 simp only at hR
 generalize (decide (0≤pc)&&decide (pc≤4000))=b1 at f1 hR
 simp[-List.length_flatMap,v222,aFb]
 refine aX f1 ?_
 cases b1 with
 | false=>simp at hR;simp[hR]
 | true =>
  by_cases c2:(rg.length:Int)=regs
  ·by_cases c3:st.length≤40
   ·have c3':¬(40:Int)<st.length:=by omega
    by_cases c4:sh.length≤60
    ·have c4':¬(60:Int)<sh.length:=by omega
     simp only[c2,c3,c4,decide_true,Bool.true_and] at hR
     subst c2
     simp[-List.length_flatMap,c3',c4']
     refine eY (l:=Pg) (b:=Qs) rfl [9,10,11] (fun i=>[(8,.int .i64 i)]) (fun i=>(sh.take i).all (OW mem)=true) sh.length (by simp) (by simp) ?_ ?_
     ·intro i hi hI q hn hx hr
      have hw:=wrap_succ (i:=i) (by omega)
      obtain⟨⟨At,N⟩,hv⟩:=cu hi
      have hrow:=row_drop Put.d 2 Put.d_len hv
      have g1:=iE At 0 (mem-1)
      have g2:=wZ N
      have e:OW mem ⟨At,N⟩=((decide (0≤At)&&decide (At≤mem-1))&&jb N):=rfl
      generalize (decide (0≤At)&&decide (At≤mem-1))=b2 at g1 e
      generalize jb N=b3 at g2 e
      cases b2 with
      | false =>
       simp at e
       simp[-List.length_flatMap,hi,hw,aT,hrow,wm]
       refine aX g1 ?_
       simp
       refine hr _ ?_
       rw[nP hv e] at hR
       simp at hR;simp[hR]
      | true =>
       cases b3 with
       | false =>
        simp at e
        simp[-List.length_flatMap,hi,hw,aT,hrow,wm]
        refine aX g1 ?_
        simp
        refine aX g2 ?_
        simp
        refine hr _ ?_
        rw[nP hv e] at hR
        simp at hR;simp[hR]
       | true =>
        simp at e
        simp[-List.length_flatMap,hi,hw,aT,hrow,wm]
        refine aX g1 ?_
        simp
        refine aX g2 ?_
        simp
        refine hn _ ?_ (ni hI hv e)
        simp[hw]
     ·intro hI q hx hr
      rw[List.take_length] at hI
      rw[hI] at hR
      simp
      refine hx _ _ ?_
      simp
      refine aX f2 ?_
      generalize st.all jb=b2 at hR ⊢
      cases b2 with
      | false=>simp at hR;simp[hR]
      | true =>
       simp
       refine aX f3 ?_
       simp at hR
       simp[hR]
    ·have c4':(60:Int)<sh.length:=by omega
     simp[c2,c3,c4] at hR
     simp[c2,c3,c4',show ¬(40:Int)<st.length from c3',hR]
   ·have c3':(40:Int)<st.length:=by omega
    simp[c2,c3] at hR
    simp[c2,c3',hR]
  ·simp[c2] at hR
   simp[c2,hR]
theorem KH (h:Hand) (mem regs:Int) (hm:0≤mem∧mem≤100000000) (hh:h.Stack.length≤1000000000∧h.Regs.length≤1000000000∧h.Shelf.length≤1000000000):Says prog 207 [.agg (Cs h.d),.int .i64 regs,.int .i64 mem] (.bool (tq mem regs h)) []:=by
 obtain⟨pc,st,rg,sh,he,dn⟩:=h
 simp only at hh
 have f1:=iy pc 0 4000
 have f2:=qC st (by omega)
 have f3:=qC rg (by omega)
 have wm:IntKind.i64.wrap (mem-1)=mem-1:=by rw[bJ]<;>omega
 refine dD Go.Proofs.Tryz.func207 av6 ?_
 generalize hR:tq mem regs ⟨pc,st,rg,sh,he,dn⟩=R0
 unfold tq at hR
 simp only at hR
 generalize (decide (0≤pc)&&decide (pc≤4000))=b1 at f1 hR
 simp[-List.length_flatMap,aD5,aFi]
 refine eY (l:=Po) (b:=Qz) rfl [6,7] (fun i=>[(5,.int .i64 i)]) (fun i=>(sh.take i).all (OW mem)=true) sh.length (by simp) (by simp) ?_ ?_
 ·intro i hi hI q hn hx hr
  have hw:=wrap_succ (i:=i) (by omega)
  obtain⟨⟨At,N⟩,hv⟩:=cu hi
  have hrow:=row_drop Put.d 2 Put.d_len hv
  have g1:=iy At 0 (mem-1)
  have g2:=iy N (-2147483648) 2147483647
  change Says prog _ _ (.bool (jb N)) [] at g2
  have e:OW mem ⟨At,N⟩=((decide (0≤At)&&decide (At≤mem-1))&&jb N):=rfl
  generalize (decide (0≤At)&&decide (At≤mem-1))=b2 at g1 e
  generalize jb N=b3 at g2 e
  have bad:OW mem ⟨At,N⟩=false→R0=false:=fun e=>by
   rw[nP hv e] at hR
   rw[←hR];simp
  cases b2 with
  | false =>
   simp at e
   simp[-List.length_flatMap,hi,hw,aT,hrow,wm]
   refine aX g1 ?_
   simp
   refine hr _ ?_
   simp[bad e]
  | true =>
   cases b3 with
   | false =>
    simp at e
    simp[-List.length_flatMap,hi,hw,aT,hrow,wm]
    refine aX g1 ?_
    simp[-List.length_flatMap,hi,hw,aT,hrow,wm]
    refine aX g2 ?_
    simp
    refine hr _ ?_
    simp[bad e]
   | true =>
    simp at e
    simp[-List.length_flatMap,hi,hw,aT,hrow,wm]
    refine aX g1 ?_
    simp[-List.length_flatMap,hi,hw,aT,hrow,wm]
    refine aX g2 ?_
    simp
    refine hn _ ?_ (ni hI hv e)
    simp[hw]
 ·intro hI q hx hr
  rw[List.take_length] at hI
  rw[hI] at hR
  simp
  refine hx _ _ ?_
  simp
  refine aX f1 ?_
  cases b1 with
  | false=>simp at hR;simp[hR]
  | true =>
   by_cases c2:(rg.length:Int)=regs
   ·by_cases c3:st.length≤40
    ·have c3':(st.length:Int)≤40:=by omega
     by_cases c4:sh.length≤60
     ·have c4':(sh.length:Int)≤60:=by omega
      simp only[c2,c3,c4,decide_true,Bool.true_and] at hR
      simp[c2,c3',c4']
      refine aX f2 ?_
      generalize st.all jb=b2 at hR ⊢
      cases b2 with
      | false=>simp at hR;simp[hR]
      | true =>
       simp
       refine aX f3 ?_
       simp at hR
       simp[hR]
     ·have c4':¬(sh.length:Int)≤60:=by omega
      simp[c2,c3,c4] at hR
      simp[c2,c3',c4',hR]
    ·have c3':¬(st.length:Int)≤40:=by omega
     simp[c2,c3] at hR
     simp[c2,c3',hR]
   ·simp[c2] at hR
    simp[c2,hR]
set_option maxHeartbeats 4000000
def iL (h:Hand):Int:=h.Stack.getLastD 0
def gy (h:Hand):Hand:={ h with Stack:=h.Stack.dropLast }
theorem mr (s n k:Nat) (mem out:List Int) (A B:List D) (h:Hand) (t:Bool) (hA:A.length=k*6) (hk:k<n) (hn:n≤1000) (hs:h.Stack.length≤1000) :
  Says prog 212 [.bx 1 49 (mF s n mem out A h B t),.int .i64 (k:Int)] (.int .i64 (iL h)) (num 1 [.bx 1 49 (mF s n mem out A (gy h) B (t||h.Stack.isEmpty))]):=by
 obtain⟨pc,st,rg,sh,he,dn⟩:=h
 rcases uj st with rfl|⟨st',x,rfl⟩
 ·refine kX [1] [_] Go.Proofs.Tryz.func212 abE (by simp) ?_
  simp[v212,atM,mF,hRow,hC,hk,md hA,md0 hA,mg hA,mg0 hA,ms hA,ms0 hA,mp hA,mp0 hA,lh hA,spl,sp0,sp1,sp2,sp3,sq0,sq1,aY,bf,-List.length_flatMap,aC,aF,aJ,aI,aH,aO,aj,au,aG,ax,aP,aZ,aU,bg,ak,bF,bD,iL,gy]
 ·have hs':st'.length≤100000:=by simp at hs;omega
  refine kX [1] [_] Go.Proofs.Tryz.func212 abE (by simp) ?_
  simp[v212,atM,mF,hRow,hC,hk,md hA,md0 hA,mg hA,mg0 hA,ms hA,ms0 hA,mp hA,mp0 hA,lh hA,spl,sp0,sp1,sp2,sp3,sq0,sq1,aY,bf,-List.length_flatMap,aC,aF,aJ,aI,aH,aO,aj,au,aG,ax,aP,aZ,aU,bg,ak,bF,bD,iL,gy,EE hs',aU hs']
def Mc (h:Hand) (x:Int):Hand:={ h with Stack:=h.Stack++[x] }
def pushed (h:Hand) (x:Int) (t:Bool):Hand × Bool:=if 40≤h.Stack.length then (h,true) else (Mc h x,t)
theorem xu (s n k:Nat) (mem out:List Int) (A B:List D) (h:Hand) (t:Bool) (x:Int) (hA:A.length=k*6) (hk:k<n) (hn:n≤1000) (hs:h.Stack.length≤1000) :
  Says prog 214 [.bx 1 49 (mF s n mem out A h B t),.int .i64 (k:Int),.int .i64 x] (.tup [] []) (num 1 [.bx 1 49 (mF s n mem out A (pushed h x t).1 B (pushed h x t).2)]):=by
 obtain⟨pc,st,rg,sh,he,dn⟩:=h
 simp only at hs
 have hs':st.length≤100000:=by omega
 have hs2:st.length+1≤100000:=by omega
 refine kX [1] [_] Go.Proofs.Tryz.func214 avZ (by simp) ?_
 by_cases c:40≤st.length
 ·have c':(40:Int)≤st.length:=by omega
  simp[atq,atK,mF,hRow,hC,hk,md hA,md0 hA,mg hA,mg0 hA,ms hA,ms0 hA,mp hA,mp0 hA,lh hA,spl,sp0,sp1,sp2,sp3,sq0,sq1,aY,bf,-List.length_flatMap,aC,aF,aJ,aI,aH,aO,aj,au,aG,ax,aP,aZ,aU,bg,ak,bF,bD,pushed,c,c']
 ·have c':¬(40:Int)≤st.length:=by omega
  simp[atq,atK,mF,hRow,hC,hk,md hA,md0 hA,mg hA,mg0 hA,ms hA,ms0 hA,mp hA,mp0 hA,lh hA,spl,sp0,sp1,sp2,sp3,sq0,sq1,aY,bf,-List.length_flatMap,aC,aF,aJ,aI,aH,aO,aj,au,aG,ax,aP,aZ,aU,bg,ak,bF,bD,pushed,Mc,c,c',aU hs',aU hs2]
def pW (h:Hand) (p:Put):Hand:={ h with Shelf:=h.Shelf++[p] }
theorem zf (s n k:Nat) (mem out:List Int) (A B:List D) (h:Hand) (t:Bool) (p:Put) (hA:A.length=k*6) (hk:k<n) (hs0:s≠0) (hs:h.Shelf.length≤1000) :
  Says prog 217 [.bx 1 49 (mF s n mem out A h B t),.int .i64 (k:Int),.int .i64 p.At,.int .i64 p.N] (.tup [] []) (num 1 [.bx 1 49 (mF s n mem out A (pW h p) B t)]):=by
 obtain⟨pc,st,rg,sh,he,dn⟩:=h
 simp only at hs
 have hs':sh.length≤100000:=by omega
 have hs2:sh.length+1≤100000:=by omega
 refine kX [1] [_] Go.Proofs.Tryz.func217 avW (by simp) ?_
 simp[aD2,aFe,mF,hRow,hC,hk,md hA,md0 hA,mg hA,mg0 hA,ms hA,ms0 hA,mp hA,mp0 hA,lh hA,spl,sp0,sp1,sp2,sp3,sq0,sq1,aY,bf,-List.length_flatMap,aC,aF,aJ,aI,aH,aO,aj,au,aG,ax,aP,aZ,aU,bg,ak,bF,bD,pW,hs0,aU hs',aU hs2]
def BH (mem:List Int) (p:Put):List Int:=if 0≤p.At∧p.At<mem.length then mem.set p.At.toNat p.N else mem
def dP (mem:List Int) (h:Hand) (t:Bool):List Int × Hand × Bool:=match h.Shelf with
 | []=>(mem,h,false)
 | p::r=>if t then (mem,h,false) else (BH mem p,{ h with Shelf:=r },true)
theorem Ad (s n k:Nat) (mem out:List Int) (A B:List D) (h:Hand) (t:Bool) (hA:A.length=k*6) (hk:k<n) (hs:h.Shelf.length≤1000) (hm:mem.length≤100000) :
  Says prog 142 [.bx 1 49 (mF s n mem out A h B t),.int .i64 (k:Int)] (.bool (dP mem h t).2.2) (num 1 [.bx 1 49 (mF s n (dP mem h t).1 out A (dP mem h t).2.1 B t)]):=by
 obtain⟨pc,st,rg,sh,he,dn⟩:=h
 simp only at hs
 refine kX [1] [_] Go.Proofs.Tryz.func142 awG (by simp) ?_
 cases sh with
 | nil=>simp[OG,OU,mF,hRow,hC,hk,md hA,md0 hA,mg hA,mg0 hA,ms hA,ms0 hA,mp hA,mp0 hA,lh hA,spl,sp0,sp1,sp2,sp3,sq0,sq1,aY,bf,-List.length_flatMap,aC,aF,aJ,aI,aH,aO,aj,au,aG,ax,aP,aZ,aU,bg,ak,bF,bD,dP]
 | cons p r =>
  cases t with
  | true=>simp[OG,OU,mF,hRow,hC,hk,md hA,md0 hA,mg hA,mg0 hA,ms hA,ms0 hA,mp hA,mp0 hA,lh hA,spl,sp0,sp1,sp2,sp3,sq0,sq1,aY,bf,-List.length_flatMap,aC,aF,aJ,aI,aH,aO,aj,au,aG,ax,aP,aZ,aU,bg,ak,bF,bD,dP,aY]
  | false =>
   have hs':r.length≤100000:=by simp at hs;omega
   have f:=iy p.At 0 ((mem.length:Int)-1)
   have hw:IntKind.i64.wrap ((mem.length:Int)-1)=(mem.length:Int)-1:=by rw[bJ]<;>omega
   have hw2:=adC hs'
   simp[OG,OU,mF,hRow,hC,hk,md hA,md0 hA,mg hA,mg0 hA,ms hA,ms0 hA,mp hA,mp0 hA,lh hA,spl,sp0,sp1,sp2,sp3,sq0,sq1,aY,bf,-List.length_flatMap,aC,aF,aJ,aI,aH,aO,aj,au,aG,ax,aP,aZ,aU,bg,ak,bF,bD,dP,aY,hw]
   refine aX f ?_
   by_cases c:0≤p.At∧p.At<mem.length
   ·obtain⟨At,N⟩:=p
    obtain⟨i,rfl⟩:=Int.eq_ofNat_of_zero_le c.1
    have hi:i<mem.length:=by have:=c.2;simp at this;omega
    have c1:(i:Int)≤(mem.length:Int)-1:=by omega
    have hi2:i+1≤mem.length:=hi
    obtain⟨v,hv⟩:=cu hi
    simp[OG,OU,mF,hRow,hC,hk,md hA,md0 hA,mg hA,mg0 hA,ms hA,ms0 hA,mp hA,mp0 hA,lh hA,spl,sp0,sp1,sp2,sp3,sq0,sq1,aY,bf,-List.length_flatMap,aC,aF,aJ,aI,aH,aO,aj,au,aG,ax,aP,aZ,aU,bg,ak,bF,bD,dP,BH,aY,hi,hi2,c1,ints_set,iw hi,ints_at hv,aU hs']
   ·have c1:¬(0≤p.At∧p.At≤(mem.length:Int)-1):=by omega
    have c2:(decide (0≤p.At)&&decide (p.At≤(mem.length:Int)-1))=false:=by simpa using c1
    rw[c2]
    simp[OG,OU,mF,hRow,hC,hk,md hA,md0 hA,mg hA,mg0 hA,ms hA,ms0 hA,mp hA,mp0 hA,lh hA,spl,sp0,sp1,sp2,sp3,sq0,sq1,aY,bf,-List.length_flatMap,aC,aF,aJ,aI,aH,aO,aj,au,aG,ax,aP,aZ,aU,bg,ak,bF,bD,dP,BH,aY,c,aU hs']
def zn (mem:List Int) (at_:Int):List Put→Int
 | []=>mem.getD at_.toNat 0
 | p::r=>if p.At=at_ then p.N else zn mem at_ r
def lY (mem:List Int) (h:Hand) (at_:Int):Int:=zn mem at_ h.Shelf.reverse
theorem CG (n k:Nat) (mem out:List Int) (A B:List D) (h:Hand) (t:Bool) (j:Nat) (hA:A.length=k*6) (hk:k<n) (hs:h.Shelf.length≤1000) (hm:mem.length≤100000) (hj:j<mem.length) :
  Says prog 216 [.rp (mZ n mem out A h B t),.int .i64 (k:Int),.int .i64 (j:Int)] (.int .i64 (lY mem h j)) []:=by
 obtain⟨pc,st,rg,sh,he,dn⟩:=h
 simp only at hs
 have hs':sh.length≤100000:=by omega
 have hw:IntKind.i64.wrap ((sh.length:Int)-1)=(sh.length:Int)-1:=by rw[bJ]<;>omega
 refine dD Go.Proofs.Tryz.func216 avX ?_
 simp[aD3,aFf,mF,hRow,hC,hk,md hA,md0 hA,mg hA,mg0 hA,ms hA,ms0 hA,mp hA,mp0 hA,lh hA,spl,sp0,sp1,sp2,sp3,sq0,sq1,aY,bf,-List.length_flatMap,aC,aF,aJ,aI,aH,aO,aj,au,aG,ax,aP,aZ,aU,bg,ak,bF,bD,mZ,cd hA,cd0 hA,hw]
 generalize hR:lY mem _ _=R
 simp only[lY] at hR
 refine RH (α:=Nat) (l:=Pi) (b:=Qv) rfl [6,7] (fun c=>[(5,.int .i64 ((c:Int)-1))]) (fun c=>c) (fun c=>c≤sh.length∧zn mem j (sh.take c).reverse=R) sh.length ⟨Nat.le_refl _,by rw[List.take_length];exact hR⟩ (by simp) ?_
 rintro c ⟨hc,h1⟩ q hn hx hr
 cases c with
 | zero =>
  simp
  refine hx _ _ ?_
  obtain⟨v,hv⟩:=cu hj
  have f:=iy j 0 ((mem.length:Int)-1)
  have hw2:IntKind.i64.wrap ((mem.length:Int)-1)=(mem.length:Int)-1:=by rw[bJ]<;>omega
  have c1:(j:Int)≤(mem.length:Int)-1:=by omega
  have hj1:(j:Int)<mem.length:=by omega
  have e:R=v:=by simp[zn,hv] at h1;exact h1.symm
  simp[hw2]
  refine aX f ?_
  simp[-List.length_flatMap,aC,c1,hj1,aT,uy hv,e]
 | succ c =>
  obtain⟨p,hp⟩:=cu (show c<sh.length by omega)
  have e:(sh.take (c+1)).reverse=p::(sh.take c).reverse:=by rw[List.take_add_one,hp];simp
  rw[e,zn] at h1
  have hw2:IntKind.i64.wrap ((c:Int)-1)=(c:Int)-1:=by rw[bJ]<;>omega
  have hc1:(c:Int)<sh.length:=by omega
  have hrow:=row_drop Put.d 2 Put.d_len hp
  by_cases d:p.At=j
  ·rw[if_pos d] at h1
   simp[hc1,aT,hrow,d]
   refine hr _ ?_
   simp[h1]
  ·rw[if_neg d] at h1
   simp[hc1,aT,hrow,d,hw2]
   refine hn _ c ?_ ⟨by omega,h1⟩ (by omega)
   simp
def sW (op:Int):Int:=if op=8 then 4 else if op=9 then 5 else if op=10 then 6 else if op=11 then 7 else 8
theorem Ky (op:Int):Says prog 220 [.int .i64 op] (.int .i64 (sW op)) []:=by
 refine dD Go.Proofs.Tryz.func220 avT ?_
 unfold sW
 by_cases c1:op=8<;>by_cases c2:op=9<;>by_cases c3:op=10<;>by_cases c4:op=11<;>simp[aD1,aFd,c1,c2,c3,c4]
def jU (h:Hand) (t:Bool):(Int × Int) × Hand × Bool :=
 if (t||h.Stack.isEmpty)=true then ((0,0),gy h,true) else ((iL (gy h),iL h),gy (gy h),(gy h).Stack.isEmpty)
theorem MW (s n k:Nat) (mem out:List Int) (A B:List D) (h:Hand) (t:Bool) (hA:A.length=k*6) (hk:k<n) (hn:n≤1000) (hs0:s≠0) (hs:h.Stack.length≤1000) :
  Says prog 218 [.bx 1 49 (mF s n mem out A h B t),.int .i64 (k:Int)] (.tup [none,none] [.int .i64 (jU h t).1.1,.int .i64 (jU h t).1.2]) (num 1 [.bx 1 49 (mF s n mem out A (jU h t).2.1 B (jU h t).2.2)]):=by
 have f1:=mr (s+1000) n k mem out A B h t hA hk hn hs
 have f2:=mr (s+1000) n k mem out A B (gy h) (t||h.Stack.isEmpty) hA hk hn (by simp[gy];omega)
 refine kX [1] [_] Go.Proofs.Tryz.func218 avV (by simp) ?_
 unfold jU
 have hs1:¬s+1000=0:=by omega
 have hs2:0<s:=by omega
 simp[mF] at f1 f2
 generalize e1:gy h=h1 at f1 f2 ⊢
 generalize e2:gy h1=h2 at f1 f2 ⊢
 cases t with
 | true =>
  simp[v218,abv,mF,iO,iR,dX,dK,gQ,aV,aW,ai,row_ne,sp0,sp1,sp2,sp3,fF,hs0,hs1,hs2]
  refine eF [_] rfl f1 ?_
  simp[mF,iO,iR,dX,dK,gQ,aV,aW,ai,row_ne,sp0,sp1,sp2,sp3,fF,hs0,hs1,hs2]
 | false =>
  cases c:h.Stack.isEmpty with
  | true =>
   rw[c] at f1
   simp at c
   simp[v218,abv,mF,iO,iR,dX,dK,gQ,aV,aW,ai,row_ne,sp0,sp1,sp2,sp3,fF,hs0,hs1,hs2,c]
   refine eF [_] rfl f1 ?_
   simp[mF,iO,iR,dX,dK,gQ,aV,aW,ai,row_ne,sp0,sp1,sp2,sp3,fF,hs0,hs1,hs2]
  | false =>
   rw[c] at f1 f2
   simp at c
   simp at f2
   simp[v218,abv,mF,iO,iR,dX,dK,gQ,aV,aW,ai,row_ne,sp0,sp1,sp2,sp3,fF,hs0,hs1,hs2,c]
   refine eF [_] rfl f1 ?_
   simp[mF,iO,iR,dX,dK,gQ,aV,aW,ai,row_ne,sp0,sp1,sp2,sp3,fF,hs0,hs1,hs2]
   refine eF [_] rfl f2 ?_
   simp[mF,iO,iR,dX,dK,gQ,aV,aW,ai,row_ne,sp0,sp1,sp2,sp3,fF,hs0,hs1,hs2]
def Rf (mem:List Int) (i:Ins) (n:Int) (h:Hand) (t:Bool) (at_:Int):Hand × Bool :=
 if t=true∨¬(0≤at_∧at_<i.B) then (h,true) else if i.Op=5 then (pW h ⟨i.A+at_,n⟩,false) else pushed h (lY mem h (i.A+at_)) false
def MR (mem:List Int) (i:Ins) (n:Int) (h:Hand) (t:Bool):Hand × Bool :=
 if t=true then (h,true) else Rf mem i n (gy h) h.Stack.isEmpty (iL h)
def yx (mem:List Int) (i:Ins) (h:Hand) (t:Bool):Hand × Bool :=
 if i.Op=5 then MR mem i (iL h) (gy h) (t||h.Stack.isEmpty) else MR mem i 0 h t
theorem Oq (s n k:Nat) (mem out:List Int) (A B:List D) (h:Hand) (t:Bool) (i:Ins) (hA:A.length=k*6) (hk:k<n) (hn:n≤1000) (hs0:s≠0) (hs:h.Stack.length≤1000) (hsh:h.Shelf.length≤1000) (hm:mem.length≤100000)
  (hb:1≤i.B∧i.B≤16) (ha:0≤i.A∧i.A+i.B≤mem.length) :
  Says prog 215 [.bx 1 49 (mF s n mem out A h B t),.int .i64 (k:Int),.agg (Cs i.d)] (.tup [] []) (num 1 [.bx 1 49 (mF s n mem out A (yx mem i h t).1 B (yx mem i h t).2)]):=by
 have hs1:¬s+1000=0:=by omega
 have hs2:0<s:=by omega
 have hw:IntKind.i64.wrap (i.B-1)=i.B-1:=by rw[bJ]<;>omega
 refine kX [1] [_] Go.Proofs.Tryz.func215 avY (by simp) ?_
 obtain⟨op,a,b⟩:=i
 simp only at hb ha hw
 unfold yx
 by_cases c5:op=5
 ·subst c5
  have f1:=mr (s+1000) n k mem out A B h t hA hk hn hs
  have hs3:(gy h).Stack.length≤1000:=by simp[gy];omega
  have hsh3:(gy h).Shelf.length≤1000:=hsh
  have f2:=mr (s+1000) n k mem out A B (gy h) (t||h.Stack.isEmpty) hA hk hn hs3
  simp[mF] at f1 f2
  simp only[if_true]
  generalize iL h=n0 at f1 ⊢
  generalize gy h=h1 at f1 f2 hs3 hsh3 ⊢
  generalize (t||h.Stack.isEmpty)=t1 at f1 f2 ⊢
  simp[atp,atJ,mF,iO,iR,dX,dK,gQ,aV,aW,ai,row_ne,sp0,sp1,sp2,sp3,fF,hs0,hs1,hs2]
  refine eF [_] rfl f1 ?_
  unfold MR
  cases t1 with
  | true=>simp[mF,iO,iR,dX,dK,gQ,aV,aW,ai,row_ne,sp0,sp1,sp2,sp3,fF,hs0,hs1,hs2]
  | false =>
   simp at f2
   simp[mF,iO,iR,dX,dK,gQ,aV,aW,ai,row_ne,sp0,sp1,sp2,sp3,fF,hs0,hs1,hs2]
   refine eF [_] rfl f2 ?_
   generalize iL h1=at_ at f2 ⊢
   have hsh4:(gy h1).Shelf.length≤1000:=hsh3
   generalize gy h1=h2 at f2 hsh4 ⊢
   unfold Rf
   cases e:h1.Stack.isEmpty with
   | true=>simp[mF,iO,iR,dX,dK,gQ,aV,aW,ai,row_ne,sp0,sp1,sp2,sp3,fF,hs0,hs1,hs2,e]
   | false =>
    simp at e
    simp[mF,iO,iR,dX,dK,gQ,aV,aW,ai,row_ne,sp0,sp1,sp2,sp3,fF,hs0,hs1,hs2,e,hw]
    refine aX (iy at_ 0 (b-1)) ?_
    by_cases c:0≤at_∧at_<b
    ·have c1:at_≤b-1:=by omega
     have c2:¬b≤at_:=by omega
     have hw2:IntKind.i64.wrap (a+at_)=a+at_:=by rw[bJ]<;>omega
     have f3:=zf (s+1000) n k mem out A B h2 false ⟨a+at_,n0⟩ hA hk hs1 hsh4
     simp[mF] at f3
     simp[mF,iO,iR,dX,dK,gQ,aV,aW,ai,row_ne,sp0,sp1,sp2,sp3,fF,hs0,hs1,hs2,c.1,c1,c2,hw2]
     refine eF [_] rfl f3 ?_
     simp[mF,iO,iR,dX,dK,gQ,aV,aW,ai,row_ne,sp0,sp1,sp2,sp3,fF,hs0,hs1,hs2]
    ·have c1:¬(0≤at_∧at_≤b-1):=by omega
     have c2:(decide (0≤at_)&&decide (at_≤b-1))=false:=by simpa using c1
     have c3:0≤at_→b≤at_:=by omega
     rw[c2,if_pos c3]
     simp[mF,iO,iR,dX,dK,gQ,aV,aW,ai,row_ne,sp0,sp1,sp2,sp3,fF,hs0,hs1,hs2]
 ·simp only[c5,if_false]
  simp[atp,atJ,mF,iO,iR,dX,dK,gQ,aV,aW,ai,row_ne,sp0,sp1,sp2,sp3,fF,hs0,hs1,hs2,c5]
  have f2:=mr (s+1000) n k mem out A B h t hA hk hn hs
  simp[mF] at f2
  unfold MR
  cases t with
  | true=>simp[mF,iO,iR,dX,dK,gQ,aV,aW,ai,row_ne,sp0,sp1,sp2,sp3,fF,hs0,hs1,hs2]
  | false =>
   simp at f2
   simp[mF,iO,iR,dX,dK,gQ,aV,aW,ai,row_ne,sp0,sp1,sp2,sp3,fF,hs0,hs1,hs2]
   refine eF [_] rfl f2 ?_
   generalize iL h=at_ at f2 ⊢
   have hsh4:(gy h).Shelf.length≤1000:=hsh
   have hs4:(gy h).Stack.length≤1000:=by simp[gy];omega
   generalize gy h=h2 at f2 hsh4 hs4 ⊢
   unfold Rf
   cases e:h.Stack.isEmpty with
   | true=>simp[mF,iO,iR,dX,dK,gQ,aV,aW,ai,row_ne,sp0,sp1,sp2,sp3,fF,hs0,hs1,hs2,e]
   | false =>
    simp at e
    simp[mF,iO,iR,dX,dK,gQ,aV,aW,ai,row_ne,sp0,sp1,sp2,sp3,fF,hs0,hs1,hs2,e,hw]
    refine aX (iy at_ 0 (b-1)) ?_
    by_cases c:0≤at_∧at_<b
    ·have c1:at_≤b-1:=by omega
     have c2:¬b≤at_:=by omega
     have hw2:IntKind.i64.wrap (a+at_)=a+at_:=by rw[bJ]<;>omega
     obtain⟨j,hj⟩:=Int.eq_ofNat_of_zero_le (show 0≤a+at_ by omega)
     have f3:=CG n k mem out A B h2 false j hA hk hsh4 hm (by omega)
     rw[←hj] at f3
     have f4:=xu (s+1000) n k mem out A B h2 false (lY mem h2 (a+at_)) hA hk hn hs4
     simp[mF] at f4
     simp[mZ] at f3
     simp[mF,iO,iR,dX,dK,gQ,aV,aW,ai,row_ne,sp0,sp1,sp2,sp3,fF,hs0,hs1,hs2,c.1,c1,c2,hw2,c5]
     refine aX f3 ?_
     simp[mF,iO,iR,dX,dK,gQ,aV,aW,ai,row_ne,sp0,sp1,sp2,sp3,fF,hs0,hs1,hs2]
     refine eF [_] rfl f4 ?_
     simp[mF,iO,iR,dX,dK,gQ,aV,aW,ai,row_ne,sp0,sp1,sp2,sp3,fF,hs0,hs1,hs2]
    ·have c1:¬(0≤at_∧at_≤b-1):=by omega
     have c2:(decide (0≤at_)&&decide (at_≤b-1))=false:=by simpa using c1
     have c3:0≤at_→b≤at_:=by omega
     rw[c2,if_pos c3]
     simp[mF,iO,iR,dX,dK,gQ,aV,aW,ai,row_ne,sp0,sp1,sp2,sp3,fF,hs0,hs1,hs2]
end Go.AmC
