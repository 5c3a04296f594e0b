import Derived.Test.YtafglhcclmbnbaaGreatLocksMachP
import Derived.Test.YtafglhcclmbnbaaGreatLocksMachT
set_option linter.unusedSimpArgs false
set_option linter.unusedVariables false
set_option maxRecDepth 20000
set_option maxHeartbeats 8000000
namespace Go.AmC
open Go Go.AM
open Go.Proofs.Tryz (prog)
def dCode (l:List Ins):List D:=[.L 160 l.length (l.flatMap Ins.d)]
def BG (i:Ins) (mem regs:Nat):Prop:=(1≤i.Op∧i.Op≤19)∧(i.Op=2∨i.Op=3→0≤i.A∧i.A<regs)∧(i.Op=4∨i.Op=5→(1≤i.B∧i.B≤16)∧0≤i.A∧i.A+i.B≤mem)∧(i.Op=6∨i.Op=7∨i.Op=17∨i.Op=18→0≤i.A∧i.A<mem)
def wo (mem out:List Int) (n b k:Nat) (h:Hand) (i:Ins):Bool × List Int × List Int × Hand × Bool :=
 if 16≤i.Op∧i.Op≤19 then ((mV mem n b k h i).1,(mV mem n b k h i).2.1,out,(mV mem n b k h i).2.2)
 else if (i.Op=5∨i.Op=7)∧60≤h.Shelf.length then (true,(dP mem h false).1,out,(dP mem h false).2.1,false)
 else (true,mem,iI mem out h i)
def nX (mem out:List Int) (n b k:Nat) (h:Hand) (t:Bool) (l:List Ins):Bool × List Int × List Int × Hand × Bool :=
 if t=true∨h.Done=true then (false,mem,out,h,t) else match l[h.Pc.toNat]? with
  | none=>(false,mem,out,h,t)
  | some i=>wo mem out n b k h i
theorem JY (s n k b:Nat) (mem out:List Int) (A B:List D) (h:Hand) (t:Bool) (code:List (List Ins)) (l:List Ins) (hc:code[k]?=some l) (hcl:code.length≤100) (hll:l.length≤4000) (hA:A.length=k*6) (hk:k<n) (hn:n≤4) (hs0:s≠0) (hm:mem.length≤100000) (hmb:mem.length=b+4) (ho:out.length≤1000000000) (hs:h.Stack.length≤40) (hsh:h.Shelf.length≤60) (hrg:h.Regs.length≤100000000)
  (hw:∀ x∈mem,-2147483648≤x∧x≤2147483647) (hpc:0≤h.Pc∧h.Pc≤4000) (hl:∀ i∈l,BG i mem.length h.Regs.length) :
  Says prog 78 [.rsl code.length (Cs (code.flatMap dCode)),.bx 1 49 (mF s n mem out A h B t),.int .i64 (k:Int)] (.bool (nX mem out n b k h t l).1) (num 1 [.bx 1 49 (mF s n (nX mem out n b k h t l).2.1 (nX mem out n b k h t l).2.2.1 A (nX mem out n b k h t l).2.2.2.1 B (nX mem out n b k h t l).2.2.2.2)]):=by
 have hs1:¬s+1000=0:=by omega
 have hs2:0<s:=by omega
 have hrow:=row_drop dCode 1 (fun _=>rfl) hc
 rw[Nat.mul_one] at hrow
 have hkc:k<code.length:=(List.getElem?_eq_some_iff.1 hc).1
 refine kX [1] [_] Go.Proofs.Tryz.func78 aJi (by simp) ?_
 unfold nX
 obtain⟨pc,st,rg,sh,he,dn⟩:=h
 simp only at hs hsh hrg hpc hl
 obtain⟨p,rfl⟩:=Int.eq_ofNat_of_zero_le hpc.1
 simp only[Int.toNat_natCast]
 cases t with
 | true=>simp[v78,r78,mF,hRow,hC,hk,md hA,md0 hA,mg hA,mg0 hA,ms hA,ms0 hA,mp hA,mp0 hA,lh hA,spl,sp0,sp1,sp2,sp3,sq0,sq1,aY,bf,-List.length_flatMap,aC,aF,aJ,aI,aH,aO,aj,au,aG,ax,aP,aZ,aU,bg,ak,bF,bD,bi,bn,az,aV,aW,ai,af,ah,ay,aQ,hs0,hs1,hs2]
 | false =>
  cases dn with
  | true=>simp[v78,r78,mF,hRow,hC,hk,md hA,md0 hA,mg hA,mg0 hA,ms hA,ms0 hA,mp hA,mp0 hA,lh hA,spl,sp0,sp1,sp2,sp3,sq0,sq1,aY,bf,-List.length_flatMap,aC,aF,aJ,aI,aH,aO,aj,au,aG,ax,aP,aZ,aU,bg,ak,bF,bD,bi,bn,az,aV,aW,ai,af,ah,ay,aQ,hs0,hs1,hs2]
  | false =>
   cases hi:l[p]? with
   | none =>
    have hlp:l.length≤p:=List.getElem?_eq_none_iff.1 hi
    simp[v78,r78,mF,hRow,hC,hk,md hA,md0 hA,mg hA,mg0 hA,ms hA,ms0 hA,mp hA,mp0 hA,lh hA,spl,sp0,sp1,sp2,sp3,sq0,sq1,aY,bf,-List.length_flatMap,aC,aF,aJ,aI,aH,aO,aj,au,aG,ax,aP,aZ,aU,bg,ak,bF,bD,bi,bn,az,aV,aW,ai,af,ah,ay,aQ,hs0,hs1,hs2,hkc,aT,hrow,dCode,hlp]
   | some i =>
    have hlp:p<l.length:=(List.getElem?_eq_some_iff.1 hi).1
    have hrow2:=row_drop Ins.d 3 Ins.d_len hi
    have hlp2:¬l.length≤p:=by omega
    obtain⟨w1,w2,w3,w4⟩:=hl i (List.mem_of_getElem? hi)
    have f0:=iy i.Op 16 19
    simp only[Bool.false_eq_true,or_self,if_false]
    by_cases cw:16≤i.Op∧i.Op≤19
    ·have f:=GN (s+1000) n k b mem out A B ⟨p,st,rg,sh,he,false⟩ i hA hk hn hs1 hm hmb (by simp only;omega) (by simp only;omega) hw hpc (fun h=>w4 (by omega)) cw
     have e:wo mem out n b k ⟨p,st,rg,sh,he,false⟩ i=((mV mem n b k ⟨p,st,rg,sh,he,false⟩ i).1,(mV mem n b k ⟨p,st,rg,sh,he,false⟩ i).2.1,out,(mV mem n b k ⟨p,st,rg,sh,he,false⟩ i).2.2):=by unfold wo;rw[if_pos cw]
     rw[e]
     generalize mV mem n b k _ i=F at f ⊢
     simp[mF,hRow,hC] at f
     simp[v78,r78,mF,hRow,hC,hk,md hA,md0 hA,mg hA,mg0 hA,ms hA,ms0 hA,mp hA,mp0 hA,lh hA,spl,sp0,sp1,sp2,sp3,sq0,sq1,aY,bf,-List.length_flatMap,aC,aF,aJ,aI,aH,aO,aj,au,aG,ax,aP,aZ,aU,bg,ak,bF,bD,bi,bn,az,aV,aW,ai,af,ah,ay,aQ,hs0,hs1,hs2,hkc,aT,hrow,hrow2,dCode,hlp,hlp2]
     refine aX f0 ?_
     simp[mF,hRow,hC,hk,md hA,md0 hA,mg hA,mg0 hA,ms hA,ms0 hA,mp hA,mp0 hA,lh hA,spl,sp0,sp1,sp2,sp3,sq0,sq1,aY,bf,-List.length_flatMap,aC,aF,aJ,aI,aH,aO,aj,au,aG,ax,aP,aZ,aU,bg,ak,bF,bD,bi,bn,az,aV,aW,ai,af,ah,ay,aQ,hs0,hs1,hs2,cw.1,cw.2]
     refine eF [_] rfl f ?_
     simp[mF,hRow,hC,hk,md hA,md0 hA,mg hA,mg0 hA,ms hA,ms0 hA,mp hA,mp0 hA,lh hA,spl,sp0,sp1,sp2,sp3,sq0,sq1,aY,bf,-List.length_flatMap,aC,aF,aJ,aI,aH,aO,aj,au,aG,ax,aP,aZ,aU,bg,ak,bF,bD,bi,bn,az,aV,aW,ai,af,ah,ay,aQ,hs0,hs1,hs2]
    ·have f00:(decide (16≤i.Op)&&decide (i.Op≤19))=false:=by simpa using cw
     rw[f00] at f0
     by_cases cs:(i.Op=5∨i.Op=7)∧60≤sh.length
     ·have fl:(dP mem ⟨p,st,rg,sh,he,false⟩ false).2.2=true:=by
       cases sh with
       | nil=>simp at cs
       | cons p0 r0=>simp[dP]
      have f:=Ad (s+1000) n k mem out A B ⟨p,st,rg,sh,he,false⟩ false hA hk (by simp only;omega) hm
      have e:wo mem out n b k ⟨p,st,rg,sh,he,false⟩ i=(true,(dP mem ⟨p,st,rg,sh,he,false⟩ false).1,out,(dP mem ⟨p,st,rg,sh,he,false⟩ false).2.1,false):=by unfold wo;rw[if_neg cw,if_pos cs]
      rw[fl] at f
      rw[e]
      generalize dP mem _ false=F at f ⊢
      simp[mF,hRow,hC] at f
      have hl60:(60:Int)≤sh.length:=by omega
      simp[v78,r78,mF,hRow,hC,hk,md hA,md0 hA,mg hA,mg0 hA,ms hA,ms0 hA,mp hA,mp0 hA,lh hA,spl,sp0,sp1,sp2,sp3,sq0,sq1,aY,bf,-List.length_flatMap,aC,aF,aJ,aI,aH,aO,aj,au,aG,ax,aP,aZ,aU,bg,ak,bF,bD,bi,bn,az,aV,aW,ai,af,ah,ay,aQ,hs0,hs1,hs2,hkc,aT,hrow,hrow2,dCode,hlp,hlp2]
      refine aX f0 ?_
      rcases cs.1 with c5|c7
      ·simp[mF,hRow,hC,hk,md hA,md0 hA,mg hA,mg0 hA,ms hA,ms0 hA,mp hA,mp0 hA,lh hA,spl,sp0,sp1,sp2,sp3,sq0,sq1,aY,bf,-List.length_flatMap,aC,aF,aJ,aI,aH,aO,aj,au,aG,ax,aP,aZ,aU,bg,ak,bF,bD,bi,bn,az,aV,aW,ai,af,ah,ay,aQ,hs0,hs1,hs2,c5,hl60]
       refine eF [_] rfl f ?_
       simp[mF,hRow,hC,hk,md hA,md0 hA,mg hA,mg0 hA,ms hA,ms0 hA,mp hA,mp0 hA,lh hA,spl,sp0,sp1,sp2,sp3,sq0,sq1,aY,bf,-List.length_flatMap,aC,aF,aJ,aI,aH,aO,aj,au,aG,ax,aP,aZ,aU,bg,ak,bF,bD,bi,bn,az,aV,aW,ai,af,ah,ay,aQ,hs0,hs1,hs2]
      ·simp[mF,hRow,hC,hk,md hA,md0 hA,mg hA,mg0 hA,ms hA,ms0 hA,mp hA,mp0 hA,lh hA,spl,sp0,sp1,sp2,sp3,sq0,sq1,aY,bf,-List.length_flatMap,aC,aF,aJ,aI,aH,aO,aj,au,aG,ax,aP,aZ,aU,bg,ak,bF,bD,bi,bn,az,aV,aW,ai,af,ah,ay,aQ,hs0,hs1,hs2,c7,hl60]
       refine eF [_] rfl f ?_
       simp[mF,hRow,hC,hk,md hA,md0 hA,mg hA,mg0 hA,ms hA,ms0 hA,mp hA,mp0 hA,lh hA,spl,sp0,sp1,sp2,sp3,sq0,sq1,aY,bf,-List.length_flatMap,aC,aF,aJ,aI,aH,aO,aj,au,aG,ax,aP,aZ,aU,bg,ak,bF,bD,bi,bn,az,aV,aW,ai,af,ah,ay,aQ,hs0,hs1,hs2]
     ·have f:=Hu (s+1000) n k mem out A B ⟨p,st,rg,sh,he,false⟩ i hA hk hn hs1 hm ho hs hsh hrg hpc w2 w3 (fun h=>w4 (by omega)) (by omega)
      have e:wo mem out n b k ⟨p,st,rg,sh,he,false⟩ i=(true,mem,iI mem out ⟨p,st,rg,sh,he,false⟩ i):=by unfold wo;rw[if_neg cw,if_neg cs]
      rw[e]
      generalize iI mem out _ i=F at f ⊢
      simp[mF,hRow,hC] at f
      simp[v78,r78,mF,hRow,hC,hk,md hA,md0 hA,mg hA,mg0 hA,ms hA,ms0 hA,mp hA,mp0 hA,lh hA,spl,sp0,sp1,sp2,sp3,sq0,sq1,aY,bf,-List.length_flatMap,aC,aF,aJ,aI,aH,aO,aj,au,aG,ax,aP,aZ,aU,bg,ak,bF,bD,bi,bn,az,aV,aW,ai,af,ah,ay,aQ,hs0,hs1,hs2,hkc,aT,hrow,hrow2,dCode,hlp,hlp2]
      refine aX f0 ?_
      have hl60:(i.Op=5∨i.Op=7)→¬(60:Int)≤sh.length:=fun h h2=>cs ⟨h,by omega⟩
      by_cases c5:i.Op=5
      ·have:=hl60 (.inl c5)
       rw[c5] at f
       simp[mF,hRow,hC,hk,md hA,md0 hA,mg hA,mg0 hA,ms hA,ms0 hA,mp hA,mp0 hA,lh hA,spl,sp0,sp1,sp2,sp3,sq0,sq1,aY,bf,-List.length_flatMap,aC,aF,aJ,aI,aH,aO,aj,au,aG,ax,aP,aZ,aU,bg,ak,bF,bD,bi,bn,az,aV,aW,ai,af,ah,ay,aQ,hs0,hs1,hs2,c5,this]
       refine eF [_] rfl f ?_
       simp[mF,hRow,hC,hk,md hA,md0 hA,mg hA,mg0 hA,ms hA,ms0 hA,mp hA,mp0 hA,lh hA,spl,sp0,sp1,sp2,sp3,sq0,sq1,aY,bf,-List.length_flatMap,aC,aF,aJ,aI,aH,aO,aj,au,aG,ax,aP,aZ,aU,bg,ak,bF,bD,bi,bn,az,aV,aW,ai,af,ah,ay,aQ,hs0,hs1,hs2]
      ·by_cases c7:i.Op=7
       ·have:=hl60 (.inr c7)
        rw[c7] at f
        simp[mF,hRow,hC,hk,md hA,md0 hA,mg hA,mg0 hA,ms hA,ms0 hA,mp hA,mp0 hA,lh hA,spl,sp0,sp1,sp2,sp3,sq0,sq1,aY,bf,-List.length_flatMap,aC,aF,aJ,aI,aH,aO,aj,au,aG,ax,aP,aZ,aU,bg,ak,bF,bD,bi,bn,az,aV,aW,ai,af,ah,ay,aQ,hs0,hs1,hs2,c7,this]
        refine eF [_] rfl f ?_
        simp[mF,hRow,hC,hk,md hA,md0 hA,mg hA,mg0 hA,ms hA,ms0 hA,mp hA,mp0 hA,lh hA,spl,sp0,sp1,sp2,sp3,sq0,sq1,aY,bf,-List.length_flatMap,aC,aF,aJ,aI,aH,aO,aj,au,aG,ax,aP,aZ,aU,bg,ak,bF,bD,bi,bn,az,aV,aW,ai,af,ah,ay,aQ,hs0,hs1,hs2]
       ·simp[mF,hRow,hC,hk,md hA,md0 hA,mg hA,mg0 hA,ms hA,ms0 hA,mp hA,mp0 hA,lh hA,spl,sp0,sp1,sp2,sp3,sq0,sq1,aY,bf,-List.length_flatMap,aC,aF,aJ,aI,aH,aO,aj,au,aG,ax,aP,aZ,aU,bg,ak,bF,bD,bi,bn,az,aV,aW,ai,af,ah,ay,aQ,hs0,hs1,hs2,c5,c7]
        refine eF [_] rfl f ?_
        simp[mF,hRow,hC,hk,md hA,md0 hA,mg hA,mg0 hA,ms hA,ms0 hA,mp hA,mp0 hA,lh hA,spl,sp0,sp1,sp2,sp3,sq0,sq1,aY,bf,-List.length_flatMap,aC,aF,aJ,aI,aH,aO,aj,au,aG,ax,aP,aZ,aU,bg,ak,bF,bD,bi,bn,az,aV,aW,ai,af,ah,ay,aQ,hs0,hs1,hs2]
set_option linter.unusedSectionVars false
def bet (n a b:Int):Bool:=decide (a≤n)&&decide (n≤b)
def Ej (i:Ins) (size mem regs:Int):Bool :=
 if i.Op=1 then jb i.A&&decide (i.B=0)
 else if i.Op=2∨i.Op=3 then bet i.A 0 (regs-1)&&decide (i.B=0)
 else if i.Op=4∨i.Op=5 then bet i.B 1 16&&(decide (0≤i.A)&&decide (i.A≤mem-i.B))
 else if i.Op=6∨i.Op=7∨i.Op=17∨i.Op=18 then bet i.A 0 (mem-1)&&decide (i.B=0)
 else if i.Op=13∨i.Op=14 then bet i.A 0 (size-1)&&decide (i.B=0)
 else bet i.Op 8 19&&(decide (i.A=0)&&decide (i.B=0))
theorem adE {i:Ins} {size:Int} {mem regs:Nat} (h:Ej i size mem regs=true):BG i mem regs:=by
 unfold Ej at h
 split at h
 ·refine⟨by omega,fun h1=>by omega,fun h1=>by omega,fun h1=>by omega⟩
 ·split at h
  ·simp only[bet,Bool.and_eq_true,decide_eq_true_eq] at h
   exact⟨by omega,fun h1=>by omega,fun h1=>by omega,fun h1=>by omega⟩
  ·split at h
   ·simp only[bet,Bool.and_eq_true,decide_eq_true_eq] at h
    exact⟨by omega,fun h1=>by omega,fun h1=>by omega,fun h1=>by omega⟩
   ·split at h
    ·simp only[bet,Bool.and_eq_true,decide_eq_true_eq] at h
     exact⟨by omega,fun h1=>by omega,fun h1=>by omega,fun h1=>by omega⟩
    ·split at h
     ·exact⟨by omega,fun h1=>by omega,fun h1=>by omega,fun h1=>by omega⟩
     ·simp only[bet,Bool.and_eq_true,decide_eq_true_eq] at h
      exact⟨by omega,fun h1=>by omega,fun h1=>by omega,fun h1=>by omega⟩
section
variable (i : Ins) (size mem regs : Int) (hs : 0 ≤ size ∧ size ≤ 100000000) (hm : 0 ≤ mem ∧ mem ≤ 100000000) (hr : 0 ≤ regs ∧ regs ≤ 100000000)
include hs hm hr
theorem NW:Says prog 223 [.agg (Cs i.d),.int .i64 size,.int .i64 mem,.int .i64 regs] (.bool (Ej i size mem regs)) []:=by
 obtain⟨op,a,b⟩:=i
 have w1:IntKind.i64.wrap (regs-1)=regs-1:=by rw[bJ]<;>omega
 have w2:IntKind.i64.wrap (mem-1)=mem-1:=by rw[bJ]<;>omega
 have w3:IntKind.i64.wrap (size-1)=size-1:=by rw[bJ]<;>omega
 have fA:=fun l h=>iE a l h
 have fB:=iE b 1 16
 have fO:=iE op 8 19
 have fW:=wZ a
 refine dD Go.Proofs.Tryz.func223 avQ ?_
 unfold Ej bet
 simp only
 by_cases c1:op=1
 ·subst c1
  generalize jb a=x at fW ⊢
  simp[I7,Jh]
  refine aX fW ?_
  cases x<;>by_cases e:b=0<;>simp[e]
 rw[if_neg c1]
 by_cases c2:op=2∨op=3
 ·rw[if_pos c2]
  have f:=fA 0 (regs-1)
  generalize (decide (0≤a)&&decide (a≤regs-1))=x at f ⊢
  rcases c2 with rfl|rfl
  all_goals
   simp[I7,Jh,w1]
   refine aX f ?_
   cases x<;>by_cases e:b=0<;>simp[e]
 rw[if_neg c2]
 have c21:¬op=2:=fun h=>c2 (.inl h)
 have c22:¬op=3:=fun h=>c2 (.inr h)
 by_cases c4:op=4∨op=5
 ·rw[if_pos c4]
  by_cases d:1≤b∧b≤16
  ·have e:(decide (1≤b)&&decide (b≤16))=true:=by simp[d.1,d.2]
   rw[e] at fB ⊢
   have w4:IntKind.i64.wrap (mem-b)=mem-b:=by rw[bJ]<;>omega
   rcases c4 with rfl|rfl
   all_goals
    simp[I7,Jh]
    refine aX fB ?_
    by_cases e1:0≤a<;>by_cases e2:a≤mem-b<;>simp[e1,e2,w4]
  ·have e:(decide (1≤b)&&decide (b≤16))=false:=by simpa using d
   rw[e] at fB ⊢
   rcases c4 with rfl|rfl
   all_goals
    simp[I7,Jh]
    refine aX fB ?_
    simp
 rw[if_neg c4]
 have c41:¬op=4:=fun h=>c4 (.inl h)
 have c42:¬op=5:=fun h=>c4 (.inr h)
 by_cases c6:op=6∨op=7∨op=17∨op=18
 ·rw[if_pos c6]
  have f:=fA 0 (mem-1)
  generalize (decide (0≤a)&&decide (a≤mem-1))=x at f ⊢
  rcases c6 with rfl|rfl|rfl|rfl
  all_goals
   simp[I7,Jh,w2]
   refine aX f ?_
   cases x<;>by_cases e:b=0<;>simp[e]
 rw[if_neg c6]
 have c61:¬op=6:=fun h=>c6 (.inl h)
 have c62:¬op=7:=fun h=>c6 (.inr (.inl h))
 have c63:¬op=17:=fun h=>c6 (.inr (.inr (.inl h)))
 have c64:¬op=18:=fun h=>c6 (.inr (.inr (.inr h)))
 by_cases c13:op=13∨op=14
 ·rw[if_pos c13]
  have f:=fA 0 (size-1)
  generalize (decide (0≤a)&&decide (a≤size-1))=x at f ⊢
  rcases c13 with rfl|rfl
  all_goals
   simp[I7,Jh,w3]
   refine aX f ?_
   cases x<;>by_cases e:b=0<;>simp[e]
 rw[if_neg c13]
 have c131:¬op=13:=fun h=>c13 (.inl h)
 have c132:¬op=14:=fun h=>c13 (.inr h)
 generalize (decide (8≤op)&&decide (op≤19))=x at fO ⊢
 simp[I7,Jh,c1,c21,c22,c41,c42,c61,c62,c63,c64,c131,c132]
 refine aX fO ?_
 cases x<;>by_cases e1:a=0<;>by_cases e2:b=0<;>simp[e1,e2]
theorem NV:Says prog 209 [.agg (Cs i.d),.int .i64 size,.int .i64 mem,.int .i64 regs] (.bool (Ej i size mem regs)) []:=by
 obtain⟨op,a,b⟩:=i
 have lr:∀ x:Int,a≤x-1↔a<x:=fun x=>by omega
 have fB:=iy b 1 16
 have fW:=iy a (-2147483648) 2147483647
 change Says prog _ _ (.bool (jb a)) [] at fW
 refine dD Go.Proofs.Tryz.func209 av4 ?_
 unfold Ej bet
 simp only[lr]
 by_cases c1:op=1
 ·subst c1
  generalize jb a=x at fW ⊢
  simp[Cc,CU]
  refine aX fW ?_
  cases x<;>by_cases e:b=0<;>simp[e]
 rw[if_neg c1]
 by_cases c2:op=2∨op=3
 ·rw[if_pos c2]
  rcases c2 with rfl|rfl
  all_goals
   by_cases e0:0≤a<;>by_cases e1:a<regs<;>by_cases e:b=0<;>simp[Cc,CU,e0,e1,e]
 rw[if_neg c2]
 have c21:¬op=2:=fun h=>c2 (.inl h)
 have c22:¬op=3:=fun h=>c2 (.inr h)
 by_cases c4:op=4∨op=5
 ·rw[if_pos c4]
  by_cases d:1≤b∧b≤16
  ·have e:(decide (1≤b)&&decide (b≤16))=true:=by simp[d.1,d.2]
   rw[e] at fB ⊢
   by_cases e1:0≤a
   ·by_cases e2:a<mem
    ·have w4:IntKind.i64.wrap (mem-a)=mem-a:=by rw[bJ]<;>omega
     by_cases e3:b≤mem-a
     ·have e4:a≤mem-b:=by omega
      rcases c4 with rfl|rfl
      all_goals
       simp[Cc,CU]
       refine aX fB ?_
       simp[e1,e2,e3,e4,w4]
     ·have e4:¬a≤mem-b:=by omega
      rcases c4 with rfl|rfl
      all_goals
       simp[Cc,CU]
       refine aX fB ?_
       simp[e1,e2,e3,e4,w4]
    ·have e4:¬a≤mem-b:=by omega
     rcases c4 with rfl|rfl
     all_goals
      simp[Cc,CU]
      refine aX fB ?_
      simp[e1,e2,e4]
   ·rcases c4 with rfl|rfl
    all_goals
     simp[Cc,CU]
     refine aX fB ?_
     simp[e1]
  ·have e:(decide (1≤b)&&decide (b≤16))=false:=by simpa using d
   rw[e] at fB ⊢
   rcases c4 with rfl|rfl
   all_goals
    simp[Cc,CU]
    refine aX fB ?_
    simp
 rw[if_neg c4]
 have c41:¬op=4:=fun h=>c4 (.inl h)
 have c42:¬op=5:=fun h=>c4 (.inr h)
 by_cases c6:op=6∨op=7∨op=17∨op=18
 ·rw[if_pos c6]
  rcases c6 with rfl|rfl|rfl|rfl
  all_goals
   by_cases e0:0≤a<;>by_cases e1:a<mem<;>by_cases e:b=0<;>simp[Cc,CU,e0,e1,e]
 rw[if_neg c6]
 have c61:¬op=6:=fun h=>c6 (.inl h)
 have c62:¬op=7:=fun h=>c6 (.inr (.inl h))
 have c63:¬op=17:=fun h=>c6 (.inr (.inr (.inl h)))
 have c64:¬op=18:=fun h=>c6 (.inr (.inr (.inr h)))
 by_cases c13:op=13∨op=14
 ·rw[if_pos c13]
  rcases c13 with rfl|rfl
  all_goals
   by_cases e0:0≤a<;>by_cases e1:a<size<;>by_cases e:b=0<;>simp[Cc,CU,e0,e1,e]
 rw[if_neg c13]
 have c131:¬op=13:=fun h=>c13 (.inl h)
 have c132:¬op=14:=fun h=>c13 (.inr h)
 by_cases c8:op=8∨op=9∨op=10∨op=11∨op=12∨op=15∨op=16∨op=19
 ·have e8:(decide (8≤op)&&decide (op≤19))=true:=by simp;omega
  rw[e8]
  rcases c8 with rfl|rfl|rfl|rfl|rfl|rfl|rfl|rfl
  all_goals
   by_cases e1:a=0<;>by_cases e2:b=0<;>simp[Cc,CU,e1,e2]
 ·have e8:(decide (8≤op)&&decide (op≤19))=false:=by
   have:¬(8≤op∧op≤19):=by omega
   simpa using this
  rw[e8]
  simp only[not_or] at c8
  simp[Cc,CU,c1,c21,c22,c41,c42,c61,c62,c63,c64,c131,c132,c8]
end
section
variable {e e3 : Env} {r o : Nat} {p : List Nat} {x v3 : AV}
theorem bK {c:Prop} [Decidable c]:bz e e3 (.pp r p o) (if c then .dead else .pp r p o)=if p≠[]∧rq e e3 r p=true then .pp r p o else (if c then .dead else .pp r p o):=by
 by_cases h:c
 ·rw[if_pos h];rfl
 ·rw[if_neg h];show (AV.pp r p o)=_;split<;>rfl
theorem bu:bz e e3 (.pp r p o) .dead=if p≠[]∧rq e e3 r p=true then .pp r p o else .dead:=rfl
theorem aED {c:Prop} [Decidable c] (h:p≠[]∧rq e e3 r p=true):bz e e3 (.pp r p o) (if c then .dead else .pp r p o)=.pp r p o:=by rw[bK,if_pos h]
theorem aGD (h:Me x=false):bz e e3 x v3=v3:=by cases x<;>simp[Me] at h<;>rfl
theorem dh {s t:Nat} {cs:List AV}:bz e e3 (.bx s t cs) v3=v3:=rfl
theorem bU {s t n:Nat} {cs:List AV}:bz e e3 (.osl s t n cs) v3=v3:=rfl
theorem bV {k:IntKind} {n:Int}:bz e e3 (.int k n) v3=v3:=rfl
theorem bI {b:Bool}:bz e e3 (.bool b) v3=v3:=rfl
theorem bQ {s:List UInt8}:bz e e3 (.str s) v3=v3:=rfl
theorem bT {n:Nat} {cs:List AV}:bz e e3 (.rsl n cs) v3=v3:=rfl
theorem cO {cs:List AV}:bz e e3 (.rp cs) v3=v3:=rfl
theorem df :bz e e3 (.dead) v3=v3:=rfl
theorem bG {s:Nat}:bz e e3 (.gone s) v3=v3:=rfl
theorem bW {cs:List AV}:bz e e3 (.agg cs) v3=v3:=rfl
theorem bP {sh:List (Option Nat)} {cs:List AV}:bz e e3 (.tup sh cs) v3=v3:=rfl
theorem cZ {r o:Nat} {p:List Nat}:bz e e3 (.ps r p o) v3=v3:=rfl
theorem bY {r' o':Nat} {p':List Nat}:bz e e3 (.pp r p o) (.pp r' p' o')=.pp r' p' o':=rfl
end
def sC (s2 s3 n:Nat) (mem out:List Int) (A:List D) (h:Hand) (B:List D) (t:Bool) (lc:List AV) (cn:Nat) (cc:List AV):List AV:=[.bx s2 49 (mF s3 n mem out A h B t),.rp lc,.rsl cn cc]
def dB (h:Hand) (t:Bool):Int × Hand × Bool:=if t=true then (0,h,true) else (iL h,gy h,h.Stack.isEmpty)
section
variable (s2 s3 n k : Nat) (mem out : List Int) (A B : List D) (h : Hand) (t : Bool) (lc : List AV) (cn : Nat) (cc : List AV) (hA : A.length = k * 6) (hk : k < n) (hs2 : s2 ≠ 0) (hs3 : s3 ≠ 0)
include hA hk hs2 hs3
theorem nJ (hs:h.Stack.length≤1000) :
  kR prog 270 [.bx 1 182 (sC s2 s3 n mem out A h B t lc cn cc),.pp 0 [0,0,1] (k*6)] (.int .i64 (dB h t).1) (num 1 [.bx 1 182 (sC s2 s3 n mem out A (dB h t).2.1 B (dB h t).2.2 lc cn cc)]):=by
 obtain⟨pc,st,rg,sh,he,dn⟩:=h
 cases t with
 | true =>
  refine vI [1] [_] Go.Proofs.Tryz.func270 Rt (by simp) ?_
  simp[abe,abu,sC,mF,hRow,hC,hk,md hA,md0 hA,mg hA,mg0 hA,ms hA,ms0 hA,mp hA,mp0 hA,lh hA,spl,sp0,sp1,sp2,sp3,sq0,sq1,aY,bf,-List.length_flatMap,aC,aF,aJ,aI,aH,aO,aj,au,aG,ax,aP,aZ,aU,bg,ak,bF,bD,bi,bn,az,aV,aW,ai,af,ah,ay,aQ,-bz,bK,bu,bY,dh,bU,bV,bI,bQ,bT,cO,df,bG,bW,bP,cZ,dB,hs2,hs3]
 | false =>
  rcases uj st with rfl|⟨st',x,rfl⟩
  ·refine vI [1] [_] Go.Proofs.Tryz.func270 Rt (by simp) ?_
   simp[abe,abu,sC,mF,hRow,hC,hk,md hA,md0 hA,mg hA,mg0 hA,ms hA,ms0 hA,mp hA,mp0 hA,lh hA,spl,sp0,sp1,sp2,sp3,sq0,sq1,aY,bf,-List.length_flatMap,aC,aF,aJ,aI,aH,aO,aj,au,aG,ax,aP,aZ,aU,bg,ak,bF,bD,bi,bn,az,aV,aW,ai,af,ah,ay,aQ,-bz,bK,bu,bY,dh,bU,bV,bI,bQ,bT,cO,df,bG,bW,bP,cZ,dB,iL,gy,hs2,hs3]
  ·have hst:st'.length≤100000:=by simp at hs;omega
   refine vI [1] [_] Go.Proofs.Tryz.func270 Rt (by simp) ?_
   simp[abe,abu,sC,mF,hRow,hC,hk,md hA,md0 hA,mg hA,mg0 hA,ms hA,ms0 hA,mp hA,mp0 hA,lh hA,spl,sp0,sp1,sp2,sp3,sq0,sq1,aY,bf,-List.length_flatMap,aC,aF,aJ,aI,aH,aO,aj,au,aG,ax,aP,aZ,aU,bg,ak,bF,bD,bi,bn,az,aV,aW,ai,af,ah,ay,aQ,-bz,bK,bu,bY,dh,bU,bV,bI,bQ,bT,cO,df,bG,bW,bP,cZ,dB,iL,gy,hs2,hs3,EE hst,Ut]
def nG (h:Hand) (x:Int) (t:Bool):Hand × Bool:=if t=true∨h.Stack.length=40 then (h,true) else (kD (Mc h x),false)
theorem CW (x:Int) (hs:h.Stack.length≤1000) (hpc:0≤h.Pc∧h.Pc≤4000) :
  kR prog 271 [.bx 1 182 (sC s2 s3 n mem out A h B t lc cn cc),.pp 0 [0,0,1] (k*6),.int .i64 x] (.tup [] []) (num 1 [.bx 1 182 (sC s2 s3 n mem out A (nG h x t).1 B (nG h x t).2 lc cn cc)]):=by
 have w4:IntKind.i64.wrap (h.Pc+1)=h.Pc+1:=by rw[bJ]<;>omega
 obtain⟨pc,st,rg,sh,he,dn⟩:=h
 simp only at hs w4
 have hs':st.length≤100000:=by omega
 have hb2:st.length+1≤100000:=by omega
 refine vI [1] [_] Go.Proofs.Tryz.func271 avv (by simp) ?_
 cases t with
 | true=>simp[abd,abt,sC,mF,hRow,hC,hk,md hA,md0 hA,mg hA,mg0 hA,ms hA,ms0 hA,mp hA,mp0 hA,lh hA,spl,sp0,sp1,sp2,sp3,sq0,sq1,aY,bf,-List.length_flatMap,aC,aF,aJ,aI,aH,aO,aj,au,aG,ax,aP,aZ,aU,bg,ak,bF,bD,bi,bn,az,aV,aW,ai,af,ah,ay,aQ,-bz,bK,bu,bY,dh,bU,bV,bI,bQ,bT,cO,df,bG,bW,bP,cZ,nG,hs2,hs3]
 | false =>
  by_cases c:st.length=40
  ·simp[abd,abt,sC,mF,hRow,hC,hk,md hA,md0 hA,mg hA,mg0 hA,ms hA,ms0 hA,mp hA,mp0 hA,lh hA,spl,sp0,sp1,sp2,sp3,sq0,sq1,aY,bf,-List.length_flatMap,aC,aF,aJ,aI,aH,aO,aj,au,aG,ax,aP,aZ,aU,bg,ak,bF,bD,bi,bn,az,aV,aW,ai,af,ah,ay,aQ,-bz,bK,bu,bY,dh,bU,bV,bI,bQ,bT,cO,df,bG,bW,bP,cZ,nG,hs2,hs3,c]
  ·have c':¬(st.length:Int)=40:=by omega
   simp[abd,abt,sC,mF,hRow,hC,hk,md hA,md0 hA,mg hA,mg0 hA,ms hA,ms0 hA,mp hA,mp0 hA,lh hA,spl,sp0,sp1,sp2,sp3,sq0,sq1,aY,bf,-List.length_flatMap,aC,aF,aJ,aI,aH,aO,aj,au,aG,ax,aP,aZ,aU,bg,ak,bF,bD,bi,bn,az,aV,aW,ai,af,ah,ay,aQ,-bz,bK,bu,bY,dh,bU,bV,bI,bQ,bT,cO,df,bG,bW,bP,cZ,nG,Mc,kD,hs2,hs3,c,c',w4,aU hs',aU hb2]
def jr (h:Hand) (p:Put) (t:Bool):Hand:=if t=true then h else kD (pW h p)
theorem xY (p:Put) (hs:h.Shelf.length≤1000) (hpc:0≤h.Pc∧h.Pc≤4000) :
  kR prog 274 [.bx 1 182 (sC s2 s3 n mem out A h B t lc cn cc),.pp 0 [0,0,1] (k*6),.int .i64 p.At,.int .i64 p.N] (.tup [] []) (num 1 [.bx 1 182 (sC s2 s3 n mem out A (jr h p t) B t lc cn cc)]):=by
 have w4:IntKind.i64.wrap (h.Pc+1)=h.Pc+1:=by rw[bJ]<;>omega
 obtain⟨pc,st,rg,sh,he,dn⟩:=h
 simp only at hs w4
 have hs':sh.length≤100000:=by omega
 have hb2:sh.length+1≤100000:=by omega
 refine vI [1] [_] Go.Proofs.Tryz.func274 avr (by simp) ?_
 cases t with
 | true=>simp[atj,atE,sC,mF,hRow,hC,hk,md hA,md0 hA,mg hA,mg0 hA,ms hA,ms0 hA,mp hA,mp0 hA,lh hA,spl,sp0,sp1,sp2,sp3,sq0,sq1,aY,bf,-List.length_flatMap,aC,aF,aJ,aI,aH,aO,aj,au,aG,ax,aP,aZ,aU,bg,ak,bF,bD,bi,bn,az,aV,aW,ai,af,ah,ay,aQ,-bz,bK,bu,bY,dh,bU,bV,bI,bQ,bT,cO,df,bG,bW,bP,cZ,jr,hs2,hs3]
 | false=>simp[atj,atE,sC,mF,hRow,hC,hk,md hA,md0 hA,mg hA,mg0 hA,ms hA,ms0 hA,mp hA,mp0 hA,lh hA,spl,sp0,sp1,sp2,sp3,sq0,sq1,aY,bf,-List.length_flatMap,aC,aF,aJ,aI,aH,aO,aj,au,aG,ax,aP,aZ,aU,bg,ak,bF,bD,bi,bn,az,aV,aW,ai,af,ah,ay,aQ,-bz,bK,bu,bY,dh,bU,bV,bI,bQ,bT,cO,df,bG,bW,bP,cZ,jr,pW,kD,hs2,hs3,w4,aU hs',aU hb2]
end
end Go.AmC
