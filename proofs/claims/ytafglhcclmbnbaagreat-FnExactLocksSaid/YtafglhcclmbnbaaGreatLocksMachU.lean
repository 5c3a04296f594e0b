import Derived.Test.YtafglhcclmbnbaaGreatLocksMachR
set_option linter.unusedSimpArgs false
set_option linter.unusedVariables false
set_option linter.unusedSectionVars false
set_option maxRecDepth 20000
set_option maxHeartbeats 8000000
namespace Go.AmC
open Go Go.AM
open Go.Proofs.Tryz (prog)
def stepJ (mem out:List Int) (n b k:Nat) (h:Hand) (i:Ins):Bool × List Int × List Int × Hand × Bool :=
 if (i.Op=5∨i.Op=7)∧h.Shelf.length=60 then ((dP mem h false).2.2,(dP mem h false).1,out,(dP mem h false).2.1,false)
 else if (i.Op=16∨i.Op=17∨i.Op=19)∧h.Shelf≠[] then ((dP mem h false).2.2,(dP mem h false).1,out,(dP mem h false).2.1,false)
 else if i.Op=16 then ((yw mem n b k h).1,(yw mem n b k h).2.1,out,(yw mem n b k h).2.2,false)
 else if i.Op=18 then ((vW mem h false i.A.toNat).1,mem,out,(vW mem h false i.A.toNat).2.1,(vW mem h false i.A.toNat).2.2)
 else (true,Gs mem out h i)
def stepG (mem out:List Int) (n b k:Nat) (h:Hand) (t:Bool) (l:List Ins):Bool × List Int × List Int × Hand × Bool :=
 if t=true∨h.Done=true then (false,mem,out,h,t) else match l[h.Pc.toNat]? with
  | none=>(false,mem,out,h,t)
  | some i=>stepJ mem out n b k h i
section
variable (s2 s3 n k : Nat) (mem out : List Int) (A B : List D) (h : Hand) (t : Bool) (lc : List AV) (hA : A.length = k * 6) (hk : k < n) (hs2 : s2 ≠ 0) (hs3 : s3 ≠ 0)
include hA hk hs2 hs3
theorem G7 (b:Nat) (la lb:AV) (nv nr:Nat) (V R:List AV) (size:Int) (hb:size+nv+28=(b:Int)) (hsz:0≤size∧size≤1000000) (hnv:nv≤1000000) (hlc:lc=vk la lb (.rsl nv V) (.rsl nr R) size)
  (code:List (List Ins)) (l:List Ins) (hc:code[k]?=some l) (hcl:code.length≤100) (hll:l.length≤4000) (hn:n≤4) (hm:mem.length≤100000) (hmb:mem.length=b+4) (ho:out.length≤1000000000) (hs:h.Stack.length≤40) (hsh:h.Shelf.length≤60)
  (hw:∀ x∈mem,-2147483648≤x∧x≤2147483647) (hpc:0≤h.Pc∧h.Pc≤4000) (hl:∀ i∈l,BG i mem.length h.Regs.length) :
  Says prog 134 [.bx 1 182 (sC s2 s3 n mem out A h B t lc code.length (Cs (code.flatMap dCode))),.int .i64 (k:Int)] (.bool (stepG mem out n b k h t l).1) (num 1 [.bx 1 182 (sC s2 s3 n (stepG mem out n b k h t l).2.1 (stepG mem out n b k h t l).2.2.1 A (stepG mem out n b k h t l).2.2.2.1 B (stepG mem out n b k h t l).2.2.2.2 lc code.length (Cs (code.flatMap dCode)))]):=by
 have p2:0<s2:=by omega
 have p3:0<s3:=by omega
 have hrow:=row_drop dCode 1 (fun _=>rfl) hc
 rw[Nat.mul_one] at hrow
 have hkc:k<code.length:=(List.getElem?_eq_some_iff.1 hc).1
 have hw1:IntKind.i64.wrap ((n:Int)-1)=(n:Int)-1:=by rw[bJ]<;>omega
 have g:=iE (k:Int) 0 ((n:Int)-1)
 have c0:(decide (0≤(k:Int))&&decide ((k:Int)≤(n:Int)-1))=true:=by simp;omega
 rw[c0] at g
 have fl:Says prog 203 [.rp lc,.int .i64 (k:Int)] (.int .i64 ((b+k:Nat):Int)) []:=by
  have:=vG la lb nv nr V R size hsz hnv k (by omega)
  rw[hb,←hlc] at this
  rw[Int.natCast_add];exact this
 refine kX [1] [_] Go.Proofs.Tryz.func134 awO (by simp) ?_
 unfold stepG
 cases t with
 | true =>
  obtain⟨pc,st,rg,sh,he,dn⟩:=h
  simp[I8,Ji,sC,mF,hRow,hC,hk,md hA,md0 hA,mg hA,mg0 hA,ms hA,ms0 hA,mp hA,mp0 hA,lh hA,spl,sp0,sp1,sp2,sp3,sq0,sq1,aY,bf,-List.length_flatMap,aC,aF,aJ,aI,aH,aO,aj,au,aG,ax,aP,aZ,aU,bg,ak,bF,bD,bi,bn,az,aV,aW,ai,af,ah,ay,aQ,-bz,bK,bu,bY,dh,bU,bV,bI,bQ,bT,cO,df,bG,bW,bP,cZ,hs2,hs3]
 | false =>
  by_cases cd:h.Done=true
  ·obtain⟨pc,st,rg,sh,he,dn⟩:=h
   simp only at cd;subst cd
   simp[I8,Ji,sC,mF,hRow,hC,hk,md hA,md0 hA,mg hA,mg0 hA,ms hA,ms0 hA,mp hA,mp0 hA,lh hA,spl,sp0,sp1,sp2,sp3,sq0,sq1,aY,bf,-List.length_flatMap,aC,aF,aJ,aI,aH,aO,aj,au,aG,ax,aP,aZ,aU,bg,ak,bF,bD,bi,bn,az,aV,aW,ai,af,ah,ay,aQ,-bz,bK,bu,bY,dh,bU,bV,bI,bQ,bT,cO,df,bG,bW,bP,cZ,hs2,hs3,hw1]
   refine aX g ?_
   simp[mF,hRow,hC,hk,md hA,md0 hA,mg hA,mg0 hA,ms hA,ms0 hA,mp hA,mp0 hA,lh hA,spl,sp0,sp1,sp2,sp3,sq0,sq1,aY,bf,-List.length_flatMap,aC,aF,aJ,aI,aH,aO,aj,au,aG,ax,aP,aZ,aU,bg,ak,bF,bD,bi,bn,az,aV,aW,ai,af,ah,ay,aQ,-bz,bK,bu,bY,dh,bU,bV,bI,bQ,bT,cO,df,bG,bW,bP,cZ,hs2,hs3]
  ·cases hi:l[h.Pc.toNat]? with
   | none =>
    obtain⟨p,hp⟩:=Int.eq_ofNat_of_zero_le hpc.1
    rw[hp] at hi
    simp only[Int.toNat_natCast] at hi
    have hlp:l.length≤p:=List.getElem?_eq_none_iff.1 hi
    obtain⟨pc,st,rg,sh,he,dn⟩:=h
    simp only at hp cd;subst hp
    cases dn with
    | true=>exact absurd rfl cd
    | false =>
     simp[I8,Ji,sC,mF,hRow,hC,hk,md hA,md0 hA,mg hA,mg0 hA,ms hA,ms0 hA,mp hA,mp0 hA,lh hA,spl,sp0,sp1,sp2,sp3,sq0,sq1,aY,bf,-List.length_flatMap,aC,aF,aJ,aI,aH,aO,aj,au,aG,ax,aP,aZ,aU,bg,ak,bF,bD,bi,bn,az,aV,aW,ai,af,ah,ay,aQ,-bz,bK,bu,bY,dh,bU,bV,bI,bQ,bT,cO,df,bG,bW,bP,cZ,hs2,hs3,hw1]
     refine aX g ?_
     simp[mF,hRow,hC,hk,md hA,md0 hA,mg hA,mg0 hA,ms hA,ms0 hA,mp hA,mp0 hA,lh hA,spl,sp0,sp1,sp2,sp3,sq0,sq1,aY,bf,-List.length_flatMap,aC,aF,aJ,aI,aH,aO,aj,au,aG,ax,aP,aZ,aU,bg,ak,bF,bD,bi,bn,az,aV,aW,ai,af,ah,ay,aQ,-bz,bK,bu,bY,dh,bU,bV,bI,bQ,bT,cO,df,bG,bW,bP,cZ,hs2,hs3,hkc,aT,hrow,dCode,hlp]
   | some i =>
    have hbar:=Ld (s2+1000) (s3+1000) n k mem out A B h false lc code.length (Cs (code.flatMap dCode)) hA hk (by omega) (by omega) b la lb nv nr V R size hb hsz hnv hlc hn hm hmb hw hpc
    have hwait:=fun (j:Nat) hj=>JU (s2+1000) (s3+1000) n k mem out A B h false lc code.length (Cs (code.flatMap dCode)) hA hk (by omega) (by omega) j (by omega) hpc hj
    have hflush:=Ic (s3+1000) n k mem out A B h false hA hk (by omega) (by omega) (by omega) hm
    clear hlc
    obtain⟨w1,w2,w3,w4⟩:=hl i (List.mem_of_getElem? hi)
    obtain⟨p,hp⟩:=Int.eq_ofNat_of_zero_le hpc.1
    have hi':l[p]?=some i:=by rw[hp] at hi;exact hi
    have hlp:p<l.length:=(List.getElem?_eq_some_iff.1 hi').1
    have hlp2:¬l.length≤p:=by omega
    have hrow2:=row_drop Ins.d 3 Ins.d_len hi'
    have hdn:h.Done=false:=by cases e:h.Done with|true=>exact absurd e cd|false=>rfl
    rw[hdn]
    simp only[Bool.false_eq_true,or_self,if_false]
    unfold stepJ
    by_cases cf:((i.Op=5∨i.Op=7)∧h.Shelf.length=60)∨((i.Op=16∨i.Op=17∨i.Op=19)∧h.Shelf≠[])
    ·have e:stepJ mem out n b k h i=((dP mem h false).2.2,(dP mem h false).1,out,(dP mem h false).2.1,false):=by
      unfold stepJ
      rcases cf with cf|cf
      ·rw[if_pos cf]
      ·by_cases c:(i.Op=5∨i.Op=7)∧h.Shelf.length=60
       ·rw[if_pos c]
       ·rw[if_neg c,if_pos cf]
     unfold stepJ at e
     rw[e]
     generalize dP mem h false=F at hflush ⊢
     obtain⟨mem1,⟨pc,st,rg,sh,he,dn⟩,r1⟩:=F
     obtain⟨pc0,st0,rg0,sh0,he0,dn0⟩:=h
     simp only at hp cf hdn;subst hp;subst hdn
     simp[mF,hRow,hC] at hflush
     obtain⟨op,a,ib⟩:=i
     simp only at cf
     simp[I8,Ji,sC,mF,hRow,hC,hk,md hA,md0 hA,mg hA,mg0 hA,ms hA,ms0 hA,mp hA,mp0 hA,lh hA,spl,sp0,sp1,sp2,sp3,sq0,sq1,aY,bf,-List.length_flatMap,aC,aF,aJ,aI,aH,aO,aj,au,aG,ax,aP,aZ,aU,bg,ak,bF,bD,bi,bn,az,aV,aW,ai,af,ah,ay,aQ,-bz,bK,bu,bY,dh,bU,bV,bI,bQ,bT,cO,df,bG,bW,bP,cZ,hs2,hs3,hw1]
     refine aX g ?_
     rcases cf with ⟨rfl|rfl,c60⟩|⟨rfl|rfl|rfl,cne⟩
     ·simp[mF,hRow,hC,hk,md hA,md0 hA,mg hA,mg0 hA,ms hA,ms0 hA,mp hA,mp0 hA,lh hA,spl,sp0,sp1,sp2,sp3,sq0,sq1,aY,bf,-List.length_flatMap,aC,aF,aJ,aI,aH,aO,aj,au,aG,ax,aP,aZ,aU,bg,ak,bF,bD,bi,bn,az,aV,aW,ai,af,ah,ay,aQ,-bz,bK,bu,bY,dh,bU,bV,bI,bQ,bT,cO,df,bG,bW,bP,cZ,hs2,hs3,p2,p3,hkc,aT,hrow,hrow2,dCode,hlp,hlp2,c60]
      refine eQ [_] Ee (ik (c60▸hflush) (by simp[mF,hRow,hC,hk,md hA,md0 hA,mg hA,mg0 hA,ms hA,ms0 hA,mp hA,mp0 hA,lh hA,spl,sp0,sp1,sp2,sp3,sq0,sq1,aY,bf,-List.length_flatMap,aC,aF,aJ,aI,aH,aO,aj,au,aG,ax,aP,aZ,aU,bg,ak,bF,bD,bi,bn,az,aV,aW,ai,af,ah,ay,aQ,-bz,bK,bu,bY,dh,bU,bV,bI,bQ,bT,cO,df,bG,bW,bP,cZ])) ?_
      simp[mF,hRow,hC,hk,md hA,md0 hA,mg hA,mg0 hA,ms hA,ms0 hA,mp hA,mp0 hA,lh hA,spl,sp0,sp1,sp2,sp3,sq0,sq1,aY,bf,-List.length_flatMap,aC,aF,aJ,aI,aH,aO,aj,au,aG,ax,aP,aZ,aU,bg,ak,bF,bD,bi,bn,az,aV,aW,ai,af,ah,ay,aQ,-bz,bK,bu,bY,dh,bU,bV,bI,bQ,bT,cO,df,bG,bW,bP,cZ,hs2,hs3,p2,p3,c60]
     ·simp[mF,hRow,hC,hk,md hA,md0 hA,mg hA,mg0 hA,ms hA,ms0 hA,mp hA,mp0 hA,lh hA,spl,sp0,sp1,sp2,sp3,sq0,sq1,aY,bf,-List.length_flatMap,aC,aF,aJ,aI,aH,aO,aj,au,aG,ax,aP,aZ,aU,bg,ak,bF,bD,bi,bn,az,aV,aW,ai,af,ah,ay,aQ,-bz,bK,bu,bY,dh,bU,bV,bI,bQ,bT,cO,df,bG,bW,bP,cZ,hs2,hs3,p2,p3,hkc,aT,hrow,hrow2,dCode,hlp,hlp2,c60]
      refine eQ [_] Ee (ik (c60▸hflush) (by simp[mF,hRow,hC,hk,md hA,md0 hA,mg hA,mg0 hA,ms hA,ms0 hA,mp hA,mp0 hA,lh hA,spl,sp0,sp1,sp2,sp3,sq0,sq1,aY,bf,-List.length_flatMap,aC,aF,aJ,aI,aH,aO,aj,au,aG,ax,aP,aZ,aU,bg,ak,bF,bD,bi,bn,az,aV,aW,ai,af,ah,ay,aQ,-bz,bK,bu,bY,dh,bU,bV,bI,bQ,bT,cO,df,bG,bW,bP,cZ])) ?_
      simp[mF,hRow,hC,hk,md hA,md0 hA,mg hA,mg0 hA,ms hA,ms0 hA,mp hA,mp0 hA,lh hA,spl,sp0,sp1,sp2,sp3,sq0,sq1,aY,bf,-List.length_flatMap,aC,aF,aJ,aI,aH,aO,aj,au,aG,ax,aP,aZ,aU,bg,ak,bF,bD,bi,bn,az,aV,aW,ai,af,ah,ay,aQ,-bz,bK,bu,bY,dh,bU,bV,bI,bQ,bT,cO,df,bG,bW,bP,cZ,hs2,hs3,p2,p3,c60]
     all_goals
      have hpos:0<sh0.length:=by cases sh0 with|nil=>exact absurd rfl cne|cons a b=>simp
      simp[mF,hRow,hC,hk,md hA,md0 hA,mg hA,mg0 hA,ms hA,ms0 hA,mp hA,mp0 hA,lh hA,spl,sp0,sp1,sp2,sp3,sq0,sq1,aY,bf,-List.length_flatMap,aC,aF,aJ,aI,aH,aO,aj,au,aG,ax,aP,aZ,aU,bg,ak,bF,bD,bi,bn,az,aV,aW,ai,af,ah,ay,aQ,-bz,bK,bu,bY,dh,bU,bV,bI,bQ,bT,cO,df,bG,bW,bP,cZ,hs2,hs3,p2,p3,hkc,aT,hrow,hrow2,dCode,hlp,hlp2,hpos]
      refine eQ [_] Ee (ik hflush (by simp[mF,hRow,hC,hk,md hA,md0 hA,mg hA,mg0 hA,ms hA,ms0 hA,mp hA,mp0 hA,lh hA,spl,sp0,sp1,sp2,sp3,sq0,sq1,aY,bf,-List.length_flatMap,aC,aF,aJ,aI,aH,aO,aj,au,aG,ax,aP,aZ,aU,bg,ak,bF,bD,bi,bn,az,aV,aW,ai,af,ah,ay,aQ,-bz,bK,bu,bY,dh,bU,bV,bI,bQ,bT,cO,df,bG,bW,bP,cZ])) ?_
      simp[mF,hRow,hC,hk,md hA,md0 hA,mg hA,mg0 hA,ms hA,ms0 hA,mp hA,mp0 hA,lh hA,spl,sp0,sp1,sp2,sp3,sq0,sq1,aY,bf,-List.length_flatMap,aC,aF,aJ,aI,aH,aO,aj,au,aG,ax,aP,aZ,aU,bg,ak,bF,bD,bi,bn,az,aV,aW,ai,af,ah,ay,aQ,-bz,bK,bu,bY,dh,bU,bV,bI,bQ,bT,cO,df,bG,bW,bP,cZ,hs2,hs3,p2,p3]
    ·have cf1:¬((i.Op=5∨i.Op=7)∧h.Shelf.length=60):=fun h=>cf (.inl h)
     have cf2:¬((i.Op=16∨i.Op=17∨i.Op=19)∧h.Shelf≠[]):=fun h=>cf (.inr h)
     rw[if_neg cf1,if_neg cf2]
     by_cases c16:i.Op=16
     ·rw[if_pos c16]
      have hsh0:h.Shelf=[]:=Classical.byContradiction fun hh=>cf2 ⟨.inl c16,hh⟩
      generalize yw mem n b k h=F at hbar ⊢
      obtain⟨r1,mem1,⟨pc,st,rg,sh,he,dn⟩⟩:=F
      obtain⟨pc0,st0,rg0,sh0,he0,dn0⟩:=h
      simp only at hp hdn hsh0;subst hp;subst hdn;subst hsh0
      simp[sC,mF,hRow,hC,-Int.natCast_add] at hbar
      obtain⟨op,a,ib⟩:=i
      simp only at c16;subst c16
      simp[I8,Ji,sC,mF,hRow,hC,hk,md hA,md0 hA,mg hA,mg0 hA,ms hA,ms0 hA,mp hA,mp0 hA,lh hA,spl,sp0,sp1,sp2,sp3,sq0,sq1,aY,bf,-List.length_flatMap,aC,aF,aJ,aI,aH,aO,aj,au,aG,ax,aP,aZ,aU,bg,ak,bF,bD,bi,bn,az,aV,aW,ai,af,ah,ay,aQ,-bz,bK,bu,bY,dh,bU,bV,bI,bQ,bT,cO,df,bG,bW,bP,cZ,hs2,hs3,hw1]
      refine aX g ?_
      simp[mF,hRow,hC,hk,md hA,md0 hA,mg hA,mg0 hA,ms hA,ms0 hA,mp hA,mp0 hA,lh hA,spl,sp0,sp1,sp2,sp3,sq0,sq1,aY,bf,-List.length_flatMap,aC,aF,aJ,aI,aH,aO,aj,au,aG,ax,aP,aZ,aU,bg,ak,bF,bD,bi,bn,az,aV,aW,ai,af,ah,ay,aQ,-bz,bK,bu,bY,dh,bU,bV,bI,bQ,bT,cO,df,bG,bW,bP,cZ,hs2,hs3,p2,p3,hkc,aT,hrow,hrow2,dCode,hlp,hlp2]
      refine aX fl ?_
      simp[mF,hRow,hC,hk,md hA,md0 hA,mg hA,mg0 hA,ms hA,ms0 hA,mp hA,mp0 hA,lh hA,spl,sp0,sp1,sp2,sp3,sq0,sq1,aY,bf,-List.length_flatMap,aC,aF,aJ,aI,aH,aO,aj,au,aG,ax,aP,aZ,aU,bg,ak,bF,bD,bi,bn,az,aV,aW,ai,af,ah,ay,aQ,-bz,bK,bu,bY,dh,bU,bV,bI,bQ,bT,cO,df,bG,bW,bP,cZ,hs2,hs3,p2,p3,-Int.natCast_add]
      refine eQ [_] rfl hbar ?_
      simp[mF,hRow,hC,hk,md hA,md0 hA,mg hA,mg0 hA,ms hA,ms0 hA,mp hA,mp0 hA,lh hA,spl,sp0,sp1,sp2,sp3,sq0,sq1,aY,bf,-List.length_flatMap,aC,aF,aJ,aI,aH,aO,aj,au,aG,ax,aP,aZ,aU,bg,ak,bF,bD,bi,bn,az,aV,aW,ai,af,ah,ay,aQ,-bz,bK,bu,bY,dh,bU,bV,bI,bQ,bT,cO,df,bG,bW,bP,cZ,hs2,hs3,p2,p3]
     ·rw[if_neg c16]
      by_cases c18:i.Op=18
      ·rw[if_pos c18]
       obtain⟨q0,q1⟩:=w4 (.inr (.inr (.inr c18)))
       obtain⟨j,hj⟩:=Int.eq_ofNat_of_zero_le q0
       have hj2:j<mem.length:=by omega
       have hwt:=hwait j hj2
       rw[hj]
       simp only[Int.toNat_natCast]
       generalize vW mem h false j=F at hwt ⊢
       obtain⟨r1,⟨pc,st,rg,sh,he,dn⟩,t1⟩:=F
       obtain⟨pc0,st0,rg0,sh0,he0,dn0⟩:=h
       simp only at hp hdn;subst hp;subst hdn
       simp[sC,mF,hRow,hC] at hwt
       obtain⟨op,a,ib⟩:=i
       simp only at c18 hj;subst c18;subst hj
       simp[I8,Ji,sC,mF,hRow,hC,hk,md hA,md0 hA,mg hA,mg0 hA,ms hA,ms0 hA,mp hA,mp0 hA,lh hA,spl,sp0,sp1,sp2,sp3,sq0,sq1,aY,bf,-List.length_flatMap,aC,aF,aJ,aI,aH,aO,aj,au,aG,ax,aP,aZ,aU,bg,ak,bF,bD,bi,bn,az,aV,aW,ai,af,ah,ay,aQ,-bz,bK,bu,bY,dh,bU,bV,bI,bQ,bT,cO,df,bG,bW,bP,cZ,hs2,hs3,hw1]
       refine aX g ?_
       simp[mF,hRow,hC,hk,md hA,md0 hA,mg hA,mg0 hA,ms hA,ms0 hA,mp hA,mp0 hA,lh hA,spl,sp0,sp1,sp2,sp3,sq0,sq1,aY,bf,-List.length_flatMap,aC,aF,aJ,aI,aH,aO,aj,au,aG,ax,aP,aZ,aU,bg,ak,bF,bD,bi,bn,az,aV,aW,ai,af,ah,ay,aQ,-bz,bK,bu,bY,dh,bU,bV,bI,bQ,bT,cO,df,bG,bW,bP,cZ,hs2,hs3,p2,p3,hkc,aT,hrow,hrow2,dCode,hlp,hlp2]
       refine eQ [_] rfl hwt ?_
       simp[mF,hRow,hC,hk,md hA,md0 hA,mg hA,mg0 hA,ms hA,ms0 hA,mp hA,mp0 hA,lh hA,spl,sp0,sp1,sp2,sp3,sq0,sq1,aY,bf,-List.length_flatMap,aC,aF,aJ,aI,aH,aO,aj,au,aG,ax,aP,aZ,aU,bg,ak,bF,bD,bi,bn,az,aV,aW,ai,af,ah,ay,aQ,-bz,bK,bu,bY,dh,bU,bV,bI,bQ,bT,cO,df,bG,bW,bP,cZ,hs2,hs3,p2,p3]
      ·rw[if_neg c18]
       have hact:=Ov (s2+1000) (s3+1000) n k mem out A B h lc code.length (Cs (code.flatMap dCode)) hA hk (by omega) (by omega) i hs hsh hpc hm ho w2 w3 (fun h=>w4 (by omega)) ⟨w1,c16,c18⟩
       generalize Gs mem out h i=F at hact ⊢
       obtain⟨mem1,out1,⟨pc,st,rg,sh,he,dn⟩,t1⟩:=F
       obtain⟨pc0,st0,rg0,sh0,he0,dn0⟩:=h
       simp only at hp hdn;subst hp;subst hdn
       obtain⟨op,a,ib⟩:=i
       simp[sC,mF,hRow,hC] at hact
       simp only at c16 c18 cf1 cf2
       simp[I8,Ji,sC,mF,hRow,hC,hk,md hA,md0 hA,mg hA,mg0 hA,ms hA,ms0 hA,mp hA,mp0 hA,lh hA,spl,sp0,sp1,sp2,sp3,sq0,sq1,aY,bf,-List.length_flatMap,aC,aF,aJ,aI,aH,aO,aj,au,aG,ax,aP,aZ,aU,bg,ak,bF,bD,bi,bn,az,aV,aW,ai,af,ah,ay,aQ,-bz,bK,bu,bY,dh,bU,bV,bI,bQ,bT,cO,df,bG,bW,bP,cZ,hs2,hs3,hw1]
       refine aX g ?_
       by_cases o5:op=5
       ·have c60:¬sh0.length=60:=fun h=>cf1 ⟨.inl o5,h⟩
        have c60':¬(sh0.length:Int)=60:=by omega
        subst o5
        simp[mF,hRow,hC,hk,md hA,md0 hA,mg hA,mg0 hA,ms hA,ms0 hA,mp hA,mp0 hA,lh hA,spl,sp0,sp1,sp2,sp3,sq0,sq1,aY,bf,-List.length_flatMap,aC,aF,aJ,aI,aH,aO,aj,au,aG,ax,aP,aZ,aU,bg,ak,bF,bD,bi,bn,az,aV,aW,ai,af,ah,ay,aQ,-bz,bK,bu,bY,dh,bU,bV,bI,bQ,bT,cO,df,bG,bW,bP,cZ,hs2,hs3,p2,p3,hkc,aT,hrow,hrow2,dCode,hlp,hlp2,c60,c60']
        refine eQ [_] rfl hact ?_
        simp[mF,hRow,hC,hk,md hA,md0 hA,mg hA,mg0 hA,ms hA,ms0 hA,mp hA,mp0 hA,lh hA,spl,sp0,sp1,sp2,sp3,sq0,sq1,aY,bf,-List.length_flatMap,aC,aF,aJ,aI,aH,aO,aj,au,aG,ax,aP,aZ,aU,bg,ak,bF,bD,bi,bn,az,aV,aW,ai,af,ah,ay,aQ,-bz,bK,bu,bY,dh,bU,bV,bI,bQ,bT,cO,df,bG,bW,bP,cZ,hs2,hs3,p2,p3]
       by_cases o7:op=7
       ·have c60:¬sh0.length=60:=fun h=>cf1 ⟨.inr o7,h⟩
        have c60':¬(sh0.length:Int)=60:=by omega
        subst o7
        simp[mF,hRow,hC,hk,md hA,md0 hA,mg hA,mg0 hA,ms hA,ms0 hA,mp hA,mp0 hA,lh hA,spl,sp0,sp1,sp2,sp3,sq0,sq1,aY,bf,-List.length_flatMap,aC,aF,aJ,aI,aH,aO,aj,au,aG,ax,aP,aZ,aU,bg,ak,bF,bD,bi,bn,az,aV,aW,ai,af,ah,ay,aQ,-bz,bK,bu,bY,dh,bU,bV,bI,bQ,bT,cO,df,bG,bW,bP,cZ,hs2,hs3,p2,p3,hkc,aT,hrow,hrow2,dCode,hlp,hlp2,c60,c60']
        refine eQ [_] rfl hact ?_
        simp[mF,hRow,hC,hk,md hA,md0 hA,mg hA,mg0 hA,ms hA,ms0 hA,mp hA,mp0 hA,lh hA,spl,sp0,sp1,sp2,sp3,sq0,sq1,aY,bf,-List.length_flatMap,aC,aF,aJ,aI,aH,aO,aj,au,aG,ax,aP,aZ,aU,bg,ak,bF,bD,bi,bn,az,aV,aW,ai,af,ah,ay,aQ,-bz,bK,bu,bY,dh,bU,bV,bI,bQ,bT,cO,df,bG,bW,bP,cZ,hs2,hs3,p2,p3]
       by_cases o17:op=17
       ·have hsh0:sh0=[]:=Classical.byContradiction fun hh=>cf2 ⟨.inr (.inl o17),hh⟩
        subst hsh0;subst o17
        simp at hact
        simp[mF,hRow,hC,hk,md hA,md0 hA,mg hA,mg0 hA,ms hA,ms0 hA,mp hA,mp0 hA,lh hA,spl,sp0,sp1,sp2,sp3,sq0,sq1,aY,bf,-List.length_flatMap,aC,aF,aJ,aI,aH,aO,aj,au,aG,ax,aP,aZ,aU,bg,ak,bF,bD,bi,bn,az,aV,aW,ai,af,ah,ay,aQ,-bz,bK,bu,bY,dh,bU,bV,bI,bQ,bT,cO,df,bG,bW,bP,cZ,hs2,hs3,p2,p3,hkc,aT,hrow,hrow2,dCode,hlp,hlp2]
        refine eQ [_] rfl hact ?_
        simp[mF,hRow,hC,hk,md hA,md0 hA,mg hA,mg0 hA,ms hA,ms0 hA,mp hA,mp0 hA,lh hA,spl,sp0,sp1,sp2,sp3,sq0,sq1,aY,bf,-List.length_flatMap,aC,aF,aJ,aI,aH,aO,aj,au,aG,ax,aP,aZ,aU,bg,ak,bF,bD,bi,bn,az,aV,aW,ai,af,ah,ay,aQ,-bz,bK,bu,bY,dh,bU,bV,bI,bQ,bT,cO,df,bG,bW,bP,cZ,hs2,hs3,p2,p3]
       by_cases o19:op=19
       ·have hsh0:sh0=[]:=Classical.byContradiction fun hh=>cf2 ⟨.inr (.inr o19),hh⟩
        subst hsh0;subst o19
        simp at hact
        simp[mF,hRow,hC,hk,md hA,md0 hA,mg hA,mg0 hA,ms hA,ms0 hA,mp hA,mp0 hA,lh hA,spl,sp0,sp1,sp2,sp3,sq0,sq1,aY,bf,-List.length_flatMap,aC,aF,aJ,aI,aH,aO,aj,au,aG,ax,aP,aZ,aU,bg,ak,bF,bD,bi,bn,az,aV,aW,ai,af,ah,ay,aQ,-bz,bK,bu,bY,dh,bU,bV,bI,bQ,bT,cO,df,bG,bW,bP,cZ,hs2,hs3,p2,p3,hkc,aT,hrow,hrow2,dCode,hlp,hlp2]
        refine eQ [_] rfl hact ?_
        simp[mF,hRow,hC,hk,md hA,md0 hA,mg hA,mg0 hA,ms hA,ms0 hA,mp hA,mp0 hA,lh hA,spl,sp0,sp1,sp2,sp3,sq0,sq1,aY,bf,-List.length_flatMap,aC,aF,aJ,aI,aH,aO,aj,au,aG,ax,aP,aZ,aU,bg,ak,bF,bD,bi,bn,az,aV,aW,ai,af,ah,ay,aQ,-bz,bK,bu,bY,dh,bU,bV,bI,bQ,bT,cO,df,bG,bW,bP,cZ,hs2,hs3,p2,p3]
       simp[mF,hRow,hC,hk,md hA,md0 hA,mg hA,mg0 hA,ms hA,ms0 hA,mp hA,mp0 hA,lh hA,spl,sp0,sp1,sp2,sp3,sq0,sq1,aY,bf,-List.length_flatMap,aC,aF,aJ,aI,aH,aO,aj,au,aG,ax,aP,aZ,aU,bg,ak,bF,bD,bi,bn,az,aV,aW,ai,af,ah,ay,aQ,-bz,bK,bu,bY,dh,bU,bV,bI,bQ,bT,cO,df,bG,bW,bP,cZ,hs2,hs3,p2,p3,hkc,aT,hrow,hrow2,dCode,hlp,hlp2,o5,o7,o17,o19,c16,c18]
       refine eQ [_] rfl hact ?_
       simp[mF,hRow,hC,hk,md hA,md0 hA,mg hA,mg0 hA,ms hA,ms0 hA,mp hA,mp0 hA,lh hA,spl,sp0,sp1,sp2,sp3,sq0,sq1,aY,bf,-List.length_flatMap,aC,aF,aJ,aI,aH,aO,aj,au,aG,ax,aP,aZ,aU,bg,ak,bF,bD,bi,bn,az,aV,aW,ai,af,ah,ay,aQ,-bz,bK,bu,bY,dh,bU,bV,bI,bQ,bT,cO,df,bG,bW,bP,cZ,hs2,hs3,p2,p3]
end
end Go.AmC
