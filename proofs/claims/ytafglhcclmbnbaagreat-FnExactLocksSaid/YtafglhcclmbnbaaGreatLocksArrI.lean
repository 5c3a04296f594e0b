import Derived.Test.YtafglhcclmbnbaaGreatLocksMachU
import Derived.Test.YtafglhcclmbnbaaGreatLocksMachD
import Derived.Sort.Walk0
set_option linter.unusedSimpArgs false
set_option linter.unusedVariables false
set_option maxRecDepth 20000
set_option maxHeartbeats 8000000
namespace Go.AmC
open Go Go.AM
open Go.Proofs.Tryz (prog)
theorem sD {h:Hand} (x:Int) (hs:h.Stack.length≤40):nG h x false=if (pushed h x false).2=true then pushed h x false else ({ (pushed h x false).1 with Pc:=h.Pc+1 },false):=by
 unfold nG pushed
 by_cases c:h.Stack.length=40
 ·rw[if_pos (.inr c),if_pos (show 40≤h.Stack.length by omega)];rfl
 ·have c1:¬40≤h.Stack.length:=by omega
  rw[if_neg (by simp[c]),if_neg c1];rfl
theorem ND {h:Hand} (e:h.Stack.isEmpty=true):gy h=h:=by
 obtain⟨pc,st,rg,sh,he,dn⟩:=h
 cases st with
 | nil=>rfl
 | cons a l=>simp at e
theorem ads (h:Hand):(gy h).Pc=h.Pc:=rfl
theorem TA (h:Hand):(gy h).Stack.length≤h.Stack.length:=by simp[gy]
theorem pV (h:Hand):dB h false=(iL h,gy h,h.Stack.isEmpty):=by simp[dB]
theorem OJ (h:Hand):dB h true=(0,h,true):=by simp[dB]
theorem abA {h:Hand} {t:Bool} {i:Ins} (e:(dB h t).2.2=true):(fJ h t i).2=((dB h t).2.1,true):=by simp[fJ,e]
theorem TY (mem:List Int) (h:Hand) (i:Ins) (h4:i.Op=4) (hs:h.Stack.length≤40) :
  (if (fJ h false i).2.2=true then ((fJ h false i).2.1,true) else nG (fJ h false i).2.1 (lY mem (fJ h false i).2.1 (fJ h false i).1) false) =
   if (yx mem i h false).2=true then yx mem i h false else ({ (yx mem i h false).1 with Pc:=h.Pc+1 },false):=by
 have e1:yx mem i h false=Rf mem i 0 (gy h) h.Stack.isEmpty (iL h):=by simp[yx,MR,h4]
 rw[e1]
 unfold fJ Rf
 rw[pV]
 simp only
 cases c:h.Stack.isEmpty with
 | true=>simp
 | false =>
  by_cases d:0≤iL h∧iL h<i.B
  ·have d1:iL h≤i.B-1:=by omega
   have n5:¬i.Op=5:=by omega
   simp only[Bool.false_or,Bool.false_eq_true,false_or,d,d1,decide_true,Bool.and_self,Bool.not_true,if_false,n5,not_true,and_self]
   rw[sD _ (Nat.le_trans (TA h) hs)]
   rfl
  ·have d1:(decide (0≤iL h)&&decide (iL h≤i.B-1))=false:=by
    have:¬(0≤iL h∧iL h≤i.B-1):=fun e=>d ⟨e.1,by omega⟩
    simpa using this
   simp[d,d1]
theorem Nl (mem:List Int) (h:Hand) (i:Ins) (h5:i.Op=5) :
  (jr (fJ (dB h false).2.1 (dB h false).2.2 i).2.1 ⟨(fJ (dB h false).2.1 (dB h false).2.2 i).1,(dB h false).1⟩ (fJ (dB h false).2.1 (dB h false).2.2 i).2.2,(fJ (dB h false).2.1 (dB h false).2.2 i).2.2) =
   if (yx mem i h false).2=true then yx mem i h false else ({ (yx mem i h false).1 with Pc:=h.Pc+1 },false):=by
 have e1:yx mem i h false=MR mem i (iL h) (gy h) h.Stack.isEmpty:=by simp[yx,h5]
 rw[e1]
 unfold MR
 rw[pV]
 simp only
 cases c:h.Stack.isEmpty with
 | true=>simp[fJ,OJ,jr]
 | false =>
  unfold fJ Rf
  rw[pV]
  simp only[Bool.false_eq_true,if_false,false_or]
  cases c2:(gy h).Stack.isEmpty with
  | true=>simp[jr]
  | false =>
   by_cases d:0≤iL (gy h)∧iL (gy h)<i.B
   ·have d1:iL (gy h)≤i.B-1:=by omega
    simp[d,d1,h5,jr,kD,pW,ads]
   ·have d1:(decide (0≤iL (gy h))&&decide (iL (gy h)≤i.B-1))=false:=by
     have:¬(0≤iL (gy h)∧iL (gy h)≤i.B-1):=fun e=>d ⟨e.1,by omega⟩
     simpa using this
    simp[d,d1,jr]
theorem acY (h:Hand):jU h false=(((dB (dB h false).2.1 (dB h false).2.2).1,(dB h false).1),(dB (dB h false).2.1 (dB h false).2.2).2)∨((jU h false).2=(dB (dB h false).2.1 (dB h false).2.2).2∧(jU h false).2.2=true):=by
 unfold jU
 rw[pV]
 simp only[Bool.false_or]
 cases c:h.Stack.isEmpty with
 | true=>right;simp[OJ]
 | false=>left;simp[pV]
theorem Sr (h:Hand) (i:Ins) (hs:h.Stack.length≤40) (hop:8≤i.Op∧i.Op≤14∧i.Op≠13) :
  ML h false i=(iI [] [] h i).2:=by
 have hl:(jU h false).2.1.Stack.length≤40∧(jU h false).2.1.Pc=h.Pc:=by
  unfold jU;split<;>simp[gy]<;>omega
 have e:fZ [] [] h i=(if i.Op=14 then ([],(jU h false).2,if (jU h false).1.2<(jU h false).1.1 then i.A else h.Pc+1) else ([],(if (jU h false).2.2=true then (jU h false).2 else pushed (jU h false).2.1 (opE (sW i.Op) (jU h false).1.1 (jU h false).1.2) false),h.Pc+1)):=by
  unfold fZ
  simp only[show ¬i.Op=1 by omega,show ¬i.Op=2 by omega,show ¬i.Op=3 by omega,show ¬(i.Op=4∨i.Op=5) by omega,show ¬i.Op=6 by omega,show ¬i.Op=7 by omega,show ¬i.Op=13 by omega,show ¬i.Op=15 by omega,if_false]
 unfold iI
 rw[e]
 unfold ML
 rcases acY h with e2|⟨e2,e3⟩
 ·generalize dB (dB h false).2.1 (dB h false).2.2=Y at e2
  generalize (dB h false).1=y at e2
  rw[e2] at hl ⊢
  obtain⟨x,h2,t2⟩:=Y
  simp only at hl ⊢
  cases t2 with
  | true=>by_cases c:i.Op=14<;>simp[c]
  | false =>
   by_cases c:i.Op=14
   ·simp only[c,if_true,Bool.false_eq_true,if_false,hl.2]
   ·have ek:sW i.Op=i.Op-4:=by
     unfold sW
     split
     ·omega
     ·split
      ·omega
      ·split
       ·omega
       ·split<;>omega
    simp only[c,if_false,Bool.false_eq_true,ek]
    rw[sD _ hl.1,hl.2]
 ·rw[←e2]
  generalize jU h false=Y at e3 hl ⊢
  obtain⟨⟨x,y⟩,h2,t2⟩:=Y
  simp only at e3
  subst e3
  by_cases c:i.Op=14<;>simp[c]
theorem J9 (mem mem' out out':List Int) (h:Hand) (i:Ins) (hop:8≤i.Op∧i.Op≤14):(iI mem out h i).2=(iI mem' out' h i).2∧(iI mem out h i).1=out:=by
 unfold iI fZ
 simp only[show ¬i.Op=1 by omega,show ¬i.Op=2 by omega,show ¬i.Op=3 by omega,show ¬(i.Op=4∨i.Op=5) by omega,show ¬i.Op=6 by omega,show ¬i.Op=7 by omega,show ¬i.Op=15 by omega,if_false]
 by_cases c13:i.Op=13<;>by_cases c14:i.Op=14<;>simp[c13,c14]
theorem RY (mem:List Int) (h:Hand) (j:Nat):vW mem h false j=if h.Stack.isEmpty=true then (true,h,true) else if lU mem j<iL h then (false,h,false) else (true,kD (gy h),false):=by
 unfold vW
 rw[pV]
 cases c:h.Stack.isEmpty with
 | true=>simp[ND c]
 | false=>by_cases d:lU mem j<iL h<;>simp[d]
theorem Dt {mem:List Int} {h:Hand} (hne:h.Shelf≠[]):(dP mem h false).2.2=true:=by
 unfold dP
 split
 ·rename_i e;exact absurd e hne
 ·rfl
theorem Np (mem out:List Int) (n b k:Nat) (h:Hand) (i:Ins) (hs:h.Stack.length≤40) (hsh:h.Shelf.length≤60) (hop:1≤i.Op∧i.Op≤19):stepJ mem out n b k h i=wo mem out n b k h i:=by
 have hlen:h.Shelf.length=60→h.Shelf≠[]:=fun e hh=>by rw[hh] at e;simp at e
 by_cases cw:16≤i.Op∧i.Op≤19
 ·unfold stepJ wo
  rw[if_pos cw,if_neg (by rintro⟨h1,_⟩;omega)]
  unfold mV
  by_cases c18:i.Op=18
  ·rw[if_neg (by rintro⟨h1,_⟩;omega),if_neg (show ¬i.Op=16 by omega),if_pos c18,if_neg (by rintro⟨h1,_⟩;exact h1 c18),if_neg (show ¬i.Op=19 by omega),if_neg (show ¬i.Op=17 by omega),if_neg (show ¬i.Op=16 by omega),RY]
   by_cases c:h.Stack.isEmpty=true
   ·simp[c]
   ·by_cases d:lU mem i.A.toNat<iL h<;>simp[c,d]
  ·by_cases cs:h.Shelf=[]
   ·rw[if_neg (by rintro⟨_,h2⟩;exact h2 cs),if_neg (show ¬(i.Op≠18∧h.Shelf≠[]) from fun h1=>h1.2 cs)]
    by_cases c16:i.Op=16
    ·rw[if_pos c16,if_neg (show ¬i.Op=19 by omega),if_neg (show ¬i.Op=17 by omega),if_pos c16]
    ·rw[if_neg c16,if_neg c18]
     unfold Gs
     simp only[show ¬i.Op=1 by omega,show ¬i.Op=2 by omega,show ¬i.Op=4 by omega,show ¬i.Op=6 by omega,show ¬i.Op=5 by omega,show ¬i.Op=7 by omega,show ¬i.Op=13 by omega,if_false]
     by_cases c19:i.Op=19
     ·rw[if_pos c19,if_pos c19]
     ·have c17:i.Op=17:=by omega
      rw[if_neg c19,if_neg c19,if_pos (.inr (.inr c17)),if_pos c17]
      unfold pU
      rw[pV,if_neg (show ¬i.Op=3 by omega),if_neg (show ¬i.Op=15 by omega)]
      simp only
      cases c:h.Stack.isEmpty<;>simp
   ·rw[if_pos (show (i.Op=16∨i.Op=17∨i.Op=19)∧h.Shelf≠[] from ⟨by omega,cs⟩),if_pos (show i.Op≠18∧h.Shelf≠[] from ⟨c18,cs⟩),Dt cs]
 ·unfold wo
  rw[if_neg cw]
  by_cases c60:(i.Op=5∨i.Op=7)∧h.Shelf.length=60
  ·rw[if_pos (show (i.Op=5∨i.Op=7)∧60≤h.Shelf.length from ⟨c60.1,by omega⟩)]
   unfold stepJ
   rw[if_pos c60,Dt (hlen c60.2)]
  ·rw[if_neg (show ¬((i.Op=5∨i.Op=7)∧60≤h.Shelf.length) from fun hh=>c60 ⟨hh.1,by omega⟩)]
   have e:stepJ mem out n b k h i=(true,Gs mem out h i):=by
    unfold stepJ
    rw[if_neg c60,if_neg (by rintro⟨h1,_⟩;omega),if_neg (show ¬i.Op=16 by omega),if_neg (show ¬i.Op=18 by omega)]
   rw[e]
   congr 1
   unfold Gs
   by_cases c1:i.Op=1
   ·rw[if_pos c1];unfold iI fZ;rw[if_pos c1,sD _ hs]
   rw[if_neg c1]
   by_cases c2:i.Op=2
   ·rw[if_pos c2];unfold iI fZ;rw[if_neg c1,if_pos c2,sD _ hs]
   rw[if_neg c2]
   by_cases c4:i.Op=4
   ·rw[if_pos c4]
    have:=TY mem h i c4 hs
    unfold iI fZ
    simp only[show ¬i.Op=1 by omega,show ¬i.Op=2 by omega,show ¬i.Op=3 by omega,c4,true_or,if_true,if_false,show ¬(4:Int)=1 by decide,show ¬(4:Int)=2 by decide,show ¬(4:Int)=3 by decide]
    rw[←this]
    split<;>rfl
   rw[if_neg c4]
   by_cases c6:i.Op=6
   ·rw[if_pos c6];unfold iI fZ
    simp only[show ¬i.Op=1 by omega,show ¬i.Op=2 by omega,show ¬i.Op=3 by omega,show ¬(i.Op=4∨i.Op=5) by omega,if_pos c6,if_false]
    rw[sD _ hs]
   rw[if_neg c6]
   by_cases c5:i.Op=5
   ·rw[if_pos c5]
    have:=Nl mem h i c5
    unfold iI fZ
    simp only[c5,or_true,if_true,if_false,show ¬(5:Int)=1 by decide,show ¬(5:Int)=2 by decide,show ¬(5:Int)=3 by decide]
    rw[←this]
   rw[if_neg c5]
   by_cases c7:i.Op=7
   ·rw[if_pos c7];unfold iI fZ
    simp only[show ¬i.Op=1 by omega,show ¬i.Op=2 by omega,show ¬i.Op=3 by omega,show ¬(i.Op=4∨i.Op=5) by omega,show ¬i.Op=6 by omega,if_pos c7,if_false]
    rw[pV]
    cases c:h.Stack.isEmpty<;>simp[jr,kD,pW,gy]
   rw[if_neg c7]
   by_cases c13:i.Op=13
   ·rw[if_pos c13];unfold iI fZ
    simp only[show ¬i.Op=1 by omega,show ¬i.Op=2 by omega,show ¬i.Op=3 by omega,show ¬(i.Op=4∨i.Op=5) by omega,show ¬i.Op=6 by omega,show ¬i.Op=7 by omega,if_pos c13,if_false]
    simp
   rw[if_neg c13,if_neg (show ¬i.Op=19 by omega)]
   by_cases c3:i.Op=3
   ·rw[if_pos (.inl c3)];unfold iI fZ pU
    simp only[show ¬i.Op=1 by omega,show ¬i.Op=2 by omega,if_pos c3,if_false]
    rw[pV]
    cases c:h.Stack.isEmpty<;>simp[kD,gy]
   by_cases c15:i.Op=15
   ·rw[if_pos (.inr (.inl c15))];unfold iI fZ pU
    simp only[show ¬i.Op=1 by omega,show ¬i.Op=2 by omega,show ¬i.Op=3 by omega,show ¬(i.Op=4∨i.Op=5) by omega,show ¬i.Op=6 by omega,show ¬i.Op=7 by omega,show ¬i.Op=13 by omega,show ¬i.Op=14 by omega,if_pos c15,if_false]
    rw[pV]
    cases c:h.Stack.isEmpty<;>simp[kD,gy]
   rw[if_neg (show ¬(i.Op=3∨i.Op=15∨i.Op=17) by omega),Sr h i hs (by omega)]
   obtain⟨a1,a2⟩:=J9 mem [] out [] h i (by omega)
   rw[←a1]
   have:iI mem out h i=((iI mem out h i).1,(iI mem out h i).2):=rfl
   rw[this,a2]
theorem Tf (mem out:List Int) (n b k:Nat) (h:Hand) (t:Bool) (l:List Ins) (mm rr:Nat) (hs:h.Stack.length≤40) (hsh:h.Shelf.length≤60) (hl:∀ i∈l,BG i mm rr):stepG mem out n b k h t l=nX mem out n b k h t l:=by
 unfold stepG nX
 split
 ·rfl
 ·cases hi:l[h.Pc.toNat]? with
  | none=>rfl
  | some i=>exact Np mem out n b k h i hs hsh (hl i (List.mem_of_getElem? hi)).1
end Go.AmC
set_option linter.unusedSimpArgs false
set_option linter.unusedVariables false
set_option maxRecDepth 20000
set_option maxHeartbeats 4000000
namespace Go.AmC
open Go Go.AM
open Go.Proofs (bytesLess_eq)
open Go.Proofs.Tryz (prog)
abbrev Nm:=List UInt8
def jT (s:Nm):Bool→List Nm→List Nm
 | d,[]=>if d then [] else [s]
 | d,x::xs=>(if !d&&!decide (x<s) then [s] else [])++((if x=s then [] else [x])++jT s (d||!decide (x<s)) xs)
def put (l:List Nm) (s:Nm):List Nm:=jT s false l
theorem CV (s:Nm):∀ (xs:List Nm) (d:Bool),(jT s d xs).length≤xs.length+(if d then 0 else 1)
 | [],d=>by cases d<;>simp[jT]
 | x::xs,d=>by
  have h:=CV s xs (d||!decide (x<s))
  cases d<;>by_cases h1:x<s<;>by_cases h2:x=s<;>simp[jT,h1,h2] at h ⊢<;>omega
theorem zq (l:List Nm) (s:Nm):(put l s).length≤l.length+1:=by simpa [put] using CV s l false
theorem wz (l:List Nm) (s:Nm) (hl:l.length≤4000000000):Says prog 184 [.rsl l.length (Cs (l.flatMap ed)),.str s] (.osl 0 9 (put l s).length (Ows ((put l s).flatMap ed))) []:=by
 refine dD Go.Proofs.Tryz.func184 awr ?_
 have hRl:=zq l s
 generalize hR:put l s=R at hRl ⊢
 simp[aEd,aFx]
 refine RH (α:=Nat × Bool × List Nm) (l:=PH) (b:=QJ) rfl [] (fun a=>[(3,.osl 0 9 a.2.2.length (Ows (a.2.2.flatMap ed))),(4,.bool a.2.1),(5,.int .i64 a.1)]) (fun a=>l.length-a.1)
  (fun a=>a.1≤l.length∧a.2.2++jT s a.2.1 (l.drop a.1)=R) (0,false,[]) ⟨by simp,by simpa [put] using hR⟩ (by simp) ?_
 rintro⟨i,d,o⟩ ⟨hi,hI⟩ q hn hx hr
 simp only at hi hI
 have hol:o.length≤l.length+1:=by have:=congrArg List.length hI;simp at this;omega
 have hb1:o.length+1≤bnd:=by unfold bnd;omega
 have hb2:o.length+1+1≤bnd:=by unfold bnd;omega
 by_cases hil:i<l.length
 ·obtain⟨x,hx0⟩:=cu hil
  have hrow:=row_drop ed 1 (fun _=>by simp) hx0
  rw[Nat.mul_one] at hrow
  have hw:=wrap_succ (i:=i) (by omega)
  rw[drop_cons hx0,jT] at hI
  have hnx:∀ d' o',o'++jT s d' (l.drop (i+1))=R→∀ e',e'=yY _ _→q .normal e':=fun d' o' h e' he=>hn e' (i+1,d',o') he ⟨by omega,h⟩ (by simp only;omega)
  by_cases h2:x=s
  ·subst h2
   have h1:¬x<x:=List.lt_irrefl x
   cases d
   ·simp[h1] at hI
    simp[hil,aT,hrow,hw,bytesLess_eq,h1,hb1]
    exact hnx true (o++[x]) (by simpa using hI) _ (by simp)
   ·simp[h1] at hI
    simp[hil,aT,hrow,hw,bytesLess_eq,h1,hb1]
    exact hnx true o (by simpa using hI) _ (by simp)
  ·by_cases h1:x<s
   ·cases d
    ·simp[h1,h2] at hI
     simp[hil,aT,hrow,hw,bytesLess_eq,h1,h2,hb1]
     exact hnx false (o++[x]) (by simpa using hI) _ (by simp)
    ·simp[h1,h2] at hI
     simp[hil,aT,hrow,hw,bytesLess_eq,h1,h2,hb1]
     exact hnx true (o++[x]) (by simpa using hI) _ (by simp)
   ·cases d
    ·simp[h1,h2] at hI
     simp[hil,aT,hrow,hw,bytesLess_eq,h1,h2,hb1,hb2]
     exact hnx true (o++[s,x]) (by simpa using hI) _ (by simp)
    ·simp[h1,h2] at hI
     simp[hil,aT,hrow,hw,bytesLess_eq,h1,h2,hb1]
     exact hnx true (o++[x]) (by simpa using hI) _ (by simp)
 ·have hie:i=l.length:=by omega
  subst hie
  simp[jT] at hI
  simp
  refine hx _ _ ?_
  cases d
  ·simp at hI
   simp[hb1,←hI]
  ·simp at hI
   simp[←hI]
abbrev Sd (l:List Nm):Prop:=l.Pairwise (· < ·)
theorem uQ (s:Nm):∀ (xs:List Nm),(∀ x∈xs,s<x)→jT s true xs=xs
 | [],_=>by simp[jT]
 | x::xs,h=>by
  have h1:=h x (by simp)
  have h2:¬x=s:=fun e=>List.lt_irrefl _ (e▸h1)
  simp[jT,h2,uQ s xs fun y hy=>h y (by simp[hy])]
theorem AQ (s:Nm):∀ (xs:List Nm),Sd xs→Sd (jT s false xs)∧∀ x,x∈jT s false xs↔x=s∨x∈xs
 | [],_=>by simp[jT]
 | x::xs,h=>by
  obtain⟨hx,hs⟩:=List.pairwise_cons.1 h
  obtain⟨k1,k2⟩:=AQ s xs hs
  by_cases h1:x<s
  ·have h2:¬x=s:=fun e=>List.lt_irrefl _ (e▸h1)
   have e:jT s false (x::xs)=x::jT s false xs:=by simp[jT,h1,h2]
   rw[e]
   refine⟨List.pairwise_cons.2 ⟨fun y hy=>?_,k1⟩,fun y=>?_⟩
   ·rcases (k2 y).1 hy with rfl|hy
    ·exact h1
    ·exact hx y hy
   ·rw[List.mem_cons,k2,List.mem_cons]
    exact⟨fun h=>by rcases h with h|h|h<;>simp only[h,true_or,or_true],fun h=>by rcases h with h|h|h<;>simp only[h,true_or,or_true]⟩
  ·by_cases h2:x=s
   ·subst h2
    have e:jT x false (x::xs)=x::xs:=by
     have h0:¬x<x:=List.lt_irrefl x
     simp[jT,h0,uQ x xs hx]
    rw[e]
    exact⟨h,fun y=>by simp⟩
   ·have h3:s<x:=by
     rcases List.le_total x s with h|h
     ·exact absurd (List.le_antisymm h (List.not_lt.1 h1)) h2
     ·exact List.not_le.1 fun h'=>h2 (List.le_antisymm h' h)
    have e:jT s false (x::xs)=s::x::xs:=by
     simp[jT,h1,h2,uQ s xs fun y hy=>List.lt_trans h3 (hx y hy)]
    rw[e]
    refine⟨List.pairwise_cons.2 ⟨fun y hy=>?_,h⟩,fun y=>by simp⟩
    rcases List.mem_cons.1 hy with rfl|hy
    ·exact h3
    ·exact List.lt_trans h3 (hx y hy)
theorem adq {l:List Nm} (h:Sd l) (s:Nm):Sd (put l s):=(AQ s l h).1
theorem TT {l:List Nm} (h:Sd l) (s x:Nm):x∈put l s↔x=s∨x∈l:=(AQ s l h).2 x
theorem Jo {α:Type} {R:α→α→Prop} (hirr:∀ x,¬R x x) (hasy:∀ x y,R x y→¬R y x):∀ {xs ys:List α},xs.Pairwise R→ys.Pairwise R→(∀ x,x∈xs↔x∈ys)→xs=ys
 | [],[],_,_,_=>rfl
 | [],y::ys,_,_,h=>absurd ((h y).2 (by simp)) (by simp)
 | x::xs,[],_,_,h=>absurd ((h x).1 (by simp)) (by simp)
 | x::xs,y::ys,h1,h2,h=>by
  obtain⟨a1,b1⟩:=List.pairwise_cons.1 h1
  obtain⟨a2,b2⟩:=List.pairwise_cons.1 h2
  have e:x=y:=by
   rcases List.mem_cons.1 ((h x).1 (by simp)) with e|hx
   ·exact e
   ·rcases List.mem_cons.1 ((h y).2 (by simp)) with e|hy
    ·exact e.symm
    ·exact absurd (a2 x hx) (hasy _ _ (a1 y hy))
  subst e
  rw[Jo hirr hasy b1 b2 fun z=>?_]
  constructor
  ·intro hz
   rcases List.mem_cons.1 ((h z).1 (by simp[hz])) with e|hz'
   ·subst e;exact absurd (a1 z hz) (hirr z)
   ·exact hz'
  ·intro hz
   rcases List.mem_cons.1 ((h z).2 (by simp[hz])) with e|hz'
   ·subst e;exact absurd (a2 z hz) (hirr z)
   ·exact hz'
theorem IG {xs ys:List Nm} (h1:Sd xs) (h2:Sd ys) (h:∀ x,x∈xs↔x∈ys):xs=ys :=
 Jo (fun x=>List.lt_irrefl x) (fun x y h h'=>List.lt_irrefl x (List.lt_trans h h')) h1 h2 h
def idxOf (s:Nm):List Nm→Nat→Int
 | [],_=>-1
 | x::xs,i=>if x=s then i else idxOf s xs (i+1)
theorem H9 (l:List Nm) (s:Nm) (hl:l.length≤4000000000):Says prog 259 [.rsl l.length (Cs (l.flatMap ed)),.str s] (.int .i64 (idxOf s l 0)) []:=by
 refine dD Go.Proofs.Tryz.func259 avF ?_
 generalize hR:idxOf s l 0=R0
 simp[aDU,aE3]
 refine eY (l:=Pe) (b:=Qr) rfl [6] (fun i=>[(4,.int .i64 i)]) (fun i=>idxOf s (l.drop i) i=R0) l.length (by simpa using hR) (by simp) ?_ ?_
 ·intro i hi hI q hn hx hr
  obtain⟨x,hx0⟩:=cu hi
  have hrow:=row_drop ed 1 (fun _=>by simp) hx0
  rw[Nat.mul_one] at hrow
  have hw:=wrap_succ (i:=i) (by omega)
  rw[drop_cons hx0,idxOf] at hI
  by_cases c:x=s
  ·simp[hi,aT,hrow,c]
   refine hr _ ?_
   rw[if_pos c] at hI
   simp[hI]
  ·simp[hi,aT,hrow,Ne.symm c,hw]
   rw[if_neg c] at hI
   exact hn _ (by simp) hI
 ·intro hI q hx hr
  simp[idxOf] at hI
  simp
  refine hx _ _ ?_
  simp[hI]
theorem qy (s:Nm):∀ (l:List Nm) (i:Nat),(0≤idxOf s l i)↔s∈l
 | [],i=>by simp[idxOf]
 | x::xs,i=>by
  by_cases c:x=s
  ·simp[idxOf,c]
  ·simp[idxOf,c,Ne.symm c,qy s xs]
theorem Gf (l:List Nm) (s:Nm) (hl:l.length≤4000000000):Says prog 193 [.rsl l.length (Cs (l.flatMap ed)),.str s] (.bool (decide (s∈l))) []:=by
 have f:=H9 l s hl
 refine dD Go.Proofs.Tryz.func193 awl ?_
 simp[v193,aFr]
 refine aX f ?_
 simp[qy]
end Go.AmC
set_option linter.unusedSimpArgs false
set_option linter.unusedVariables false
set_option maxRecDepth 20000
set_option maxHeartbeats 4000000
namespace Go.AmC
open Go Go.AM
open Go.Proofs.Tryz (prog)
def dw (l:List Arr):List Nm:=l.map Arr.Name
def yH (p:Prog) (n:Nm):Int:=idxOf n (dw p.Arrs) 0
theorem NY (s:Nm):∀ (l:List Nm) (i:Nat),idxOf s l i=-1∨(i:Int)≤idxOf s l i∧idxOf s l i<(i+l.length:Nat)
 | [],i=>by simp[idxOf]
 | x::xs,i=>by
  by_cases c:x=s
  ·right;simp[idxOf,c];omega
  ·have:=NY s xs (i+1)
   simp only[idxOf,if_neg c,List.length_cons]
   omega
theorem vM (p:Prog) (n:Nm):(0≤yH p n)↔n∈dw p.Arrs:=qy n (dw p.Arrs) 0
theorem IA (p:Prog) (n:Nm) (hp:p.Arrs.length≤4000000000):Says prog 185 [.agg (Cs p.d),.str n] (.int .i64 (yH p n)) []:=by
 refine dD Go.Proofs.Tryz.func185 awq ?_
 generalize hR:yH p n=R0
 unfold yH at hR
 simp[aEc,aFw]
 refine eY (l:=PG) (b:=QI) rfl [5,6] (fun i=>[(4,.int .i64 i)]) (fun i=>idxOf n (dw (p.Arrs.drop i)) i=R0) p.Arrs.length (by simpa using hR) (by simp) ?_ ?_
 ·intro i hi hI q hn hx hr
  obtain⟨x,hx0⟩:=cu hi
  have hrow:=row_drop Arr.d 2 Arr.d_len hx0
  have hw:=wrap_succ (i:=i) (by omega)
  rw[drop_cons hx0] at hI
  simp only[dw,List.map_cons,idxOf] at hI
  by_cases c:x.Name=n
  ·simp[hi,aT,hrow,c]
   refine hr _ ?_
   rw[if_pos c] at hI
   simp[hI]
  ·simp[hi,aT,hrow,c,hw]
   rw[if_neg c] at hI
   exact hn _ (by simp) hI
 ·intro hI q hx hr
  simp[dw,idxOf] at hI
  simp
  refine hx _ _ ?_
  simp[hI]
theorem Ih (r:Arr) (n:Nm):Says prog 297 [.agg (Cs r.d),.rp [.str n]] (.bool (r.Name==n)) []:=by
 refine dD Go.Proofs.Tryz.func297 avf ?_
 simp[aDD,aEM]
theorem KC (l:List Arr) (n:Nm) (hl:l.length≤4000000000):Says prog 296 [.rsl l.length (Cs (l.flatMap Arr.d)),.fn 297 [.rp [.str n]]] (.int .i64 (idxOf n (dw l) 0)) []:=by
 refine dD Go.Proofs.Tryz.func296 avg ?_
 have pl:dZ prog 297=true:=by kernel_rfl
 generalize hR:idxOf n (dw l) 0=R0
 simp[aDE,aEN]
 refine eY (l:=O4) (b:=Ql) rfl [6] (fun i=>[(4,.int .i64 i)]) (fun i=>idxOf n (dw (l.drop i)) i=R0) l.length (by simpa using hR) (by simp) ?_ ?_
 ·intro i hi hI q hn hx hr
  obtain⟨x,hx0⟩:=cu hi
  have hrow:=row_drop Arr.d 2 Arr.d_len hx0
  have hw:=wrap_succ (i:=i) (by omega)
  rw[drop_cons hx0] at hI
  simp only[dw,List.map_cons,idxOf] at hI
  have f:=Ih x n
  simp at f
  simp[hi,aT,hrow]
  refine axh pl f ?_
  by_cases c:x.Name=n
  ·simp[c]
   refine hr _ ?_
   rw[if_pos c] at hI
   simp[hI]
  ·simp[c,hw]
   rw[if_neg c] at hI
   exact hn _ (by simp) hI
 ·intro hI q hx hr
  simp[dw,idxOf] at hI
  simp
  refine hx _ _ ?_
  simp[hI]
theorem IB (p:Prog) (n:Nm) (hp:p.Arrs.length≤4000000000):Says prog 236 [.agg (Cs p.d),.str n] (.int .i64 (yH p n)) []:=by
 have f:=KC p.Arrs n hp
 refine dD Go.Proofs.Tryz.func236 avM ?_
 change Says _ _ _ (.int .i64 (yH p n)) _ at f
 generalize yH p n=R at f ⊢
 try simp at f
 simp[v236,aE7]
 refine aX f ?_
 simp
theorem qB (p:Prog) (ns:List Nm) (hp:p.Arrs.length≤4000000000) (hn:ns.length≤4000000000):Says prog 194 [.agg (Cs p.d),.rsl ns.length (Cs (ns.flatMap ed))] (.tup [none,none] [.bool (ns.all fun n=>decide (n∈dw p.Arrs)),.bool (ns.any fun n=>decide (n∈dw p.Arrs))]) []:=by
 refine dD Go.Proofs.Tryz.func194 awk ?_
 simp only[v194,aFq]
 simp
 refine eY (l:=Pz) (b:=QF) rfl [11,12] (fun i=>[(5,.bool ((ns.take i).all fun n=>decide (n∈dw p.Arrs))),(6,.bool ((ns.take i).any fun n=>decide (n∈dw p.Arrs))),(9,.int .i64 i)]) (fun i=>True) ns.length trivial (by simp) ?_ ?_
 ·intro i hi hI q hn hx hr
  obtain⟨x,hx0⟩:=cu hi
  have hrow:=row_drop ed 1 (fun _=>by simp) hx0
  rw[Nat.mul_one] at hrow
  have hw:=wrap_succ (i:=i) (by omega)
  have f:=IB p x hp
  have hd:=vM p x
  have e1:(ns.take (i+1)).all (fun n=>decide (n∈dw p.Arrs))=((ns.take i).all (fun n=>decide (n∈dw p.Arrs))&&decide (x∈dw p.Arrs)):=by rw[List.take_add_one,hx0];simp
  have e2:(ns.take (i+1)).any (fun n=>decide (n∈dw p.Arrs))=((ns.take i).any (fun n=>decide (n∈dw p.Arrs))||decide (x∈dw p.Arrs)):=by rw[List.take_add_one,hx0];simp
  rw[e1,e2] at hn
  generalize (ns.take i).all (fun n=>decide (n∈dw p.Arrs))=A at hn ⊢
  generalize (ns.take i).any (fun n=>decide (n∈dw p.Arrs))=B at hn ⊢
  generalize yH p x=z at f hd
  simp at f
  by_cases c:x∈dw p.Arrs
  ·have cz:0≤z:=hd.2 c
   have c1:decide (x∈dw p.Arrs)=true:=decide_eq_true c
   rw[c1] at hn
   cases A<;>cases B<;>simp[hi,aT,hrow]<;>refine aX f ?_<;>simp[cz,hw]<;>exact hn _ (by simp) trivial
  ·have cz:¬0≤z:=fun h=>c (hd.1 h)
   have c1:decide (x∈dw p.Arrs)=false:=decide_eq_false c
   rw[c1] at hn
   cases A<;>cases B<;>simp[hi,aT,hrow]<;>refine aX f ?_<;>simp[cz,hw]<;>exact hn _ (by simp) trivial
 ·intro hI q hx hr
  rw[List.take_length]
  generalize ns.all (fun n=>decide (n∈dw p.Arrs))=A at hx hr ⊢
  generalize ns.any (fun n=>decide (n∈dw p.Arrs))=B at hx hr ⊢
  simp
  refine hx _ _ ?_
  simp
theorem DC (p:Prog) (ns:List Nm) (hp:p.Arrs.length≤4000000000) (hn:ns.length≤4000000000):Says prog 112 [.agg (Cs p.d),.rsl ns.length (Cs (ns.flatMap ed))] (.bool (ns.all fun n=>decide (n∈dw p.Arrs))) []:=by
 refine dD Go.Proofs.Tryz.func112 aw0 ?_
 generalize hR:(ns.all fun n=>decide (n∈dw p.Arrs))=R0
 simp[aEs,aFS]
 refine eY (l:=P5) (b:=Q5) rfl [5,6] (fun i=>[(4,.int .i64 i)]) (fun i=>(ns.take i).all (fun n=>decide (n∈dw p.Arrs))=true) ns.length (by simp) (by simp) ?_ ?_
 ·intro i hi hI q hn hx hr
  obtain⟨x,hx0⟩:=cu hi
  have hrow:=row_drop ed 1 (fun _=>by simp) hx0
  rw[Nat.mul_one] at hrow
  have hw:=wrap_succ (i:=i) (by omega)
  have f:=IA p x hp
  have hd:=vM p x
  generalize yH p x=z at f hd
  simp at f
  by_cases c:x∈dw p.Arrs
  ·have cz:¬z<0:=by have:=hd.2 c;omega
   simp[hi,aT,hrow]
   refine bZ f ?_
   simp[cz,hw]
   exact hn _ (by simp) (jR hI hx0 (decide_eq_true c))
  ·have cz:z<0:=by have:¬0≤z:=fun h=>c (hd.1 h);omega
   simp[hi,aT,hrow]
   refine bZ f ?_
   simp[cz]
   refine hr _ ?_
   have:=kZ (p:=fun n=>decide (n∈dw p.Arrs)) hx0 (decide_eq_false c)
   simp[←hR,this]
 ·intro hI q hx hr
  rw[List.take_length] at hI
  simp
  refine hx _ _ ?_
  simp[←hR,hI]
theorem apart_spec (a b:List Nm) (ha:a.length≤4000000000) (hb:b.length≤4000000000):Says prog 114 [.rsl a.length (Cs (a.flatMap ed)),.rsl b.length (Cs (b.flatMap ed))] (.bool (a.all fun n=>!decide (n∈b))) []:=by
 refine dD Go.Proofs.Tryz.func114 awZ ?_
 generalize hR:(a.all fun n=>!decide (n∈b))=R0
 simp[aEr,aFR]
 refine eY (l:=PZ) (b:=Q4) rfl [4,5] (fun i=>[(3,.int .i64 i)]) (fun i=>(a.take i).all (fun n=>!decide (n∈b))=true) a.length (by simp) (by simp) ?_ ?_
 ·intro i hi hI q hn hx hr
  obtain⟨x,hx0⟩:=cu hi
  have hrow:=row_drop ed 1 (fun _=>by simp) hx0
  rw[Nat.mul_one] at hrow
  have hw:=wrap_succ (i:=i) (by omega)
  have f:=AY b x hb
  cases c:decide (x∈b)
  ·rw[c] at f
   simp[hi,aT,hrow]
   refine aX f ?_
   simp[hw]
   exact hn _ (by simp) (jR hI hx0 (by simp[c]))
  ·rw[c] at f
   simp[hi,aT,hrow]
   refine aX f ?_
   simp
   refine hr _ ?_
   have:=kZ (p:=fun n=>!decide (n∈b)) hx0 (by simp[c])
   simp[←hR,this]
 ·intro hI q hx hr
  rw[List.take_length] at hI
  simp
  refine hx _ _ ?_
  simp[←hR,hI]
end Go.AmC
