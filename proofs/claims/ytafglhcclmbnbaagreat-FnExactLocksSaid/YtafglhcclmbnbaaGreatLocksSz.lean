import Derived.Test.YtafglhcclmbnbaaGreatLocksC1
import Derived.Test.YtafglhcclmbnbaaGreatLocksDat
set_option linter.unusedSimpArgs false
set_option linter.unusedVariables false
set_option maxRecDepth 20000
set_option maxHeartbeats 4000000
namespace Go.AmC
open Go Go.AM
open Go.Proofs.Tryz (prog)
theorem OM (xs:List Exp) (hm:xs.length≤maxLen) (h:∀ x∈xs,∀ l:Int,0≤l→l≤1048576→Says prog 89 [.agg (Cs (Exp.d x)),.int .i64 l] (.int .i64 (szR (Exp.tot x) l)) []):∀ l:Int,0≤l→l≤1048576→Says prog 155 [.rsl (List.length xs) (Cs ((List.flatMap Exp.d xs))),.int .i64 l] (.int .i64 (szR (List.length xs+(List.map Exp.tot xs).sum) l)) []:=by
 intro l l0 lb
 have hw:IntKind.i64.wrap (l-xs.length)=l-xs.length:=by unfold maxLen at hm;rw[bJ]<;>omega
 refine dD Go.Proofs.Tryz.func155 aww ?_
 by_cases c:l<xs.length
 ·have hr:szR (List.length xs+(List.map Exp.tot xs).sum) l=-1:=by unfold szR;rw[if_neg];omega
  have c':¬((xs.length:Int)≤l):=by omega
  have d:l-(xs.length:Int)<0:=by omega
  rw[hr];simp[atw,atS,hw,c,c',d]
 ·have c':(xs.length:Int)≤l:=by omega
  have d:¬(l-(xs.length:Int)<0):=by omega
  generalize hR:szR (List.length xs+(List.map Exp.tot xs).sum) l=R0
  simp[atw,atS,hw,c,c',d]
  obtain⟨L,hL⟩:∃ L,l-(xs.length:Int)=L:=⟨_,rfl⟩
  rw[hL]
  refine iF (l:=PP) (b:=QR) rfl [] (fun i=>[.rsl (List.length xs) (Cs ((List.flatMap Exp.d xs))),.int .i64 (L-((((xs.take i).map Exp.tot).sum:Nat):Int)),.int .i64 0,.dead,.int .i64 (i:Int),.dead,.dead]) (fun i=>((((xs.take i).map Exp.tot).sum:Nat):Int)≤L) xs.length
   (fun ex e=>((((xs.map Exp.tot).sum:Nat):Int)≤L∧ex=.exit 0∧e=[.rsl (List.length xs) (Cs ((List.flatMap Exp.d xs))),.int .i64 (L-((xs.map Exp.tot).sum:Nat)),.int .i64 0,.dead,.int .i64 xs.length,.dead,.dead])∨(¬(((xs.map Exp.tot).sum:Nat):Int)≤L∧ex=.ret∧∃ a b,e=[.rsl (List.length xs) (Cs ((List.flatMap Exp.d xs))),a,.int .i64 (-1),.dead,b,.dead,.dead])) ?_ ?_ (by simp;omega) (by simp) ?_
  ·intro i hi hI q hn hx hr
   obtain⟨x,hx0⟩:∃ x,xs[i]?=some x:=⟨_,List.getElem?_eq_getElem hi⟩
   have hs:=iM Exp.tot hx0
   have hle:=sum_take_le Exp.tot xs (i+1)
   rw[hs] at hle hn
   generalize ((xs.take i).map Exp.tot).sum=S at hle hI hn ⊢
   generalize hT:(xs.map Exp.tot).sum=T at hle hx hr
   have hf:=h x (List.mem_of_getElem? hx0) (L-(S:Int)) (by omega) (by omega)
   have hrow:=row_drop Exp.d 4 Exp.d_len hx0
   have hw:IntKind.i64.wrap ((i:Int)+1)=((i+1:Nat):Int):=by unfold maxLen at hm;rw[bJ]<;>omega
   by_cases c:((Exp.tot x:Nat):Int)≤L-(S:Int)
   ·have hz:szR (Exp.tot x) (L-(S:Int))=L-((S+Exp.tot x:Nat):Int):=by unfold szR;rw[if_pos c];omega
    have c2:¬(L-((S+Exp.tot x:Nat):Int)<0):=by omega
    have c3:((S+Exp.tot x:Nat):Int)≤L:=by omega
    rw[hz] at hf
    generalize ((S+Exp.tot x:Nat):Int)=U at hf c2 c3 hn
    simp[hi,aT,hrow]
    try simp at hf
    refine aX hf ?_
    simp[c2,c3,hw]
    all_goals first|(intros;omega)|(refine hn _ ?_ c3;simp;done)|(refine⟨fun h=>by omega,hn _ ?_ c3⟩;simp;done)|(refine⟨fun h=>by omega,fun _=>hn _ ?_ c3⟩;simp;done)
   ·have hz:szR (Exp.tot x) (L-(S:Int))=-1:=by unfold szR;rw[if_neg c]
    rw[hz] at hf
    simp[hi,aT,hrow]
    try simp at hf
    refine aX hf ?_
    simp
    exact hr _ (.inr ⟨by omega,rfl,_,_,rfl⟩)
  ·intro hI q hx hr
   rw[su] at hI ⊢
   simp
   exact hx _ _ (.inl ⟨hI,rfl,rfl⟩)
  ·rintro ex e (⟨h1,rfl,rfl⟩|⟨h1,rfl,a,b,rfl⟩)
   ·have hr:szR (List.length xs+(List.map Exp.tot xs).sum) l=L-((xs.map Exp.tot).sum:Nat):=by unfold szR;rw[if_pos]<;>omega
    rw[←hR,hr];simp
   ·have hr:szR (List.length xs+(List.map Exp.tot xs).sum) l=-1:=by unfold szR;rw[if_neg];omega
    rw[←hR,hr];simp
theorem auL (x:Exp) (hS:x.S.length≤maxLen) (hL:∀ l:Int,0≤l→l≤1048576→Says prog 155 [.rsl (List.length x.L) (Cs ((List.flatMap Exp.d x.L))),.int .i64 l] (.int .i64 (szR (List.length x.L+(List.map Exp.tot x.L).sum) l)) []):∀ l:Int,0≤l→l≤1048576→Says prog 89 [.agg (Cs (Exp.d x)),.int .i64 l] (.int .i64 (szR (Exp.tot x) l)) []:=by
 intro l l0 lb
 refine dD Go.Proofs.Tryz.func89 aJg ?_
 have ht:=Exp.tot_eq x
 generalize (List.length x.L+(List.map Exp.tot x.L).sum)=TL at hL ht
 have wS:IntKind.i64.wrap (l-(List.length x.S:Int))=l-(List.length x.S:Int):=by unfold maxLen at hS;rw[bJ]<;>omega
 by_cases cS:(l)<((List.length x.S):Nat)
 ·have eS:¬((((List.length x.S):Nat):Int)≤l):=by omega
  have fS:l-(((List.length x.S):Nat):Int)<0:=by omega
  have hr:szR (Exp.tot x) l=-1:=by unfold szR;rw[if_neg];omega
  rw[hr]
  simp[v89,r89,wS,cS,eS,fS]
 ·have eS:((((List.length x.S):Nat):Int)≤l):=by omega
  have fS:¬(l-(((List.length x.S):Nat):Int)<0):=by omega
  simp[v89,r89,wS,cS,eS,fS]
  have kL:=hL (l-(List.length x.S:Int)) (by omega) (by omega)
  try simp at kL
  by_cases cL:(l-(List.length x.S:Int))<(TL:Nat)
  ·have eL:¬(((TL:Nat):Int)≤l-(List.length x.S:Int)):=by omega
   have fL:l-(List.length x.S:Int)-((TL:Nat):Int)<0:=by omega
   have hr:szR (Exp.tot x) l=-1:=by unfold szR;rw[if_neg];omega
   rw[hr]
   have hz:szR TL (l-(List.length x.S:Int))=-1:=by unfold szR;rw[if_neg];omega
   rw[hz] at kL
   refine aX kL ?_
   simp
  ·have hz:szR TL (l-(List.length x.S:Int))=l-(List.length x.S:Int)-(TL:Int):=by unfold szR;rw[if_pos];omega
   have hr:szR (Exp.tot x) l=l-(List.length x.S:Int)-(TL:Int):=by unfold szR;rw[if_pos]<;>omega
   rw[hr]
   rw[hz] at kL
   have dL:¬((l-(List.length x.S:Int)-(TL:Int))<0):=by omega
   have eL:(((TL:Nat):Int)≤l-(List.length x.S:Int)):=by omega
   refine aX kL ?_
   simp[cL,dL,eL]
theorem Jc (xs:List Stmt) (hm:xs.length≤maxLen) (h:∀ x∈xs,∀ l:Int,0≤l→l≤1048576→Says prog 35 [.agg (Cs (Stmt.d x)),.int .i64 l] (.int .i64 (szR (Stmt.tot x) l)) []):∀ l:Int,0≤l→l≤1048576→Says prog 47 [.rsl (List.length xs) (Cs ((List.flatMap Stmt.d xs))),.int .i64 l] (.int .i64 (szR (List.length xs+(List.map Stmt.tot xs).sum) l)) []:=by
 intro l l0 lb
 have hw:IntKind.i64.wrap (l-xs.length)=l-xs.length:=by unfold maxLen at hm;rw[bJ]<;>omega
 refine dD Go.Proofs.Tryz.func47 aJC ?_
 by_cases c:l<xs.length
 ·have hr:szR (List.length xs+(List.map Stmt.tot xs).sum) l=-1:=by unfold szR;rw[if_neg];omega
  have c':¬((xs.length:Int)≤l):=by omega
  have d:l-(xs.length:Int)<0:=by omega
  rw[hr];simp[v47,r47,hw,c,c',d]
 ·have c':(xs.length:Int)≤l:=by omega
  have d:¬(l-(xs.length:Int)<0):=by omega
  generalize hR:szR (List.length xs+(List.map Stmt.tot xs).sum) l=R0
  simp[v47,r47,hw,c,c',d]
  obtain⟨L,hL⟩:∃ L,l-(xs.length:Int)=L:=⟨_,rfl⟩
  rw[hL]
  refine iF (l:=ab7) (b:=acK) rfl [] (fun i=>[.rsl (List.length xs) (Cs ((List.flatMap Stmt.d xs))),.int .i64 (L-((((xs.take i).map Stmt.tot).sum:Nat):Int)),.int .i64 0,.dead,.int .i64 (i:Int),.dead,.dead]) (fun i=>((((xs.take i).map Stmt.tot).sum:Nat):Int)≤L) xs.length
   (fun ex e=>((((xs.map Stmt.tot).sum:Nat):Int)≤L∧ex=.exit 0∧e=[.rsl (List.length xs) (Cs ((List.flatMap Stmt.d xs))),.int .i64 (L-((xs.map Stmt.tot).sum:Nat)),.int .i64 0,.dead,.int .i64 xs.length,.dead,.dead])∨(¬(((xs.map Stmt.tot).sum:Nat):Int)≤L∧ex=.ret∧∃ a b,e=[.rsl (List.length xs) (Cs ((List.flatMap Stmt.d xs))),a,.int .i64 (-1),.dead,b,.dead,.dead])) ?_ ?_ (by simp;omega) (by simp) ?_
  ·intro i hi hI q hn hx hr
   obtain⟨x,hx0⟩:∃ x,xs[i]?=some x:=⟨_,List.getElem?_eq_getElem hi⟩
   have hs:=iM Stmt.tot hx0
   have hle:=sum_take_le Stmt.tot xs (i+1)
   rw[hs] at hle hn
   generalize ((xs.take i).map Stmt.tot).sum=S at hle hI hn ⊢
   generalize hT:(xs.map Stmt.tot).sum=T at hle hx hr
   have hf:=h x (List.mem_of_getElem? hx0) (L-(S:Int)) (by omega) (by omega)
   have hrow:=row_drop Stmt.d 19 Stmt.d_len hx0
   have hw:IntKind.i64.wrap ((i:Int)+1)=((i+1:Nat):Int):=by unfold maxLen at hm;rw[bJ]<;>omega
   by_cases c:((Stmt.tot x:Nat):Int)≤L-(S:Int)
   ·have hz:szR (Stmt.tot x) (L-(S:Int))=L-((S+Stmt.tot x:Nat):Int):=by unfold szR;rw[if_pos c];omega
    have c2:¬(L-((S+Stmt.tot x:Nat):Int)<0):=by omega
    have c3:((S+Stmt.tot x:Nat):Int)≤L:=by omega
    rw[hz] at hf
    generalize ((S+Stmt.tot x:Nat):Int)=U at hf c2 c3 hn
    simp[hi,aT,hrow]
    try simp at hf
    refine aX hf ?_
    simp[c2,c3,hw]
    all_goals first|(intros;omega)|(refine hn _ ?_ c3;simp;done)|(refine⟨fun h=>by omega,hn _ ?_ c3⟩;simp;done)|(refine⟨fun h=>by omega,fun _=>hn _ ?_ c3⟩;simp;done)
   ·have hz:szR (Stmt.tot x) (L-(S:Int))=-1:=by unfold szR;rw[if_neg c]
    rw[hz] at hf
    simp[hi,aT,hrow]
    try simp at hf
    refine aX hf ?_
    simp
    exact hr _ (.inr ⟨by omega,rfl,_,_,rfl⟩)
  ·intro hI q hx hr
   rw[su] at hI ⊢
   simp
   exact hx _ _ (.inl ⟨hI,rfl,rfl⟩)
  ·rintro ex e (⟨h1,rfl,rfl⟩|⟨h1,rfl,a,b,rfl⟩)
   ·have hr:szR (List.length xs+(List.map Stmt.tot xs).sum) l=L-((xs.map Stmt.tot).sum:Nat):=by unfold szR;rw[if_pos]<;>omega
    rw[←hR,hr];simp
   ·have hr:szR (List.length xs+(List.map Stmt.tot xs).sum) l=-1:=by unfold szR;rw[if_neg];omega
    rw[←hR,hr];simp
theorem ada (x:Stmt) (hS:x.S.length≤maxLen) (hAt:∀ l:Int,0≤l→l≤1048576→Says prog 89 [.agg (Cs (Exp.d x.At)),.int .i64 l] (.int .i64 (szR (Exp.tot x.At) l)) []) (hE:∀ l:Int,0≤l→l≤1048576→Says prog 89 [.agg (Cs (Exp.d x.E)),.int .i64 l] (.int .i64 (szR (Exp.tot x.E) l)) []) (hLo:∀ l:Int,0≤l→l≤1048576→Says prog 89 [.agg (Cs (Exp.d x.Lo)),.int .i64 l] (.int .i64 (szR (Exp.tot x.Lo) l)) []) (hHi:∀ l:Int,0≤l→l≤1048576→Says prog 89 [.agg (Cs (Exp.d x.Hi)),.int .i64 l] (.int .i64 (szR (Exp.tot x.Hi) l)) []) (hBody:∀ l:Int,0≤l→l≤1048576→Says prog 47 [.rsl (List.length x.Body) (Cs ((List.flatMap Stmt.d x.Body))),.int .i64 l] (.int .i64 (szR (List.length x.Body+(List.map Stmt.tot x.Body).sum) l)) []):∀ l:Int,0≤l→l≤1048576→Says prog 35 [.agg (Cs (Stmt.d x)),.int .i64 l] (.int .i64 (szR (Stmt.tot x) l)) []:=by
 intro l l0 lb
 refine dD Go.Proofs.Tryz.func35 aJG ?_
 have ht:=Stmt.tot_eq x
 generalize (Exp.tot x.At)=TAt at hAt ht
 generalize (Exp.tot x.E)=TE at hE ht
 generalize (Exp.tot x.Lo)=TLo at hLo ht
 generalize (Exp.tot x.Hi)=THi at hHi ht
 generalize (List.length x.Body+(List.map Stmt.tot x.Body).sum)=TBody at hBody ht
 have wS:IntKind.i64.wrap (l-(List.length x.S:Int))=l-(List.length x.S:Int):=by unfold maxLen at hS;rw[bJ]<;>omega
 by_cases cS:(l)<((List.length x.S):Nat)
 ·have eS:¬((((List.length x.S):Nat):Int)≤l):=by omega
  have fS:l-(((List.length x.S):Nat):Int)<0:=by omega
  have hr:szR (Stmt.tot x) l=-1:=by unfold szR;rw[if_neg];omega
  rw[hr]
  simp[v35,r35,wS,cS,eS,fS]
 ·have eS:((((List.length x.S):Nat):Int)≤l):=by omega
  have fS:¬(l-(((List.length x.S):Nat):Int)<0):=by omega
  simp[v35,r35,wS,cS,eS,fS]
  have kAt:=hAt (l-(List.length x.S:Int)) (by omega) (by omega)
  try simp at kAt
  by_cases cAt:(l-(List.length x.S:Int))<(TAt:Nat)
  ·have eAt:¬(((TAt:Nat):Int)≤l-(List.length x.S:Int)):=by omega
   have fAt:l-(List.length x.S:Int)-((TAt:Nat):Int)<0:=by omega
   have hr:szR (Stmt.tot x) l=-1:=by unfold szR;rw[if_neg];omega
   rw[hr]
   have hz:szR TAt (l-(List.length x.S:Int))=-1:=by unfold szR;rw[if_neg];omega
   rw[hz] at kAt
   refine aX kAt ?_
   simp
  ·have hz:szR TAt (l-(List.length x.S:Int))=l-(List.length x.S:Int)-(TAt:Int):=by unfold szR;rw[if_pos];omega
   rw[hz] at kAt
   have dAt:¬((l-(List.length x.S:Int)-(TAt:Int))<0):=by omega
   have eAt:(((TAt:Nat):Int)≤l-(List.length x.S:Int)):=by omega
   refine aX kAt ?_
   simp[cAt,dAt,eAt]
   have kE:=hE (l-(List.length x.S:Int)-(TAt:Int)) (by omega) (by omega)
   try simp at kE
   by_cases cE:(l-(List.length x.S:Int)-(TAt:Int))<(TE:Nat)
   ·have eE:¬(((TE:Nat):Int)≤l-(List.length x.S:Int)-(TAt:Int)):=by omega
    have fE:l-(List.length x.S:Int)-(TAt:Int)-((TE:Nat):Int)<0:=by omega
    have hr:szR (Stmt.tot x) l=-1:=by unfold szR;rw[if_neg];omega
    rw[hr]
    have hz:szR TE (l-(List.length x.S:Int)-(TAt:Int))=-1:=by unfold szR;rw[if_neg];omega
    rw[hz] at kE
    refine aX kE ?_
    simp
   ·have hz:szR TE (l-(List.length x.S:Int)-(TAt:Int))=l-(List.length x.S:Int)-(TAt:Int)-(TE:Int):=by unfold szR;rw[if_pos];omega
    rw[hz] at kE
    have dE:¬((l-(List.length x.S:Int)-(TAt:Int)-(TE:Int))<0):=by omega
    have eE:(((TE:Nat):Int)≤l-(List.length x.S:Int)-(TAt:Int)):=by omega
    refine aX kE ?_
    simp[cE,dE,eE]
    have kLo:=hLo (l-(List.length x.S:Int)-(TAt:Int)-(TE:Int)) (by omega) (by omega)
    try simp at kLo
    by_cases cLo:(l-(List.length x.S:Int)-(TAt:Int)-(TE:Int))<(TLo:Nat)
    ·have eLo:¬(((TLo:Nat):Int)≤l-(List.length x.S:Int)-(TAt:Int)-(TE:Int)):=by omega
     have fLo:l-(List.length x.S:Int)-(TAt:Int)-(TE:Int)-((TLo:Nat):Int)<0:=by omega
     have hr:szR (Stmt.tot x) l=-1:=by unfold szR;rw[if_neg];omega
     rw[hr]
     have hz:szR TLo (l-(List.length x.S:Int)-(TAt:Int)-(TE:Int))=-1:=by unfold szR;rw[if_neg];omega
     rw[hz] at kLo
     refine aX kLo ?_
     simp
    ·have hz:szR TLo (l-(List.length x.S:Int)-(TAt:Int)-(TE:Int))=l-(List.length x.S:Int)-(TAt:Int)-(TE:Int)-(TLo:Int):=by unfold szR;rw[if_pos];omega
     rw[hz] at kLo
     have dLo:¬((l-(List.length x.S:Int)-(TAt:Int)-(TE:Int)-(TLo:Int))<0):=by omega
     have eLo:(((TLo:Nat):Int)≤l-(List.length x.S:Int)-(TAt:Int)-(TE:Int)):=by omega
     refine aX kLo ?_
     simp[cLo,dLo,eLo]
     have kHi:=hHi (l-(List.length x.S:Int)-(TAt:Int)-(TE:Int)-(TLo:Int)) (by omega) (by omega)
     try simp at kHi
     by_cases cHi:(l-(List.length x.S:Int)-(TAt:Int)-(TE:Int)-(TLo:Int))<(THi:Nat)
     ·have eHi:¬(((THi:Nat):Int)≤l-(List.length x.S:Int)-(TAt:Int)-(TE:Int)-(TLo:Int)):=by omega
      have fHi:l-(List.length x.S:Int)-(TAt:Int)-(TE:Int)-(TLo:Int)-((THi:Nat):Int)<0:=by omega
      have hr:szR (Stmt.tot x) l=-1:=by unfold szR;rw[if_neg];omega
      rw[hr]
      have hz:szR THi (l-(List.length x.S:Int)-(TAt:Int)-(TE:Int)-(TLo:Int))=-1:=by unfold szR;rw[if_neg];omega
      rw[hz] at kHi
      refine aX kHi ?_
      simp
     ·have hz:szR THi (l-(List.length x.S:Int)-(TAt:Int)-(TE:Int)-(TLo:Int))=l-(List.length x.S:Int)-(TAt:Int)-(TE:Int)-(TLo:Int)-(THi:Int):=by unfold szR;rw[if_pos];omega
      rw[hz] at kHi
      have dHi:¬((l-(List.length x.S:Int)-(TAt:Int)-(TE:Int)-(TLo:Int)-(THi:Int))<0):=by omega
      have eHi:(((THi:Nat):Int)≤l-(List.length x.S:Int)-(TAt:Int)-(TE:Int)-(TLo:Int)):=by omega
      refine aX kHi ?_
      simp[cHi,dHi,eHi]
      have kBody:=hBody (l-(List.length x.S:Int)-(TAt:Int)-(TE:Int)-(TLo:Int)-(THi:Int)) (by omega) (by omega)
      try simp at kBody
      by_cases cBody:(l-(List.length x.S:Int)-(TAt:Int)-(TE:Int)-(TLo:Int)-(THi:Int))<(TBody:Nat)
      ·have eBody:¬(((TBody:Nat):Int)≤l-(List.length x.S:Int)-(TAt:Int)-(TE:Int)-(TLo:Int)-(THi:Int)):=by omega
       have fBody:l-(List.length x.S:Int)-(TAt:Int)-(TE:Int)-(TLo:Int)-(THi:Int)-((TBody:Nat):Int)<0:=by omega
       have hr:szR (Stmt.tot x) l=-1:=by unfold szR;rw[if_neg];omega
       rw[hr]
       have hz:szR TBody (l-(List.length x.S:Int)-(TAt:Int)-(TE:Int)-(TLo:Int)-(THi:Int))=-1:=by unfold szR;rw[if_neg];omega
       rw[hz] at kBody
       refine aX kBody ?_
       simp
      ·have hz:szR TBody (l-(List.length x.S:Int)-(TAt:Int)-(TE:Int)-(TLo:Int)-(THi:Int))=l-(List.length x.S:Int)-(TAt:Int)-(TE:Int)-(TLo:Int)-(THi:Int)-(TBody:Int):=by unfold szR;rw[if_pos];omega
       have hr:szR (Stmt.tot x) l=l-(List.length x.S:Int)-(TAt:Int)-(TE:Int)-(TLo:Int)-(THi:Int)-(TBody:Int):=by unfold szR;rw[if_pos]<;>omega
       rw[hr]
       rw[hz] at kBody
       have dBody:¬((l-(List.length x.S:Int)-(TAt:Int)-(TE:Int)-(TLo:Int)-(THi:Int)-(TBody:Int))<0):=by omega
       have eBody:(((TBody:Nat):Int)≤l-(List.length x.S:Int)-(TAt:Int)-(TE:Int)-(TLo:Int)-(THi:Int)):=by omega
       refine aX kBody ?_
       simp[cBody,dBody,eBody]
theorem auM (x:Arr) (hName:x.Name.length≤maxLen):∀ l:Int,0≤l→l≤1048576→Says prog 105 [.agg (Cs (Arr.d x)),.int .i64 l] (.int .i64 (szR (Arr.tot x) l)) []:=by
 intro l l0 lb
 refine dD Go.Proofs.Tryz.func105 aw5 ?_
 have ht:=Arr.tot_eq x
 have wName:IntKind.i64.wrap (l-(List.length x.Name:Int))=l-(List.length x.Name:Int):=by unfold maxLen at hName;rw[bJ]<;>omega
 by_cases cName:(l)<((List.length x.Name):Nat)
 ·have eName:¬((((List.length x.Name):Nat):Int)≤l):=by omega
  have fName:l-(((List.length x.Name):Nat):Int)<0:=by omega
  have hr:szR (Arr.tot x) l=-1:=by unfold szR;rw[if_neg];omega
  rw[hr]
  simp[v105,at6,wName,cName,eName,fName]
 ·have hr:szR (Arr.tot x) l=l-(List.length x.Name:Int):=by unfold szR;rw[if_pos]<;>omega
  rw[hr]
  have eName:((((List.length x.Name):Nat):Int)≤l):=by omega
  have fName:¬(l-(((List.length x.Name):Nat):Int)<0):=by omega
  simp[v105,at6,wName,cName,eName,fName]
theorem adk (xs:List Arr) (hm:xs.length≤maxLen) (h:∀ x∈xs,∀ l:Int,0≤l→l≤1048576→Says prog 105 [.agg (Cs (Arr.d x)),.int .i64 l] (.int .i64 (szR (Arr.tot x) l)) []):∀ l:Int,0≤l→l≤1048576→Says prog 46 [.rsl (List.length xs) (Cs ((List.flatMap Arr.d xs))),.int .i64 l] (.int .i64 (szR (List.length xs+(List.map Arr.tot xs).sum) l)) []:=by
 intro l l0 lb
 have hw:IntKind.i64.wrap (l-xs.length)=l-xs.length:=by unfold maxLen at hm;rw[bJ]<;>omega
 refine dD Go.Proofs.Tryz.func46 aJD ?_
 by_cases c:l<xs.length
 ·have hr:szR (List.length xs+(List.map Arr.tot xs).sum) l=-1:=by unfold szR;rw[if_neg];omega
  have c':¬((xs.length:Int)≤l):=by omega
  have d:l-(xs.length:Int)<0:=by omega
  rw[hr];simp[v46,r46,hw,c,c',d]
 ·have c':(xs.length:Int)≤l:=by omega
  have d:¬(l-(xs.length:Int)<0):=by omega
  generalize hR:szR (List.length xs+(List.map Arr.tot xs).sum) l=R0
  simp[v46,r46,hw,c,c',d]
  obtain⟨L,hL⟩:∃ L,l-(xs.length:Int)=L:=⟨_,rfl⟩
  rw[hL]
  refine iF (l:=ab8) (b:=acL) rfl [] (fun i=>[.rsl (List.length xs) (Cs ((List.flatMap Arr.d xs))),.int .i64 (L-((((xs.take i).map Arr.tot).sum:Nat):Int)),.int .i64 0,.dead,.int .i64 (i:Int),.dead,.dead]) (fun i=>((((xs.take i).map Arr.tot).sum:Nat):Int)≤L) xs.length
   (fun ex e=>((((xs.map Arr.tot).sum:Nat):Int)≤L∧ex=.exit 0∧e=[.rsl (List.length xs) (Cs ((List.flatMap Arr.d xs))),.int .i64 (L-((xs.map Arr.tot).sum:Nat)),.int .i64 0,.dead,.int .i64 xs.length,.dead,.dead])∨(¬(((xs.map Arr.tot).sum:Nat):Int)≤L∧ex=.ret∧∃ a b,e=[.rsl (List.length xs) (Cs ((List.flatMap Arr.d xs))),a,.int .i64 (-1),.dead,b,.dead,.dead])) ?_ ?_ (by simp;omega) (by simp) ?_
  ·intro i hi hI q hn hx hr
   obtain⟨x,hx0⟩:∃ x,xs[i]?=some x:=⟨_,List.getElem?_eq_getElem hi⟩
   have hs:=iM Arr.tot hx0
   have hle:=sum_take_le Arr.tot xs (i+1)
   rw[hs] at hle hn
   generalize ((xs.take i).map Arr.tot).sum=S at hle hI hn ⊢
   generalize hT:(xs.map Arr.tot).sum=T at hle hx hr
   have hf:=h x (List.mem_of_getElem? hx0) (L-(S:Int)) (by omega) (by omega)
   have hrow:=row_drop Arr.d 2 Arr.d_len hx0
   have hw:IntKind.i64.wrap ((i:Int)+1)=((i+1:Nat):Int):=by unfold maxLen at hm;rw[bJ]<;>omega
   by_cases c:((Arr.tot x:Nat):Int)≤L-(S:Int)
   ·have hz:szR (Arr.tot x) (L-(S:Int))=L-((S+Arr.tot x:Nat):Int):=by unfold szR;rw[if_pos c];omega
    have c2:¬(L-((S+Arr.tot x:Nat):Int)<0):=by omega
    have c3:((S+Arr.tot x:Nat):Int)≤L:=by omega
    rw[hz] at hf
    generalize ((S+Arr.tot x:Nat):Int)=U at hf c2 c3 hn
    simp[hi,aT,hrow]
    try simp at hf
    refine aX hf ?_
    simp[c2,c3,hw]
    all_goals first|(intros;omega)|(refine hn _ ?_ c3;simp;done)|(refine⟨fun h=>by omega,hn _ ?_ c3⟩;simp;done)|(refine⟨fun h=>by omega,fun _=>hn _ ?_ c3⟩;simp;done)
   ·have hz:szR (Arr.tot x) (L-(S:Int))=-1:=by unfold szR;rw[if_neg c]
    rw[hz] at hf
    simp[hi,aT,hrow]
    try simp at hf
    refine aX hf ?_
    simp
    exact hr _ (.inr ⟨by omega,rfl,_,_,rfl⟩)
  ·intro hI q hx hr
   rw[su] at hI ⊢
   simp
   exact hx _ _ (.inl ⟨hI,rfl,rfl⟩)
  ·rintro ex e (⟨h1,rfl,rfl⟩|⟨h1,rfl,a,b,rfl⟩)
   ·have hr:szR (List.length xs+(List.map Arr.tot xs).sum) l=L-((xs.map Arr.tot).sum:Nat):=by unfold szR;rw[if_pos]<;>omega
    rw[←hR,hr];simp
   ·have hr:szR (List.length xs+(List.map Arr.tot xs).sum) l=-1:=by unfold szR;rw[if_neg];omega
    rw[←hR,hr];simp
theorem ade (x:Prog) (hArrs:∀ l:Int,0≤l→l≤1048576→Says prog 46 [.rsl (List.length x.Arrs) (Cs ((List.flatMap Arr.d x.Arrs))),.int .i64 l] (.int .i64 (szR (List.length x.Arrs+(List.map Arr.tot x.Arrs).sum) l)) []) (hBody:∀ l:Int,0≤l→l≤1048576→Says prog 47 [.rsl (List.length x.Body) (Cs ((List.flatMap Stmt.d x.Body))),.int .i64 l] (.int .i64 (szR (List.length x.Body+(List.map Stmt.tot x.Body).sum) l)) []):∀ l:Int,0≤l→l≤1048576→Says prog 10 [.agg (Cs (Prog.d x)),.int .i64 l] (.int .i64 (szR (Prog.tot x) l)) []:=by
 intro l l0 lb
 refine dD Go.Proofs.Tryz.func10 aJT ?_
 have ht:=Prog.tot_eq x
 generalize (List.length x.Arrs+(List.map Arr.tot x.Arrs).sum)=TArrs at hArrs ht
 generalize (List.length x.Body+(List.map Stmt.tot x.Body).sum)=TBody at hBody ht
 have kArrs:=hArrs (l) (by omega) (by omega)
 try simp at kArrs
 by_cases cArrs:(l)<(TArrs:Nat)
 ·have eArrs:¬(((TArrs:Nat):Int)≤l):=by omega
  have fArrs:l-((TArrs:Nat):Int)<0:=by omega
  have hr:szR (Prog.tot x) l=-1:=by unfold szR;rw[if_neg];omega
  rw[hr]
  have hz:szR TArrs (l)=-1:=by unfold szR;rw[if_neg];omega
  rw[hz] at kArrs
  simp[v10,r10]
  refine aX kArrs ?_
  simp
 ·have hz:szR TArrs (l)=l-(TArrs:Int):=by unfold szR;rw[if_pos];omega
  rw[hz] at kArrs
  have dArrs:¬((l-(TArrs:Int))<0):=by omega
  have eArrs:(((TArrs:Nat):Int)≤l):=by omega
  simp[v10,r10]
  refine aX kArrs ?_
  simp[cArrs,dArrs,eArrs]
  have kBody:=hBody (l-(TArrs:Int)) (by omega) (by omega)
  try simp at kBody
  by_cases cBody:(l-(TArrs:Int))<(TBody:Nat)
  ·have eBody:¬(((TBody:Nat):Int)≤l-(TArrs:Int)):=by omega
   have fBody:l-(TArrs:Int)-((TBody:Nat):Int)<0:=by omega
   have hr:szR (Prog.tot x) l=-1:=by unfold szR;rw[if_neg];omega
   rw[hr]
   have hz:szR TBody (l-(TArrs:Int))=-1:=by unfold szR;rw[if_neg];omega
   rw[hz] at kBody
   refine aX kBody ?_
   simp
  ·have hz:szR TBody (l-(TArrs:Int))=l-(TArrs:Int)-(TBody:Int):=by unfold szR;rw[if_pos];omega
   have hr:szR (Prog.tot x) l=l-(TArrs:Int)-(TBody:Int):=by unfold szR;rw[if_pos]<;>omega
   rw[hr]
   rw[hz] at kBody
   have dBody:¬((l-(TArrs:Int)-(TBody:Int))<0):=by omega
   have eBody:(((TBody:Nat):Int)≤l-(TArrs:Int)):=by omega
   refine aX kBody ?_
   simp[cBody,dBody,eBody]
theorem adg (xs:List Int) (hm:xs.length≤maxLen):∀ l:Int,0≤l→l≤1048576→Says prog 66 [.rsl (List.length xs) (Cs ((List.flatMap eu xs))),.int .i64 l] (.int .i64 (szR (List.length xs) l)) []:=by
 intro l l0 lb
 have hw:IntKind.i64.wrap (l-xs.length)=l-xs.length:=by unfold maxLen at hm;rw[bJ]<;>omega
 refine dD Go.Proofs.Tryz.func66 aJs ?_
 by_cases c:l<xs.length
 ·have hr:szR xs.length l=-1:=by unfold szR;rw[if_neg];omega
  have c':¬((xs.length:Int)≤l):=by omega
  have d:l-(xs.length:Int)<0:=by omega
  rw[hr];simp[v66,r66,hw,c,c',d]
 ·have hr:szR xs.length l=l-xs.length:=by unfold szR;rw[if_pos];omega
  have c':(xs.length:Int)≤l:=by omega
  have d:¬(l-(xs.length:Int)<0):=by omega
  rw[hr];simp[v66,r66,hw,c,c',d]
theorem adc (xs:List Put) (hm:xs.length≤maxLen):∀ l:Int,0≤l→l≤1048576→Says prog 200 [.rsl (List.length xs) (Cs ((List.flatMap Put.d xs))),.int .i64 l] (.int .i64 (szR (List.length xs) l)) []:=by
 intro l l0 lb
 have hw:IntKind.i64.wrap (l-xs.length)=l-xs.length:=by unfold maxLen at hm;rw[bJ]<;>omega
 refine dD Go.Proofs.Tryz.func200 awf ?_
 by_cases c:l<xs.length
 ·have hr:szR xs.length l=-1:=by unfold szR;rw[if_neg];omega
  have c':¬((xs.length:Int)≤l):=by omega
  have d:l-(xs.length:Int)<0:=by omega
  rw[hr];simp[atu,atP,hw,c,c',d]
 ·have hr:szR xs.length l=l-xs.length:=by unfold szR;rw[if_pos];omega
  have c':(xs.length:Int)≤l:=by omega
  have d:¬(l-(xs.length:Int)<0):=by omega
  rw[hr];simp[atu,atP,hw,c,c',d]
theorem adi (x:Hand) (hStack:∀ l:Int,0≤l→l≤1048576→Says prog 66 [.rsl (List.length x.Stack) (Cs ((List.flatMap eu x.Stack))),.int .i64 l] (.int .i64 (szR (List.length x.Stack) l)) []) (hRegs:∀ l:Int,0≤l→l≤1048576→Says prog 66 [.rsl (List.length x.Regs) (Cs ((List.flatMap eu x.Regs))),.int .i64 l] (.int .i64 (szR (List.length x.Regs) l)) []) (hShelf:∀ l:Int,0≤l→l≤1048576→Says prog 200 [.rsl (List.length x.Shelf) (Cs ((List.flatMap Put.d x.Shelf))),.int .i64 l] (.int .i64 (szR (List.length x.Shelf) l)) []):∀ l:Int,0≤l→l≤1048576→Says prog 131 [.agg (Cs (Hand.d x)),.int .i64 l] (.int .i64 (szR (Hand.tot x) l)) []:=by
 intro l l0 lb
 refine dD Go.Proofs.Tryz.func131 awR ?_
 have ht:=Hand.tot_eq x
 have kStack:=hStack (l) (by omega) (by omega)
 try simp at kStack
 by_cases cStack:(l)<((List.length x.Stack):Nat)
 ·have eStack:¬((((List.length x.Stack):Nat):Int)≤l):=by omega
  have fStack:l-(((List.length x.Stack):Nat):Int)<0:=by omega
  have hr:szR (Hand.tot x) l=-1:=by unfold szR;rw[if_neg];omega
  rw[hr]
  have hz:szR (List.length x.Stack) (l)=-1:=by unfold szR;rw[if_neg];omega
  rw[hz] at kStack
  simp[v131,atZ]
  refine aX kStack ?_
  simp
 ·have hz:szR (List.length x.Stack) (l)=l-((List.length x.Stack):Int):=by unfold szR;rw[if_pos];omega
  rw[hz] at kStack
  have dStack:¬((l-((List.length x.Stack):Int))<0):=by omega
  have eStack:((((List.length x.Stack):Nat):Int)≤l):=by omega
  simp[v131,atZ]
  refine aX kStack ?_
  simp[cStack,dStack,eStack]
  have kRegs:=hRegs (l-((List.length x.Stack):Int)) (by omega) (by omega)
  try simp at kRegs
  by_cases cRegs:(l-((List.length x.Stack):Int))<((List.length x.Regs):Nat)
  ·have eRegs:¬((((List.length x.Regs):Nat):Int)≤l-((List.length x.Stack):Int)):=by omega
   have fRegs:l-((List.length x.Stack):Int)-(((List.length x.Regs):Nat):Int)<0:=by omega
   have hr:szR (Hand.tot x) l=-1:=by unfold szR;rw[if_neg];omega
   rw[hr]
   have hz:szR (List.length x.Regs) (l-((List.length x.Stack):Int))=-1:=by unfold szR;rw[if_neg];omega
   rw[hz] at kRegs
   refine aX kRegs ?_
   simp
  ·have hz:szR (List.length x.Regs) (l-((List.length x.Stack):Int))=l-((List.length x.Stack):Int)-((List.length x.Regs):Int):=by unfold szR;rw[if_pos];omega
   rw[hz] at kRegs
   have dRegs:¬((l-((List.length x.Stack):Int)-((List.length x.Regs):Int))<0):=by omega
   have eRegs:((((List.length x.Regs):Nat):Int)≤l-((List.length x.Stack):Int)):=by omega
   refine aX kRegs ?_
   simp[cRegs,dRegs,eRegs]
   have kShelf:=hShelf (l-((List.length x.Stack):Int)-((List.length x.Regs):Int)) (by omega) (by omega)
   try simp at kShelf
   by_cases cShelf:(l-((List.length x.Stack):Int)-((List.length x.Regs):Int))<((List.length x.Shelf):Nat)
   ·have eShelf:¬((((List.length x.Shelf):Nat):Int)≤l-((List.length x.Stack):Int)-((List.length x.Regs):Int)):=by omega
    have fShelf:l-((List.length x.Stack):Int)-((List.length x.Regs):Int)-(((List.length x.Shelf):Nat):Int)<0:=by omega
    have hr:szR (Hand.tot x) l=-1:=by unfold szR;rw[if_neg];omega
    rw[hr]
    have hz:szR (List.length x.Shelf) (l-((List.length x.Stack):Int)-((List.length x.Regs):Int))=-1:=by unfold szR;rw[if_neg];omega
    rw[hz] at kShelf
    refine aX kShelf ?_
    simp
   ·have hz:szR (List.length x.Shelf) (l-((List.length x.Stack):Int)-((List.length x.Regs):Int))=l-((List.length x.Stack):Int)-((List.length x.Regs):Int)-((List.length x.Shelf):Int):=by unfold szR;rw[if_pos];omega
    have hr:szR (Hand.tot x) l=l-((List.length x.Stack):Int)-((List.length x.Regs):Int)-((List.length x.Shelf):Int):=by unfold szR;rw[if_pos]<;>omega
    rw[hr]
    rw[hz] at kShelf
    have dShelf:¬((l-((List.length x.Stack):Int)-((List.length x.Regs):Int)-((List.length x.Shelf):Int))<0):=by omega
    have eShelf:((((List.length x.Shelf):Nat):Int)≤l-((List.length x.Stack):Int)-((List.length x.Regs):Int)):=by omega
    refine aX kShelf ?_
    simp[cShelf,dShelf,eShelf]
theorem SY (xs:List Hand) (hm:xs.length≤maxLen) (h:∀ x∈xs,∀ l:Int,0≤l→l≤1048576→Says prog 131 [.agg (Cs (Hand.d x)),.int .i64 l] (.int .i64 (szR (Hand.tot x) l)) []):∀ l:Int,0≤l→l≤1048576→Says prog 67 [.rsl (List.length xs) (Cs ((List.flatMap Hand.d xs))),.int .i64 l] (.int .i64 (szR (List.length xs+(List.map Hand.tot xs).sum) l)) []:=by
 intro l l0 lb
 have hw:IntKind.i64.wrap (l-xs.length)=l-xs.length:=by unfold maxLen at hm;rw[bJ]<;>omega
 refine dD Go.Proofs.Tryz.func67 aJr ?_
 by_cases c:l<xs.length
 ·have hr:szR (List.length xs+(List.map Hand.tot xs).sum) l=-1:=by unfold szR;rw[if_neg];omega
  have c':¬((xs.length:Int)≤l):=by omega
  have d:l-(xs.length:Int)<0:=by omega
  rw[hr];simp[v67,r67,hw,c,c',d]
 ·have c':(xs.length:Int)≤l:=by omega
  have d:¬(l-(xs.length:Int)<0):=by omega
  generalize hR:szR (List.length xs+(List.map Hand.tot xs).sum) l=R0
  simp[v67,r67,hw,c,c',d]
  obtain⟨L,hL⟩:∃ L,l-(xs.length:Int)=L:=⟨_,rfl⟩
  rw[hL]
  refine iF (l:=abZ) (b:=acD) rfl [] (fun i=>[.rsl (List.length xs) (Cs ((List.flatMap Hand.d xs))),.int .i64 (L-((((xs.take i).map Hand.tot).sum:Nat):Int)),.int .i64 0,.dead,.int .i64 (i:Int),.dead,.dead]) (fun i=>((((xs.take i).map Hand.tot).sum:Nat):Int)≤L) xs.length
   (fun ex e=>((((xs.map Hand.tot).sum:Nat):Int)≤L∧ex=.exit 0∧e=[.rsl (List.length xs) (Cs ((List.flatMap Hand.d xs))),.int .i64 (L-((xs.map Hand.tot).sum:Nat)),.int .i64 0,.dead,.int .i64 xs.length,.dead,.dead])∨(¬(((xs.map Hand.tot).sum:Nat):Int)≤L∧ex=.ret∧∃ a b,e=[.rsl (List.length xs) (Cs ((List.flatMap Hand.d xs))),a,.int .i64 (-1),.dead,b,.dead,.dead])) ?_ ?_ (by simp;omega) (by simp) ?_
  ·intro i hi hI q hn hx hr
   obtain⟨x,hx0⟩:∃ x,xs[i]?=some x:=⟨_,List.getElem?_eq_getElem hi⟩
   have hs:=iM Hand.tot hx0
   have hle:=sum_take_le Hand.tot xs (i+1)
   rw[hs] at hle hn
   generalize ((xs.take i).map Hand.tot).sum=S at hle hI hn ⊢
   generalize hT:(xs.map Hand.tot).sum=T at hle hx hr
   have hf:=h x (List.mem_of_getElem? hx0) (L-(S:Int)) (by omega) (by omega)
   have hrow:=row_drop Hand.d 6 Hand.d_len hx0
   have hw:IntKind.i64.wrap ((i:Int)+1)=((i+1:Nat):Int):=by unfold maxLen at hm;rw[bJ]<;>omega
   by_cases c:((Hand.tot x:Nat):Int)≤L-(S:Int)
   ·have hz:szR (Hand.tot x) (L-(S:Int))=L-((S+Hand.tot x:Nat):Int):=by unfold szR;rw[if_pos c];omega
    have c2:¬(L-((S+Hand.tot x:Nat):Int)<0):=by omega
    have c3:((S+Hand.tot x:Nat):Int)≤L:=by omega
    rw[hz] at hf
    generalize ((S+Hand.tot x:Nat):Int)=U at hf c2 c3 hn
    simp[hi,aT,hrow]
    try simp at hf
    refine aX hf ?_
    simp[c2,c3,hw]
    all_goals first|(intros;omega)|(refine hn _ ?_ c3;simp;done)|(refine⟨fun h=>by omega,hn _ ?_ c3⟩;simp;done)|(refine⟨fun h=>by omega,fun _=>hn _ ?_ c3⟩;simp;done)
   ·have hz:szR (Hand.tot x) (L-(S:Int))=-1:=by unfold szR;rw[if_neg c]
    rw[hz] at hf
    simp[hi,aT,hrow]
    try simp at hf
    refine aX hf ?_
    simp
    exact hr _ (.inr ⟨by omega,rfl,_,_,rfl⟩)
  ·intro hI q hx hr
   rw[su] at hI ⊢
   simp
   exact hx _ _ (.inl ⟨hI,rfl,rfl⟩)
  ·rintro ex e (⟨h1,rfl,rfl⟩|⟨h1,rfl,a,b,rfl⟩)
   ·have hr:szR (List.length xs+(List.map Hand.tot xs).sum) l=L-((xs.map Hand.tot).sum:Nat):=by unfold szR;rw[if_pos]<;>omega
    rw[←hR,hr];simp
   ·have hr:szR (List.length xs+(List.map Hand.tot xs).sum) l=-1:=by unfold szR;rw[if_neg];omega
    rw[←hR,hr];simp
theorem adf (x:Mach) (hMem:∀ l:Int,0≤l→l≤1048576→Says prog 66 [.rsl (List.length x.Mem) (Cs ((List.flatMap eu x.Mem))),.int .i64 l] (.int .i64 (szR (List.length x.Mem) l)) []) (hHands:∀ l:Int,0≤l→l≤1048576→Says prog 67 [.rsl (List.length x.Hands) (Cs ((List.flatMap Hand.d x.Hands))),.int .i64 l] (.int .i64 (szR (List.length x.Hands+(List.map Hand.tot x.Hands).sum) l)) []) (hOut:∀ l:Int,0≤l→l≤1048576→Says prog 66 [.rsl (List.length x.Out) (Cs ((List.flatMap eu x.Out))),.int .i64 l] (.int .i64 (szR (List.length x.Out) l)) []):∀ l:Int,0≤l→l≤1048576→Says prog 18 [.agg (Cs (Mach.d x)),.int .i64 l] (.int .i64 (szR (Mach.tot x) l)) []:=by
 intro l l0 lb
 refine dD Go.Proofs.Tryz.func18 aJP ?_
 have ht:=Mach.tot_eq x
 generalize (List.length x.Hands+(List.map Hand.tot x.Hands).sum)=THands at hHands ht
 have kMem:=hMem (l) (by omega) (by omega)
 try simp at kMem
 by_cases cMem:(l)<((List.length x.Mem):Nat)
 ·have eMem:¬((((List.length x.Mem):Nat):Int)≤l):=by omega
  have fMem:l-(((List.length x.Mem):Nat):Int)<0:=by omega
  have hr:szR (Mach.tot x) l=-1:=by unfold szR;rw[if_neg];omega
  rw[hr]
  have hz:szR (List.length x.Mem) (l)=-1:=by unfold szR;rw[if_neg];omega
  rw[hz] at kMem
  simp[v18,r18]
  refine aX kMem ?_
  simp
 ·have hz:szR (List.length x.Mem) (l)=l-((List.length x.Mem):Int):=by unfold szR;rw[if_pos];omega
  rw[hz] at kMem
  have dMem:¬((l-((List.length x.Mem):Int))<0):=by omega
  have eMem:((((List.length x.Mem):Nat):Int)≤l):=by omega
  simp[v18,r18]
  refine aX kMem ?_
  simp[cMem,dMem,eMem]
  have kHands:=hHands (l-((List.length x.Mem):Int)) (by omega) (by omega)
  try simp at kHands
  by_cases cHands:(l-((List.length x.Mem):Int))<(THands:Nat)
  ·have eHands:¬(((THands:Nat):Int)≤l-((List.length x.Mem):Int)):=by omega
   have fHands:l-((List.length x.Mem):Int)-((THands:Nat):Int)<0:=by omega
   have hr:szR (Mach.tot x) l=-1:=by unfold szR;rw[if_neg];omega
   rw[hr]
   have hz:szR THands (l-((List.length x.Mem):Int))=-1:=by unfold szR;rw[if_neg];omega
   rw[hz] at kHands
   refine aX kHands ?_
   simp
  ·have hz:szR THands (l-((List.length x.Mem):Int))=l-((List.length x.Mem):Int)-(THands:Int):=by unfold szR;rw[if_pos];omega
   rw[hz] at kHands
   have dHands:¬((l-((List.length x.Mem):Int)-(THands:Int))<0):=by omega
   have eHands:(((THands:Nat):Int)≤l-((List.length x.Mem):Int)):=by omega
   refine aX kHands ?_
   simp[cHands,dHands,eHands]
   have kOut:=hOut (l-((List.length x.Mem):Int)-(THands:Int)) (by omega) (by omega)
   try simp at kOut
   by_cases cOut:(l-((List.length x.Mem):Int)-(THands:Int))<((List.length x.Out):Nat)
   ·have eOut:¬((((List.length x.Out):Nat):Int)≤l-((List.length x.Mem):Int)-(THands:Int)):=by omega
    have fOut:l-((List.length x.Mem):Int)-(THands:Int)-(((List.length x.Out):Nat):Int)<0:=by omega
    have hr:szR (Mach.tot x) l=-1:=by unfold szR;rw[if_neg];omega
    rw[hr]
    have hz:szR (List.length x.Out) (l-((List.length x.Mem):Int)-(THands:Int))=-1:=by unfold szR;rw[if_neg];omega
    rw[hz] at kOut
    refine aX kOut ?_
    simp
   ·have hz:szR (List.length x.Out) (l-((List.length x.Mem):Int)-(THands:Int))=l-((List.length x.Mem):Int)-(THands:Int)-((List.length x.Out):Int):=by unfold szR;rw[if_pos];omega
    have hr:szR (Mach.tot x) l=l-((List.length x.Mem):Int)-(THands:Int)-((List.length x.Out):Int):=by unfold szR;rw[if_pos]<;>omega
    rw[hr]
    rw[hz] at kOut
    have dOut:¬((l-((List.length x.Mem):Int)-(THands:Int)-((List.length x.Out):Int))<0):=by omega
    have eOut:((((List.length x.Out):Nat):Int)≤l-((List.length x.Mem):Int)-(THands:Int)):=by omega
    refine aX kOut ?_
    simp[cOut,dOut,eOut]
end Go.AmC
