import Derived.Test.YtafglhcclmbnbaaGreatLocksDoneS
set_option linter.unusedSimpArgs false
set_option linter.unusedVariables false
set_option maxRecDepth 20000
set_option maxHeartbeats 8000000
namespace Go.AmC
open Go Go.AM
open Go.Proofs.Tryz (prog)
theorem adh (xs:List Ins) (hm:xs.length≤maxLen):∀ l:Int,0≤l→l≤1048576→Says prog 65 [.rsl (List.length xs) (Cs ((List.flatMap Ins.d xs))),.int .i64 l] (.int .i64 (szR (List.length xs) l)) []:=by
 intro l l0 lb
 have hw:IntKind.i64.wrap (l-xs.length)=l-xs.length:=by unfold maxLen at hm;rw[bJ]<;>omega
 refine dD Go.Proofs.Tryz.func65 aJt ?_
 by_cases c:l<xs.length
 ·have hr:szR xs.length l=-1:=by unfold szR;rw[if_neg];omega
  have c':¬((xs.length:Int)≤l):=by omega
  have d:l-(xs.length:Int)<0:=by omega
  rw[hr];simp[v65,r65,hw,c,c',d]
 ·have hr:szR xs.length l=l-xs.length:=by unfold szR;rw[if_pos];omega
  have c':(xs.length:Int)≤l:=by omega
  have d:¬(l-(xs.length:Int)<0):=by omega
  rw[hr];simp[v65,r65,hw,c,c',d]
theorem SX (xs:List (List Ins)) (hm:xs.length≤maxLen) (h:∀ x∈xs,x.length≤maxLen):∀ l:Int,0≤l→l≤1048576→Says prog 17 [.rsl (List.length xs) (Cs ((List.flatMap dCode xs))),.int .i64 l] (.int .i64 (szR (List.length xs+(List.map List.length xs).sum) l)) []:=by
 intro l l0 lb
 have hw:IntKind.i64.wrap (l-xs.length)=l-xs.length:=by unfold maxLen at hm;rw[bJ]<;>omega
 refine dD Go.Proofs.Tryz.func17 aJQ ?_
 by_cases c:l<xs.length
 ·have hr:szR (List.length xs+(List.map List.length xs).sum) l=-1:=by unfold szR;rw[if_neg];omega
  have c':¬((xs.length:Int)≤l):=by omega
  have d:l-(xs.length:Int)<0:=by omega
  rw[hr];simp[v17,r17,hw,c,c',d]
 ·have c':(xs.length:Int)≤l:=by omega
  have d:¬(l-(xs.length:Int)<0):=by omega
  generalize hR:szR (List.length xs+(List.map List.length xs).sum) l=R0
  simp[v17,r17,hw,c,c',d]
  obtain⟨L,hL⟩:∃ L,l-(xs.length:Int)=L:=⟨_,rfl⟩
  rw[hL]
  refine iF (l:=acg) (b:=acS) rfl [] (fun i=>[.rsl (List.length xs) (Cs ((List.flatMap dCode xs))),.int .i64 (L-((((xs.take i).map List.length).sum:Nat):Int)),.int .i64 0,.dead,.int .i64 (i:Int),.dead,.dead]) (fun i=>((((xs.take i).map List.length).sum:Nat):Int)≤L) xs.length
   (fun ex e=>((((xs.map List.length).sum:Nat):Int)≤L∧ex=.exit 0∧e=[.rsl (List.length xs) (Cs ((List.flatMap dCode xs))),.int .i64 (L-((xs.map List.length).sum:Nat)),.int .i64 0,.dead,.int .i64 xs.length,.dead,.dead])∨(¬(((xs.map List.length).sum:Nat):Int)≤L∧ex=.ret∧∃ a b,e=[.rsl (List.length xs) (Cs ((List.flatMap dCode xs))),a,.int .i64 (-1),.dead,b,.dead,.dead])) ?_ ?_ (by simp;omega) (by simp) ?_
  ·intro i hi hI q hn hx hr
   obtain⟨x,hx0⟩:∃ x,xs[i]?=some x:=⟨_,List.getElem?_eq_getElem hi⟩
   have hs:=iM List.length hx0
   have hle:=Go.AM.sum_take_le List.length xs (i+1)
   rw[hs] at hle hn
   generalize ((xs.take i).map List.length).sum=S at hle hI hn ⊢
   generalize hT:(xs.map List.length).sum=T at hle hx hr
   have hf:=adh x (h x (List.mem_of_getElem? hx0)) (L-(S:Int)) (by omega) (by omega)
   have hrow:=row_drop dCode 1 (fun _=>rfl) hx0
   rw[Nat.mul_one] at hrow
   have hw:IntKind.i64.wrap ((i:Int)+1)=((i+1:Nat):Int):=by unfold maxLen at hm;rw[bJ]<;>omega
   by_cases c:((List.length x:Nat):Int)≤L-(S:Int)
   ·have hz:szR (List.length x) (L-(S:Int))=L-((S+List.length x:Nat):Int):=by unfold szR;rw[if_pos c];omega
    have c2:¬(L-((S+List.length x:Nat):Int)<0):=by omega
    have c3:((S+List.length x:Nat):Int)≤L:=by omega
    rw[hz] at hf
    generalize ((S+List.length x:Nat):Int)=U at hf c2 c3 hn
    simp[-List.length_flatMap,fM,hi,aT,hrow,dCode]
    try simp[-List.length_flatMap] at hf
    refine aX hf ?_
    simp[c2,c3,hw]
    all_goals first|(intros;omega)|(refine hn _ ?_ c3;simp;done)|(refine⟨fun h=>by omega,hn _ ?_ c3⟩;simp;done)|(refine⟨fun h=>by omega,fun _=>hn _ ?_ c3⟩;simp;done)
   ·have hz:szR (List.length x) (L-(S:Int))=-1:=by unfold szR;rw[if_neg c]
    rw[hz] at hf
    simp[-List.length_flatMap,fM,hi,aT,hrow,dCode]
    try simp[-List.length_flatMap] at hf
    refine aX hf ?_
    simp
    exact hr _ (.inr ⟨by omega,rfl,_,_,rfl⟩)
  ·intro hI q hx hr
   rw[su] at hI ⊢
   simp
   exact hx _ _ (.inl ⟨hI,rfl,rfl⟩)
  ·rintro ex e (⟨h1,rfl,rfl⟩|⟨h1,rfl,a,b,rfl⟩)
   ·have hr:szR (List.length xs+(List.map List.length xs).sum) l=L-((xs.map List.length).sum:Nat):=by unfold szR;rw[if_pos]<;>omega
    rw[←hR,hr];simp
   ·have hr:szR (List.length xs+(List.map List.length xs).sum) l=-1:=by unfold szR;rw[if_neg];omega
    rw[←hR,hr];simp
theorem ac6 (xs:List Ins) (hm:xs.length≤1048576):Says prog 70 [.rsl (List.length xs) (Cs ((List.flatMap Ins.d xs)))] (.osl 0 160 (List.length xs) (Ows ((List.flatMap Ins.d xs)))) []:=by
 refine dD Go.Proofs.Tryz.func70 aJp ?_
 have hs':(xs.length:Int)≤(bnd:Nat):=by unfold bnd;omega
 simp[v70,r70,hm,hs']
 refine iF (l:=abX) (b:=acB) rfl [] (fun i=>[.rsl (List.length xs) (Cs ((List.flatMap Ins.d xs))),.osl 0 160 0 [],.osl 0 160 xs.length (Ows ((xs.take i).flatMap Ins.d)++(List.replicate (xs.length-i) [.int .i64 0,.int .i64 0,.int .i64 0]).flatten),.int .i64 (i:Int),.dead]) (fun _=>True) xs.length
  (fun ex en=>ex=.exit 0∧en=[.rsl (List.length xs) (Cs ((List.flatMap Ins.d xs))),.osl 0 160 0 [],.osl 0 160 (List.length xs) (Ows ((List.flatMap Ins.d xs))),.int .i64 xs.length,.dead]) ?_ ?_ trivial (by simp) ?_
 ·intro i hi _ q hn hx hr
  obtain⟨x,hx0⟩:∃ x,xs[i]?=some x:=⟨_,List.getElem?_eq_getElem hi⟩
  have hrow:=row_drop Ins.d 3 Ins.d_len hx0
  have hw:IntKind.i64.wrap ((i:Int)+1)=((i+1:Nat):Int):=by rw[bJ]<;>omega
  have hlen:((xs.take i).flatMap Ins.d).length=i*3:=by rw[jg _ 3 Ins.d_len];simp;omega
  rw[kQ Ins.d hx0] at hn
  obtain⟨k,hk⟩:∃ k,xs.length-i=k+1:=⟨xs.length-i-1,by omega⟩
  rw[show xs.length-(i+1)=k by omega] at hn
  rw[hk]
  have hsp:=@jE (Ows ((xs.take i).flatMap Ins.d)) [.int .i64 0,.int .i64 0,.int .i64 0] (List.replicate k [.int .i64 0,.int .i64 0,.int .i64 0]).flatten (Ows (Ins.d x)) (i*3) (by simpa using hlen) (by simp)
  generalize (xs.take i).flatMap Ins.d=A at hsp hlen hn ⊢
  have hf:=abj x
  try simp at hf
  try simp at hsp
  simp[hi,aT,hrow,List.replicate_succ]
  refine aX hf ?_
  simp[hi,hsp,hw,hlen]
  refine hn _ ?_ trivial
  simp
 ·intro _ q hx hr
  simp
  exact hx _ _ ⟨rfl,by simp⟩
 ·rintro ex en ⟨rfl,rfl⟩
  simp
theorem SG (xs:List (List Ins)) (hm:xs.length≤1048576) (h:∀ x∈xs,x.length≤1048576):Says prog 20 [.rsl (List.length xs) (Cs ((List.flatMap dCode xs)))] (.osl 0 102 (List.length xs) (Ows ((List.flatMap dCode xs)))) []:=by
 refine dD Go.Proofs.Tryz.func20 aJN ?_
 have hs':(xs.length:Int)≤(bnd:Nat):=by unfold bnd;omega
 simp[v20,r20,hm,hs']
 refine iF (l:=ace) (b:=acQ) rfl [] (fun i=>[.rsl (List.length xs) (Cs ((List.flatMap dCode xs))),.osl 0 102 0 [],.osl 0 102 xs.length (Ows ((xs.take i).flatMap dCode)++(List.replicate (xs.length-i) [.osl 0 160 0 []]).flatten),.int .i64 (i:Int),.dead]) (fun _=>True) xs.length
  (fun ex en=>ex=.exit 0∧en=[.rsl (List.length xs) (Cs ((List.flatMap dCode xs))),.osl 0 102 0 [],.osl 0 102 (List.length xs) (Ows ((List.flatMap dCode xs))),.int .i64 xs.length,.dead]) ?_ ?_ trivial (by simp) ?_
 ·intro i hi _ q hn hx hr
  obtain⟨x,hx0⟩:∃ x,xs[i]?=some x:=⟨_,List.getElem?_eq_getElem hi⟩
  have hrow:=row_drop dCode 1 (fun _=>rfl) hx0
  rw[Nat.mul_one] at hrow
  have hw:IntKind.i64.wrap ((i:Int)+1)=((i+1:Nat):Int):=by rw[bJ]<;>omega
  have hlen:((xs.take i).flatMap dCode).length=i:=by rw[jg dCode 1 (fun _=>rfl)];simp;omega
  rw[kQ dCode hx0] at hn
  obtain⟨k,hk⟩:∃ k,xs.length-i=k+1:=⟨xs.length-i-1,by omega⟩
  rw[show xs.length-(i+1)=k by omega] at hn
  rw[hk]
  have hsp:=@jE (Ows ((xs.take i).flatMap dCode)) [.osl 0 160 0 []] (List.replicate k [.osl 0 160 0 []]).flatten (Ows (dCode x)) (i) (by simpa using hlen) (by simp[dCode])
  generalize (xs.take i).flatMap dCode=A at hsp hlen hn ⊢
  have hf:=ac6 x (h x (List.mem_of_getElem? hx0))
  try simp[-List.length_flatMap] at hf
  try simp[-List.length_flatMap,dCode] at hsp
  simp[-List.length_flatMap,fM,dCode,hi,aT,hrow,List.replicate_succ]
  refine aX hf ?_
  simp[-List.length_flatMap,fM,dCode,hi,hsp,hw,hlen]
  refine hn _ ?_ trivial
  simp[-List.length_flatMap,dCode]
 ·intro _ q hx hr
  simp
  exact hx _ _ ⟨rfl,by simp⟩
 ·rintro ex en ⟨rfl,rfl⟩
  simp
theorem adP (xs:List Ins) (hm:xs.length≤maxLen):Says prog 74 [.rsl (List.length xs) (Cs ((List.flatMap Ins.d xs))),.rsl (List.length xs) (Cs ((List.flatMap Ins.d xs)))] (.bool true) []:=by
 refine dD Go.Proofs.Tryz.func74 aJm ?_
 simp[v74,r74]
 refine iF (l:=abU) (b:=acy) rfl [] (fun i=>[.rsl (List.length xs) (Cs ((List.flatMap Ins.d xs))),.rsl (List.length xs) (Cs ((List.flatMap Ins.d xs))),.bool false,.dead,.int .i64 (i:Int),.dead,.dead]) (fun _=>True) xs.length
  (fun ex en=>ex=.exit 0∧en=[.rsl (List.length xs) (Cs ((List.flatMap Ins.d xs))),.rsl (List.length xs) (Cs ((List.flatMap Ins.d xs))),.bool false,.dead,.int .i64 xs.length,.dead,.dead]) ?_ ?_ trivial (by simp) ?_
 ·intro i hi _ q hn hx hr
  obtain⟨x,hx0⟩:∃ x,xs[i]?=some x:=⟨_,List.getElem?_eq_getElem hi⟩
  have hrow:=row_drop Ins.d 3 Ins.d_len hx0
  have hw:IntKind.i64.wrap ((i:Int)+1)=((i+1:Nat):Int):=by unfold maxLen at hm;rw[bJ]<;>omega
  have hf:=aco x
  try simp at hf
  simp[hi,aT,hrow,hw]
  refine bZ hf ?_
  simp[hw]
  refine hn _ ?_ trivial
  simp
 ·intro _ q hx hr
  simp
  exact hx _ _ ⟨rfl,rfl⟩
 ·rintro ex en ⟨rfl,rfl⟩
  simp
theorem Ul (xs:List (List Ins)) (hm:xs.length≤maxLen) (h:∀ x∈xs,x.length≤maxLen):Says prog 23 [.rsl (List.length xs) (Cs ((List.flatMap dCode xs))),.rsl (List.length xs) (Cs ((List.flatMap dCode xs)))] (.bool true) []:=by
 refine dD Go.Proofs.Tryz.func23 aJK ?_
 simp[v23,r23]
 refine iF (l:=acb) (b:=acO) rfl [] (fun i=>[.rsl (List.length xs) (Cs ((List.flatMap dCode xs))),.rsl (List.length xs) (Cs ((List.flatMap dCode xs))),.bool false,.dead,.int .i64 (i:Int),.dead,.dead]) (fun _=>True) xs.length
  (fun ex en=>ex=.exit 0∧en=[.rsl (List.length xs) (Cs ((List.flatMap dCode xs))),.rsl (List.length xs) (Cs ((List.flatMap dCode xs))),.bool false,.dead,.int .i64 xs.length,.dead,.dead]) ?_ ?_ trivial (by simp) ?_
 ·intro i hi _ q hn hx hr
  obtain⟨x,hx0⟩:∃ x,xs[i]?=some x:=⟨_,List.getElem?_eq_getElem hi⟩
  have hrow:=row_drop dCode 1 (fun _=>rfl) hx0
  rw[Nat.mul_one] at hrow
  have hw:IntKind.i64.wrap ((i:Int)+1)=((i+1:Nat):Int):=by unfold maxLen at hm;rw[bJ]<;>omega
  have hf:=adP x (h x (List.mem_of_getElem? hx0))
  try simp[-List.length_flatMap] at hf
  simp[-List.length_flatMap,fM,dCode,hi,aT,hrow,hw]
  refine bZ hf ?_
  simp[hw]
  refine hn _ ?_ trivial
  simp
 ·intro _ q hx hr
  simp
  exact hx _ _ ⟨rfl,rfl⟩
 ·rintro ex en ⟨rfl,rfl⟩
  simp
def yP (p:Prog) (code:List (List Ins)) (m:Mach):Bool:=if (decide (0<m.Hands.length)&&!(m.Hands.any (jC m)))=true then false else (List.range m.Hands.length).all fun k=>!(stepM p code m k).2
theorem H5 (p:Prog) (code:List (List Ins)) (m:Mach) (hp:p.tot≤5000000) (hc:fU code≤5000000) (hm:m.tot≤5000000) :
  Says prog 19 [.agg (Cs p.d),.rsl code.length (Cs (code.flatMap dCode)),.agg (Cs m.d)] (.bool (yP p code m)) []:=by
 have hmt:=m.tot_eq
 have f0:=KX m (by omega)
 have fs:=fun (k:Nat) (hk:k<m.Hands.length)=>Lu p code m hp hc hm hk
 refine dD Go.Proofs.Tryz.func19 aJO ?_
 generalize hR:yP p code m=R0
 unfold yP at hR
 obtain⟨G,hG⟩:∃ G:Nat→Mach × Bool,∀ k,stepM p code m k=G k:=⟨_,fun _=>rfl⟩
 simp only[hG] at fs hR
 generalize (decide (0<m.Hands.length)&&!(m.Hands.any (jC m)))=dn at f0 hR
 obtain⟨arrs,body⟩:=p
 obtain⟨mem,hands,out,trap⟩:=m
 simp only at hR hmt fs
 simp only[Mach.d_eq,Prog.d_eq,jL,nS,C_I,C_L,C_B,mO] at f0 fs
 simp[-List.length_flatMap,v19,r19]
 refine aX f0 ?_
 cases dn with
 | true=>simp at hR;simp[hR]
 | false =>
  rw[if_neg (by simp)] at hR
  simp[-List.length_flatMap]
  refine eY (l:=acf) (b:=acR) rfl [8,9,10] (fun i=>[(7,.int .i64 i)]) (fun i=>((List.range hands.length).take i).all (fun k=>!(G k).2)=true) hands.length (by simp) (by simp) ?_ ?_
  ·intro i hi hI q hn hx hr
   have hw:=wrap_succ (i:=i) (by omega)
   have fk:=fs i hi
   have hv:(List.range hands.length)[i]?=some i:=by simp[hi]
   cases e:(G i).2 with
   | true =>
    rw[e] at fk
    simp[-List.length_flatMap,hi]
    refine aX fk ?_
    simp[-List.length_flatMap,splice]
    refine hr _ ?_
    rw[nP hv (by simp[e])] at hR
    simp[←hR]
   | false =>
    rw[e] at fk
    simp[-List.length_flatMap,hi]
    refine aX fk ?_
    simp[-List.length_flatMap,splice]
    refine hn _ ?_ (ni hI hv (by simp[e]))
    simp[hw]
  ·intro hI q hx hr
   simp[-List.length_flatMap]
   refine hx _ _ ?_
   rw[List.take_of_length_le (by simp)] at hI
   rw[hI] at hR
   simp[←hR]
theorem H6 (p:Prog) (code:List (List Ins)) (m:Mach) (hp:p.tot≤5000000) (hc:fU code≤5000000) (hm:m.tot≤5000000) :
  Says prog 22 [.agg (Cs p.d),.rsl code.length (Cs (code.flatMap dCode)),.agg (Cs m.d)] (.bool (yP p code m)) []:=by
 have hmt:=m.tot_eq
 have f0:=KY m (by omega)
 have fs:=fun (k:Nat) (hk:k<m.Hands.length)=>LC p code m hp hc hm hk
 refine dD Go.Proofs.Tryz.func22 aJL ?_
 generalize hR:yP p code m=R0
 unfold yP at hR
 obtain⟨G,hG⟩:∃ G:Nat→Mach × Bool,∀ k,stepM p code m k=G k:=⟨_,fun _=>rfl⟩
 simp only[hG] at fs hR
 generalize (decide (0<m.Hands.length)&&!(m.Hands.any (jC m)))=dn at f0 hR
 obtain⟨arrs,body⟩:=p
 obtain⟨mem,hands,out,trap⟩:=m
 simp only at hR hmt fs
 simp only[Mach.d_eq,Prog.d_eq,jL,nS,C_I,C_L,C_B,mO] at f0 fs
 simp[-List.length_flatMap,v22,r22]
 refine aX f0 ?_
 cases dn with
 | true=>simp at hR;simp[hR]
 | false =>
  rw[if_neg (by simp)] at hR
  simp[-List.length_flatMap]
  refine eY (l:=acd) (b:=acP) rfl [9,10,11,12] (fun i=>[(8,.int .i64 i)]) (fun i=>((List.range hands.length).take i).all (fun k=>!(G k).2)=true) hands.length (by simp) (by simp) ?_ ?_
  ·intro i hi hI q hn hx hr
   have hw:=wrap_succ (i:=i) (by omega)
   have fk:=fs i hi
   have hv:(List.range hands.length)[i]?=some i:=by simp[hi]
   cases e:(G i).2 with
   | true =>
    rw[e] at fk
    simp[-List.length_flatMap,hi]
    refine aX fk ?_
    simp[-List.length_flatMap,splice]
    refine hr _ ?_
    rw[nP hv (by simp[e])] at hR
    simp[←hR]
   | false =>
    rw[e] at fk
    simp[-List.length_flatMap,hi]
    refine aX fk ?_
    simp[-List.length_flatMap,splice]
    refine hn _ ?_ (ni hI hv (by simp[e]))
    simp[hw]
  ·intro hI q hx hr
   simp[-List.length_flatMap]
   refine hx _ _ ?_
   rw[List.take_of_length_le (by simp)] at hI
   rw[hI] at hR
   simp[←hR]
def EK (c:List (List Ins)):Prop:=c.length≤maxLen∧∀ l∈c,l.length≤maxLen
theorem NT {c:List (List Ins)} {l:List Ins} (h:l∈c):l.length≤fU c:=by
 unfold fU
 induction c with
 | nil=>simp at h
 | cons a c ih =>
  rcases List.mem_cons.1 h with rfl|h
  ·simp;omega
  ·have:=ih h
   simp;omega
theorem Nk (c:List (List Ins)) (h:EK c):∀ l:Int,0≤l→l≤1048576→Says prog 17 [.rsl c.length (Cs (c.flatMap dCode)),.int .i64 l] (.int .i64 (szR (fU c) l)) []:=SX c h.1 h.2
theorem Nb (c:List (List Ins)) (h:fU c≤1048576):Says prog 20 [.rsl c.length (Cs (c.flatMap dCode))] (.osl 0 102 c.length (Ows (c.flatMap dCode))) []:=SG c (by unfold fU at h;omega) (fun x hx=>by have:=NT hx;omega)
theorem N8 (c:List (List Ins)) (h:EK c):Says prog 23 [.rsl c.length (Cs (c.flatMap dCode)),.rsl c.length (Cs (c.flatMap dCode))] (.bool true) []:=Ul c h.1 h.2
theorem law_Locks (p:Prog) (code:List (List Ins)) (m:Mach) (h1:Prog.lg p) (h2:EK code) (h3:Mach.lg m):Says prog 4 [.agg (Cs (Prog.d p)),.rsl code.length (Cs (code.flatMap dCode)),.agg (Cs (Mach.d m))] (.bool true) []:=by
 refine dD Go.Proofs.Tryz.func4 ok4 ?_
 have z1:=SN p h1 ((1048576:Int)) (by omega) (by omega)
 by_cases c1:((Prog.tot p:Nat):Int)≤(1048576:Int)
 ·have e1:szR (Prog.tot p) ((1048576:Int))=(1048576:Int)-(Prog.tot p:Nat):=by unfold szR;rw[if_pos c1]
  have d1:¬((1048576:Int)-(Prog.tot p:Nat)<0):=by omega
  rw[e1] at z1
  have z2:=Nk code h2 ((1048576:Int)-(Prog.tot p:Nat)) (by omega) (by omega)
  by_cases c2:((fU code:Nat):Int)≤(1048576:Int)-(Prog.tot p:Nat)
  ·have e2:szR (fU code) ((1048576:Int)-(Prog.tot p:Nat))=(1048576:Int)-(Prog.tot p:Nat)-(fU code:Nat):=by unfold szR;rw[if_pos c2]
   have d2:¬((1048576:Int)-(Prog.tot p:Nat)-(fU code:Nat)<0):=by omega
   rw[e2] at z2
   have z3:=SQ m h3 ((1048576:Int)-(Prog.tot p:Nat)-(fU code:Nat)) (by omega) (by omega)
   by_cases c3:((Mach.tot m:Nat):Int)≤(1048576:Int)-(Prog.tot p:Nat)-(fU code:Nat)
   ·have e3:szR (Mach.tot m) ((1048576:Int)-(Prog.tot p:Nat)-(fU code:Nat))=(1048576:Int)-(Prog.tot p:Nat)-(fU code:Nat)-(Mach.tot m:Nat):=by unfold szR;rw[if_pos c3]
    have d3:¬((1048576:Int)-(Prog.tot p:Nat)-(fU code:Nat)-(Mach.tot m:Nat)<0):=by omega
    rw[e3] at z3
    have b1:Prog.tot p≤1048576:=by omega
    have t1:=SA p b1
    have q1:=Uh p h1
    have b2:fU code≤1048576:=by omega
    have t2:=Nb code b2
    have q2:=N8 code h2
    have b3:Mach.tot m≤1048576:=by omega
    have t3:=SB m b3
    have q3:=Ui m h3
    have f1:=H5 p code m (by omega) (by omega) (by omega)
    have f2:=H6 p code m (by omega) (by omega) (by omega)
    try simp at z1
    try simp at z2
    try simp at z3
    try simp at t1
    try simp at q1
    try simp at t2
    try simp at q2
    try simp at t3
    try simp at q3
    try simp at f1
    try simp at f2
    simp[v4,r4]
    repeat' (first|refine aX (by assumption) ?_|refine bZ (by assumption) ?_|(simp[d1,d2,d3];done)|simp[d1,d2,d3])
   ·have e3:szR (Mach.tot m) ((1048576:Int)-(Prog.tot p:Nat)-(fU code:Nat))=-1:=by unfold szR;rw[if_neg c3]
    rw[e3] at z3
    try simp at z1
    try simp at z2
    try simp at z3
    simp[v4,r4]
    repeat' (first|refine aX (by assumption) ?_|(simp[d1,d2];done)|simp[d1,d2])
  ·have e2:szR (fU code) ((1048576:Int)-(Prog.tot p:Nat))=-1:=by unfold szR;rw[if_neg c2]
   rw[e2] at z2
   try simp at z1
   try simp at z2
   simp[v4,r4]
   repeat' (first|refine aX (by assumption) ?_|(simp[d1];done)|simp[d1])
 ·have e1:szR (Prog.tot p) ((1048576:Int))=-1:=by unfold szR;rw[if_neg c1]
  rw[e1] at z1
  try simp at z1
  simp[v4,r4]
  repeat' (first|refine aX (by assumption) ?_|(simp[];done)|simp[])
section
variable {H : Type} {enc : TypeId × Value → H} {w : World} {spare : Nat → Bool} {held : Bool}
theorem aJV:prog.cellsOf 97=1:=by kernel_rfl
theorem read_Codes:∀ (fuel:Nat) (cs:List Value) (z:DataW H × List MemPlace),DataW.trod enc prog w 0 spare held fuel 37 cs=some z→∃ y:List (List Ins),EK y∧Rd prog w [.L 102 y.length (y.flatMap dCode)] cs:=by
 intro fuel cs z h
 obtain⟨a,l,o,r⟩:=jB dCode (fun y=>y.length≤maxLen) 1 97 102 (fun _=>rfl) Go.Proofs.Tryz.underlying37 aJV h (fun m hm cs z hz=>by
  obtain⟨a,l,o,r⟩:=jB Ins.d (fun _=>True) 3 162 160 Ins.d_len Go.Proofs.Tryz.underlying97 Qg hz (fun m hm cs z hz=>by obtain⟨y,r⟩:=Ny m cs z hz;exact⟨y,trivial,r⟩)
  exact⟨a,l,r⟩)
 exact⟨a,⟨l,o⟩,r⟩
theorem rsl_of_rd {t n:Nat} {ds:List D} {v:Value} (h:Rd prog w [.L t n ds] [v]) {Φ:Nat→Prop} {σ:Nat→Value} {ρ:List Value} (hΦ:∀ b,b<w.heap.size→Φ b):VR prog w Φ σ ρ (.rsl n (Cs ds)) v (fun _=>0):=by
 have h1:=h Φ σ ρ hΦ
 simp only[jL,nS,C_L] at h1
 exact qX h1
end
end Go.AmC
