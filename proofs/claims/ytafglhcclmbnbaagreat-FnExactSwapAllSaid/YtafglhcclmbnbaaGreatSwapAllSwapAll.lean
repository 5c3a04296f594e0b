import Derived.Test.YtafglhcclmbnbaaGreatSwapAllSwapC
import Derived.Test.YtafglhcclmbnbaaGreatSwapAllMk
set_option linter.unusedSimpArgs false
set_option linter.unusedVariables false
set_option maxRecDepth 20000
set_option maxHeartbeats 4000000
namespace Go.AmC
open Go Go.AM
open Go.Proofs.Tryz (prog)
theorem qo:∀ e:Exp,e.tot≤5000000→Says prog 167 [.agg (Cs e.d)] (.agg (Ows e.d)) []:=Exp.ind fun e ih he=>by
 have ht:=e.tot_eq
 have hlB:e.L.length≤5000000:=by omega
 refine aP Go.Proofs.Tryz.func167 aGB ?_
 simp[v167,aOV,splice]
 refine gY (l:=UH) (b:=WF) rfl [8] (fun i=>[.agg (Cs e.d),.bx 0 72 (Cs e.d),.bx 0 72 [.int .i64 0,.int .i64 0,.str [],.osl 0 72 0 []],.bx 0 72 [.int .i64 e.K,.int .i64 e.N,.str e.S,.osl 0 72 i (Ows ((e.L.take i).flatMap Exp.d))],.rsl e.L.length (Cs (e.L.flatMap Exp.d)),.int .i64 e.L.length,.int .i64 (i:Int),.dead,.dead]) (fun _=>True) e.L.length
  (fun ex en=>ex=.exit 0∧en=[.agg (Cs e.d),.bx 0 72 (Cs e.d),.bx 0 72 [.int .i64 0,.int .i64 0,.str [],.osl 0 72 0 []],.bx 0 72 [.int .i64 e.K,.int .i64 e.N,.str e.S,.osl 0 72 e.L.length (Ows (e.L.flatMap Exp.d))],.rsl e.L.length (Cs (e.L.flatMap Exp.d)),.int .i64 e.L.length,.int .i64 e.L.length,.dead,.dead]) ?_ ?_ trivial (by simp) ?_
 ·intro i hi _ q hn hx hr
  obtain⟨y,hy0⟩:∃ y,e.L[i]?=some y:=⟨_,List.getElem?_eq_getElem hi⟩
  have hrow:=row_drop Exp.d 4 Exp.d_len hy0
  have hwi:IntKind.i64.wrap ((i:Int)+1)=((i+1:Nat):Int):=by rw[aA]<;>omega
  have hb:i+1≤bnd:=by unfold bnd;omega
  have hf:=ih y (List.mem_of_getElem? hy0) (by have:=az Exp.tot (List.mem_of_getElem? hy0);omega)
  have ht:(e.L.take (i+1)).flatMap Exp.d=(e.L.take i).flatMap Exp.d++y.d:=by
   rw[List.take_add_one,hy0];simp
  rw[ht] at hn
  generalize (e.L.take i).flatMap Exp.d=A at hn ⊢
  simp at hf
  simp[hi,aj,hrow]
  refine ay hf ?_
  simp[hwi,splice,hb]
  refine hn _ ?_ trivial
  simp
 ·intro _ q hx hr
  simp
  exact hx _ _ ⟨rfl,by simp⟩
 ·rintro ex en ⟨rfl,rfl⟩
  simp[splice]
theorem qm:∀ e:Exp,e.tot≤5000000→Says prog 156 [.agg (Cs e.d)] (.agg (Ows e.d)) []:=Exp.ind fun e ih he=>by
 have ht:=e.tot_eq
 have hlB:e.L.length≤5000000:=by omega
 refine aP Go.Proofs.Tryz.func156 aGF ?_
 simp[aM1,aOX,splice]
 refine gY (l:=UL) (b:=WJ) rfl [6] (fun i=>[.agg (Cs e.d),.bx 0 72 (Cs e.d),.bx 0 72 [.int .i64 0,.int .i64 0,.str [],.osl 0 72 0 []],.bx 0 72 [.int .i64 e.K,.int .i64 e.N,.str e.S,.osl 0 72 i (Ows ((e.L.take i).flatMap Exp.d))],.int .i64 (i:Int),.dead,.dead]) (fun _=>True) e.L.length
  (fun ex en=>ex=.exit 0∧en=[.agg (Cs e.d),.bx 0 72 (Cs e.d),.bx 0 72 [.int .i64 0,.int .i64 0,.str [],.osl 0 72 0 []],.bx 0 72 [.int .i64 e.K,.int .i64 e.N,.str e.S,.osl 0 72 e.L.length (Ows (e.L.flatMap Exp.d))],.int .i64 e.L.length,.dead,.dead]) ?_ ?_ trivial (by simp) ?_
 ·intro i hi _ q hn hx hr
  obtain⟨y,hy0⟩:∃ y,e.L[i]?=some y:=⟨_,List.getElem?_eq_getElem hi⟩
  have hrow:=row_drop Exp.d 4 Exp.d_len hy0
  have hwi:IntKind.i64.wrap ((i:Int)+1)=((i+1:Nat):Int):=by rw[aA]<;>omega
  have hb:i+1≤bnd:=by unfold bnd;omega
  have hf:=ih y (List.mem_of_getElem? hy0) (by have:=az Exp.tot (List.mem_of_getElem? hy0);omega)
  have ht:(e.L.take (i+1)).flatMap Exp.d=(e.L.take i).flatMap Exp.d++y.d:=by
   rw[List.take_add_one,hy0];simp
  rw[ht] at hn
  generalize (e.L.take i).flatMap Exp.d=A at hn ⊢
  simp at hf
  simp[hi,aj,hrow]
  refine ai hf ?_
  simp[hwi,splice,hb]
  refine hn _ ?_ trivial
  simp
 ·intro _ q hx hr
  simp
  exact hx _ _ ⟨rfl,by simp⟩
 ·rintro ex en ⟨rfl,rfl⟩
  simp[splice]
theorem vT (xs:List Stmt) (hl:xs.length≤5000000) (h:∀ x∈xs,Says prog 94 [.agg (Cs x.d)] (.agg (Ows x.d)) []) :
  Says prog 96 [.rsl xs.length (Cs (xs.flatMap Stmt.d))] (.osl 0 74 xs.length (Ows (xs.flatMap Stmt.d))) []:=by
 refine aP Go.Proofs.Tryz.func96 aS8 ?_
 simp[v96,r96]
 refine gY (l:=afP) (b:=agi) rfl [7] (fun i=>[.rsl xs.length (Cs (xs.flatMap Stmt.d)),.osl 0 74 0 [],.osl 0 74 i (Ows ((xs.take i).flatMap Stmt.d)),.rsl xs.length (Cs (xs.flatMap Stmt.d)),.int .i64 xs.length,.int .i64 (i:Int),.dead,.dead]) (fun _=>True) xs.length
  (fun ex en=>ex=.exit 0∧en=[.rsl xs.length (Cs (xs.flatMap Stmt.d)),.osl 0 74 0 [],.osl 0 74 xs.length (Ows (xs.flatMap Stmt.d)),.rsl xs.length (Cs (xs.flatMap Stmt.d)),.int .i64 xs.length,.int .i64 xs.length,.dead,.dead]) ?_ ?_ trivial (by simp) ?_
 ·intro i hi _ q hn hx hr
  obtain⟨y,hy0⟩:∃ y,xs[i]?=some y:=⟨_,List.getElem?_eq_getElem hi⟩
  have hrow:=row_drop Stmt.d 19 Stmt.d_len hy0
  have hwi:IntKind.i64.wrap ((i:Int)+1)=((i+1:Nat):Int):=by rw[aA]<;>omega
  have hb:i+1≤bnd:=by unfold bnd;omega
  have hf:=h y (List.mem_of_getElem? hy0)
  have ht:(xs.take (i+1)).flatMap Stmt.d=(xs.take i).flatMap Stmt.d++y.d:=by
   rw[List.take_add_one,hy0];simp
  rw[ht] at hn
  generalize (xs.take i).flatMap Stmt.d=A at hn ⊢
  simp at hf
  simp[hi,aj,hrow,splice]
  refine ai hf ?_
  simp[hwi,splice,hb]
  refine hn _ ?_ trivial
  simp
 ·intro _ q hx hr
  simp
  exact hx _ _ ⟨rfl,by simp⟩
 ·rintro ex en ⟨rfl,rfl⟩
  simp
theorem Au:∀ x:Stmt,x.tot≤5000000→Says prog 94 [.agg (Cs x.d)] (.agg (Ows x.d)) []:=Stmt.ind fun x ih hx=>by
 have ht:=x.tot_eq
 have fA:=qo x.At (by omega);have fE:=qo x.E (by omega);have fL:=qo x.Lo (by omega);have fH:=qo x.Hi (by omega)
 have fB:=vT x.Body (by omega) (fun y hy=>ih y hy (by have:=az Stmt.tot hy;omega))
 refine aP Go.Proofs.Tryz.func94 aS9 ?_
 try simp at fA
 try simp at fE
 try simp at fL
 try simp at fH
 try simp at fB
 simp[v94,r94,splice]
 refine ay fA ?_
 simp
 refine ay fE ?_
 simp
 refine ay fL ?_
 simp
 refine ay fH ?_
 simp
 refine ay fB ?_
 simp[splice]
theorem vH (xs:List Stmt) (hl:xs.length≤5000000) (h:∀ x∈xs,x.tot≤5000000∧Says prog 90 [.rsl x.Body.length (Cs (x.Body.flatMap Stmt.d))] (.osl 0 74 x.Body.length (Ows (x.Body.flatMap Stmt.d))) []) :
  Says prog 90 [.rsl xs.length (Cs (xs.flatMap Stmt.d))] (.osl 0 74 xs.length (Ows (xs.flatMap Stmt.d))) []:=by
 refine aP Go.Proofs.Tryz.func90 aTc ?_
 simp[v90,r90]
 refine gY (l:=afQ) (b:=agj) rfl [5] (fun i=>[.rsl xs.length (Cs (xs.flatMap Stmt.d)),.osl 0 74 0 [],.osl 0 74 i (Ows ((xs.take i).flatMap Stmt.d)),.int .i64 (i:Int),.dead,.dead]) (fun _=>True) xs.length
  (fun ex en=>ex=.exit 0∧en=[.rsl xs.length (Cs (xs.flatMap Stmt.d)),.osl 0 74 0 [],.osl 0 74 xs.length (Ows (xs.flatMap Stmt.d)),.int .i64 xs.length,.dead,.dead]) ?_ ?_ trivial (by simp) ?_
 ·intro i hi _ q hn hx hr
  obtain⟨y,hy0⟩:∃ y,xs[i]?=some y:=⟨_,List.getElem?_eq_getElem hi⟩
  have hrow:=row_drop Stmt.d 19 Stmt.d_len hy0
  have hwi:IntKind.i64.wrap ((i:Int)+1)=((i+1:Nat):Int):=by rw[aA]<;>omega
  have hb:i+1≤bnd:=by unfold bnd;omega
  obtain⟨hyt,fB⟩:=h y (List.mem_of_getElem? hy0)
  have hte:=y.tot_eq
  have fA:=qm y.At (by omega);have fE:=qm y.E (by omega);have fL:=qm y.Lo (by omega);have fH:=qm y.Hi (by omega)
  have ht:(xs.take (i+1)).flatMap Stmt.d=(xs.take i).flatMap Stmt.d++y.d:=by
   rw[List.take_add_one,hy0];simp
  rw[ht] at hn
  generalize (xs.take i).flatMap Stmt.d=A at hn ⊢
  try simp at fA
  try simp at fE
  try simp at fL
  try simp at fH
  try simp at fB
  simp[hi,aj,hrow,splice]
  refine ay fA ?_
  simp
  refine ay fE ?_
  simp
  refine ay fL ?_
  simp
  refine ay fH ?_
  simp
  refine ay fB ?_
  simp[hwi,splice,hb]
  refine hn _ ?_ trivial
  simp
 ·intro _ q hx hr
  simp
  exact hx _ _ ⟨rfl,by simp⟩
 ·rintro ex en ⟨rfl,rfl⟩
  simp
theorem Ar:∀ x:Stmt,x.tot≤5000000→Says prog 90 [.rsl x.Body.length (Cs (x.Body.flatMap Stmt.d))] (.osl 0 74 x.Body.length (Ows (x.Body.flatMap Stmt.d))) []:=Stmt.ind fun x ih hx=>by
 have ht:=x.tot_eq
 exact vH x.Body (by omega) fun y hy=>by
  have:=az Stmt.tot hy
  exact⟨by omega,ih y hy (by omega)⟩
theorem xY:∀ xs:List Arr,Cs (xs.flatMap Arr.d)=Ows (xs.flatMap Arr.d)
 | []=>by simp
 | x::xs=>by have:=xY xs;simp only[List.flatMap_cons,oQ,gU,this];simp
theorem Jk (xs:List Arr):(xs.flatMap Arr.d).length=xs.length*2:=dV Arr.d 2 Arr.d_len xs
theorem Lh (xs:List Arr) (hl:xs.length≤5000000):Says prog 101 [.rsl xs.length (Cs (xs.flatMap Arr.d))] (.osl 0 130 xs.length (Ows (xs.flatMap Arr.d))) []:=by
 cases xs with
 | nil =>
  refine Jr 0 (by simp) fun t=>?_
  refine aP Go.Proofs.Tryz.func101 afN ?_
  cases t<;>simp[aCQ,aDr]
 | cons x xs =>
  refine aP Go.Proofs.Tryz.func101 afN ?_
  have h1:=Jk (x::xs)
  have h2:=xY (x::xs)
  have hb:xs.length+1≤bnd:=by unfold bnd;simp at hl;omega
  simp only[List.length_cons] at h1 ⊢
  generalize List.flatMap Arr.d (x::xs)=A at h1 h2 ⊢
  simp[aCQ,aDr,nZ,h1,hb,h2]
theorem La (p:Prog) (hp:p.tot≤5000000):Says prog 55 [.agg (Cs p.d)] (.agg (Ows p.d)) []:=by
 have ht:=p.tot_eq
 have f1:=Lh p.Arrs (by omega)
 have f2:=vT p.Body (by omega) (fun x hx=>Au x (by have:=az Stmt.tot hx;omega))
 refine aP Go.Proofs.Tryz.func55 aTl ?_
 try simp at f1 f2
 simp[v55,r55,splice]
 refine ay f1 ?_
 simp[splice]
 refine ay f2 ?_
 simp[splice]
theorem KZ (p:Prog) (hp:p.tot≤5000000):Says prog 48 [.agg (Cs p.d)] (.agg (Ows p.d)) []:=by
 have ht:=p.tot_eq
 have f2:=vH p.Body (by omega) (fun x hx=>by
  have:=az Stmt.tot hx
  exact⟨by omega,Ar x (by omega)⟩)
 have h1:=Jk p.Arrs
 have h2:=xY p.Arrs
 have hb:p.Arrs.length≤bnd:=by unfold bnd;omega
 refine aP Go.Proofs.Tryz.func48 aTr ?_
 try simp at f2
 rw[Prog.d_eq]
 generalize List.flatMap Arr.d p.Arrs=A at h1 h2 ⊢
 simp[v48,r48,splice,h1,hb]
 refine ay f2 ?_
 rw[h2]
 have hnf:ik (Ows A)=true:=by simp
 simp[splice]
set_option maxHeartbeats 8000000
def swap2 (x y:Stmt):Stmt:=⟨x.K,y.S,x.At,x.E,y.Lo,y.Hi,[⟨y.K,x.S,y.At,y.E,x.Lo,x.Hi,y.Body⟩]⟩
def Dv (x:Stmt):Stmt:=match x.Body with
 | [y]=>swap2 x y
 | _=>x
abbrev noE:Exp:=⟨0,0,[],[]⟩
def Gu (x y:Stmt):Stmt:=⟨3,y.S,noE,noE,y.Lo,y.Hi,[⟨3,x.S,noE,noE,x.Lo,x.Hi,y.Body⟩]⟩
def zq (x:Stmt):Stmt:=match x.Body with
 | [y]=>Gu x y
 | _=>x
theorem uS {x:Stmt} (h:nested x=true):∃ y,x.Body=[y]∧x.K=3∧y.K=3:=by
 unfold nested at h
 simp only[Bool.and_eq_true,decide_eq_true_eq] at h
 have h1:=h.2
 split at h1
 ·rename_i y hy;exact⟨y,hy,h.1,by simpa using h1⟩
 ·cases h1
theorem lU {st:Bool} {p:Prog} {x:Stmt} (h:eG st p x=true):nested x=true:=by
 unfold eG at h
 simp only[Bool.and_eq_true] at h
 exact h.1
theorem Ox (p:Prog) (x:Stmt) (hp:p.tot≤5000000) (hx:x.tot≤4000000) (hL:∀ r,dH true x=some r→r.1.length≤60000) :
  Says prog 104 [.agg (Cs p.d),.agg (Cs x.d)] (.tup [some 19,none] (Ows (if eG true p x then Dv x else x).d++[.bool (eG true p x)])) []:=by
 have f1:=Au x (by omega)
 have f2:=FT p x hp hx hL
 have hn:=fun h=>uS (lU (st:=true) (p:=p) (x:=x) h)
 refine aP Go.Proofs.Tryz.func104 aGY ?_
 generalize eG true p x=c at f2 hn ⊢
 cases c
 ·simp at f1 f2
  simp[aCO,aDp,splice]
  refine ai f1 ?_
  simp[splice]
  refine ai f2 ?_
  simp[splice]
 ·obtain⟨y,hy,_,_⟩:=hn rfl
  have e:Dv x=swap2 x y:=by unfold Dv;rw[hy]
  obtain⟨K,S,At,E,Lo,Hi,B⟩:=x
  simp only at hy
  subst hy
  rw[e]
  simp at f1 f2
  simp[aCO,aDp,splice]
  refine ai f1 ?_
  simp[splice]
  refine ai f2 ?_
  simp[splice,swap2]
theorem Ov (p:Prog) (x:Stmt) (hp:p.tot≤5000000) (hx:x.tot≤4000000) (hL:∀ r,dH false x=some r→r.1.length≤60000) :
  Says prog 103 [.agg (Cs p.d),.agg (Cs x.d)] (.tup [some 19,none] (Ows (if eG false p x then zq x else x).d++[.bool (eG false p x)])) []:=by
 have f1:=vH [x] (by simp) (fun z hz=>by simp at hz;subst hz;exact⟨by omega,Ar z (by omega)⟩)
 have f2:=FQ p x hp hx hL
 have hn:=fun h=>uS (lU (st:=false) (p:=p) (x:=x) h)
 refine aP Go.Proofs.Tryz.func103 aGZ ?_
 generalize eG false p x=c at f2 hn ⊢
 cases c
 ·simp at f1 f2
  simp[aCP,aDq,splice]
  refine ai f1 ?_
  simp[splice]
  refine ai f2 ?_
  simp[splice]
 ·obtain⟨y,hy,_,_⟩:=hn rfl
  have e:zq x=Gu x y:=by unfold zq;rw[hy]
  obtain⟨K,S,At,E,Lo,Hi,B⟩:=x
  simp only at hy
  subst hy
  rw[e]
  simp at f1 f2
  simp[aCP,aDq,splice]
  refine ai f1 ?_
  simp[splice]
  refine ai f2 ?_
  simp[splice,Gu]
theorem GH {e:Exp} (h:cZ e false=true):e=noE:=by
 obtain⟨K,N,S,L⟩:=e
 simp[cZ,qP] at h
 obtain⟨rfl,rfl,rfl,rfl⟩:=h
 rfl
theorem zo (p:Prog) {x:Stmt} (h:pX x=true):(if eG true p x then Dv x else x)=(if eG false p x then zq x else x):=by
 rw[Dk p h]
 cases hc:eG false p x
 ·rfl
 ·obtain⟨y,hy,hx3,hy3⟩:=uS (lU hc)
  unfold pX at h
  simp only[Bool.and_eq_true] at h
  obtain⟨h1,h2,_⟩:=iY h.1
  obtain⟨a1,a2,_,_⟩:=qh h1
  obtain⟨b1,b2,_,_⟩:=qh (iY (h2 y (by rw[hy];simp))).1
  rw[show decide (x.K=2)=false by simp;omega] at a1
  rw[show decide (x.K≠3)=false by simp;omega] at a2
  rw[show decide (y.K=2)=false by simp;omega] at b1
  rw[show decide (y.K≠3)=false by simp;omega] at b2
  simp only[if_true]
  unfold Dv zq
  rw[hy]
  simp only[swap2,Gu,GH a1,GH a2,GH b1,GH b2,hx3,hy3]
theorem Oz (x:Stmt):(Dv x).tot=x.tot:=by
 unfold Dv
 split
 ·rename_i y hy
  have h1:=x.tot_eq
  rw[hy] at h1
  have h2:=y.tot_eq
  have h3:=(swap2 x y).tot_eq
  have h4:=(⟨y.K,x.S,y.At,y.E,x.Lo,x.Hi,y.Body⟩:Stmt).tot_eq
  simp[swap2] at h1 h3 h4 ⊢
  omega
 ·rfl
def kX (p:Prog) (x:Stmt):Stmt:=if eG false p x then zq x else x
def lI (p:Prog):Prog:=⟨p.Arrs,p.Body.map (kX p)⟩
def jD (p:Prog):Prog:=if okP p then (if okP (lI p) then lI p else p) else p
theorem Nk:∀ (L:List Stmt) (i:Nat) (y:Stmt),i<L.length→(Ows (L.flatMap Stmt.d)).take (i*19)++(Ows y.d++(Ows (L.flatMap Stmt.d)).drop (i*19+19))=Ows ((L.set i y).flatMap Stmt.d):=by
 intro L i y h
 have h1:L=L.take i++(L[i]::L.drop (i+1)):=by rw[←List.drop_eq_getElem_cons h,List.take_append_drop]
 have h2:L.set i y=L.take i++(y::L.drop (i+1)):=by rw[List.set_eq_take_append_cons_drop,if_pos h]
 have h3:((L.take i).flatMap Stmt.d).length=i*19:=by rw[dV Stmt.d 19 Stmt.d_len,List.length_take,Nat.min_eq_left (by omega)]
 have h4:(Ows ((L.take i).flatMap Stmt.d)).length=i*19:=by rw[bD,h3]
 rw[h2]
 conv=>lhs;rw[h1]
 simp only[List.flatMap_append,List.flatMap_cons,gU]
 have hx:(Ows L[i].d).length=19:=by rw[bD,Stmt.d_len]
 generalize Ows (List.flatMap Stmt.d (List.take i L))=A at h4 ⊢
 generalize Ows L[i].d=X at hx ⊢
 generalize Ows (List.flatMap Stmt.d (List.drop (i+1) L))=B
 have e1:(A++(X++B)).take (i*19)=A:=List.take_left' h4
 have e2:(A++(X++B)).drop (i*19+19)=B:=by rw[←List.append_assoc];exact List.drop_left' (by rw[List.length_append,h4,hx])
 rw[e1,e2]
def qG (p:Prog) (i:Nat):List Stmt:=(p.Body.take i).map (kX p)++p.Body.drop i
theorem IK (p:Prog) (i:Nat) (h:i≤p.Body.length):(qG p i).length=p.Body.length:=by unfold qG;simp;omega
theorem IJ (p:Prog) (i:Nat) (x:Stmt) (h:p.Body[i]?=some x):(qG p i).set i (kX p x)=qG p (i+1):=by
 have hi:i<p.Body.length:=(List.getElem?_eq_some_iff.1 h).1
 have hl:((p.Body.take i).map (kX p)).length=i:=by simp;omega
 unfold qG
 rw[List.set_append_right _ _ (by omega),hl,Nat.sub_self,drop_cons h,List.set_cons_zero,List.take_add_one,h]
 simp
theorem Oy (p:Prog) (x:Stmt) (h:pX x=true):(kX p x).tot=x.tot:=by
 unfold kX
 rw[←zo p h]
 split
 ·exact Oz x
 ·rfl
theorem uC (p:Prog) (h:okP p=true):(lI p).tot=p.tot:=by
 have h1:=p.tot_eq
 have h2:=(lI p).tot_eq
 have key:∀ L:List Stmt,(∀ x∈L,pX x=true)→((L.map (kX p)).map Stmt.tot).sum=(L.map Stmt.tot).sum:=by
  intro L
  induction L with
  | nil=>intro _;rfl
  | cons x L ih=>intro hL;simp only[List.map_cons,List.sum_cons,Oy p x (hL x (by simp)),ih (fun y hy=>hL y (by simp[hy]))]
 have:=key p.Body (fun x hx=>BF h hx)
 simp only[lI,List.length_map] at h2 ⊢
 omega
theorem Ff (p:Prog):(jD p).tot=p.tot:=by
 unfold jD
 split
 ·rename_i h
  split
  ·exact uC p h
  ·rfl
 ·rfl
theorem Fe (p:Prog) (hp:p.tot≤4000000):Says prog 45 [.agg (Cs p.d)] (.agg (Ows (jD p).d)) []:=by
 have hpt:=p.tot_eq
 have fC:=La p (by omega)
 have fO:=BC p (by omega)
 refine aP Go.Proofs.Tryz.func45 aTu ?_
 generalize hR:AV.agg (Ows (jD p).d)=R0
 unfold jD at hR
 simp at fC fO
 simp[v45,r45,splice]
 refine ai fC ?_
 simp[splice]
 refine ai fO ?_
 cases hok:okP p
 ·simp[hok] at hR
  simp[splice,←hR]
 simp[hok] at hR
 have hst:=fun x hx=>BF hok (x:=x) hx
 have htot:=uC p hok
 simp[splice]
 have hm0:qG p 0=p.Body:=by simp[qG]
 refine aZ (l:=af4) (b:=agx) rfl [8,9,10,11] (fun i=>[(3,.bx 0 30 [.osl 0 130 p.Arrs.length (Ows (p.Arrs.flatMap Arr.d)),.osl 0 74 p.Body.length (Ows ((qG p i).flatMap Stmt.d))]),(7,.int .i64 i)]) (fun i=>True) p.Body.length trivial (by rw[hm0];simp) ?_ ?_
 ·intro i hi hI q hn hx' hr
  obtain⟨x,hx0⟩:=ax hi
  have hxm:=List.mem_of_getElem? hx0
  have hxt:=az Stmt.tot hxm
  have hrow:=row_drop Stmt.d 19 Stmt.d_len hx0
  have hw:=wrap_succ (i:=i) (by omega)
  have hml:=IK p i (by omega)
  have fS:=Ox p x (by omega) (by omega) ((vJ (hst x hxm)).2 true)
  rw[zo p (hst x hxm)] at fS
  have er:(if eG false p x then zq x else x)=kX p x:=rfl
  rw[er] at fS
  have hset:=Nk (qG p i) i (kX p x) (by omega)
  rw[IJ p i x hx0] at hset
  have hlen:(Ows ((qG p i).flatMap Stmt.d)).length=p.Body.length*19:=by rw[bD,dV Stmt.d 19 Stmt.d_len,hml]
  have hi1:i*19+19≤p.Body.length*19:=by omega
  generalize kX p x=y at fS hset
  generalize qG p i=M at hset hlen ⊢
  have hne:Ows (M.flatMap Stmt.d)≠[]:=fun h=>by rw[h] at hlen;simp at hlen;omega
  generalize Ows ((qG p (i+1)).flatMap Stmt.d)=N at hn hset
  simp at hset fS
  simp[hi,aj,hrow,splice]
  refine ay fS ?_
  simp[hi,hi1,ig hne,hlen,-bD,splice,hw]
  refine hn _ ?_ trivial
  simp[←hset]
 ·intro hI q hx' hr
  have hm1:qG p p.Body.length=p.Body.map (kX p):=by simp[qG]
  rw[hm1]
  have fO2:=BC (lI p) (by omega)
  have eb:(lI p).Body=p.Body.map (kX p):=rfl
  have ea:(lI p).Arrs=p.Arrs:=rfl
  generalize hW:p.Body.map (kX p)=W at *
  have hWl:W.length=p.Body.length:=by rw[←hW];simp
  simp[eb,ea,hWl] at fO2
  simp
  refine hx' _ _ ?_
  simp
  refine ai fO2 ?_
  cases hok2:okP (lI p)
  ·simp[hok2] at hR
   simp
   refine ai fC ?_
   simp[splice,←hR]
  ·simp[hok2,eb,ea,hWl] at hR
   simp[splice,←hR]
theorem Fb (p:Prog) (hp:p.tot≤4000000):Says prog 44 [.agg (Cs p.d)] (.agg (Ows (jD p).d)) []:=by
 have hpt:=p.tot_eq
 have fC:=KZ p (by omega)
 have fO:=FY p (by omega)
 refine aP Go.Proofs.Tryz.func44 aTv ?_
 generalize hR:AV.agg (Ows (jD p).d)=R0
 unfold jD at hR
 simp at fC fO
 simp[v44,r44,splice]
 refine ai fC ?_
 simp[splice]
 refine ai fO ?_
 cases hok:okP p
 ·simp[hok] at hR
  simp[splice,←hR]
 simp[hok] at hR
 have hst:=fun x hx=>BF hok (x:=x) hx
 have htot:=uC p hok
 simp[splice]
 have hm0:qG p 0=p.Body:=by simp[qG]
 refine aZ (l:=af5) (b:=agy) rfl [6,7] (fun i=>[(3,.bx 0 30 [.osl 0 130 p.Arrs.length (Ows (p.Arrs.flatMap Arr.d)),.osl 0 74 p.Body.length (Ows ((qG p i).flatMap Stmt.d))]),(5,.int .i64 i)]) (fun i=>True) p.Body.length trivial (by rw[hm0];simp) ?_ ?_
 ·intro i hi hI q hn hx' hr
  obtain⟨x,hx0⟩:=ax hi
  have hxm:=List.mem_of_getElem? hx0
  have hxt:=az Stmt.tot hxm
  have hrow:=row_drop Stmt.d 19 Stmt.d_len hx0
  have hw:=wrap_succ (i:=i) (by omega)
  have hml:=IK p i (by omega)
  have fS:=Ov p x (by omega) (by omega) ((vJ (hst x hxm)).2 false)
  have er:(if eG false p x then zq x else x)=kX p x:=rfl
  rw[er] at fS
  have hset:=Nk (qG p i) i (kX p x) (by omega)
  rw[IJ p i x hx0] at hset
  have hlen:(Ows ((qG p i).flatMap Stmt.d)).length=p.Body.length*19:=by rw[bD,dV Stmt.d 19 Stmt.d_len,hml]
  have hi1:i*19+19≤p.Body.length*19:=by omega
  generalize kX p x=y at fS hset
  generalize qG p i=M at hset hlen ⊢
  have hne:Ows (M.flatMap Stmt.d)≠[]:=fun h=>by rw[h] at hlen;simp at hlen;omega
  generalize Ows ((qG p (i+1)).flatMap Stmt.d)=N at hn hset
  simp at hset fS
  simp[hi,aj,hrow,splice]
  refine ay fS ?_
  simp[hi,hi1,ig hne,hlen,-bD,splice,hw]
  refine hn _ ?_ trivial
  simp[←hset]
 ·intro hI q hx' hr
  have hm1:qG p p.Body.length=p.Body.map (kX p):=by simp[qG]
  rw[hm1]
  have fO2:=FY (lI p) (by omega)
  have eb:(lI p).Body=p.Body.map (kX p):=rfl
  have ea:(lI p).Arrs=p.Arrs:=rfl
  generalize hW:p.Body.map (kX p)=W at *
  have hWl:W.length=p.Body.length:=by rw[←hW];simp
  simp[eb,ea,hWl] at fO2
  simp
  refine hx' _ _ ?_
  simp
  refine ai fO2 ?_
  cases hok2:okP (lI p)
  ·simp[hok2] at hR
   simp
   refine ai fC ?_
   simp[splice,←hR]
  ·simp[hok2,eb,ea,hWl] at hR
   simp[splice,←hR]
set_option maxHeartbeats 4000000
theorem lgE:∀ e:Exp,e.tot≤maxLen→e.lg:=Exp.ind fun e ih h=>by
 rw[Exp.tot_eq] at h
 rw[Exp.lg_eq]
 refine⟨by omega,by omega,fun y hy=>ih y hy ?_⟩
 have:=az Exp.tot hy
 omega
theorem lgS:∀ x:Stmt,x.tot≤maxLen→x.lg:=Stmt.ind fun x ih h=>by
 rw[Stmt.tot_eq] at h
 rw[Stmt.lg_eq]
 refine⟨by omega,lgE _ (by omega),lgE _ (by omega),lgE _ (by omega),lgE _ (by omega),by omega,fun y hy=>ih y hy ?_⟩
 have:=az Stmt.tot hy
 omega
theorem lgA (x:Arr) (h:x.tot≤maxLen):x.lg:=by
 rw[Arr.tot_eq] at h;rw[Arr.lg_eq];omega
theorem lgP (x:Prog) (h:x.tot≤maxLen):x.lg:=by
 rw[Prog.tot_eq] at h
 rw[Prog.lg_eq]
 refine⟨⟨by omega,fun y hy=>lgA y ?_⟩,by omega,fun y hy=>lgS y ?_⟩
 ·have:=az Arr.tot hy;omega
 ·have:=az Stmt.tot hy;omega
theorem law_SwapAll (x:Prog) (h1:Prog.lg x):Says prog 9 [.agg (Cs (Prog.d x))] (.bool true) []:=by
 refine aP Go.Proofs.Tryz.func9 ok9 ?_
 have z1:=XJ x h1 (1048576:Int) (by omega) (by omega)
 by_cases c1:((Prog.tot x:Nat):Int)≤(1048576:Int)
 ·have e1:szR (Prog.tot x) (1048576:Int)=(1048576:Int)-(Prog.tot x:Nat):=by unfold szR;rw[if_pos c1]
  have d1:¬((1048576:Int)-(Prog.tot x:Nat)<0):=by omega
  rw[e1] at z1
  have b1:Prog.tot x≤1048576:=by omega
  have t1:=XG x b1
  have q1:=NU x h1
  have b2:Prog.tot (jD x)≤1048576:=by rw[Ff];exact b1
  have f1:=Fb x (by omega)
  have f2:=Fe x (by omega)
  generalize jD x=g at *
  have q2:=NU g (lgP g (by unfold maxLen;omega))
  have m1:=Eg x (by omega) 1 (by omega) (by omega)
  have m2:=Eg g (by omega) 1 (by omega) (by omega)
  have m3:=Pj g (by omega) 1 (by omega) (by omega)
  have u1:¬((dn x 1).2<0):=by have:=tX x 1;omega
  have u2:¬((dn g 1).2<0):=by have:=tX g 1;omega
  try simp at z1
  try simp at t1
  try simp at q1
  try simp at q2
  try simp at f1
  try simp at f2
  simp[dn] at m1
  simp[dn] at m2
  simp[dn] at m3
  simp only[dn] at u1 u2
  simp[v9,r9]
  repeat' (first|refine ai (by assumption) ?_|refine ay (by assumption) ?_|refine bn [_,_] aPf m1 ?_|refine bn [_,_] aPf m2 ?_|(simp[d1,u1,u2];done)|simp[d1,u1,u2])
 ·have e1:szR (Prog.tot x) (1048576:Int)=-1:=by unfold szR;rw[if_neg c1]
  rw[e1] at z1
  try simp at z1
  simp[v9,r9]
  repeat' (first|refine ai (by assumption) ?_|(simp;done)|simp)
end Go.AmC
