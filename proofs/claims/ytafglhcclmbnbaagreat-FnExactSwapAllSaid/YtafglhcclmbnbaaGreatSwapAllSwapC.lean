import Derived.Test.YtafglhcclmbnbaaGreatSwapAllTied
set_option linter.unusedSimpArgs false
set_option linter.unusedVariables false
set_option maxRecDepth 20000
set_option maxHeartbeats 4000000
namespace Go.AmC
open Go Go.AM
open Go.Proofs.Tryz (prog)
theorem BL {r:Rng} {l:List Rng} (h:iV (r::l)=true):(-10000≤r.Lo∧r.Lo≤10000)∧(-10000≤r.Hi∧r.Hi≤10000)∧r.Lo≤r.Hi:=by
 unfold iV boxOk at h
 simp only[okB,List.all_cons,Bool.and_eq_true,decide_eq_true_eq,inB] at h
 obtain⟨⟨h1,_⟩,⟨⟨⟨⟨⟨h2,h3⟩,h4⟩,h5⟩,_⟩,_⟩⟩:=h
 exact⟨⟨h3.1,h3.2⟩,⟨h4.1,h4.2⟩,h1⟩
theorem He (x:Stmt) (hx:x.tot≤5000000) (r:Rng) (l:List Rng) (hb:jA x=some (r::l)):Says prog 315 [.agg (Cs x.d)] (.tup [none,none] [.int .i64 r.Lo,.int .i64 (r.Hi-r.Lo+1)]) []:=by
 have f:=AP x hx
 obtain⟨h1,h2,h3⟩:=sJ hb
 obtain⟨b1,b2,b3⟩:=BL h3
 have hw:IntKind.i64.wrap (r.Hi-r.Lo)=r.Hi-r.Lo:=wrap64 (by omega) (by omega)
 have hw2:IntKind.i64.wrap (r.Hi-r.Lo+1)=r.Hi-r.Lo+1:=wrap64 (by omega) (by omega)
 rw[hb] at f
 simp[qB,oI] at f
 refine aP Go.Proofs.Tryz.func315 aFi ?_
 simp[aMe,aNY]
 refine gQ f ?_
 simp[hw,hw2]
def F5:List Int→Int
 | []=>0
 | x::l=>l.foldl (fun a b=>if a<b then b else a) x
theorem aNi:∀ l:List Int,(l.map fun _=>1).sum=l.length
 | []=>rfl
 | x::l=>by have:=aNi l;simp only[List.map_cons,List.sum_cons,List.length_cons];omega
theorem QY (l:List Int) (hl:l.length≤4000000000) (h:l≠[]):Says prog 316 [.rsl l.length (Cs (l.flatMap jG))] (.int .i64 (F5 l)) []:=by
 obtain⟨x,l,rfl⟩:=List.exists_cons_of_ne_nil h
 have hn:¬(((x::l).length:Int)<1):=by simp;omega
 have h1:0<(x::l).length:=by simp
 have hr0:=row_drop jG 1 o7 (show (x::l)[0]?=some x from rfl)
 rw[Nat.mul_one] at hr0
 generalize hL:x::l=L at *
 refine aP Go.Proofs.Tryz.func316 aFh ?_
 have hL2:Cs (L.flatMap jG)=.int .i64 x::Cs (l.flatMap jG):=by rw[←hL];simp
 have h2:(0:Int)<L.length:=by omega
 have h3:¬((L.length:Int)<1):=hn
 have h4:¬L=[]:=by rw[←hL];simp
 have e0:(Cs (L.flatMap jG)).take 1=[.int .i64 x]:=by rw[hL2];rfl
 simp[aMd,aNX,h3,h2,h1,h4,e0,aNi,show 1≤L.length from h1]
 refine aZ (l:=TS) (b:=VM) rfl [5] (fun i=>[(3,.int .i64 (F5 (L.take (i+1)))),(4,.int .i64 ((i+1:Nat):Int))]) (fun i=>True) l.length trivial (by rw[←hL];simp[F5]) ?_ ?_
 ·intro i hi hI q hn hx hr
  have hi1:i+1<L.length:=by rw[←hL];simpa using hi
  obtain⟨y,hy0⟩:=ax hi1
  have hrow:=row_drop jG 1 o7 hy0
  rw[Nat.mul_one] at hrow
  have hw:IntKind.i64.wrap (((i+1:Nat):Int)+1)=((i+1+1:Nat):Int):=by rw[wrap64]<;>omega
  have e:F5 (L.take (i+1+1))=if F5 (L.take (i+1))<y then y else F5 (L.take (i+1)):=by
   rw[List.take_add_one,hy0]
   rw[←hL,List.take_succ_cons,Option.toList_some,List.cons_append]
   simp only[F5,List.foldl_append,List.foldl_cons,List.foldl_nil]
   rfl
  rw[e] at hn
  have hi2:((i+1:Nat):Int)<L.length:=by omega
  generalize F5 (L.take (i+1))=M at hn ⊢
  have hy1:0≤((i+1:Nat):Int):=by omega
  have hy2:((i+1:Nat):Int).toNat=i+1:=by omega
  generalize ((i+1:Nat):Int)=z at *
  simp[hi2,hy1,hy2,aj,hrow,hw]
  refine hn _ ?_ trivial
  simp
 ·intro hI q hx hr
  have e1:l.length+1=L.length:=by rw[←hL];simp
  rw[e1,List.take_length]
  simp
  refine hx _ _ ?_
  simp
theorem O0:∀ (l:List Int),SdI l→F5 l=l.getLastD 0:=by
 have key:∀ (l:List Int) (x:Int),SdI (x::l)→l.foldl (fun a b=>if a<b then b else a) x=(x::l).getLastD 0:=by
  intro l
  induction l with
  | nil=>intro x _;rfl
  | cons y l ih =>
   intro x h
   obtain⟨h1,h2⟩:=List.pairwise_cons.1 h
   have hy:=h1 y (by simp)
   rw[List.foldl_cons,if_pos hy,ih y h2]
   simp
 intro l h
 cases l with
 | nil=>rfl
 | cons x l=>exact key l x h
def Yg (x:Stmt):Int:=match jA x with
 | some (r::_)=>r.Hi-r.Lo
 | _=>0
def afo (st:Bool) (l:List Int):Int:=if st then F5 l else l.getLastD 0
def lY (st:Bool) (p:Prog) (x:Stmt):Int × List Int :=
 if x.K=3∧within st p x=true∧tied st x=false then match iJ st x with
  | none=>(0,[])
  | some l=>if l=[] then (1,[]) else if l.length≤3∧afo st l≤8∧jT iO st x=[]∧Yg x<40 then (2,l) else (0,[])
 else (0,[])
theorem y9 {st:Bool} {p:Prog} {x:Stmt} (h:within st p x=true) (hx:x.tot≤5000000):∃ r l,jA x=some (r::l):=by
 unfold within at h
 cases ha:dH st x with
 | none=>rw[ha] at h;cases h
 | some a =>
  obtain⟨_,_,h3,_⟩:=xe st x hx a ha
  obtain⟨h1,_⟩:=sJ h3
  match hb:a.2,h1 with
  | r::l,_=>exact⟨r,l,by rw[h3,hb]⟩
def qf (v:Int × List Int):AV:=if v.1=2 then .agg [.int .i64 2,.rsl v.2.length (Cs (v.2.flatMap jG))] else .agg [.int .i64 v.1,.osl 0 3 0 []]
def qg (v:Int × List Int):AV:=if v.1=2 then .agg [.int .i64 2,.osl 0 3 v.2.length (Ows (v.2.flatMap jG))] else .agg [.int .i64 v.1,.osl 0 3 0 []]
theorem rE {st:Bool} {x:Stmt} (hL:∀ r,dH st x=some r→r.1.length≤60000) {l:List Int} (h:iJ st x=some l):l.length≤3600000000∧SdI l:=by
 unfold iJ at h
 cases hd:nV st x with
 | none=>rw[hd] at h;cases h
 | some d =>
  rw[hd] at h
  simp only at h
  split at h
  ·cases h
   have h1:=vG st x hL d hd
   have h2:=xQ (d.map (·.W)) []
   rw[List.length_nil,Nat.zero_add,List.length_map] at h2
   exact⟨Nat.le_trans h2 h1,(BN _ [] List.Pairwise.nil).1⟩
  ·cases h
theorem Hl (p:Prog) (x:Stmt) (hp:p.tot≤5000000) (hx:x.tot≤4000000) (hL:∀ r,dH true x=some r→r.1.length≤60000):Says prog 251 [.agg (Cs p.d),.agg (Cs x.d)] (qf (lY true p x)) []:=by
 have f1:=G6 p x hp (by omega)
 have f2:=Oq x hx
 have f3:=KX x (by omega) hL
 have f4:=OB x hx
 have hlen:=fun l=>rE (l:=l) hL
 have hbox:=y9 (st:=true) (p:=p) (x:=x)
 have f5:=He x (by omega)
 refine aP Go.Proofs.Tryz.func251 aFW ?_
 generalize hR:qf (lY true p x)=R0
 unfold lY at hR
 by_cases c0:¬(x.K=3)
 ·rw[if_neg (fun h=>c0 h.1)] at hR
  simp[qf] at hR
  simp[aCF,aDb,splice,c0,←hR]
 have c0:=Classical.not_not.1 c0
 simp[c0] at f1 f2
 simp[aCF,aDb,splice,c0]
 refine ai f1 ?_
 cases c1:within true p x
 ·rw[if_neg (fun h=>by rw[c1] at h;cases h.2.1)] at hR
  simp[qf] at hR
  simp[splice,←hR]
 simp[splice]
 refine ai f2 ?_
 by_cases c2:tied true x=true
 ·rw[if_neg (fun h=>by rw[c2] at h;cases h.2.2)] at hR
  simp[qf] at hR
  simp[c2,splice,←hR]
 have c2:tied true x=false:=by simpa using c2
 rw[if_pos ⟨c0,c1,c2⟩] at hR
 simp[c2,splice]
 generalize iJ true x=o at f3 hlen hR
 cases o with
 | none =>
  simp[Qk,c0] at f3
  simp[qf] at hR
  refine ai f3 ?_
  simp[splice,←hR]
 | some l =>
  obtain⟨hl,hsd⟩:=hlen l rfl
  obtain⟨r,l2,hb⟩:=hbox c1 (by omega)
  have f5:=f5 r l2 hb
  obtain⟨h1,h2,h3⟩:=sJ hb
  obtain⟨b1,b2,b3⟩:=BL h3
  have hh:Yg x=r.Hi-r.Lo:=by unfold Yg;rw[hb]
  rw[hh] at hR
  simp only at hR
  simp[Qk,c0] at f3
  refine ai f3 ?_
  by_cases c3:l=[]
  ·rw[if_pos c3] at hR
   simp[qf] at hR
   simp[c3,splice,←hR]
  rw[if_neg c3] at hR
  have f6:=QY l (by omega) c3
  have hl0:¬(l.length=0):=fun h=>c3 (List.eq_nil_of_length_eq_zero h)
  have hl1:¬((l.length:Int)=0):=by omega
  simp[afo] at hR
  generalize F5 l=M at f6 hR
  generalize jT iO true x=S at f4 hR
  simp[c0] at f4 f5 f6
  simp[c3,splice]
  refine ai f5 ?_
  by_cases c4:3<l.length
  ·have c4':(3:Int)<l.length:=by omega
   rw[if_neg (by omega)] at hR
   simp[qf] at hR
   simp[c4,c4',splice,←hR]
  have c4':¬((3:Int)<l.length):=by omega
  simp[c4,c4',splice]
  refine ai f6 ?_
  by_cases c5:8<M
  ·rw[if_neg (by omega)] at hR
   simp[qf] at hR
   simp[c5,splice,←hR]
  simp[c5,splice]
  refine ai f4 ?_
  by_cases c6:S=[]
  ·subst c6
   by_cases c7:r.Hi-r.Lo<40
   ·have c7':¬(40<r.Hi-r.Lo+1):=by omega
    rw[if_pos (by simp;omega)] at hR
    simp[qf] at hR
    simp[c7',splice,←hR]
   ·have c7':40<r.Hi-r.Lo+1:=by omega
    rw[if_neg (by omega)] at hR
    simp[qf] at hR
    simp[c7',splice,←hR]
  ·have hS:0<S.length:=by cases S with|nil=>exact absurd rfl c6|cons a b=>simp
   have hS':(0:Int)<S.length:=by omega
   rw[if_neg (fun h=>c6 h.2.2.1)] at hR
   simp[qf] at hR
   simp[nZ,c6,hS,hS',splice,←hR]
theorem Hg (p:Prog) (x:Stmt) (hp:p.tot≤5000000) (hx:x.tot≤4000000) (hL:∀ r,dH false x=some r→r.1.length≤60000):Says prog 249 [.agg (Cs p.d),.agg (Cs x.d)] (qg (lY false p x)) []:=by
 have f1:=G5 p x hp (by omega)
 have f2:=Oo x hx
 have f3:=KW x (by omega) hL
 have f4:=OA x hx
 have hlen:=fun l=>rE (l:=l) hL
 have hbox:=y9 (st:=false) (p:=p) (x:=x)
 have f5:=qw x (by omega)
 refine aP Go.Proofs.Tryz.func249 aFY ?_
 generalize hR:qg (lY false p x)=R0
 unfold lY at hR
 by_cases c0:¬(x.K=3)
 ·rw[if_neg (fun h=>c0 h.1)] at hR
  simp[qg] at hR
  simp[aCG,aDc,splice,c0,←hR]
 have c0:=Classical.not_not.1 c0
 simp[c0] at f1 f2
 simp[aCG,aDc,splice,c0]
 refine ai f1 ?_
 cases c1:within false p x
 ·rw[if_neg (fun h=>by rw[c1] at h;cases h.2.1)] at hR
  simp[qg] at hR
  simp[splice,←hR]
 simp[splice]
 refine ai f2 ?_
 by_cases c2:tied false x=true
 ·rw[if_neg (fun h=>by rw[c2] at h;cases h.2.2)] at hR
  simp[qg] at hR
  simp[c2,splice,←hR]
 have c2:tied false x=false:=by simpa using c2
 rw[if_pos ⟨c0,c1,c2⟩] at hR
 simp[c2,splice]
 obtain⟨r,l2,hb⟩:=hbox c1 (by omega)
 obtain⟨h1,h2,h3⟩:=sJ hb
 obtain⟨b1,b2,b3⟩:=BL h3
 have hh:Yg x=r.Hi-r.Lo:=by unfold Yg;rw[hb]
 rw[hb] at f5
 simp[qB,oI,c0] at f5
 generalize iJ false x=o at f3 hlen hR
 cases o with
 | none =>
  simp[Qj,c0] at f3
  simp[qg] at hR
  refine ai f3 ?_
  simp[splice]
  refine gQ f5 ?_
  simp[splice,←hR]
 | some l =>
  obtain⟨hl,hsd⟩:=hlen l rfl
  rw[hh] at hR
  simp only at hR
  simp[Qj,c0] at f3
  refine ai f3 ?_
  simp[splice]
  refine gQ f5 ?_
  by_cases c3:l=[]
  ·rw[if_pos c3] at hR
   simp[qg] at hR
   simp[c3,splice,←hR]
  rw[if_neg c3] at hR
  have hl0:¬(l.length=0):=fun h=>c3 (List.eq_nil_of_length_eq_zero h)
  have hl1:¬((l.length:Int)=0):=by omega
  simp[afo] at hR
  generalize jT iO false x=S at f4 hR
  simp[c0] at f4
  have hw:IntKind.i64.wrap (r.Hi-r.Lo)=r.Hi-r.Lo:=wrap64 (by omega) (by omega)
  have hw2:IntKind.i64.wrap ((l.length:Int)-1)=((l.length-1:Nat):Int):=by rw[wrap64]<;>omega
  by_cases c4:3<l.length
  ·have c4':¬((l.length:Int)≤3):=by omega
   rw[if_neg (by omega)] at hR
   simp[qg] at hR
   simp[c3,c4',splice,←hR]
  have c4':(l.length:Int)≤3:=by omega
  have hj:l.length-1<l.length:=by omega
  obtain⟨y,hy0⟩:=ax hj
  have hy1:l.getLast?.getD 0=y:=by rw[List.getLast?_eq_getElem?,hy0];rfl
  have hrow:=row_drop jG 1 o7 hy0
  rw[Nat.mul_one] at hrow
  have hL2:(Ows (l.flatMap jG)).length=l.length:=by rw[bD,dV jG 1 o7,Nat.mul_one]
  have hi1:l.length-1+1≤l.length:=hj
  have hj0:0≤((l.length-1:Nat):Int):=by omega
  have hj1:((l.length-1:Nat):Int)<l.length:=by omega
  have hj2:((l.length-1:Nat):Int).toNat=l.length-1:=by omega
  have hne:Ows (l.flatMap jG)≠[]:=fun h=>by rw[h] at hL2;simp at hL2;omega
  generalize ((l.length-1:Nat):Int)=z at *
  rw[hy1] at hR
  by_cases c5:8<y
  ·have c5':¬(y≤8):=by omega
   rw[if_neg (by omega)] at hR
   simp[qg] at hR
   simp[c3,c4',hw2,hj0,hj1,hj2,hL2,hi1,ig hne,-bD,kz,hrow,c5',splice,←hR]
  have c5':y≤8:=by omega
  simp[c3,c4',hw2,hj0,hj1,hj2,hL2,hi1,ig hne,-bD,kz,hrow,c5',splice]
  refine ay f4 ?_
  by_cases c6:S=[]
  ·subst c6
   by_cases c7:r.Hi-r.Lo<40
   ·rw[if_pos (by simp;omega)] at hR
    simp[qg] at hR
    simp[nZ,hw,c7,splice,←hR]
   ·rw[if_neg (by omega)] at hR
    simp[qg] at hR
    simp[nZ,hw,c7,splice,←hR]
  ·have hS:¬(S.length=0):=fun h=>c6 (List.eq_nil_of_length_eq_zero h)
   have hS':¬((S.length:Int)=0):=by omega
   rw[if_neg (fun h=>c6 h.2.2.1)] at hR
   simp[qg] at hR
   simp[nZ,c6,hS,hS',splice,←hR]
theorem Hz (ns:List Nm) (i:Int):∀ (e:Exp) (d:Int) (k:Nat),oM d e=some k→∀ o:Gat,
  aB (aQ true ns i) o e=aB (aQ false ns i) o e∧(aB (aQ false ns i) o e).1.length≤o.1.length+k:=Exp.ind fun e ih d k h o=>by
 have key:∀ (L:List Exp),(∀ y∈L,y∈e.L)→∀ (n m:Nat),wW (d+1) n L=some m→∀ o:Gat,
   L.foldl (aB (aQ true ns i)) o=L.foldl (aB (aQ false ns i)) o∧(L.foldl (aB (aQ false ns i)) o).1.length+n≤o.1.length+m:=by
  intro L
  induction L with
  | nil=>intro _ n m hm o;simp[wW] at hm;subst hm;simp
  | cons y L ihL =>
   intro hL n m hm o
   rw[wW] at hm
   cases hc:oM (d+1) y with
   | none=>rw[hc] at hm;cases hm
   | some j =>
    rw[hc] at hm
    obtain⟨a1,a2⟩:=ih y (hL y (by simp)) (d+1) j hc o
    obtain⟨b1,b2⟩:=ihL (fun z hz=>hL z (by simp[hz])) (n+j) m hm (aB (aQ false ns i) o y)
    rw[List.foldl_cons,List.foldl_cons,a1]
    exact⟨b1,by omega⟩
 rw[AC] at h
 split at h
 ·rename_i hc
  obtain⟨a1,a2⟩:=key e.L (fun _ h=>h) 1 k h o
  rw[dW,dW,a1]
  generalize e.L.foldl (aB (aQ false ns i)) o=o1 at a2 ⊢
  have hh:=hc.2
  unfold aQ
  by_cases c3:e.K=3
  ·have hL:e.L.length=1:=by
    unfold uY at hh
    rw[if_neg (by omega),if_neg (by omega),if_pos c3] at hh
    simp at hh;exact hh.2
   match hl:e.L,hL with
   | [y],_ =>
    simp only[c3,if_true,touch]
    exact⟨trivial,by simp;omega⟩
  ·simp only[c3,if_false]
   exact⟨trivial,by omega⟩
 ·cases h
theorem yB (ns:List Nm) (i:Int) (e:Exp) (b:Bool) (h:cZ e b=true) (o:Gat):aB (aQ true ns i) o e=aB (aQ false ns i) o e∧(aB (aQ false ns i) o e).1.length≤o.1.length+60:=by
 unfold cZ at h
 cases b
 ·simp[qP] at h
  obtain⟨h1,_,_,h2⟩:=h
  rw[dW,dW,h2]
  simp[aQ,h1]
 ·simp only[if_true] at h
  unfold qV at h
  split at h
  ·rename_i n hn
   obtain⟨a1,a2⟩:=Hz ns i e 1 n hn o
   simp at h
   exact⟨a1,by omega⟩
  ·cases h
theorem qh {x:Stmt} (h:ownB x=true):cZ x.At (decide (x.K=2))=true∧cZ x.E (decide (x.K≠3))=true∧cZ x.Lo (decide (x.K=3))=true∧cZ x.Hi (decide (x.K=3))=true:=by
 unfold ownB at h
 simp only[Bool.and_eq_true] at h
 exact⟨h.2.1,h.2.2.1,h.2.2.2.1,h.2.2.2.2.1⟩
theorem zD {f:Int}:∀ {l:List Stmt},sZ f l=true→∀ x∈l,gK f x=true
 | [],_,x,hx=>by cases hx
 | y::l,h,x,hx=>by
  simp only[sZ,Bool.and_eq_true] at h
  rcases List.mem_cons.1 hx with rfl|hx
  ·exact h.1
  ·exact zD h.2 x hx
theorem iY {f:Int} {x:Stmt} (h:gK f x=true):ownB x=true∧(∀ y∈x.Body,gK (f+1) y=true)∧(x.K≠3→x.Body=[]):=by
 rw[rY,Bool.and_eq_true] at h
 refine⟨h.1,fun y hy=>?_,fun hk=>?_⟩
 ·have h2:=h.2
  split at h2
  ·simp only[Bool.and_eq_true] at h2
   exact zD h2.2.2 y hy
  ·simp at h2;rw[h2] at hy;cases hy
 ·have h2:=h.2
  rw[if_neg hk] at h2
  simpa using h2
theorem FN (ns:List Nm) (i:Int) (o:Gat) (x:Stmt) (h:ownB x=true):aU true ns i o x=aU false ns i o x∧(aU false ns i o x).1.length≤o.1.length+121:=by
 obtain⟨hA,hE,_,_⟩:=qh h
 obtain⟨a1,a2⟩:=yB ns i x.At _ hA o
 obtain⟨b1,b2⟩:=yB ns i x.E _ hE (aB (aQ false ns i) o x.At)
 unfold aU
 simp only
 rw[a1,b1]
 refine⟨rfl,?_⟩
 split
 ·simp[touch];omega
 ·omega
theorem Hy (ns:List Nm) (i:Int):∀ (x:Stmt) (f:Int),gK f x=true→∀ o:Gat,
  aI (aU true ns i) o x=aI (aU false ns i) o x∧(aI (aU false ns i) o x).1.length≤o.1.length+121*szS x:=Stmt.ind fun x ih f h o=>by
 obtain⟨h1,h2,_⟩:=iY h
 have key:∀ (L:List Stmt),(∀ y∈L,y∈x.Body)→∀ o:Gat,
   L.foldl (aI (aU true ns i)) o=L.foldl (aI (aU false ns i)) o∧(L.foldl (aI (aU false ns i)) o).1.length≤o.1.length+121*(L.map szS).sum:=by
  intro L
  induction L with
  | nil=>intro _ o;simp
  | cons y L ihL =>
   intro hL o
   obtain⟨a1,a2⟩:=ih y (hL y (by simp)) (f+1) (h2 y (hL y (by simp))) o
   obtain⟨b1,b2⟩:=ihL (fun z hz=>hL z (by simp[hz])) (aI (aU false ns i) o y)
   rw[List.foldl_cons,List.foldl_cons,a1,List.map_cons,List.sum_cons]
   exact⟨b1,by omega⟩
 obtain⟨a1,a2⟩:=FN ns i o x h1
 obtain⟨b1,b2⟩:=key x.Body (fun _ h=>h) (aU false ns i o x)
 rw[eF,eF,a1,yX]
 exact⟨b1,by omega⟩
theorem vk (ns:List Nm):∀ (l:List Stmt) (i:Nat),(∀ y∈l,gK 1 y=true)→∀ o:Gat,jB true ns i l o=jB false ns i l o∧(jB false ns i l o).1.length≤o.1.length+121*(l.map szS).sum
 | [],i,_,o=>by simp[jB]
 | x::l,i,h,o=>by
  obtain⟨a1,a2⟩:=Hy ns i x 1 (h x (by simp)) o
  obtain⟨b1,b2⟩:=vk ns l (i+1) (fun y hy=>h y (by simp[hy])) (aI (aU false ns i) o x)
  rw[jB,jB,a1,List.map_cons,List.sum_cons]
  exact⟨b1,by omega⟩
theorem vJ {x:Stmt} (h:pX x=true):dH true x=dH false x∧∀ st r,dH st x=some r→r.1.length≤60000:=by
 unfold pX at h
 simp only[Bool.and_eq_true,decide_eq_true_eq] at h
 obtain⟨_,hB,_⟩:=iY h.1
 have hz:=yX x
 have e:dH true x=dH false x:=by
  unfold dH
  cases jA x with
  | none=>rfl
  | some box=>simp only;rw[(vk (aF box) x.Body 0 hB ([],false)).1]
 have hb:∀ r,dH false x=some r→r.1.length≤60000:=by
  intro r hr
  unfold dH at hr
  split at hr
  ·cases hr
  ·rename_i box hbx
   split at hr
   ·cases hr
   ·cases hr
    have:=(vk (aF box) x.Body 0 hB ([],false)).2
    simp only[List.length_nil] at this ⊢
    omega
 refine⟨e,fun st r hr=>?_⟩
 cases st
 ·exact hb r hr
 ·exact hb r (e▸hr)
theorem Hm {f:Int} {y:Stmt} (h:gK f y=true):BA y:=by
 intro hk
 obtain⟨h1,_,h3⟩:=iY h
 obtain⟨hA,_,hL,hH⟩:=qh h1
 have z:∀ e:Exp,cZ e false=true→e.L=[]∧e.K=0:=fun e he=>by
  simp[cZ,qP] at he
  exact⟨he.2.2.2,he.1⟩
 rw[show decide (y.K=2)=false by simp;omega] at hA
 rw[show decide (y.K=3)=false by simp;omega] at hL hH
 exact⟨h3 (by omega),(z _ hA).1,(z _ hA).2,(z _ hL).1,(z _ hL).2,(z _ hH).1,(z _ hH).2⟩
theorem IU {x:Stmt} (h:pX x=true) (n:Nm):Qo true x n=Qo false x n:=by
 unfold pX at h
 simp only[Bool.and_eq_true,decide_eq_true_eq] at h
 obtain⟨_,hB,_⟩:=iY h.1
 exact O7 x n fun y hy=>Hm (hB y hy)
theorem JY (p:Prog) {x:Stmt} (h:pX x=true):lY true p x=lY false p x:=by
 obtain⟨e,hL⟩:=vJ h
 have e1:within true p x=within false p x:=by unfold within;rw[e]
 have e2:iJ true x=iJ false x:=by unfold iJ nV;rw[e]
 have e3:tied true x=tied false x:=by unfold tied;simp only[IU h]
 have e4:jT iO true x=jT iO false x:=by unfold jT;simp only[IU h]
 unfold lY
 rw[e1,e2,e3,e4]
 cases hd:iJ false x with
 | none=>rfl
 | some l =>
  have:=O0 l (rE (hL false) hd).2
  simp only[afo,this,if_true,Bool.false_eq_true,if_false]
theorem BF {p:Prog} (h:okP p=true) {x:Stmt} (hx:x∈p.Body):pX x=true:=by
 unfold okP headB at h
 simp only[Bool.and_eq_true,List.all_eq_true] at h
 exact h.1.2.1 x hx
def nested (x:Stmt):Bool:=decide (x.K=3)&&match x.Body with
 | [y]=>decide (y.K=3)
 | _=>false
theorem Hr (x:Stmt):Says prog 250 [.agg (Cs x.d)] (.bool (nested x)) []:=by
 refine aP Go.Proofs.Tryz.func250 aFX ?_
 unfold nested
 by_cases c:x.K=3
 ·match hB:x.Body with
  | []=>simp[Xx,XR,c,hB,splice]
  | [y] =>
   by_cases c2:y.K=3<;>simp[Xx,XR,c,hB,c2,splice]
  | y::z::l =>
   have h0:¬(((l.length:Int)+1+1)=1):=by omega
   simp[Xx,XR,c,hB,h0,splice]
 ·simp[Xx,XR,c,splice]
theorem Hq (x:Stmt):Says prog 248 [.agg (Cs x.d)] (.bool (nested x)) []:=by
 refine aP Go.Proofs.Tryz.func248 aFZ ?_
 unfold nested
 by_cases c:x.K=3
 ·match hB:x.Body with
  | []=>simp[Xy,XT,c,hB,splice]
  | [y] =>
   by_cases c2:y.K=3<;>simp[Xy,XT,c,hB,c2,splice]
  | y::z::l =>
   have h0:¬(((l.length:Int)+1+1)=1):=by omega
   simp[Xy,XT,c,hB,h0,splice]
 ·simp[Xy,XT,c,splice]
def eG (st:Bool) (p:Prog) (x:Stmt):Bool:=nested x&&(decide ((lY st p x).1=1)&&decide ((if st then varsOf [x] else varsOf x.Body)=[]))
theorem FT (p:Prog) (x:Stmt) (hp:p.tot≤5000000) (hx:x.tot≤4000000) (hL:∀ r,dH true x=some r→r.1.length≤60000):Says prog 179 [.agg (Cs p.d),.agg (Cs x.d)] (.bool (eG true p x)) []:=by
 have f1:=Hr x
 have f2:=Hl p x hp hx hL
 have f3:=EY (fun w Φ σ cv f h=>⟨f,Ig h,fun _=>Nat.le_refl _⟩) (by rfl) (nI [x] (by simp;omega))
 refine aP Go.Proofs.Tryz.func179 aGv ?_
 unfold eG
 simp only[if_true]
 generalize nested x=n at f1 ⊢
 generalize lY true p x=v at f2 ⊢
 generalize varsOf [x]=V at f3 ⊢
 obtain⟨k,l⟩:=v
 simp at f1 f3
 simp[aMX,aOR,splice]
 refine ai f1 ?_
 cases n
 ·simp
 by_cases c2:k=2
 ·subst c2
  simp[qf] at f2
  simp[splice]
  refine ai f2 ?_
  simp
 ·simp[qf,c2] at f2
  simp[splice]
  refine ai f2 ?_
  by_cases c1:k=1
  ·simp[c1,splice]
   refine ai f3 ?_
   by_cases c3:V=[]<;>simp[c3]
  ·simp[c1]
theorem FQ (p:Prog) (x:Stmt) (hp:p.tot≤5000000) (hx:x.tot≤4000000) (hL:∀ r,dH false x=some r→r.1.length≤60000):Says prog 178 [.agg (Cs p.d),.agg (Cs x.d)] (.bool (eG false p x)) []:=by
 have ht:=x.tot_eq
 have f1:=Hq x
 have f2:=Hg p x hp hx hL
 have f3:=nH x.Body (by omega)
 refine aP Go.Proofs.Tryz.func178 aGw ?_
 unfold eG
 simp only[Bool.false_eq_true,if_false]
 generalize nested x=n at f1 ⊢
 generalize lY false p x=v at f2 ⊢
 generalize varsOf x.Body=V at f3 ⊢
 obtain⟨k,l⟩:=v
 simp at f1 f3
 simp[aMY,aOS,splice]
 refine ai f1 ?_
 cases n
 ·simp
 by_cases c2:k=2
 ·subst c2
  simp[qg] at f2
  simp[splice]
  refine ai f2 ?_
  simp
 ·simp[qg,c2] at f2
  simp[splice]
  refine ai f2 ?_
  by_cases c1:k=1
  ·simp[c1,splice]
   refine ai f3 ?_
   by_cases c3:V=[]
   ·simp[c3,nZ]
   ·simp[c3,nZ]
  ·simp[c1]
theorem Qr (x:Stmt) (h:x.K=3):varsOf [x]=varsOf x.Body:=by
 have e:colS (ofK 1) [x]=colS (ofK 1) x.Body:=by
  unfold colS
  rw[List.foldl_cons,List.foldl_nil,eF]
  congr 1
  simp[bI,ofK,h]
 unfold varsOf
 rw[e]
theorem Dk (p:Prog) {x:Stmt} (h:pX x=true):eG true p x=eG false p x:=by
 unfold eG
 rw[JY p h]
 cases hn:nested x
 ·rfl
 ·have hk:x.K=3:=by unfold nested at hn;simp at hn;exact hn.1
  simp only[Qr x hk,if_true,Bool.false_eq_true,if_false]
end Go.AmC
