import Derived.Test.YtafglhcclmbnbaaGreatSwapAllAccO
import Derived.Test.YtafglhcclmbnbaaGreatSwapAllMeet
import Derived.Test.YtafglhcclmbnbaaGreatSwapAllAff
import Derived.Test.YtafglhcclmbnbaaGreatSwapAllAsked
set_option linter.unusedSimpArgs false
set_option linter.unusedVariables false
set_option maxRecDepth 20000
set_option maxHeartbeats 4000000
namespace Go.AmC
open Go Go.AM
open Go.Proofs.Tryz (prog)
def okF (a:Acc):Prop:=AOk a.F∧a.F.tot≤35000000
theorem RN (ns:List Nm) (e:Exp) (a:Aff) (h:dZ ns e=some a):a.tot≤7*e.tot:=by
 obtain⟨h1,h2⟩:=mr ns e a h
 have:=Sr a.T (fun t ht=>nm6 (h1.t.each t ht).1)
 rw[a.tot_eq];omega
theorem afb (ns:List Nm) (i:Int) (p:Bool) (n:Nm) (e:Exp) (he:e.tot≤5000000):okF (acc ns i p n e):=by
 unfold acc agz okF
 cases h:dZ ns e with
 | none=>exact⟨CV,by simp[Aff.tot_eq]⟩
 | some a =>
  have:=RN ns e a h
  exact⟨(mr ns e a h).1,by simp only[Option.getD_some];omega⟩
def okG (o:Gat):Prop:=∀ a∈o.1,okF a
theorem Ik (ns:List Nm) (i:Int) (p:Bool) (n:Nm) (e:Exp) (o:Gat) (he:e.tot≤5000000) (h:okG o):okG (touch ns i p n e o):=by
 intro a ha
 simp only[touch,List.mem_append,List.mem_singleton] at ha
 rcases ha with ha|rfl
 ·exact h a ha
 ·exact afb _ _ _ _ _ he
theorem QD (st:Bool) (ns:List Nm) (i:Int) (o:Gat) (e:Exp) (he:e.tot≤5000000) (h:okG o):okG (aQ st ns i o e):=by
 unfold aQ
 split
 ·split
  ·rename_i x hL
   have:=e.tot_eq
   rw[hL] at this
   simp at this
   exact Ik _ _ _ _ _ _ (by omega) h
  ·exact h
 ·exact h
theorem I5 (st:Bool) (ns:List Nm) (i:Int):∀ (e:Exp),e.tot≤5000000→∀ (o:Gat),okG o→okG (aB (aQ st ns i) o e):=Exp.ind fun e ih he o h=>by
 have ht:=e.tot_eq
 have key:∀ (L:List Exp),(∀ y∈L,∀ o:Gat,okG o→okG (aB (aQ st ns i) o y))→∀ o:Gat,okG o→okG (L.foldl (aB (aQ st ns i)) o):=by
  intro L
  induction L with
  | nil=>intro _ o h;exact h
  | cons y L ihL=>intro hL o h;rw[List.foldl_cons];exact ihL (fun z hz=>hL z (by simp[hz])) _ (hL y (by simp) o h)
 rw[dW];exact QD _ _ _ _ _ he (key e.L (fun y hy=>ih y hy (by have:=az Exp.tot hy;omega)) o h)
theorem Px (st:Bool) (ns:List Nm) (i:Int) (o:Gat) (x:Stmt) (hx:x.tot≤5000000) (h:okG o):okG (aU st ns i o x):=by
 have ht:=x.tot_eq
 have h2:=I5 st ns i x.E (by omega) _ (I5 st ns i x.At (by omega) o h)
 rw[oK]
 unfold yR
 simp only
 split
 ·exact Ik _ _ _ _ _ _ (by omega) h2
 ·exact h2
theorem Rk (st:Bool) (ns:List Nm) (i:Int):∀ (x:Stmt),x.tot≤5000000→∀ (o:Gat),okG o→okG (aI (aU st ns i) o x):=Stmt.ind fun x ih hx o h=>by
 have ht:=x.tot_eq
 have key:∀ (L:List Stmt),(∀ y∈L,∀ o:Gat,okG o→okG (aI (aU st ns i) o y))→∀ o:Gat,okG o→okG (L.foldl (aI (aU st ns i)) o):=by
  intro L
  induction L with
  | nil=>intro _ o h;exact h
  | cons y L ihL=>intro hL o h;rw[List.foldl_cons];exact ihL (fun z hz=>hL z (by simp[hz])) _ (hL y (by simp) o h)
 rw[eF];exact key x.Body (fun y hy=>ih y hy (by have:=az Stmt.tot hy;omega)) _ (Px _ _ _ _ _ hx h)
theorem NP (st:Bool) (ns:List Nm):∀ (l:List Stmt) (i:Nat) (o:Gat),(l.map Stmt.tot).sum≤5000000→okG o→okG (jB st ns i l o)
 | [],i,o,_,h=>h
 | x::l,i,o,ht,h=>by
  rw[List.map_cons,List.sum_cons] at ht
  exact NP st ns l (i+1) _ (by omega) (Rk st ns i x (by omega) o h)
theorem xe (st:Bool) (x:Stmt) (hx:x.tot≤5000000) (r:List Acc × List Rng) (h:dH st x=some r):(∀ a∈r.1,okF a)∧r.1.length≤20000000∧jA x=some r.2∧r.2.length≤8∧(∀ y∈r.2,y.Name.length≤5000000):=by
 have ht:=x.tot_eq
 unfold dH at h
 cases hb:jA x with
 | none=>rw[hb] at h;cases h
 | some box =>
  rw[hb] at h
  simp only at h
  split at h
  ·cases h
  ·cases h
   have hgl:=wI st (aF box) x.Body 0 ([],false)
   refine⟨NP st _ x.Body 0 _ (by omega) (fun a ha=>by cases ha),by simp only[List.length_nil] at hgl ⊢;omega,rfl,Gm x box hb,fun y hy=>?_⟩
   have hy2:y∈(kC x).1:=by
    unfold jA at hb
    split at hb
    ·cases hb;exact hy
    ·cases hb
   have:=Bj x y hy2
   omega
def qN (p:Prog) (n:Nm):Int:=match p.Arrs[(mZ p n).toNat]? with
 | some a=>a.Size
 | none=>0
def inP (p:Prog) (box:List Rng) (a:Acc):Bool:=decide (0≤mZ p a.Name)&&yQ a.F box (qN p a.Name)
def within (st:Bool) (p:Prog) (x:Stmt):Bool:=match dH st x with
 | none=>false
 | some r=>okP p&&r.1.all (inP p r.2)
theorem yz (n:Nm):∀ (l:List Nm) (i:Nat),idxOf n l i=-1∨∃ k,k<l.length∧idxOf n l i=((i+k:Nat):Int)
 | [],i=>.inl rfl
 | x::l,i=>by
  rw[idxOf]
  split
  ·exact .inr ⟨0,by simp,by simp⟩
  ·rcases yz n l (i+1) with h|⟨k,h1,h2⟩
   ·exact .inl h
   ·exact .inr ⟨k+1,by simpa using h1,by rw[h2];congr 1;omega⟩
theorem yH (p:Prog) (n:Nm):mZ p n=-1∨∃ (k:Nat) (a:Arr),p.Arrs[k]?=some a∧mZ p n=(k:Int)∧qN p n=a.Size:=by
 rcases yz n (aO p.Arrs) 0 with h|⟨k,h1,h2⟩
 ·exact .inl h
 ·have hk:k<p.Arrs.length:=by simpa [aO] using h1
  obtain⟨a,ha⟩:=ax hk
  have e:mZ p n=(k:Int):=by unfold mZ;rw[h2,Nat.zero_add]
  refine .inr ⟨k,a,ha,e,?_⟩
  unfold qN
  rw[e,Int.toNat_natCast,ha]
theorem G6 (p:Prog) (x:Stmt) (hp:p.tot≤5000000) (hx:x.tot≤5000000):Says prog 169 [.agg (Cs p.d),.agg (Cs x.d)] (.bool (within true p x)) []:=by
 have hpt:=p.tot_eq
 have f:=yJ x hx
 have fO:=BC p hp
 have hok:=xe true x hx
 refine aP Go.Proofs.Tryz.func169 aGA ?_
 unfold within
 generalize dH true x=o at f hok ⊢
 simp at fO
 cases o with
 | none =>
  simp[Nr] at f
  simp[aCK,aDj]
  refine gQ f ?_
  simp
 | some r =>
  obtain⟨l,box⟩:=r
  obtain⟨h1,h2,h3,h4,h5⟩:=hok _ rfl
  simp only at h1 h2 h3 h4 h5
  simp[Nr] at f
  simp[aCK,aDj]
  refine gQ f ?_
  simp[C9]
  refine ai fO ?_
  cases okP p
  ·simp
  simp
  generalize hR:l.all (inP p box)=R0
  refine aZ (l:=UG) (b:=WE) rfl [13,14] (fun k=>[(11,.int .i64 k)]) (fun k=>(l.drop k).all (inP p box)=R0) l.length (by simpa using hR) (by simp) ?_ ?_
  ·intro k hk hI q hn hx' hr
   obtain⟨a,ha0⟩:=ax hk
   have hrow:=row_drop Acc.d 5 Acc.d_len ha0
   have hw:=wrap_succ (i:=k) (by omega)
   have haF:=h1 a (List.mem_of_getElem? ha0)
   have fA:=AY p a.Name (by omega)
   have fI:=KA a.F box (qN p a.Name) (by have:=haF.2;omega) (by omega) (fun y hy=>by have:=h5 y hy;omega)
   rw[drop_cons ha0,List.all_cons] at hI
   have ei:inP p box a=(decide (0≤mZ p a.Name)&&yQ a.F box (qN p a.Name)):=rfl
   rw[ei] at hI
   simp at fA fI
   simp[hk,aj,hrow,splice,Acc.d]
   refine ai fA ?_
   rcases yH p a.Name with hm|⟨j,b,hb0,hm,hsz⟩
   ·simp[hm] at hI
    simp[hm]
    refine hr _ ?_
    simp[hI]
   ·have hj:j<p.Arrs.length:=(List.getElem?_eq_some_iff.1 hb0).1
    have hrow2:=row_drop Arr.d 2 Arr.d_len hb0
    have hj0:¬((j:Int)<0):=by omega
    rw[hsz] at fI hI
    simp[hm] at hI
    simp[hm,hj0,hj,aj,hrow2,hk,hrow,Acc.d]
    refine ay fI ?_
    cases hz:yQ a.F box b.Size
    ·simp[hz] at hI
     simp
     refine hr _ ?_
     simp[hI]
    ·simp[hz] at hI
     simp[hw]
     exact hn _ (by simp) (by simpa using hI)
  ·intro hI q hx' hr
   simp at hI
   simp
   refine hx' _ _ ?_
   simp[hI]
theorem G5 (p:Prog) (x:Stmt) (hp:p.tot≤5000000) (hx:x.tot≤5000000):Says prog 158 [.agg (Cs p.d),.agg (Cs x.d)] (.bool (within false p x)) []:=by
 have hpt:=p.tot_eq
 have f:=yI x hx
 have fO:=FY p hp
 have fB:=qw x hx
 have hok:=xe false x hx
 refine aP Go.Proofs.Tryz.func158 aGE ?_
 unfold within
 generalize dH false x=o at f hok ⊢
 simp at fO
 cases o with
 | none =>
  simp[JU] at f
  generalize jA x=ob at fB
  simp[qB,oI] at fB
  simp[aCL,aDl]
  refine gQ fB ?_
  simp
  refine gQ f ?_
  simp
 | some r =>
  obtain⟨l,box⟩:=r
  obtain⟨h1,h2,h3,h4,h5⟩:=hok _ rfl
  simp only at h1 h2 h3 h4 h5
  simp[JU] at f
  rw[h3] at fB
  simp[qB,oI] at fB
  simp[aCL,aDl]
  refine gQ fB ?_
  simp
  refine gQ f ?_
  simp[C9]
  refine ai fO ?_
  cases okP p
  ·simp
  simp
  generalize hR:l.all (inP p box)=R0
  refine aZ (l:=UK) (b:=WI) rfl [11] (fun k=>[(9,.int .i64 k)]) (fun k=>(l.drop k).all (inP p box)=R0) l.length (by simpa using hR) (by simp) ?_ ?_
  ·intro k hk hI q hn hx' hr
   obtain⟨a,ha0⟩:=ax hk
   have hrow:=row_drop Acc.d 5 Acc.d_len ha0
   have hw:=wrap_succ (i:=k) (by omega)
   have haF:=h1 a (List.mem_of_getElem? ha0)
   have fA:=AX p a.Name (by omega)
   have fI:=Kz a.F box (qN p a.Name) (by have:=haF.2;omega) (by omega) (fun y hy=>by have:=h5 y hy;omega)
   rw[drop_cons ha0,List.all_cons] at hI
   have ei:inP p box a=(decide (0≤mZ p a.Name)&&yQ a.F box (qN p a.Name)):=rfl
   rw[ei] at hI
   simp at fA fI
   simp[hk,aj,hrow,splice,Acc.d]
   refine ay fA ?_
   rcases yH p a.Name with hm|⟨j,b,hb0,hm,hsz⟩
   ·simp[hm] at hI
    simp[hm]
    refine hr _ ?_
    simp[hI]
   ·have hj:j<p.Arrs.length:=(List.getElem?_eq_some_iff.1 hb0).1
    have hrow2:=row_drop Arr.d 2 Arr.d_len hb0
    have hj0:¬((j:Int)<0):=by omega
    rw[hsz] at fI hI
    simp[hm] at hI
    simp[hm,hj0,hj,aj,hrow2,hk,hrow,Acc.d]
    refine ay fI ?_
    cases hz:yQ a.F box b.Size
    ·simp[hz] at hI
     simp
     refine hr _ ?_
     simp[hI]
    ·simp[hz] at hI
     simp[hw]
     exact hn _ (by simp) (by simpa using hI)
  ·intro hI q hx' hr
   simp at hI
   simp
   refine hx' _ _ ?_
   simp[hI]
def isV (n:Nm) (e:Exp):Nat:=if e.K=2∧e.S=n then 1 else 0
theorem U1 (n:Nm) (e:Exp):isV n e≤1:=by unfold isV;split<;>omega
def dA (n:Nm) (e:Exp):Nat:=aB (fun a x=>a+isV n x) 0 e
theorem PE (f:Exp→Nat):∀ (e:Exp) (a:Nat),aB (fun a x=>a+f x) a e=a+aB (fun a x=>a+f x) 0 e:=Exp.ind fun e ih a=>by
 have key:∀ (L:List Exp),(∀ y∈L,∀ a,aB (fun a x=>a+f x) a y=a+aB (fun a x=>a+f x) 0 y)→∀ a,L.foldl (aB (fun a x=>a+f x)) a=a+(L.map (aB (fun a x=>a+f x) 0)).sum:=by
  intro L
  induction L with
  | nil=>intro _ a;simp
  | cons y L ihL =>
   intro h a
   rw[List.foldl_cons,ihL (fun z hz=>h z (by simp[hz])),h y (by simp),List.map_cons,List.sum_cons,Nat.add_assoc]
 rw[dW,dW,key e.L ih,key e.L ih 0]
 omega
theorem wZ (n:Nm) (e:Exp):dA n e=isV n e+(e.L.map (dA n)).sum:=by
 have key:∀ (L:List Exp) (a:Nat),L.foldl (aB (fun a x=>a+isV n x)) a=a+(L.map (dA n)).sum:=by
  intro L
  induction L with
  | nil=>intro a;simp
  | cons y L ih =>
   intro a
   rw[List.foldl_cons,ih,PE,List.map_cons,List.sum_cons,Nat.add_assoc];rfl
 show aB _ 0 e=_
 rw[dW,key];omega
theorem jr (n:Nm) (e:Exp):dA n e≤1+e.tot:=by
 have:=og (m:=fun a:Nat=>a) (step:=fun a x=>a+isV n x) (fun a x=>by have:=U1 n x;simp;omega) e 0
 simpa [dA] using this
def cpA (n:Nm) (a:Nat):List AV:=[.bx 1 9 [.str n],.bx 2 3 [.int .i64 a]]
theorem aDx (n:Nm):Cap (cpA n) [1,2] where
 st a:=by simp[cpA]
 re a:=by simp[cpA]
 ln a:=by simp[cpA]
 le:=by simp
 fz a:=by simp[cpA,dN]
 hr a:=by simp[cpA]
 rf a:=by simp[cpA]
 ins a:=by simp[cpA]
 lz a g r p o:=by simp[cpA,lz1]
 dr a:=by simp[cpA]
 ox a g x rest h1 h2:=by
  simp[cpA,↓h1,↓h2]
 nz s hs:=by simp at hs;omega
 nm a:=by simp[cpA]
theorem aLv (n:Nm) (a:Nat) (x:Exp) (ha:a+1≤20000000):Says prog 334 (.agg (Cs x.d)::cpA n a) (.tup [] []) (num 1 (cpA n (a+isV n x))):=by
 have hw:IntKind.i64.wrap ((a:Int)+1)=(a:Int)+1:=wrap64 (by omega) (by omega)
 rw[(aDx n).nm]
 refine kP [1,2] _ Go.Proofs.Tryz.func334 aE6 (aDx n).nz ?_
 by_cases c:x.K=2
 ·by_cases c2:x.S=n
  ·simp[afl,afx,c,c2,cpA,isV,hw]
  ·simp[afl,afx,c,c2,cpA,isV]
 ·simp[afl,afx,c,cpA,isV]
theorem oO (e:Exp) (n:Nm) (he:e.tot≤5000000):Says prog 301 [.agg (Cs e.d),.str n] (.int .i64 (dA n e)) []:=by
 have fE:=I9 (g:=334) (aDx n) (by kernel_rfl) (fun a x=>a+isV n x) (fun a=>a) 20000000 (fun a x=>by have:=U1 n x;simp;omega) (fun a x ha _=>aLv n a x ha) e he 0 (by omega)
 change Says _ _ _ _ (num 1 (cpA n (dA n e))) at fE
 have pE:aY prog 320=true:=by kernel_rfl
 refine aP Go.Proofs.Tryz.func301 aFv ?_
 generalize dA n e=R at fE ⊢
 simp[cpA] at fE
 simp[aMo,aN8]
 refine bn [_,_] pE fE ?_
 simp[↓zN]
theorem oN (n:Nm):∀ e:Exp,e.tot≤5000000→Says prog 329 [.agg (Cs e.d),.str n] (.int .i64 (dA n e)) []:=Exp.ind fun e ih he=>by
 have ht:=e.tot_eq
 have ae:=wZ n e
 have ale:=jr n e
 refine aP Go.Proofs.Tryz.func329 aFa ?_
 generalize hR:dA n e=R at ae ale ⊢
 by_cases c1:e.K=2<;>by_cases c2:e.S=n
 all_goals
  simp[aL7,aNR,c1,c2]
  refine aZ (l:=TP) (b:=VJ) rfl [] (fun i=>[(4,.int .i64 ((isV n e+((e.L.take i).map (dA n)).sum:Nat):Int)),(6,.int .i64 i)]) (fun i=>True) e.L.length trivial (by simp[isV,c1,c2]) ?_ ?_
  ·intro i hi hI q hn hx hr
   obtain⟨y,hy0⟩:=ax hi
   have hrow:=row_drop Exp.d 4 Exp.d_len hy0
   have hw:=wrap_succ (i:=i) (by omega)
   have hym:=List.mem_of_getElem? hy0
   have hs:=bQ (dA n) hy0
   have hle:=AM.sum_take_le (dA n) e.L (i+1)
   have hyt:=az Exp.tot hym
   have fy:=ih y hym (by omega)
   have hw2:IntKind.i64.wrap (((isV n e+((e.L.take i).map (dA n)).sum:Nat):Int)+(dA n y:Int))=((isV n e+((e.L.take (i+1)).map (dA n)).sum:Nat):Int):=by rw[hs];rw[wrap64 (by omega) (by omega)];omega
   generalize ((e.L.take (i+1)).map (dA n)).sum=s1 at *
   generalize ((e.L.take i).map (dA n)).sum=s0 at *
   generalize hv:isV n e=v0 at *
   simp at fy hw2
   simp[hi,aj,hrow]
   refine ai fy ?_
   simp[hw,hw2]
   refine hn _ ?_ trivial
   simp
  ·intro _ q hx hr
   rw[List.take_length]
   simp
   refine hx _ _ ?_
   simp
   omega
def sumT (f:Stmt→Nat) (x:Stmt):Nat:=aI (fun a x=>a+f x) 0 x
def jW (f:Stmt→Nat) (l:List Stmt):Nat:=(l.map (sumT f)).sum
theorem PD (f:Stmt→Nat):∀ (x:Stmt) (a:Nat),aI (fun a x=>a+f x) a x=a+(f x+jW f x.Body):=Stmt.ind fun x ih a=>by
 have key:∀ (L:List Stmt),(∀ y∈L,∀ a,aI (fun a x=>a+f x) a y=a+(f y+jW f y.Body))→∀ a,L.foldl (aI (fun a x=>a+f x)) a=a+jW f L:=by
  intro L
  induction L with
  | nil=>intro _ a;simp[jW]
  | cons y L ihL =>
   intro h a
   have e0:=h y (by simp) 0
   rw[List.foldl_cons,ihL (fun z hz=>h z (by simp[hz])),h y (by simp)]
   unfold jW
   rw[List.map_cons,List.sum_cons]
   show _=a+(aI _ 0 y+_)
   rw[e0];unfold jW;omega
 rw[eF,key x.Body ih];omega
theorem nX (f:Stmt→Nat) (x:Stmt):sumT f x=f x+jW f x.Body:=by unfold sumT;rw[PD];omega
theorem KJ (f g:Stmt→Nat):∀ (x:Stmt) (a:Nat × Nat),aI (fun a x=>(a.1+f x,a.2+g x)) a x=(a.1+sumT f x,a.2+sumT g x):=Stmt.ind fun x ih a=>by
 have key:∀ (L:List Stmt),(∀ y∈L,∀ a:Nat × Nat,aI (fun a x=>(a.1+f x,a.2+g x)) a y=(a.1+sumT f y,a.2+sumT g y))→∀ a,L.foldl (aI (fun a x=>(a.1+f x,a.2+g x))) a=(a.1+jW f L,a.2+jW g L):=by
  intro L
  induction L with
  | nil=>intro _ a;simp[jW]
  | cons y L ihL =>
   intro h a
   rw[List.foldl_cons,ihL (fun z hz=>h z (by simp[hz])),h y (by simp)]
   simp only[jW,List.map_cons,List.sum_cons,Nat.add_assoc]
 rw[eF,key x.Body ih,nX,nX]
 simp only[Nat.add_assoc]
theorem Ah (f g:Stmt→Nat):∀ (L:List Stmt) (a:Nat × Nat),L.foldl (aI (fun a x=>(a.1+f x,a.2+g x))) a=(a.1+jW f L,a.2+jW g L)
 | [],a=>by simp[jW]
 | y::L,a=>by
  rw[List.foldl_cons,Ah f g L,KJ]
  simp only[jW,List.map_cons,List.sum_cons,Nat.add_assoc]
theorem DV (f:Stmt→Nat) {l:List Stmt} {i:Nat} {y:Stmt} (h:l[i]?=some y):jW f (l.take (i+1))=jW f (l.take i)+sumT f y:=by
 unfold jW;exact bQ (sumT f) h
def dC (n:Nm) (x:Stmt):Nat:=if x.K=1∧x.S=n then 1 else 0
theorem BI (n:Nm) (x:Stmt):dC n x≤1:=by unfold dC;split<;>omega
def mY (n:Nm) (x:Stmt):Nat:=dA n x.At+dA n x.E+dA n x.Lo+dA n x.Hi
theorem Oc (n:Nm) (x:Stmt):mY n x≤4+(x.At.tot+x.E.tot+x.Lo.tot+x.Hi.tot):=by
 have h1:=jr n x.At
 have h2:=jr n x.E
 have h3:=jr n x.Lo
 have h4:=jr n x.Hi
 unfold mY;omega
def sets (n:Nm) (l:List Stmt):Nat:=jW (dC n) l
def asks (n:Nm) (l:List Stmt):Nat:=jW (mY n) l
theorem Nh {f w wt:Stmt→Nat} (hf:∀ x,f x≤w x) (hw:∀ x,w x+(x.Body.map wt).sum≤wt x) (l:List Stmt):jW f l≤(l.map wt).sum:=by
 have key:∀ (x:Stmt),sumT f x≤wt x:=fun x=>by
  have:=qK (m:=fun a:Nat=>a) (step:=fun a x=>a+f x) (w:=w) (wt:=wt) (fun a x=>by have:=hf x;simp;omega) hw x 0
  simpa [sumT] using this
 unfold jW
 induction l with
 | nil=>simp
 | cons y l ih=>have:=key y;simp only[List.map_cons,List.sum_cons];omega
def Je (x:Stmt):Nat:=5+(x.At.tot+x.E.tot+x.Lo.tot+x.Hi.tot)
theorem AB (l:List Stmt):(l.map fun x=>5+6*x.tot).sum=5*l.length+6*(l.map Stmt.tot).sum:=by
 induction l with
 | nil=>simp
 | cons y l ih=>simp only[List.map_cons,List.sum_cons,List.length_cons,ih];omega
theorem BU (x:Stmt):Je x+(x.Body.map fun x=>5+6*x.tot).sum≤5+6*x.tot:=by
 have:=AB x.Body
 have:=x.tot_eq
 unfold Je
 omega
theorem wQ (n:Nm) (l:List Stmt):sets n l≤5*l.length+6*(l.map Stmt.tot).sum:=by
 rw[←AB];exact Nh (w:=Je) (fun x=>by have:=BI n x;unfold Je;omega) BU l
theorem wY (n:Nm) (l:List Stmt):asks n l≤5*l.length+6*(l.map Stmt.tot).sum:=by
 rw[←AB];exact Nh (w:=Je) (fun x=>by have:=Oc n x;unfold Je;omega) BU l
def cpC (n:Nm) (a:Nat × Nat):List AV:=[.bx 1 9 [.str n],.bx 2 3 [.int .i64 a.1],.bx 3 3 [.int .i64 a.2]]
theorem aDw (n:Nm):Cap (cpC n) [1,2,3] where
 st a:=by simp[cpC]
 re a:=by simp[cpC]
 ln a:=by simp[cpC]
 le:=by simp
 fz a:=by simp[cpC,dN]
 hr a:=by simp[cpC]
 rf a:=by simp[cpC]
 ins a:=by simp[cpC]
 lz a g r p o:=by simp[cpC,lz1]
 dr a:=by simp[cpC]
 ox a g x rest h1 h2:=by
  simp[cpC,↓h1,↓h2]
 nz s hs:=by simp at hs;omega
 nm a:=by simp[cpC]
def Gv (n:Nm) (a:Nat × Nat) (x:Stmt):Nat × Nat:=(a.1+dC n x,a.2+mY n x)
theorem Yp (n:Nm) (a:Nat × Nat) (x:Stmt) (ha:a.1+a.2+Je x≤40000000) (hx:x.tot≤5000000):Says prog 300 (.agg (Cs x.d)::cpC n a) (.tup [] []) (num 1 (cpC n (Gv n a x))):=by
 have ht:=x.tot_eq
 have f1:=oO x.At n (by omega)
 have f2:=oO x.E n (by omega)
 have f3:=oO x.Lo n (by omega)
 have f4:=oO x.Hi n (by omega)
 have h1:=jr n x.At
 have h2:=jr n x.E
 have h3:=jr n x.Lo
 have h4:=jr n x.Hi
 rw[(aDw n).nm]
 refine kP [1,2,3] _ Go.Proofs.Tryz.func300 aFw (aDw n).nz ?_
 unfold Je at ha
 have key:∀ k:Nat,(k=dC n x)→Gv n a x=(a.1+k,a.2+(dA n x.At+dA n x.E+dA n x.Lo+dA n x.Hi)):=fun k hk=>by rw[hk];rfl
 have kle:dC n x≤1:=BI n x
 have hw0:IntKind.i64.wrap ((a.1:Int)+1)=(a.1:Int)+1:=wrap64 (by omega) (by omega)
 have hw1:IntKind.i64.wrap ((a.2:Int)+dA n x.At)=(a.2:Int)+dA n x.At:=wrap64 (by omega) (by omega)
 have hw2:IntKind.i64.wrap ((a.2:Int)+dA n x.At+dA n x.E)=(a.2:Int)+dA n x.At+dA n x.E:=wrap64 (by omega) (by omega)
 have hw3:IntKind.i64.wrap ((a.2:Int)+(dA n x.At+dA n x.E)+dA n x.Lo)=(a.2:Int)+(dA n x.At+dA n x.E)+dA n x.Lo:=wrap64 (by omega) (by omega)
 have hw4:IntKind.i64.wrap ((a.2:Int)+(dA n x.At+(dA n x.E+dA n x.Lo))+dA n x.Hi)=(a.2:Int)+(dA n x.At+(dA n x.E+dA n x.Lo))+dA n x.Hi:=wrap64 (by omega) (by omega)
 generalize dA n x.At=b1 at *
 generalize dA n x.E=b2 at *
 generalize dA n x.Lo=b3 at *
 generalize dA n x.Hi=b4 at *
 simp at f1 f2 f3 f4
 by_cases c1:x.K=1<;>by_cases c2:x.S=n
 all_goals
  rw[key (if x.K=1∧x.S=n then 1 else 0) rfl]
  simp[aMp,aN9,cpC,c1,c2,hw0,splice]
  refine aZ (l:=TZ) (b:=VT) rfl [9] (fun i=>[(3,.bx 3 3 [.int .i64 ((a.2:Int)+(([b1,b2,b3,b4].take i).sum:Nat))]),(7,.int .i64 i)]) (fun i=>True) 4 trivial (by simp) ?_ ?_
  ·intro i hi hI q hn hx hr
   have hi4:i=0∨i=1∨i=2∨i=3:=by omega
   rcases hi4 with rfl|rfl|rfl|rfl
   ·simp
    refine ay f1 ?_
    simp[hw1]
    refine hn _ ?_ trivial
    simp
   ·simp
    refine ay f2 ?_
    simp[hw2]
    refine hn _ ?_ trivial
    simp[Int.add_assoc]
    exact wrap64 (by decide) (by decide)
   ·simp
    refine ay f3 ?_
    simp[hw3]
    refine hn _ ?_ trivial
    simp[Int.add_assoc]
    exact wrap64 (by decide) (by decide)
   ·simp
    refine ay f4 ?_
    simp[hw4]
    refine hn _ ?_ trivial
    simp[Int.add_assoc]
    exact wrap64 (by decide) (by decide)
  ·intro _ q hx hr
   simp
   refine hx _ _ ?_
   simp
   try omega
theorem yE (l:List Stmt) (n:Nm) (hl:l.length+(l.map Stmt.tot).sum≤5000000):Says prog 240 [.rsl l.length (Cs (l.flatMap Stmt.d)),.str n] (.tup [none,none] [.int .i64 (sets n l),.int .i64 (asks n l)]) []:=by
 have fE:=xW (g:=300) (aDw n) (by kernel_rfl) (Gv n) (fun a=>a.1+a.2) 40000000 Je (fun a x=>by have:=BI n x;have:=Oc n x;unfold Gv Je;simp;omega) (fun x=>5+6*x.tot) BU (fun a x ha hx=>Yp n a x ha hx) l hl (0,0) (by rw[AB];simp;omega)
 have e1:l.foldl (aI (Gv n)) (0,0)=(sets n l,asks n l):=by
  have:l.foldl (aI (Gv n)) (0,0)=(0+jW (dC n) l,0+jW (mY n) l):=Ah (dC n) (mY n) l (0,0)
  rw[this,Nat.zero_add,Nat.zero_add];rfl
 rw[e1] at fE
 refine aP Go.Proofs.Tryz.func240 aF4 ?_
 simp[cpC] at fE
 simp[aMK,aOu]
 refine bn [_,_,_] FW fE ?_
 simp[↓zN]
theorem XM (n:Nm) (x:Stmt):sumT (dC n) x=dC n x+sets n x.Body:=nX _ x
theorem ae6 (n:Nm) (x:Stmt):sumT (mY n) x=mY n x+asks n x.Body:=nX _ x
theorem aDD (f:Stmt→Nat) (x:Stmt):jW f [x]=sumT f x:=by simp[jW]
theorem OE (n:Nm) (x:Stmt) (hx:x.tot≤5000000) (h:Says prog 229 [.rsl x.Body.length (Cs (x.Body.flatMap Stmt.d)),.str n] (.tup [none,none] [.int .i64 (sets n x.Body),.int .i64 (asks n x.Body)]) []) :
  Says prog 290 [.agg (Cs x.d),.str n] (.tup [none,none] [.int .i64 (sumT (dC n) x),.int .i64 (sumT (mY n) x)]) []:=by
 have ht:=x.tot_eq
 have f1:=oN n x.At (by omega)
 have f2:=oN n x.E (by omega)
 have f3:=oN n x.Lo (by omega)
 have f4:=oN n x.Hi (by omega)
 have h1:=jr n x.At
 have h2:=jr n x.E
 have h3:=jr n x.Lo
 have h4:=jr n x.Hi
 have hb1:=wQ n x.Body
 have hb2:=wY n x.Body
 rw[XM,ae6]
 unfold mY
 have hw0:IntKind.i64.wrap ((sets n x.Body:Int)+1)=(sets n x.Body:Int)+1:=wrap64 (by omega) (by omega)
 have hw1:IntKind.i64.wrap ((asks n x.Body:Int)+dA n x.At)=(asks n x.Body:Int)+dA n x.At:=wrap64 (by omega) (by omega)
 have hw2:IntKind.i64.wrap ((asks n x.Body:Int)+dA n x.At+dA n x.E)=(asks n x.Body:Int)+dA n x.At+dA n x.E:=wrap64 (by omega) (by omega)
 have hw3:IntKind.i64.wrap ((asks n x.Body:Int)+dA n x.At+dA n x.E+dA n x.Lo)=(asks n x.Body:Int)+dA n x.At+dA n x.E+dA n x.Lo:=wrap64 (by omega) (by omega)
 have hw4:IntKind.i64.wrap ((asks n x.Body:Int)+dA n x.At+dA n x.E+dA n x.Lo+dA n x.Hi)=(asks n x.Body:Int)+dA n x.At+dA n x.E+dA n x.Lo+dA n x.Hi:=wrap64 (by omega) (by omega)
 have key:dC n x=if x.K=1∧x.S=n then 1 else 0:=rfl
 generalize dA n x.At=b1 at *
 generalize dA n x.E=b2 at *
 generalize dA n x.Lo=b3 at *
 generalize dA n x.Hi=b4 at *
 generalize sets n x.Body=u at *
 generalize asks n x.Body=w at *
 refine aP Go.Proofs.Tryz.func290 aFF ?_
 simp at f1 f2 f3 f4
 by_cases c1:x.K=1<;>by_cases c2:x.S=n
 all_goals
  simp[aMx,aOh,c1,c2]
  refine ai h ?_
  simp[c1,c2,hw0]
  refine ay f1 ?_
  simp[hw1]
  refine ay f2 ?_
  simp[hw2]
  refine ay f3 ?_
  simp[hw3]
  refine ay f4 ?_
  simp[hw4,key,c1,c2]
  try omega
theorem counts_of (n:Nm) (l:List Stmt) (hl:l.length+(l.map Stmt.tot).sum≤5000000) (h:∀ x∈l,Says prog 290 [.agg (Cs x.d),.str n] (.tup [none,none] [.int .i64 (sumT (dC n) x),.int .i64 (sumT (mY n) x)]) []) :
  Says prog 229 [.rsl l.length (Cs (l.flatMap Stmt.d)),.str n] (.tup [none,none] [.int .i64 (sets n l),.int .i64 (asks n l)]) []:=by
 have hb1:=wQ n l
 have hb2:=wY n l
 refine aP Go.Proofs.Tryz.func229 aGc ?_
 simp[v229,aOB]
 refine aZ (l:=Uo) (b:=Wh) rfl [8,9] (fun i=>[(4,.int .i64 (sets n (l.take i):Nat)),(5,.int .i64 (asks n (l.take i):Nat)),(6,.int .i64 i)]) (fun i=>True) l.length trivial (by simp[sets,asks,jW]) ?_ ?_
 ·intro i hi hI q hn hx hr
  obtain⟨y,hy0⟩:=ax hi
  have hrow:=row_drop Stmt.d 19 Stmt.d_len hy0
  have hw:=wrap_succ (i:=i) (by omega)
  have hym:=List.mem_of_getElem? hy0
  have fy:=h y hym
  have s1:sets n (l.take (i+1))=sets n (l.take i)+sumT (dC n) y:=DV _ hy0
  have s2:asks n (l.take (i+1))=asks n (l.take i)+sumT (mY n) y:=DV _ hy0
  have g1:sets n (l.take (i+1))≤sets n l:=by unfold sets jW;exact AM.sum_take_le _ _ _
  have g2:asks n (l.take (i+1))≤asks n l:=by unfold asks jW;exact AM.sum_take_le _ _ _
  rw[s1,s2] at hn
  rw[s1] at g1
  rw[s2] at g2
  generalize sets n (l.take i)=u at *
  generalize asks n (l.take i)=w at *
  generalize sumT (dC n) y=u1 at *
  generalize sumT (mY n) y=w1 at *
  have hw1:IntKind.i64.wrap ((u:Int)+u1)=(u:Int)+u1:=wrap64 (by omega) (by omega)
  have hw2:IntKind.i64.wrap ((w:Int)+w1)=(w:Int)+w1:=wrap64 (by omega) (by omega)
  simp at fy
  simp[hi,aj,hrow]
  refine ai fy ?_
  simp[hw,hw1,hw2]
  refine hn _ ?_ trivial
  simp
 ·intro _ q hx hr
  rw[List.take_length]
  simp
  refine hx _ _ ?_
  simp
theorem SB (n:Nm):∀ x:Stmt,x.tot≤5000000→Says prog 290 [.agg (Cs x.d),.str n] (.tup [none,none] [.int .i64 (sumT (dC n) x),.int .i64 (sumT (mY n) x)]) []:=Stmt.ind fun x ih hx=>by
 have ht:=x.tot_eq
 exact OE n x hx (counts_of n x.Body (by omega) fun y hy=>ih y hy (by have:=az Stmt.tot hy;omega))
theorem H7 (l:List Stmt) (n:Nm) (hl:l.length+(l.map Stmt.tot).sum≤5000000):Says prog 229 [.rsl l.length (Cs (l.flatMap Stmt.d)),.str n] (.tup [none,none] [.int .i64 (sets n l),.int .i64 (asks n l)]) [] :=
 counts_of n l hl fun x hx=>SB n x (by have:=az Stmt.tot hx;omega)
end Go.AmC
