import Derived.Test.YtafglhcclmbnbaaGreatSwapAllScal
import Derived.Test.YtafglhcclmbnbaaGreatSwapAllAccB
set_option linter.unusedSimpArgs false
set_option linter.unusedVariables false
set_option maxRecDepth 20000
set_option maxHeartbeats 4000000
namespace Go.AmC
open Go Go.AM
open Go.Proofs.Tryz (prog)
def nU (f g:Aff) (n:Nm):Option Int :=
 if dD f.T n=0 then none else if dD f.T n≠dD g.T n then none else if 0<(eQ f n).T.length then none else if 0<(eQ g n).T.length then none
 else if (f.C-g.C).tmod (dD f.T n)=0 then some ((f.C-g.C).tdiv (dD f.T n)) else none
def resD (o:Option Int):AV:=.tup [none,none] [.int .i64 (o.getD 0),.bool o.isSome]
theorem LU (a b:Int) (h:-200000≤a∧a≤200000):-200000≤a.tdiv b∧a.tdiv b≤200000:=by
 have h1:(a.tdiv b).natAbs≤a.natAbs:=by rw[Int.natAbs_tdiv];exact Nat.div_le_self _ _
 omega
theorem PQ (f g:Aff) (n:Nm) (hf:AOk f) (hg:AOk g) (hft:f.tot≤1000000000) (hgt:g.tot≤1000000000):Says prog 383 [.agg (Cs f.d),.agg (Cs g.d),.str n] (resD (nU f g n)) []:=by
 have htf:=f.tot_eq
 have htg:=g.tot_eq
 have cf:=bJ hf.c
 have cg:=bJ hg.c
 have f1:=mi f n (by omega)
 have f2:=mi g n (by omega)
 have f3:=rZ f n hft
 have f4:=rZ g n hgt
 have hw:IntKind.i64.wrap (f.C-g.C)=f.C-g.C:=wrap64 (by omega) (by omega)
 have hq:=LU (f.C-g.C) (dD f.T n) (by omega)
 refine aP Go.Proofs.Tryz.func383 aEC ?_
 generalize hR:nU f g n=R0
 unfold nU at hR
 generalize dD f.T n=u at *
 generalize dD g.T n=v at *
 generalize (eQ f n).T=A at *
 generalize (eQ g n).T=B at *
 have hw2:IntKind.i64.wrap ((f.C-g.C).tdiv u)=(f.C-g.C).tdiv u:=wrap64 (by omega) (by omega)
 simp at f1 f2 f3 f4
 simp[aLQ,aNA]
 refine ai f1 ?_
 by_cases c1:u=0
 ·simp[c1] at hR
  simp[c1,←hR,resD]
 ·simp[c1] at hR
  simp[c1]
  refine ai f2 ?_
  by_cases c2:u=v
  ·subst c2
   simp[c1] at hR
   simp[c1]
   refine ai f3 ?_
   by_cases c3:0<A.length
   ·simp[c3] at hR
    have c3':(0:Int)<A.length:=by omega
    simp[c1,c3,c3',←hR,resD]
   ·rw[if_neg c3] at hR
    have c3':¬((0:Int)<A.length):=by omega
    simp[c1,c3,c3']
    refine ai f4 ?_
    by_cases c4:0<B.length
    ·simp[c4] at hR
     have c4':(0:Int)<B.length:=by omega
     simp[c1,c4,c4',←hR,resD]
    ·rw[if_neg c4] at hR
     have c4':¬((0:Int)<B.length):=by omega
     by_cases c5:(f.C-g.C).tmod u=0
     ·rw[if_pos c5] at hR
      simp[c1,c4,c4',hw,c5,hw2,←hR,resD]
     ·rw[if_neg c5] at hR
      simp[c1,c4,c4',hw,c5,hw2,←hR,resD]
  ·simp[c1,c2] at hR
   simp[c1,c2,←hR,resD]
def alone (a:Aff) (n:Nm):Bool:=match a.T with
 | []=>true
 | [t]=>decide (t.Name=n)
 | _=>false
theorem A7 (a:Aff) (n:Nm):Says prog 418 [.agg (Cs a.d),.str n] (.bool (alone a n)) []:=by
 refine aP Go.Proofs.Tryz.func418 aEn ?_
 obtain⟨C,T⟩:=a
 unfold alone
 match T with
 | []=>simp[afi,afu]
 | [t]=>by_cases c:t.Name=n<;>simp[afi,afu,c]
 | t::u::l =>
  have h0:¬(((l.length:Int)+1+1)=0):=by omega
  have h1:¬(((l.length:Int)+1+1)=1):=by omega
  simp[afi,afu,h0,h1]
theorem A8 (a:Aff) (n:Nm) (h:AOk a):(alone a n=true)↔¬0<(eQ a n).T.length:=by
 have hp:=h.t.ord
 obtain⟨C,T⟩:=a
 unfold alone eQ
 simp only at hp ⊢
 match T,hp with
 | [],_=>simp
 | [t],_=>by_cases c:t.Name=n<;>simp[c]
 | t::u::l,hp =>
  have h1:=(List.pairwise_cons.1 hp).1 u (by simp)
  have hne:t.Name≠u.Name:=fun e=>by rw[e] at h1;exact List.lt_irrefl _ h1
  by_cases c:t.Name=n
  ·have c2:¬u.Name=n:=fun e=>hne (by rw[c,e])
   simp[c,c2]
  ·simp[c]
def like (f g:Aff) (n:Nm):Bool:=alone f n&&(alone g n&&(decide (dD f.T n≠0)&&decide (dD g.T n=dD f.T n)))
theorem O6 (f g:Aff) (n:Nm) (hf:AOk f) (hg:AOk g) (hft:f.tot≤1000000000) (hgt:g.tot≤1000000000):Says prog 398 [.agg (Cs f.d),.agg (Cs g.d),.str n] (.bool (like f g n)) []:=by
 have htf:=f.tot_eq
 have htg:=g.tot_eq
 have f1:=kU f n (by omega)
 have f2:=kU g n (by omega)
 have f3:=eY f (by omega)
 have f4:=eY g (by omega)
 have f5:=A7 f n
 have f6:=A7 g n
 rw[(dX f).2 hf] at f3
 rw[(dX g).2 hg] at f4
 refine aP Go.Proofs.Tryz.func398 aEu ?_
 unfold like
 generalize dD f.T n=u at *
 generalize dD g.T n=v at *
 generalize alone f n=x at *
 generalize alone g n=y at *
 simp at f1 f2 f3 f4 f5 f6
 simp[aLI,aNs]
 refine ai f1 ?_
 simp
 refine ai f3 ?_
 simp
 refine ai f4 ?_
 simp
 refine ai f5 ?_
 cases x
 ·simp
 simp
 refine ai f6 ?_
 cases y
 ·simp
 by_cases c1:u=0
 ·simp[c1]
 ·simp[c1]
  refine ai f2 ?_
  by_cases c2:v=u<;>simp[c1,c2]
theorem PP (f g:Aff) (n:Nm) (hf:AOk f) (hg:AOk g):nU f g n=if like f g n=true∧(f.C-g.C).tmod (dD f.T n)=0 then some ((f.C-g.C).tdiv (dD f.T n)) else none:=by
 have a1:=A8 f n hf
 have a2:=A8 g n hg
 unfold nU like
 generalize dD f.T n=u at *
 generalize dD g.T n=v at *
 generalize alone f n=x at *
 generalize alone g n=y at *
 by_cases c1:u=0
 ·simp[c1]
 by_cases c2:u=v
 ·subst c2
  by_cases c3:0<(eQ f n).T.length
  ·have:x=false:=by cases x;rfl;exact absurd c3 (a1.1 rfl)
   simp[c1,c3,this]
  ·by_cases c4:0<(eQ g n).T.length
   ·have:y=false:=by cases y;rfl;exact absurd c4 (a2.1 rfl)
    rw[if_neg c1,if_neg (by simp),if_neg c3,if_pos c4]
    simp[this]
   ·rw[if_neg c1,if_neg (by simp),if_neg c3,if_neg c4]
    simp[a1.2 c3,a2.2 c4,c1]
 ·have c2':¬v=u:=fun h=>c2 h.symm
  simp[c1,c2,c2']
theorem PO (f g:Aff) (n:Nm) (hf:AOk f) (hg:AOk g) (hft:f.tot≤1000000000) (hgt:g.tot≤1000000000):Says prog 376 [.agg (Cs f.d),.agg (Cs g.d),.str n] (resD (nU f g n)) []:=by
 have htf:=f.tot_eq
 have htg:=g.tot_eq
 have cf:=bJ hf.c
 have cg:=bJ hg.c
 have f1:=kU f n (by omega)
 have f2:=O6 f g n hf hg hft hgt
 have hw:IntKind.i64.wrap (f.C-g.C)=f.C-g.C:=wrap64 (by omega) (by omega)
 have hq:=LU (f.C-g.C) (dD f.T n) (by omega)
 have hu0:like f g n=true→dD f.T n≠0:=fun h=>by unfold like at h;simp at h;exact h.2.2.1
 rw[PP f g n hf hg]
 refine aP Go.Proofs.Tryz.func376 aEJ ?_
 generalize dD f.T n=u at *
 generalize like f g n=b at *
 have hw2:IntKind.i64.wrap ((f.C-g.C).tdiv u)=(f.C-g.C).tdiv u:=wrap64 (by omega) (by omega)
 simp at f1 f2
 simp[aLV,aNF]
 refine ay f2 ?_
 cases b
 ·simp[resD]
 ·have hu:=hu0 rfl
  simp
  refine ay f1 ?_
  by_cases c:(f.C-g.C).tmod u=0
  ·simp[hw,hu,c]
   refine ay f1 ?_
   simp[hw,hu,hw2,resD]
  ·simp[hw,hu,c,resD]
theorem U5 {l:List Rng} (hl:iV l=true):∀ (ts:List Term) (p q:Int × Int),(∀ t∈ts,gu t.N=true)→qW l ts p=some q →
  p.1-1000000000*(ts.length:Int)≤q.1∧q.1≤p.1+1000000000*(ts.length:Int)∧p.2-1000000000*(ts.length:Int)≤q.2∧q.2≤p.2+1000000000*(ts.length:Int)
 | [],p,q,_,h=>by simp[qW] at h;subst h;simp
 | t::ts,p,q,hc,h=>by
  simp only[qW] at h
  split at h
  ·cases h
  ·rename_i r hr0
   have ih:=U5 hl ts _ q (fun u hu=>hc u (by simp[hu])) h
   obtain⟨r1,r2,r3⟩:=ni hl hr0
   have c:=bJ (hc t (by simp))
   have m1:=wE c.1 c.2 r1 (by omega:r.Lo≤10000)
   have m2:=wE c.1 c.2 (by omega:-10000≤r.Hi) r3
   simp only[loT,hiT] at ih
   rw[List.length_cons]
   omega
def ends (f:Aff) (n:Nm) (l:List Rng):Int × Int:=(ext (eQ f n) l).getD (0,0)
theorem GI (f:Aff) (n:Nm) (l:List Rng) (hf:f.tot≤100000000):-200000000000000000≤(ends f n l).1∧(ends f n l).1≤200000000000000000∧-200000000000000000≤(ends f n l).2∧(ends f n l).2≤200000000000000000:=by
 have ht:=f.tot_eq
 unfold ends
 cases h:ext (eQ f n) l with
 | none=>simp
 | some p =>
  simp only[Option.getD_some]
  unfold ext at h
  split at h
  ·rename_i c
   simp only[Bool.and_eq_true] at c
   have hA:=(dX _).1 c.1
   have h1:=U5 c.2 _ _ _ (fun t ht=>(hA.t.each t ht).2.2) h
   have h2:=bJ hA.c
   have h3:(eQ f n).T.length≤f.T.length:=List.length_filter_le _ _
   simp only at h1
   omega
  ·cases h
def inI (x a b:Int):Bool:=decide (a≤x)&&decide (x≤b)
def KN (k c d:Int) (i:Nat):Bool:=inI (k*((i+1:Nat):Int)) c d||inI (-k*((i+1:Nat):Int)) c d
def jM (f g:Aff) (n:Nm) (l:List Rng):Bool:=iI f g&&(mG f g l&&match ji l n with
 | none=>true
 | some r=>decide (dD f.T n=0)||(decide (dD f.T n≠dD g.T n)||(List.range (r.Hi-r.Lo).toNat).any (KN (dD f.T n) ((ends g n l).1-(ends f n l).2) ((ends g n l).2-(ends f n l).1))))
theorem QL (o:Option (Int × Int)):JV o=.tup [none,none,none] [.int .i64 (o.getD (0,0)).1,.int .i64 (o.getD (0,0)).2,.bool o.isSome]:=rfl
theorem aD9 (o:Option (Int × Int)):nY (o.map (·.1))=.tup [none,none] [.int .i64 (o.getD (0,0)).1,.bool o.isSome]:=by cases o<;>rfl
theorem aD8 (o:Option (Int × Int)):nY (o.map (·.2))=.tup [none,none] [.int .i64 (o.getD (0,0)).2,.bool o.isSome]:=by cases o<;>rfl
theorem vN {f g:Aff} {l:List Rng} (h:mG f g l=true):iV l=true:=by
 unfold mG ext at h
 cases c:iV l
 ·simp[c] at h
 ·rfl
theorem Af {f g:Aff} (h:iI f g=true):AOk f∧AOk g:=by
 unfold iI at h
 simp only[Bool.and_eq_true] at h
 exact⟨(dX f).1 h.1.1,(dX g).1 h.1.2⟩
theorem wz (f:Aff) (n:Nm):(eQ f n).tot≤f.tot:=by
 have h1:=f.tot_eq
 have h2:=(eQ f n).tot_eq
 have key:∀ ts:List Term,(ts.filter (fun t=>t.Name != n)).length≤ts.length∧((ts.filter (fun t=>t.Name != n)).map Term.tot).sum≤(ts.map Term.tot).sum:=by
  intro ts
  induction ts with
  | nil=>simp
  | cons t ts ih =>
   by_cases c:t.Name=n
   ·simp[c];omega
   ·simp[c];omega
 have:=key f.T
 simp only[eQ] at h2 ⊢
 omega
theorem FD (f g:Aff) (n:Nm) (l:List Rng) (hf:f.tot≤100000000) (hg:g.tot≤100000000) (hl:l.length≤4000000000) (hs:∀ r∈l,r.Name.length≤4294967296) :
  Says prog 382 [.agg (Cs f.d),.agg (Cs g.d),.str n,.rsl l.length (Cs (l.flatMap Rng.d))] (.bool (jM f g n l)) []:=by
 have htf:=f.tot_eq
 have htg:=g.tot_eq
 have f1:=FM f g (by omega) (by omega)
 have f2:=Fj f g l (by omega) (by omega) hl hs
 have f3:=mi f n (by omega)
 have f4:=mi g n (by omega)
 have f5:=Gp l n hl
 have f6:=rZ f n (by omega)
 have f7:=rZ g n (by omega)
 have rf:=wz f n
 have rg:=wz g n
 have f8:=rO (eQ f n) l (by omega) hl hs
 have f9:=rO (eQ g n) l (by omega) hl hs
 rw[QL] at f8 f9
 have eb:=GI f n l (by omega)
 have ec:=GI g n l (by omega)
 refine aP Go.Proofs.Tryz.func382 aED ?_
 generalize hR:jM f g n l=R0
 unfold jM at hR
 simp[aLR,aNB,splice]
 simp at f1
 refine ai f1 ?_
 cases c1:iI f g
 ·simp[c1] at hR
  simp[hR]
 simp[c1] at hR
 simp[splice]
 simp at f2
 refine ai f2 ?_
 cases c2:mG f g l
 ·simp[c2] at hR
  simp[hR]
 simp[c2] at hR
 have hfl:=vN c2
 obtain⟨af,ag⟩:=Af c1
 have kb:=Di af.t n
 simp[splice]
 simp at f3
 refine ai f3 ?_
 simp
 refine ai f5 ?_
 generalize dD f.T n=k at *
 generalize dD g.T n=k2 at *
 simp
 by_cases c3:k=0
 ·have:R0=true:=by rw[←hR];cases ji l n<;>simp[c3]
  simp[c3,this]
 simp[c3] at hR
 simp[c3,splice]
 simp at f4
 refine ai f4 ?_
 by_cases c4:¬(k=k2)
 ·have:R0=true:=by rw[←hR];cases ji l n<;>simp[c4]
  simp[c3,c4,this]
 have c4:=Classical.not_not.1 c4
 subst c4
 simp at hR
 simp[c3]
 rcases uf n l 0 with ⟨h1,h2⟩|⟨j,r,h1,h2,h3⟩
 ·simp[h2] at hR
  simp[h1,hR,c3]
 rw[Nat.zero_add] at h1
 rw[h3] at hR
 simp only at hR
 have hj:=(List.getElem?_eq_some_iff.1 h2).1
 have hrj:=row_drop Rng.d 3 Rng.d_len h2
 have hj0:¬((j:Int)<0):=by omega
 obtain⟨r1,r2,r3⟩:=ni hfl h3
 rw[h1]
 simp[hj0,c3]
 simp at f6 f7
 refine ai f6 ?_
 simp[splice]
 have ef:(ext (eQ f n) l).getD (0,0)=ends f n l:=rfl
 have eg:(ext (eQ g n) l).getD (0,0)=ends g n l:=rfl
 have e8:(eQ f n).C=f.C:=rfl
 have e9:(eQ g n).C=g.C:=rfl
 rw[ef] at f8
 rw[eg] at f9
 generalize (ext (eQ f n) l).isSome=u1 at f8
 generalize (ext (eQ g n) l).isSome=u2 at f9
 generalize ends f n l=A at *
 generalize ends g n l=B at *
 obtain⟨a,b⟩:=A
 obtain⟨c,d⟩:=B
 simp only at *
 have w1:IntKind.i64.wrap (c-b)=c-b:=wrap64 (by omega) (by omega)
 have w2:IntKind.i64.wrap (d-a)=d-a:=wrap64 (by omega) (by omega)
 have w3:IntKind.i64.wrap (r.Hi-r.Lo)=r.Hi-r.Lo:=wrap64 (by omega) (by omega)
 have w4:IntKind.i64.wrap (-k)=-k:=wrap64 (by omega) (by omega)
 simp[e8] at f8
 simp[e9] at f9
 refine ai f8 ?_
 simp[splice]
 refine ai f7 ?_
 simp[splice]
 refine ai f9 ?_
 simp[splice]
 have hR2:((List.range (r.Hi-r.Lo).toNat).drop 0).any (KN k (c-b) (d-a))=R0:=by simpa using hR
 clear hR
 refine aZ (l:=Tv) (b:=Vw) rfl [16,17] (fun i=>[(15,.int .i64 ((i+1:Nat):Int))]) (fun i=>((List.range (r.Hi-r.Lo).toNat).drop i).any (KN k (c-b) (d-a))=R0) (r.Hi-r.Lo).toNat hR2 (by simp) ?_ ?_
 ·intro i hi hI q hn hx hr
  have hgi:(List.range (r.Hi-r.Lo).toNat)[i]?=some i:=by simp[hi]
  have m1:k*((i+1:Nat):Int)≤2000000000∧-2000000000≤k*((i+1:Nat):Int):=by
   have h1:k.natAbs*(i+1)≤100000*20000:=Nat.mul_le_mul (by omega) (by omega)
   have h2:(k*((i+1:Nat):Int)).natAbs=k.natAbs*(i+1):=by rw[Int.natAbs_mul];congr 1
   omega
  have m2:-k*((i+1:Nat):Int)=-(k*((i+1:Nat):Int)):=by rw[Int.neg_mul]
  have w5:IntKind.i64.wrap (k*((i+1:Nat):Int))=k*((i+1:Nat):Int):=wrap64 (by omega) (by omega)
  have w6:IntKind.i64.wrap (-(k*((i+1:Nat):Int)))=-(k*((i+1:Nat):Int)):=wrap64 (by omega) (by omega)
  have w7:IntKind.i64.wrap (((i+1:Nat):Int)+1)=((i+1+1:Nat):Int):=by rw[wrap64]<;>omega
  have fI1:=iq (k*((i+1:Nat):Int)) (c-b) (d-a)
  have fI2:=iq (-(k*((i+1:Nat):Int))) (c-b) (d-a)
  rw[drop_cons hgi,List.any_cons] at hI
  have et:KN k (c-b) (d-a) i=(inI (k*((i+1:Nat):Int)) (c-b) (d-a)||inI (-(k*((i+1:Nat):Int))) (c-b) (d-a)):=by unfold KN;rw[m2]
  rw[et] at hI
  have i1:(decide (c-b≤k*((i+1:Nat):Int))&&decide (k*((i+1:Nat):Int)≤d-a))=inI (k*((i+1:Nat):Int)) (c-b) (d-a):=rfl
  have i2:(decide (c-b≤-(k*((i+1:Nat):Int)))&&decide (-(k*((i+1:Nat):Int))≤d-a))=inI (-(k*((i+1:Nat):Int))) (c-b) (d-a):=rfl
  rw[i1] at fI1
  rw[i2] at fI2
  have hle:((i+1:Nat):Int)≤r.Hi-r.Lo:=by omega
  generalize inI (k*((i+1:Nat):Int)) (c-b) (d-a)=b1 at *
  generalize inI (-(k*((i+1:Nat):Int))) (c-b) (d-a)=b2 at *
  generalize hz:k*((i+1:Nat):Int)=z at *
  generalize hy:((i+1:Nat):Int)=y at *
  simp[hj0,hj,aj,hrj,splice,w1,w2,w3,w4,hle,hz,w5,w6,m2]
  refine ai fI1 ?_
  cases b1
  ·simp[hz,w1,w2,w4,w5,w6,m2]
   refine ai fI2 ?_
   cases b2
   ·simp[w7]
    refine hn _ ?_ (by simpa using hI)
    simp
   ·simp at hI
    simp
    refine hr _ ?_
    simp[hI]
  ·simp at hI
   simp
   refine hr _ ?_
   simp[hI]
 ·intro hI q hx hr
  have hlt:¬((((r.Hi-r.Lo).toNat+1:Nat):Int)≤r.Hi-r.Lo):=by omega
  rw[List.drop_of_length_le (by simp),List.any_nil] at hI
  generalize (((r.Hi-r.Lo).toNat+1:Nat):Int)=y at *
  simp[hj0,hj,aj,hrj,splice,w3,hlt]
  refine hx _ _ ?_
  simp[←hI]
theorem FB (f g:Aff) (n:Nm) (l:List Rng) (hf:f.tot≤100000000) (hg:g.tot≤100000000) (hl:l.length≤4000000000) (hs:∀ r∈l,r.Name.length≤4294967296) :
  Says prog 375 [.agg (Cs f.d),.agg (Cs g.d),.str n,.rsl l.length (Cs (l.flatMap Rng.d))] (.bool (jM f g n l)) []:=by
 have htf:=f.tot_eq
 have htg:=g.tot_eq
 have f1:=FK f g (by omega) (by omega)
 have f2:=Fh f g l (by omega) (by omega) hl hs
 have f3:=kU f n (by omega)
 have f4:=kU g n (by omega)
 have f5:=AQ l n hl
 have f6:=D7 f n (by omega)
 have f7:=D7 g n (by omega)
 have rf:=wz f n
 have rg:=wz g n
 have f8:=mJ (eQ f n) l (by omega) hl hs
 have f9:=oJ (eQ f n) l (by omega) hl hs
 have f10:=mJ (eQ g n) l (by omega) hl hs
 have f11:=oJ (eQ g n) l (by omega) hl hs
 rw[aD9] at f8 f10
 rw[aD8] at f9 f11
 have eb:=GI f n l (by omega)
 have ec:=GI g n l (by omega)
 refine aP Go.Proofs.Tryz.func375 aEK ?_
 generalize hR:jM f g n l=R0
 unfold jM at hR
 simp[aLW,aNG,splice]
 simp at f1
 refine ai f1 ?_
 cases c1:iI f g
 ·simp[c1] at hR
  simp[hR]
 simp[c1] at hR
 simp[splice]
 simp at f2
 refine ai f2 ?_
 cases c2:mG f g l
 ·simp[c2] at hR
  simp[hR]
 simp[c2] at hR
 have hfl:=vN c2
 obtain⟨af,ag⟩:=Af c1
 have kb:=Di af.t n
 simp[splice]
 simp at f3
 refine ai f3 ?_
 simp
 refine ai f5 ?_
 generalize dD f.T n=k at *
 generalize dD g.T n=k2 at *
 simp
 by_cases c3:k=0
 ·have:R0=true:=by rw[←hR];cases ji l n<;>simp[c3]
  simp[c3,this]
 simp[c3] at hR
 simp[c3,splice]
 simp at f4
 refine ai f4 ?_
 by_cases c4:¬(k=k2)
 ·have:R0=true:=by rw[←hR];cases ji l n<;>simp[c4]
  simp[c3,c4,this]
 have c4:=Classical.not_not.1 c4
 subst c4
 simp at hR
 simp[c3]
 rcases uf n l 0 with ⟨h1,h2⟩|⟨j,r,h1,h2,h3⟩
 ·simp[h2] at hR
  simp[h1,hR,c3]
 rw[Nat.zero_add] at h1
 rw[h3] at hR
 simp only at hR
 have hj:=(List.getElem?_eq_some_iff.1 h2).1
 have hrj:=row_drop Rng.d 3 Rng.d_len h2
 have hj0:¬((j:Int)<0):=by omega
 obtain⟨r1,r2,r3⟩:=ni hfl h3
 rw[h1]
 simp[hj0,c3]
 simp at f6 f7
 refine ai f6 ?_
 simp[splice]
 have ef:(ext (eQ f n) l).getD (0,0)=ends f n l:=rfl
 have eg:(ext (eQ g n) l).getD (0,0)=ends g n l:=rfl
 have e8:(eQ f n).C=f.C:=rfl
 have e9:(eQ g n).C=g.C:=rfl
 rw[ef] at f8 f9
 rw[eg] at f10 f11
 generalize (ext (eQ f n) l).isSome=u1 at f8 f9
 generalize (ext (eQ g n) l).isSome=u2 at f10 f11
 generalize ends f n l=A at *
 generalize ends g n l=B at *
 obtain⟨a,b⟩:=A
 obtain⟨c,d⟩:=B
 simp only at *
 have w1:IntKind.i64.wrap (c-b)=c-b:=wrap64 (by omega) (by omega)
 have w2:IntKind.i64.wrap (d-a)=d-a:=wrap64 (by omega) (by omega)
 have w3:IntKind.i64.wrap (r.Hi-r.Lo)=r.Hi-r.Lo:=wrap64 (by omega) (by omega)
 have w4:IntKind.i64.wrap (-k)=-k:=wrap64 (by omega) (by omega)
 simp[e8] at f8 f9
 simp[e9] at f10 f11
 refine ai f7 ?_
 simp[splice]
 refine ai f8 ?_
 simp[splice]
 refine ai f9 ?_
 simp[splice]
 refine ai f10 ?_
 simp[splice]
 refine ai f11 ?_
 simp[splice]
 have hR2:((List.range (r.Hi-r.Lo).toNat).drop 0).any (KN k (c-b) (d-a))=R0:=by simpa using hR
 clear hR
 refine aZ (l:=TB) (b:=Vz) rfl [18,19] (fun i=>[(17,.int .i64 ((i+1:Nat):Int))]) (fun i=>((List.range (r.Hi-r.Lo).toNat).drop i).any (KN k (c-b) (d-a))=R0) (r.Hi-r.Lo).toNat hR2 (by simp) ?_ ?_
 ·intro i hi hI q hn hx hr
  have hgi:(List.range (r.Hi-r.Lo).toNat)[i]?=some i:=by simp[hi]
  have m1:k*((i+1:Nat):Int)≤2000000000∧-2000000000≤k*((i+1:Nat):Int):=by
   have h1:k.natAbs*(i+1)≤100000*20000:=Nat.mul_le_mul (by omega) (by omega)
   have h2:(k*((i+1:Nat):Int)).natAbs=k.natAbs*(i+1):=by rw[Int.natAbs_mul];congr 1
   omega
  have m2:-k*((i+1:Nat):Int)=-(k*((i+1:Nat):Int)):=by rw[Int.neg_mul]
  have w5:IntKind.i64.wrap (k*((i+1:Nat):Int))=k*((i+1:Nat):Int):=wrap64 (by omega) (by omega)
  have w6:IntKind.i64.wrap (-(k*((i+1:Nat):Int)))=-(k*((i+1:Nat):Int)):=wrap64 (by omega) (by omega)
  have w7:IntKind.i64.wrap (((i+1:Nat):Int)+1)=((i+1+1:Nat):Int):=by rw[wrap64]<;>omega
  have fI1:=iU (k*((i+1:Nat):Int)) (c-b) (d-a)
  have fI2:=iU (-(k*((i+1:Nat):Int))) (c-b) (d-a)
  rw[drop_cons hgi,List.any_cons] at hI
  have et:KN k (c-b) (d-a) i=(inI (k*((i+1:Nat):Int)) (c-b) (d-a)||inI (-(k*((i+1:Nat):Int))) (c-b) (d-a)):=by unfold KN;rw[m2]
  rw[et] at hI
  have i1:(decide (c-b≤k*((i+1:Nat):Int))&&decide (k*((i+1:Nat):Int)≤d-a))=inI (k*((i+1:Nat):Int)) (c-b) (d-a):=rfl
  have i2:(decide (c-b≤-(k*((i+1:Nat):Int)))&&decide (-(k*((i+1:Nat):Int))≤d-a))=inI (-(k*((i+1:Nat):Int))) (c-b) (d-a):=rfl
  rw[i1] at fI1
  rw[i2] at fI2
  have hle:((i+1:Nat):Int)≤r.Hi-r.Lo:=by omega
  generalize inI (k*((i+1:Nat):Int)) (c-b) (d-a)=b1 at *
  generalize inI (-(k*((i+1:Nat):Int))) (c-b) (d-a)=b2 at *
  generalize hz:k*((i+1:Nat):Int)=z at *
  generalize hy:((i+1:Nat):Int)=y at *
  simp[hj0,hj,aj,hrj,splice,w1,w2,w3,w4,hle,hz,w5,w6,m2]
  refine ai fI1 ?_
  cases b1
  ·simp[hz,w1,w2,w4,w5,w6,m2]
   refine ai fI2 ?_
   cases b2
   ·simp[w7]
    refine hn _ ?_ (by simpa using hI)
    simp
   ·simp at hI
    simp
    refine hr _ ?_
    simp[hI]
  ·simp at hI
   simp
   refine hr _ ?_
   simp[hI]
 ·intro hI q hx hr
  have hlt:¬((((r.Hi-r.Lo).toNat+1:Nat):Int)≤r.Hi-r.Lo):=by omega
  rw[List.drop_of_length_le (by simp),List.any_nil] at hI
  generalize (((r.Hi-r.Lo).toNat+1:Nat):Int)=y at *
  simp[hj0,hj,aj,hrj,splice,w3,hlt]
  refine hx _ _ ?_
  simp[←hI]
end Go.AmC
