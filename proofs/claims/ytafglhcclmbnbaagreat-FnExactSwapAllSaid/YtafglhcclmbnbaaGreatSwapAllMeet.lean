import Derived.Test.YtafglhcclmbnbaaGreatSwapAllBoxO
set_option linter.unusedSimpArgs false
set_option linter.unusedVariables false
set_option maxRecDepth 20000
set_option maxHeartbeats 4000000
namespace Go.AmC
open Go Go.AM
open Go.Proofs.Tryz (prog)
def ji (l:List Rng) (n:Nm):Option Rng:=l.find? (fun r=>r.Name==n)
theorem uf (n:Nm):∀ (l:List Rng) (i:Nat),(idxOf n (aF l) i=-1∧ji l n=none)∨∃ (k:Nat) (r:Rng),idxOf n (aF l) i=((i+k:Nat):Int)∧l[k]?=some r∧ji l n=some r
 | [],i=>.inl ⟨rfl,rfl⟩
 | x::l,i=>by
  by_cases c:x.Name=n
  ·refine .inr ⟨0,x,?_,rfl,?_⟩
   ·simp only[aF,List.map_cons,idxOf];rw[if_pos c];simp
   ·simp[ji,c]
  ·have h1:idxOf n (aF (x::l)) i=idxOf n (aF l) (i+1):=by simp only[aF,List.map_cons,idxOf];rw[if_neg c]
   have h2:ji (x::l) n=ji l n:=by simp[ji,c]
   rw[h1,h2]
   rcases uf n l (i+1) with h|⟨k,r,h3,h4,h5⟩
   ·exact .inl h
   ·exact .inr ⟨k+1,r,by rw[h3];congr 1;omega,by simpa using h4,h5⟩
def loT (t:Term) (r:Rng):Int:=min (t.N*r.Lo) (t.N*r.Hi)
def hiT (t:Term) (r:Rng):Int:=max (t.N*r.Lo) (t.N*r.Hi)
def qW (l:List Rng):List Term→Int × Int→Option (Int × Int)
 | [],p=>some p
 | t::ts,p=>match ji l t.Name with
  | none=>none
  | some r=>qW l ts (p.1+loT t r,p.2+hiT t r)
def ext (a:Aff) (l:List Rng):Option (Int × Int):=if iy a&&iV l then qW l a.T (a.C,a.C) else none
theorem rD (l:List Rng):∀ (A B:List Term) (p:Int × Int),qW l (A++B) p=(qW l A p).bind (qW l B)
 | [],B,p=>rfl
 | t::A,B,p=>by
  simp only[List.cons_append,qW]
  cases ji l t.Name with
  | none=>rfl
  | some r=>exact rD l A B _
theorem xU {l:List Rng} {ts:List Term} {i:Nat} {t:Term} {p q:Int × Int} (ht:ts[i]?=some t) (hq:qW l (ts.take i) p=some q) (hn:ji l t.Name=none):qW l ts p=none:=by
 rw[show ts=ts.take i++ts.drop i from (List.take_append_drop i ts).symm,rD,hq,drop_cons ht]
 simp[qW,hn]
theorem PG {l:List Rng} {ts:List Term} {i:Nat} {t:Term} {r:Rng} {p q:Int × Int} (ht:ts[i]?=some t) (hq:qW l (ts.take i) p=some q) (hn:ji l t.Name=some r):qW l (ts.take (i+1)) p=some (q.1+loT t r,q.2+hiT t r):=by
 rw[List.take_add_one,ht,rD,hq]
 simp[qW,hn]
theorem ni {l:List Rng} {n:Nm} {r:Rng} (h:iV l=true) (hr:ji l n=some r):-10000≤r.Lo∧r.Lo≤r.Hi∧r.Hi≤10000:=by
 have hm:r∈l:=List.mem_of_find?_eq_some hr
 unfold iV at h
 simp only[Bool.and_eq_true,List.all_eq_true,decide_eq_true_eq] at h
 have h1:=h.1 r hm
 have h2:=h.2
 unfold boxOk at h2
 simp only[Bool.and_eq_true] at h2
 have key:∀ (xs:List Rng) (i:Nat),okB l i xs=true→∀ x∈xs,inB x.Lo=true∧inB x.Hi=true:=by
  intro xs
  induction xs with
  | nil=>intro i _ x hx;cases hx
  | cons y xs ih =>
   intro i ho x hx
   simp only[okB,Bool.and_eq_true] at ho
   rcases List.mem_cons.1 hx with rfl|hx
   ·exact⟨ho.1.1.1.2,ho.1.1.2⟩
   ·exact ih _ ho.2 x hx
 obtain⟨k1,k2⟩:=key l 0 h2.1 r hm
 simp only[inB,Bool.and_eq_true,decide_eq_true_eq] at k1 k2
 omega
theorem wE {n x:Int} (h1:-100000≤n) (h2:n≤100000) (h3:-10000≤x) (h4:x≤10000):-1000000000≤n*x∧n*x≤1000000000:=by
 have a3:n.natAbs*x.natAbs≤100000*10000:=Nat.mul_le_mul (by omega) (by omega)
 rw[←Int.natAbs_mul] at a3
 omega
theorem agd {t:Term} {r:Rng} (h:r.Lo≤r.Hi) (most:Bool):t.N*(if decide (t.N > 0)=most then r.Hi else r.Lo)=if most then hiT t r else loT t r:=by
 unfold hiT loT
 rcases Int.lt_trichotomy t.N 0 with c|c|c
 ·have:=Int.mul_le_mul_of_nonpos_left (Int.le_of_lt c) h
  have hc:decide (t.N > 0)=false:=by simp;omega
  rw[hc]
  cases most
  ·simp only[if_true,Bool.false_eq_true,if_false];omega
  ·simp only[Bool.false_eq_true,if_false,if_true];omega
 ·rw[c];cases most<;>simp
 ·have:=Int.mul_le_mul_of_nonneg_left h (Int.le_of_lt c)
  have hc:decide (t.N > 0)=true:=by simp;omega
  rw[hc]
  cases most
  ·simp only[Bool.true_eq_false,if_false,Bool.false_eq_true];omega
  ·simp only[if_true];omega
def pre (l:List Rng) (a:Aff) (i:Nat):Int × Int:=(qW l (a.T.take i) (a.C,a.C)).getD (a.C,a.C)
structure Pre (l:List Rng) (a:Aff) (i:Nat):Prop where
 e:qW l (a.T.take i) (a.C,a.C)=some (pre l a i)
 b:-100000-1000000000*(i:Int)≤(pre l a i).1∧(pre l a i).1≤100000+1000000000*(i:Int)∧-100000-1000000000*(i:Int)≤(pre l a i).2∧(pre l a i).2≤100000+1000000000*(i:Int)
theorem Xi (l:List Rng) (a:Aff) (h:AOk a):Pre l a 0∧pre l a 0=(a.C,a.C):=by
 have hc:=bJ h.c
 have e:pre l a 0=(a.C,a.C):=by simp[pre,qW]
 exact⟨⟨by rw[e];simp[qW],by rw[e];simp only;omega⟩,e⟩
theorem Bz {l:List Rng} {a:Aff} {i:Nat} {t:Term} {r:Rng} (ha:AOk a) (hl:iV l=true) (h:Pre l a i) (ht:a.T[i]?=some t) (hr:ji l t.Name=some r) :
  Pre l a (i+1)∧pre l a (i+1)=((pre l a i).1+loT t r,(pre l a i).2+hiT t r):=by
 have e1:=PG ht h.e hr
 have e2:pre l a (i+1)=((pre l a i).1+loT t r,(pre l a i).2+hiT t r):=by unfold pre at e1 ⊢;rw[e1];rfl
 have hb:=h.b
 have hc:=bJ (ha.t.each t (List.mem_of_getElem? ht)).2.2
 obtain⟨r1,r2,r3⟩:=ni hl hr
 have m1:=wE hc.1 hc.2 r1 (by omega:r.Lo≤10000)
 have m2:=wE hc.1 hc.2 (by omega:-10000≤r.Hi) r3
 refine⟨⟨by rw[e1,e2],?_⟩,e2⟩
 rw[e2]
 unfold loT hiT
 simp only
 omega
def JV (o:Option (Int × Int)):AV:=.tup [none,none,none] [.int .i64 (o.getD (0,0)).1,.int .i64 (o.getD (0,0)).2,.bool o.isSome]
theorem rO (a:Aff) (l:List Rng) (ha:a.tot≤1000000000) (hl:l.length≤4000000000) (hs:∀ r∈l,r.Name.length≤4294967296):Says prog 298 [.agg (Cs a.d),.rsl l.length (Cs (l.flatMap Rng.d))] (JV (ext a l)) []:=by
 have htt:=a.tot_eq
 have fA:=qx a (by omega)
 have fF:=ED l hl hs
 refine aP Go.Proofs.Tryz.func298 aFy ?_
 simp at fA
 simp[aMr,aOb,splice]
 refine ai fA ?_
 cases c1:iy a
 ·simp[ext,c1,JV,splice]
 cases c2:iV l
 ·simp
  refine ai fF ?_
  simp[ext,c1,c2,JV,splice]
 simp
 refine ai fF ?_
 have hA:=(dX a).1 c1
 have hext:ext a l=qW l a.T (a.C,a.C):=by simp[ext,c1,c2]
 rw[hext]
 obtain⟨p0,e0⟩:=Xi l a hA
 simp[c2,splice]
 refine aZ (l:=Ub) (b:=VV) rfl [13,14,15,16,17] (fun i=>[(7,.int .i64 (pre l a i).1),(8,.int .i64 (pre l a i).2),(11,.int .i64 i)]) (Pre l a) a.T.length p0 (by simp[e0]) ?_ ?_
 ·intro i hi hI q hn hx hr
  obtain⟨t,ht0⟩:=ax hi
  have hrow:=row_drop Term.d 2 Term.d_len ht0
  have hw:=wrap_succ (i:=i) (by omega)
  have fI:=Gp l t.Name hl
  rcases uf t.Name l 0 with ⟨h1,h2⟩|⟨k,r,h1,h2,h3⟩
  ·rw[h1] at fI
   simp[hi,aj,hrow,splice]
   refine ai fI ?_
   simp[splice]
   refine hr _ ?_
   simp[xU ht0 hI.e h2,JV]
  ·rw[Nat.zero_add] at h1
   rw[h1] at fI
   have hkl:=(List.getElem?_eq_some_iff.1 h2).1
   have hk0:¬((k:Int)<0):=by omega
   have hrk:=row_drop Rng.d 3 Rng.d_len h2
   obtain⟨n1,n2⟩:=Bz hA c2 hI ht0 h3
   have hb:=hI.b
   have hb1:=n1.b
   have hc:=bJ (hA.t.each t (List.mem_of_getElem? ht0)).2.2
   obtain⟨r1,r2,r3⟩:=ni c2 h3
   have m1:=wE hc.1 hc.2 r1 (by omega:r.Lo≤10000)
   have m2:=wE hc.1 hc.2 (by omega:-10000≤r.Hi) r3
   rw[n2] at hn hb1
   simp only at hb1
   have w1:IntKind.i64.wrap (t.N*r.Lo)=t.N*r.Lo:=wrap64 (by omega) (by omega)
   have w2:IntKind.i64.wrap (t.N*r.Hi)=t.N*r.Hi:=wrap64 (by omega) (by omega)
   have w3:IntKind.i64.wrap ((pre l a i).1+loT t r)=(pre l a i).1+loT t r:=wrap64 (by omega) (by omega)
   have w4:IntKind.i64.wrap ((pre l a i).2+hiT t r)=(pre l a i).2+hiT t r:=wrap64 (by omega) (by omega)
   have v1:(if t.N*r.Hi<t.N*r.Lo then t.N*r.Hi else t.N*r.Lo)=loT t r:=by unfold loT;split<;>omega
   have v2:(if t.N*r.Lo<t.N*r.Hi then t.N*r.Hi else t.N*r.Lo)=hiT t r:=by unfold hiT;split<;>omega
   simp[hi,aj,hrow,splice]
   refine ai fI ?_
   simp[hkl,aj,hrk,splice,hk0,w1,w2,v1,v2,w3,w4,hw]
   refine hn _ ?_ n1
   simp
 ·intro hI q hx hr
  have he:=hI.e
  rw[List.take_length] at he
  simp
  refine hx _ _ ?_
  simp[he,JV]
theorem aha (a:Aff) (l:List Rng) (ha:a.tot≤1000000000) (hl:l.length≤4000000000) (hs:∀ r∈l,r.Name.length≤4294967296):Says prog 328 [.agg (Cs a.d),.rsl l.length (Cs (l.flatMap Rng.d)),.bool false] (nY ((ext a l).map (·.1))) []:=by
 have htt:=a.tot_eq
 have fA:=eY a (by omega)
 have fF:=xN l hl hs
 refine aP Go.Proofs.Tryz.func328 afF ?_
 simp at fA
 simp[aCu,aC0,splice]
 refine ai fA ?_
 cases c1:iy a
 ·simp[ext,c1,nY,splice]
 cases c2:iV l
 ·simp
  refine ai fF ?_
  simp[ext,c1,c2,nY,splice]
 simp
 refine ai fF ?_
 have hA:=(dX a).1 c1
 have hext:ext a l=qW l a.T (a.C,a.C):=by simp[ext,c1,c2]
 rw[hext]
 obtain⟨p0,e0⟩:=Xi l a hA
 simp[c2,splice]
 refine aZ (l:=L6) (b:=MJ) rfl [10,12] (fun i=>[(7,.int .i64 (pre l a i).1),(8,.int .i64 i)]) (Pre l a) a.T.length p0 (by simp[e0]) ?_ ?_
 ·intro i hi hI q hn hx hr
  obtain⟨t,ht0⟩:=ax hi
  have hrow:=row_drop Term.d 2 Term.d_len ht0
  have hw:=wrap_succ (i:=i) (by omega)
  have fI:=AQ l t.Name hl
  rcases uf t.Name l 0 with ⟨h1,h2⟩|⟨k,r,h1,h2,h3⟩
  ·rw[h1] at fI
   simp[hi,aj,hrow,splice]
   refine ai fI ?_
   simp[splice]
   refine hr _ ?_
   simp[xU ht0 hI.e h2,nY]
  ·rw[Nat.zero_add] at h1
   rw[h1] at fI
   have hkl:=(List.getElem?_eq_some_iff.1 h2).1
   have hk0:¬((k:Int)<0):=by omega
   have hrk:=row_drop Rng.d 3 Rng.d_len h2
   obtain⟨n1,n2⟩:=Bz hA c2 hI ht0 h3
   have hb:=hI.b
   have hb1:=n1.b
   have hc:=bJ (hA.t.each t (List.mem_of_getElem? ht0)).2.2
   obtain⟨r1,r2,r3⟩:=ni c2 h3
   have m1:=wE hc.1 hc.2 r1 (by omega:r.Lo≤10000)
   have m2:=wE hc.1 hc.2 (by omega:-10000≤r.Hi) r3
   rw[n2] at hn hb1
   simp only at hb1
   have w1:IntKind.i64.wrap (t.N*r.Lo)=t.N*r.Lo:=wrap64 (by omega) (by omega)
   have w2:IntKind.i64.wrap (t.N*r.Hi)=t.N*r.Hi:=wrap64 (by omega) (by omega)
   have w3:IntKind.i64.wrap ((pre l a i).1+loT t r)=(pre l a i).1+loT t r:=wrap64 (by omega) (by omega)
   have w5:IntKind.i64.wrap (loT t r)=loT t r:=wrap64 (by unfold loT;omega) (by unfold loT;omega)
   have v:=agd (t:=t) r2 false
   by_cases c3:0<t.N
   all_goals
    simp[c3] at v
    simp[hi,aj,hrow,splice]
    refine ai fI ?_
    simp[hi,hkl,aj,hrow,hrk,splice,hk0,c3,w1,w2,v,w3,w5,hw]
    refine hn _ ?_ n1
    simp
 ·intro hI q hx hr
  have he:=hI.e
  rw[List.take_length] at he
  simp
  refine hx _ _ ?_
  simp[he,nY]
theorem mJ (a:Aff) (l:List Rng) (ha:a.tot≤1000000000) (hl:l.length≤4000000000) (hs:∀ r∈l,r.Name.length≤4294967296):Says prog 288 [.agg (Cs a.d),.rsl l.length (Cs (l.flatMap Rng.d))] (nY ((ext a l).map (·.1))) []:=by
 have f:=aha a l ha hl hs
 refine aP Go.Proofs.Tryz.func288 aFH ?_
 generalize (ext a l).map (·.1)=o at f ⊢
 simp[nY] at f
 simp[aMz,aOj,splice,nY]
 refine ai f ?_
 simp[splice]
theorem ahb (a:Aff) (l:List Rng) (ha:a.tot≤1000000000) (hl:l.length≤4000000000) (hs:∀ r∈l,r.Name.length≤4294967296):Says prog 328 [.agg (Cs a.d),.rsl l.length (Cs (l.flatMap Rng.d)),.bool true] (nY ((ext a l).map (·.2))) []:=by
 have htt:=a.tot_eq
 have fA:=eY a (by omega)
 have fF:=xN l hl hs
 refine aP Go.Proofs.Tryz.func328 afF ?_
 simp at fA
 simp[aCu,aC0,splice]
 refine ai fA ?_
 cases c1:iy a
 ·simp[ext,c1,nY,splice]
 cases c2:iV l
 ·simp
  refine ai fF ?_
  simp[ext,c1,c2,nY,splice]
 simp
 refine ai fF ?_
 have hA:=(dX a).1 c1
 have hext:ext a l=qW l a.T (a.C,a.C):=by simp[ext,c1,c2]
 rw[hext]
 obtain⟨p0,e0⟩:=Xi l a hA
 simp[c2,splice]
 refine aZ (l:=L6) (b:=MJ) rfl [10,12] (fun i=>[(7,.int .i64 (pre l a i).2),(8,.int .i64 i)]) (Pre l a) a.T.length p0 (by simp[e0]) ?_ ?_
 ·intro i hi hI q hn hx hr
  obtain⟨t,ht0⟩:=ax hi
  have hrow:=row_drop Term.d 2 Term.d_len ht0
  have hw:=wrap_succ (i:=i) (by omega)
  have fI:=AQ l t.Name hl
  rcases uf t.Name l 0 with ⟨h1,h2⟩|⟨k,r,h1,h2,h3⟩
  ·rw[h1] at fI
   simp[hi,aj,hrow,splice]
   refine ai fI ?_
   simp[splice]
   refine hr _ ?_
   simp[xU ht0 hI.e h2,nY]
  ·rw[Nat.zero_add] at h1
   rw[h1] at fI
   have hkl:=(List.getElem?_eq_some_iff.1 h2).1
   have hk0:¬((k:Int)<0):=by omega
   have hrk:=row_drop Rng.d 3 Rng.d_len h2
   obtain⟨n1,n2⟩:=Bz hA c2 hI ht0 h3
   have hb:=hI.b
   have hb1:=n1.b
   have hc:=bJ (hA.t.each t (List.mem_of_getElem? ht0)).2.2
   obtain⟨r1,r2,r3⟩:=ni c2 h3
   have m1:=wE hc.1 hc.2 r1 (by omega:r.Lo≤10000)
   have m2:=wE hc.1 hc.2 (by omega:-10000≤r.Hi) r3
   rw[n2] at hn hb1
   simp only at hb1
   have w1:IntKind.i64.wrap (t.N*r.Lo)=t.N*r.Lo:=wrap64 (by omega) (by omega)
   have w2:IntKind.i64.wrap (t.N*r.Hi)=t.N*r.Hi:=wrap64 (by omega) (by omega)
   have w3:IntKind.i64.wrap ((pre l a i).2+hiT t r)=(pre l a i).2+hiT t r:=wrap64 (by omega) (by omega)
   have w5:IntKind.i64.wrap (hiT t r)=hiT t r:=wrap64 (by unfold hiT;omega) (by unfold hiT;omega)
   have v:=agd (t:=t) r2 true
   by_cases c3:0<t.N
   all_goals
    simp[c3] at v
    simp[hi,aj,hrow,splice]
    refine ai fI ?_
    simp[hi,hkl,aj,hrow,hrk,splice,hk0,c3,w1,w2,v,w3,w5,hw]
    refine hn _ ?_ n1
    simp
 ·intro hI q hx hr
  have he:=hI.e
  rw[List.take_length] at he
  simp
  refine hx _ _ ?_
  simp[he,nY]
theorem oJ (a:Aff) (l:List Rng) (ha:a.tot≤1000000000) (hl:l.length≤4000000000) (hs:∀ r∈l,r.Name.length≤4294967296):Says prog 289 [.agg (Cs a.d),.rsl l.length (Cs (l.flatMap Rng.d))] (nY ((ext a l).map (·.2))) []:=by
 have f:=ahb a l ha hl hs
 refine aP Go.Proofs.Tryz.func289 aFG ?_
 generalize (ext a l).map (·.2)=o at f ⊢
 simp[nY] at f
 simp[aMy,aOi,splice,nY]
 refine ai f ?_
 simp[splice]
def yQ (a:Aff) (l:List Rng) (n:Int):Bool:=match ext a l with
 | some p=>decide (0≤p.1)&&decide (p.2<n)
 | none=>false
theorem KA (a:Aff) (l:List Rng) (n:Int) (ha:a.tot≤1000000000) (hl:l.length≤4000000000) (hs:∀ r∈l,r.Name.length≤4294967296):Says prog 237 [.agg (Cs a.d),.rsl l.length (Cs (l.flatMap Rng.d)),.int .i64 n] (.bool (yQ a l n)) []:=by
 have f:=rO a l ha hl hs
 refine aP Go.Proofs.Tryz.func237 aF6 ?_
 unfold yQ
 generalize ext a l=o at f ⊢
 cases o with
 | none =>
  simp[JV] at f
  simp[aCJ,aDf,splice]
  refine ai f ?_
  simp
 | some p =>
  simp[JV] at f
  simp[aCJ,aDf,splice]
  refine ai f ?_
  by_cases c:0≤p.1<;>simp[c]
theorem Kz (a:Aff) (l:List Rng) (n:Int) (ha:a.tot≤1000000000) (hl:l.length≤4000000000) (hs:∀ r∈l,r.Name.length≤4294967296):Says prog 228 [.agg (Cs a.d),.rsl l.length (Cs (l.flatMap Rng.d)),.int .i64 n] (.bool (yQ a l n)) []:=by
 have f:=mJ a l ha hl hs
 have g:=oJ a l ha hl hs
 refine aP Go.Proofs.Tryz.func228 aGd ?_
 unfold yQ
 generalize ext a l=o at f g ⊢
 cases o with
 | none =>
  simp[nY] at f g
  simp[v228,aDg,splice]
  refine ai f ?_
  simp
  refine ai g ?_
  simp
 | some p =>
  simp[nY] at f g
  simp[v228,aDg,splice]
  refine ai f ?_
  simp
  refine ai g ?_
  by_cases c:0≤p.1<;>simp[c]
def w32 (n:Int):Int:=IntKind.i32.wrap n
theorem LQ (n:Int):w32 n=if n%4294967296<2147483648 then n%4294967296 else n%4294967296-4294967296:=by
 simp only[w32,IntKind.wrap,IntKind.bits,IntKind.signed]
 simp
 split<;>split<;>omega
theorem Du (n:Int):-2147483648≤w32 n∧w32 n≤2147483647:=by
 rw[LQ];split<;>omega
theorem aPP {n:Int} (h1:-2147483648≤n) (h2:n≤2147483647):w32 n=n:=by
 rw[LQ];split<;>omega
theorem RI (n:Int):GN .and .i64 n 4294967295=n%4294967296:=by
 have e1:(BitVec.ofInt 64 4294967295).toNat=2 ^ 32-1:=by decide
 have e2:(BitVec.ofInt 64 n &&& BitVec.ofInt 64 4294967295).toNat=(n%18446744073709551616).toNat%4294967296:=by
  rw[BitVec.toNat_and,e1,Nat.and_two_pow_sub_one_eq_mod,BitVec.toNat_ofInt]
  rfl
 have e3:(((n%18446744073709551616).toNat%4294967296:Nat):Int)=n%4294967296:=by omega
 show IntKind.i64.wrap ((BitVec.ofInt 64 n &&& BitVec.ofInt 64 4294967295).toNat:Int)=_
 rw[e2,e3]
 exact wrap64 (by omega) (by omega)
theorem DI (n:Int):Says prog 321 [.int .i64 n] (.int .i64 (w32 n)) []:=by
 have hb:=Du n
 have hw:IntKind.i64.wrap (IntKind.i32.wrap n)=w32 n:=wrap64 (by unfold w32 at hb;omega) (by unfold w32 at hb;omega)
 refine aP Go.Proofs.Tryz.func321 aFd ?_
 simp[aL9,aNT,hw]
theorem DF (n:Int):Says prog 279 [.int .i64 n] (.int .i64 (w32 n)) []:=by
 have hm:=RI n
 have hw:IntKind.i64.wrap (n%4294967296-4294967296)=n%4294967296-4294967296:=wrap64 (by omega) (by omega)
 refine aP Go.Proofs.Tryz.func279 aFJ ?_
 rw[LQ]
 by_cases c:n%4294967296<2147483648
 ·have c':¬2147483648≤n%4294967296:=by omega
  simp[aCB,aC7,hm,c,c']
 ·have c':2147483648≤n%4294967296:=by omega
  simp[aCB,aC7,hm,c,c',hw]
theorem Cf (n:Int) (h1:-4611686018427387904≤n) (h2:n≤4611686018427387904):Says prog 384 [.int .i64 n] (.int .i64 n.natAbs) []:=by
 have hw:IntKind.i64.wrap (0-n)=-n:=by rw[wrap64 (by omega) (by omega)];omega
 have hw':IntKind.i64.wrap (-n)=-n:=wrap64 (by omega) (by omega)
 have hv:(if n < -n then -n else n)=(n.natAbs:Int):=by split<;>omega
 refine aP Go.Proofs.Tryz.func384 aEB ?_
 simp[aLP,aNz,hw,hw',hv]
theorem wK (n:Int) (h1:-4611686018427387904≤n) (h2:n≤4611686018427387904):Says prog 377 [.int .i64 n] (.int .i64 n.natAbs) []:=by
 have hw:IntKind.i64.wrap (0-n)=-n:=by rw[wrap64 (by omega) (by omega)];omega
 have hw':IntKind.i64.wrap (-n)=-n:=wrap64 (by omega) (by omega)
 refine aP Go.Proofs.Tryz.func377 aEI ?_
 by_cases c:n<0
 ·have e:(n.natAbs:Int)=-n:=by omega
  rw[e]
  simp[aCm,aCS,c,hw,hw']
 ·have e:(n.natAbs:Int)=n:=by omega
  rw[e]
  simp[aCm,aCS,c]
def Ez (a b:Int):Nat:=Nat.gcd (w32 a).natAbs (w32 b).natAbs
theorem IY {x y R:Nat} (h:Nat.gcd x y=R) (hy:y≠0):Nat.gcd y (x%y)=R:=by
 rw[←h,Nat.gcd_comm x y,Nat.gcd_rec y x,Nat.gcd_comm]
theorem Ri (a b:Int):Says prog 420 [.int .i64 a,.int .i64 b] (.int .i64 (Ez a b)) []:=by
 have fa:=DI a
 have fb:=DI b
 have ha:=Du a
 have hb:=Du b
 have ga:=Cf (w32 a) (by omega) (by omega)
 have gb:=Cf (w32 b) (by omega) (by omega)
 refine aP Go.Proofs.Tryz.func420 aEl ?_
 generalize hR:Ez a b=R
 unfold Ez at hR
 simp[aLB,aNl]
 refine ai fa ?_
 simp
 refine ai ga ?_
 simp
 refine ai fb ?_
 simp
 refine ai gb ?_
 have hx:(w32 a).natAbs≤2147483648:=by omega
 have hy:(w32 b).natAbs≤2147483648:=by omega
 generalize (w32 a).natAbs=x at hR hx ⊢
 generalize (w32 b).natAbs=y at hR hy ⊢
 simp
 refine LM (α:=Nat × Nat) (l:=SS) (b:=Ve) rfl [] (fun p=>[(0,.int .i64 p.1),(1,.int .i64 p.2)]) (fun p=>p.2) (fun p=>Nat.gcd p.1 p.2=R∧p.1≤2147483648∧p.2≤2147483648) (x,y) ⟨hR,hx,hy⟩ (by simp) ?_
 rintro⟨x,y⟩ ⟨hg,h1,h2⟩ q hn hx hr
 simp only at hg h1 h2
 by_cases c:y=0
 ·subst c
  simp
  refine hx _ _ ?_
  simp at hg
  simp[hg]
 ·have c':¬((y:Int)=0):=by omega
  have hm:Int.tmod (x:Int) (y:Int)=((x%y:Nat):Int):=by rw[Int.tmod_eq_emod_of_nonneg (by omega)];omega
  have hlt:=Nat.mod_lt x (Nat.pos_of_ne_zero c)
  simp[c,c',hm]
  refine hn _ (y,x%y) ?_ ⟨IY hg c,h2,by omega⟩ hlt
  simp
theorem IZ (a b:Int):Says prog 417 [.int .i64 a,.int .i64 b] (.int .i64 (Ez a b)) []:=by
 have fa:=DF a
 have fb:=DF b
 have ha:=Du a
 have hb:=Du b
 have ga:=wK (w32 a) (by omega) (by omega)
 have gb:=wK (w32 b) (by omega) (by omega)
 refine aP Go.Proofs.Tryz.func417 aEo ?_
 generalize hR:Ez a b=R
 unfold Ez at hR
 simp[aLD,aNn]
 refine ai fa ?_
 simp
 refine ai ga ?_
 simp
 refine ai fb ?_
 simp
 refine ai gb ?_
 have hx:(w32 a).natAbs≤2147483648:=by omega
 have hy:(w32 b).natAbs≤2147483648:=by omega
 generalize (w32 a).natAbs=x at hR hx ⊢
 generalize (w32 b).natAbs=y at hR hy ⊢
 simp
 refine LM (α:=Nat × Nat) (l:=SY) (b:=Vh) rfl [6] (fun p=>[(3,.int .i64 p.1),(4,.int .i64 p.2)]) (fun p=>p.2) (fun p=>Nat.gcd p.1 p.2=R∧p.1≤2147483648∧p.2≤2147483648) (x,y) ⟨hR,hx,hy⟩ (by simp) ?_
 rintro⟨x,y⟩ ⟨hg,h1,h2⟩ q hn hx hr
 simp only at hg h1 h2
 by_cases c:y=0
 ·subst c
  simp
  refine hx _ _ ?_
  simp at hg
  simp[hg]
 ·have c':¬((y:Int)=0):=by omega
  have hm:Int.tmod (x:Int) (y:Int)=((x%y:Nat):Int):=by rw[Int.tmod_eq_emod_of_nonneg (by omega)];omega
  have hlt:=Nat.mod_lt x (Nat.pos_of_ne_zero c)
  simp[c,c',hm]
  refine hn _ (y,x%y) ?_ ⟨IY hg c,h2,by omega⟩ hlt
  simp
def qJ:Nat→List Term→Nat
 | n,[]=>n
 | n,t::ts=>qJ (Ez n t.N) ts
theorem nP:∀ (A B:List Term) (n:Nat),qJ n (A++B)=qJ (qJ n A) B
 | [],B,n=>rfl
 | t::A,B,n=>nP A B _
theorem ag3 (a b:Int):Ez a b≤2147483648:=by
 have ha:=Du a
 have hb:=Du b
 unfold Ez
 by_cases c:(w32 a).natAbs=0
 ·rw[c,Nat.gcd_zero_left];omega
 ·have:=Nat.gcd_le_left (w32 b).natAbs (Nat.pos_of_ne_zero c);omega
theorem MG:∀ (ts:List Term) (n:Nat),n≤2147483648→qJ n ts≤2147483648
 | [],n,h=>h
 | t::ts,n,h=>MG ts _ (ag3 _ _)
def iI (f g:Aff):Bool:=iy f&&iy g&&(if qJ 0 (f.T++g.T)=0 then decide (f.C-g.C=0) else decide (Int.tmod (f.C-g.C) (qJ 0 (f.T++g.T))=0))
theorem uA:∀ xs:List Term,Cs (xs.flatMap Term.d)=Ows (xs.flatMap Term.d)
 | []=>by simp
 | x::xs=>by have:=uA xs;simp only[List.flatMap_cons,oQ,gU,this];simp
theorem rV (xs:List Term):(xs.flatMap Term.d).length=xs.length*2:=dV Term.d 2 Term.d_len xs
theorem FK (f g:Aff) (hf:f.tot≤1000000000) (hg:g.tot≤1000000000):Says prog 394 [.agg (Cs f.d),.agg (Cs g.d)] (.bool (iI f g)) []:=by
 have htf:=f.tot_eq
 have htg:=g.tot_eq
 have fA:=eY f (by omega)
 have gA:=eY g (by omega)
 refine aP Go.Proofs.Tryz.func394 aEy ?_
 simp at fA gA
 simp[aLM,aNw,splice]
 refine ai fA ?_
 cases c1:iy f
 ·simp[iI,c1]
 simp[splice]
 refine ai gA ?_
 cases c2:iy g
 ·simp[iI,c1,c2]
 have cf:=bJ ((dX f).1 c1).c
 have cg:=bJ ((dX g).1 c2).c
 have hw:IntKind.i64.wrap (f.C-g.C)=f.C-g.C:=wrap64 (by omega) (by omega)
 generalize hR:iI f g=R0
 simp[iI,c1,c2] at hR
 have hN:=MG (f.T++g.T) 0 (by omega)
 generalize hn:qJ 0 (f.T++g.T)=N at hR hN
 simp
 refine aZ (l:=Tm) (b:=Vq) rfl [] (fun i=>[(6,.int .i64 (qJ 0 (f.T.take i))),(7,.int .i64 i)]) (fun i=>True) f.T.length trivial (by simp[qJ]) ?_ ?_
 ·intro i hi hI q hn hx hr
  obtain⟨t,ht0⟩:=ax hi
  have hrow:=row_drop Term.d 2 Term.d_len ht0
  have hw:=wrap_succ (i:=i) (by omega)
  have fG:=IZ (qJ 0 (f.T.take i)) t.N
  have e:qJ 0 (f.T.take (i+1))=Ez (qJ 0 (f.T.take i)) t.N:=by rw[List.take_add_one,ht0,nP];rfl
  simp[hi,aj,hrow,splice]
  refine ai fG ?_
  simp[hw]
  refine hn _ ?_ trivial
  simp[e]
 ·intro _ q hx hr
  rw[List.take_length]
  simp
  refine hx _ _ ?_
  simp
  refine aZ (l:=Tn) (b:=Vr) rfl [] (fun i=>[(6,.int .i64 (qJ 0 (f.T++g.T.take i))),(9,.int .i64 i)]) (fun i=>True) g.T.length trivial (by simp) ?_ ?_
  ·intro i hi hI q hn hx hr
   obtain⟨t,ht0⟩:=ax hi
   have hrow:=row_drop Term.d 2 Term.d_len ht0
   have hw:=wrap_succ (i:=i) (by omega)
   have fG:=IZ (qJ 0 (f.T++g.T.take i)) t.N
   have e:qJ 0 (f.T++g.T.take (i+1))=Ez (qJ 0 (f.T++g.T.take i)) t.N:=by rw[List.take_add_one,ht0,←List.append_assoc,nP];rfl
   simp[hi,aj,hrow,splice]
   refine ai fG ?_
   simp[hw]
   refine hn _ ?_ trivial
   simp[e]
  ·intro _ q hx hr
   rw[List.take_length,hn]
   simp
   refine hx _ _ ?_
   by_cases c:N=0
   ·simp[c,←hR]
    by_cases e:f.C=g.C
    ·simp[e]
    ·have:¬(f.C-g.C=0):=by omega
     simp[e,this]
   ·simp[c,hw,←hR]
    rfl
def mG (f g:Aff) (l:List Rng):Bool:=match ext f l,ext g l with
 | some p,some q=>decide (p.1≤q.2)&&decide (q.1≤p.2)
 | _,_=>false
theorem Fj (f g:Aff) (l:List Rng) (hf:f.tot≤1000000000) (hg:g.tot≤1000000000) (hl:l.length≤4000000000) (hs:∀ r∈l,r.Name.length≤4294967296):Says prog 401 [.agg (Cs f.d),.agg (Cs g.d),.rsl l.length (Cs (l.flatMap Rng.d))] (.bool (mG f g l)) []:=by
 have f1:=rO f l hf hl hs
 have f2:=rO g l hg hl hs
 refine aP Go.Proofs.Tryz.func401 aEr ?_
 unfold mG
 generalize ext f l=o1 at f1 ⊢
 generalize ext g l=o2 at f2 ⊢
 cases o1<;>cases o2<;>simp[JV] at f1 f2
 ·simp[Xv,XP,splice]
  refine ai f1 ?_
  simp[splice]
  refine ai f2 ?_
  simp
 ·simp[Xv,XP,splice]
  refine ai f1 ?_
  simp[splice]
  refine ai f2 ?_
  simp
 ·simp[Xv,XP,splice]
  refine ai f1 ?_
  simp[splice]
  refine ai f2 ?_
  simp
 ·rename_i p q
  simp[Xv,XP,splice]
  refine ai f1 ?_
  simp[splice]
  refine ai f2 ?_
  by_cases c:p.1≤q.2<;>simp[c]
theorem Fh (f g:Aff) (l:List Rng) (hf:f.tot≤1000000000) (hg:g.tot≤1000000000) (hl:l.length≤4000000000) (hs:∀ r∈l,r.Name.length≤4294967296):Says prog 395 [.agg (Cs f.d),.agg (Cs g.d),.rsl l.length (Cs (l.flatMap Rng.d))] (.bool (mG f g l)) []:=by
 have f1:=mJ f l hf hl hs
 have f2:=oJ f l hf hl hs
 have f3:=mJ g l hg hl hs
 have f4:=oJ g l hg hl hs
 refine aP Go.Proofs.Tryz.func395 aEx ?_
 unfold mG
 generalize ext f l=o1 at f1 f2 ⊢
 generalize ext g l=o2 at f3 f4 ⊢
 cases o1<;>cases o2<;>simp[nY] at f1 f2 f3 f4
 all_goals
  simp[aLL,aNv,splice]
  refine ai f1 ?_
  simp[splice]
  refine ai f2 ?_
  simp[splice]
  refine ai f3 ?_
  simp[splice]
  refine ai f4 ?_
 ·simp
 ·simp
 ·simp
 ·rename_i p q
  by_cases c:p.1≤q.2<;>simp[c]
def eQ (a:Aff) (n:Nm):Aff:=⟨a.C,a.T.filter (fun t=>t.Name != n)⟩
theorem rZ (a:Aff) (n:Nm) (ha:a.tot≤1000000000):Says prog 402 [.agg (Cs a.d),.str n] (.agg [.int .i64 a.C,.osl 0 320 (eQ a n).T.length (Ows ((eQ a n).T.flatMap Term.d))]) []:=by
 have htt:=a.tot_eq
 refine aP Go.Proofs.Tryz.func402 aEq ?_
 simp[aLF,aNp,splice]
 refine aZ (l:=Td) (b:=Vl) rfl [9,10] (fun i=>[(4,.bx 0 201 [.int .i64 a.C,.osl 0 320 ((a.T.take i).filter (fun t=>t.Name != n)).length (Ows (((a.T.take i).filter (fun t=>t.Name != n)).flatMap Term.d))]),(7,.int .i64 i)]) (fun i=>True) a.T.length trivial (by simp) ?_ ?_
 ·intro i hi hI q hn hx hr
  obtain⟨t,ht0⟩:=ax hi
  have hrow:=row_drop Term.d 2 Term.d_len ht0
  have hw:=wrap_succ (i:=i) (by omega)
  have hle:=List.length_filter_le (fun t:Term=>t.Name != n) (a.T.take i)
  rw[List.length_take] at hle
  rw[List.take_add_one,ht0,List.filter_append] at hn
  have hlen:=rV ((a.T.take i).filter (fun t=>t.Name != n))
  generalize (a.T.take i).filter (fun t=>t.Name != n)=L at hn hle hlen ⊢
  by_cases c:t.Name=n
  ·simp[hi,aj,hrow,splice,c,hw]
   refine hn _ ?_ trivial
   simp[c]
  ·have hb:L.length+1≤bnd:=by unfold bnd;omega
   have c2:¬(n=t.Name):=fun h=>c h.symm
   simp[hi,aj,hrow,splice,c,c2,hw,hb]
   refine hn _ ?_ trivial
   simp[c]
 ·intro _ q hx hr
  rw[List.take_length]
  simp
  refine hx _ _ ?_
  simp[splice,eQ]
theorem D7 (a:Aff) (n:Nm) (ha:a.tot≤1000000000):Says prog 397 [.agg (Cs a.d),.str n] (.agg [.int .i64 a.C,.osl 0 320 (eQ a n).T.length (Ows ((eQ a n).T.flatMap Term.d))]) []:=by
 have htt:=a.tot_eq
 refine aP Go.Proofs.Tryz.func397 aEv ?_
 simp[aLJ,aNt,splice]
 refine aZ (l:=Ti) (b:=Vo) rfl [] (fun i=>[(4,.bx 0 201 [.int .i64 a.C,.osl 0 320 ((a.T.take i).filter (fun t=>t.Name != n)).length (Ows (((a.T.take i).filter (fun t=>t.Name != n)).flatMap Term.d))]),(5,.int .i64 i)]) (fun i=>True) a.T.length trivial (by simp) ?_ ?_
 ·intro i hi hI q hn hx hr
  obtain⟨t,ht0⟩:=ax hi
  have hrow:=row_drop Term.d 2 Term.d_len ht0
  have hw:=wrap_succ (i:=i) (by omega)
  have hle:=List.length_filter_le (fun t:Term=>t.Name != n) (a.T.take i)
  rw[List.length_take] at hle
  rw[List.take_add_one,ht0,List.filter_append] at hn
  have hlen:=rV ((a.T.take i).filter (fun t=>t.Name != n))
  generalize (a.T.take i).filter (fun t=>t.Name != n)=L at hn hle hlen ⊢
  by_cases c:t.Name=n
  ·simp[hi,aj,hrow,splice,c,hw]
   refine hn _ ?_ trivial
   simp[c]
  ·have hb:L.length+1≤bnd:=by unfold bnd;omega
   have c2:¬(n=t.Name):=fun h=>c h.symm
   simp[hi,aj,hrow,splice,c,c2,hw,hb]
   refine hn _ ?_ trivial
   simp[c]
 ·intro _ q hx hr
  rw[List.take_length]
  simp
  refine hx _ _ ?_
  simp[splice,eQ]
end Go.AmC
