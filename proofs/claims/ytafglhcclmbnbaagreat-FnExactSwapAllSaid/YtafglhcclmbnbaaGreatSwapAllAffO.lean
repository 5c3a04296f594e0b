import Derived.Test.YtafglhcclmbnbaaGreatSwapAllAff
set_option linter.unusedSimpArgs false
set_option linter.unusedVariables false
set_option maxRecDepth 20000
set_option maxHeartbeats 4000000
namespace Go.AmC
open Go Go.AM
open Go.Proofs.Tryz (prog)
theorem Qn {x y:Int} (hx:-100000≤x∧x≤100000) (hy:-100000≤y∧y≤100000):-10000000000≤x*y∧x*y≤10000000000:=by
 have h1:x.natAbs≤100000:=by omega
 have h2:y.natAbs≤100000:=by omega
 have h3:=Nat.mul_le_mul h1 h2
 rw[←Int.natAbs_mul] at h3
 omega
theorem bJ {n:Int} (h:gu n=true):-100000≤n∧n≤100000:=by simpa [gu] using h
structure OkT (p:Option Nm) (ts:List Term):Prop where
 each:∀ t∈ts,bZ t.Name=true∧t.N≠0∧gu t.N=true
 ord:ts.Pairwise fun x y=>x.Name<y.Name
 lt:∀ q,p=some q→∀ t∈ts,q<t.Name
theorem Ny:∀ (ts:List Term) (p:Option Nm),okT p ts=true↔OkT p ts
 | [],p=>by
  simp only[okT,true_iff]
  exact⟨by simp,by simp,by simp⟩
 | t::ts,p=>by
  rw[BD]
  simp only[Bool.and_eq_true,Bool.not_eq_true',decide_eq_false_iff_not,Ny ts (some t.Name)]
  constructor
  ·rintro⟨⟨⟨⟨h1,h2⟩,h3⟩,h4⟩,h5⟩
   refine⟨fun u hu=>?_,List.pairwise_cons.2 ⟨fun u hu=>h5.lt _ rfl u hu,h5.ord⟩,fun q hq u hu=>?_⟩
   ·rcases List.mem_cons.1 hu with rfl|hu
    ·exact⟨h1,h2,h3⟩
    ·exact h5.each u hu
   ·subst hq
    simp only[ltO,decide_eq_true_eq] at h4
    rcases List.mem_cons.1 hu with rfl|hu
    ·exact h4
    ·exact List.lt_trans h4 (h5.lt _ rfl u hu)
  ·intro h
   have h1:=h.each t (by simp)
   obtain⟨a1,a2⟩:=List.pairwise_cons.1 h.ord
   refine⟨⟨⟨⟨h1.1,h1.2.1⟩,h1.2.2⟩,?_⟩,⟨fun u hu=>h.each u (by simp[hu]),a2,fun q hq u hu=>by cases hq;exact a1 u hu⟩⟩
   cases p with
   | none=>rfl
   | some q=>simpa [ltO] using h.lt q rfl t (by simp)
structure AOk (a:Aff):Prop where
 t:OkT none a.T
 c:gu a.C=true
theorem dX (a:Aff):iy a=true↔AOk a:=by
 simp only[iy,Bool.and_eq_true,Ny]
 exact⟨fun h=>⟨h.1,h.2⟩,fun h=>⟨h.t,h.c⟩⟩
theorem lC {ts:List Term} {p:Option Nm} (h:OkT p ts) {t:Term} (ht:t∈ts):dD ts t.Name=t.N:=by
 induction ts generalizing p with
 | nil=>simp at ht
 | cons u us ih =>
  obtain⟨a1,a2⟩:=List.pairwise_cons.1 h.ord
  rw[dD]
  rcases List.mem_cons.1 ht with rfl|ht
  ·rw[if_pos rfl]
  ·rw[if_neg fun e=>List.lt_irrefl _ (e▸a1 t ht)]
   exact ih (p:=none) ⟨fun x hx=>h.each x (by simp[hx]),a2,by simp⟩ ht
theorem kV {ts:List Term} {n:Nm} (h:∀ t∈ts,t.Name≠n):dD ts n=0:=by
 induction ts with
 | nil=>rfl
 | cons u us ih=>rw[dD,if_neg (h u (by simp)),ih fun t ht=>h t (by simp[ht])]
theorem PR {ts:List Term} {p:Option Nm} (h:OkT p ts) {n:Nm}:dD ts n=0↔∀ t∈ts,t.Name≠n :=
 ⟨fun h0 t ht e=>(h.each t ht).2.1 (by rw[←lC h ht,e];exact h0),kV⟩
theorem Di {ts:List Term} {p:Option Nm} (h:OkT p ts) (n:Nm):-100000≤dD ts n∧dD ts n≤100000:=by
 by_cases h0:∀ t∈ts,t.Name≠n
 ·rw[kV h0];omega
 ·simp only[Classical.not_forall] at h0
  obtain⟨t,ht,e⟩:=h0
  have e:t.Name=n:=Classical.not_not.1 e
  rw[←e,lC h ht]
  exact bJ (h.each t ht).2.2
def m1 (b:Aff) (k:Int) (x:Term):Option Term:=if x.N+k*dD b.T x.Name=0 then none else some ⟨x.Name,x.N+k*dD b.T x.Name⟩
def m2 (a:Aff) (k:Int) (x:Term):Option Term:=if k*x.N=0 then none else if dD a.T x.Name=0 then some ⟨x.Name,k*x.N⟩ else none
def Ya (a b:Aff) (k:Int):List Term:=sortT (a.T.filterMap (m1 b k)++b.T.filterMap (m2 a k))
def kD (a b:Aff) (k:Int):Aff:=⟨a.C+k*b.C,Ya a b k⟩
def okA (a:Aff):Option Aff:=if iy a=true then some a else none
def dh (o:Option Aff):AV:=.tup [some 2,none] [.int .i64 (o.getD ⟨0,[]⟩).C,.osl 0 320 (o.getD ⟨0,[]⟩).T.length (Ows ((o.getD ⟨0,[]⟩).T.flatMap Term.d)),.bool o.isSome]
theorem Gj {α β:Type} (f:α→Option β) {xs:List α} {i:Nat} {x:α} (h:xs[i]?=some x):(xs.take (i+1)).filterMap f=(xs.take i).filterMap f++(match f x with|some y=>[y]|none=>[]):=by
 rw[List.take_add_one,h,List.filterMap_append]
 cases hf:f x<;>simp[hf]
theorem MH {α β:Type} (f:α→Option β) (xs:List α) (i:Nat):((xs.take i).filterMap f).length≤xs.length :=
 Nat.le_trans (List.length_filterMap_le _ _) (by rw[List.length_take];omega)
theorem nm6 {n:Nm} (h:bZ n=true):n.length≤6:=by
 unfold bZ at h
 simp only[Bool.and_eq_true,decide_eq_true_eq] at h
 exact h.1.2.2
theorem Sr:∀ (ts:List Term),(∀ t∈ts,t.Name.length≤6)→(ts.map Term.tot).sum≤6*ts.length
 | [],_=>by simp
 | t::ts,h=>by
  have h1:=h t (by simp)
  have h2:=Sr ts fun u hu=>h u (by simp[hu])
  rw[List.map_cons,List.sum_cons,Term.tot_eq,List.length_cons]
  omega
theorem F8 {b:Aff} {k:Int} {x y:Term} (h:m1 b k x=some y):y.Name=x.Name:=by
 unfold m1 at h;split at h<;>cases h;rfl
theorem F7 {a:Aff} {k:Int} {x y:Term} (h:m2 a k x=some y):y.Name=x.Name:=by
 unfold m2 at h;split at h
 ·cases h
 ·split at h<;>cases h;rfl
theorem wF (a b:Aff) (k:Int) (ha:AOk a) (hb:AOk b) (hk:-100000≤k∧k≤100000) (hl:a.T.length+b.T.length≤100000000):Says prog 393 [.agg (Cs a.d),.agg (Cs b.d),.int .i64 k] (dh (okA (kD a b k))) []:=by
 refine aP Go.Proofs.Tryz.func393 aEz ?_
 have hC:=bJ ha.c
 have hD:=Qn hk (bJ hb.c)
 have hw1:IntKind.i64.wrap (k*b.C)=k*b.C:=wrap64 (by omega) (by omega)
 have hw2:IntKind.i64.wrap (a.C+k*b.C)=a.C+k*b.C:=wrap64 (by omega) (by omega)
 generalize hR:dh (okA (kD a b k))=R0
 simp[aLN,aNx,hw1,hw2,splice]
 refine aZ (l:=Tq) (b:=Vs) rfl [12,13] (fun i=>[(7,.bx 0 201 [.int .i64 (a.C+k*b.C),.osl 0 320 ((a.T.take i).filterMap (m1 b k)).length (Ows (((a.T.take i).filterMap (m1 b k)).flatMap Term.d))]),(10,.int .i64 i)]) (fun _=>True) a.T.length trivial (by simp) ?_ ?_
 ·intro i hi _ q hn hx hr
  obtain⟨x,hx0⟩:=ax hi
  have hrow:=row_drop Term.d 2 Term.d_len hx0
  have hw:=wrap_succ (i:=i) (by omega)
  have hcb:=Di hb.t x.Name
  have hm:=Qn hk hcb
  have hxb:=bJ (ha.t.each x (List.mem_of_getElem? hx0)).2.2
  have hw3:IntKind.i64.wrap (k*dD b.T x.Name)=k*dD b.T x.Name:=wrap64 (by omega) (by omega)
  have hw4:IntKind.i64.wrap (x.N+k*dD b.T x.Name)=x.N+k*dD b.T x.Name:=wrap64 (by omega) (by omega)
  have hfm:=Gj (m1 b k) hx0
  have hln:=MH (m1 b k) a.T i
  generalize (a.T.take i).filterMap (m1 b k)=A at hfm hln ⊢
  rw[hfm] at hn
  have hbd:A.length+1≤bnd:=by unfold bnd;omega
  have f:=mi b x.Name (by omega)
  simp at f
  simp[hi,aj,hrow,splice]
  refine ay f ?_
  by_cases c:x.N+k*dD b.T x.Name=0
  ·have e1:m1 b k x=none:=by simp[m1,c]
   rw[e1] at hn
   simp[hw,hw3,hw4,c]
   refine hn _ ?_ trivial
   simp
  ·have e1:m1 b k x=some ⟨x.Name,x.N+k*dD b.T x.Name⟩:=by simp[m1,c]
   rw[e1] at hn
   simp[hw,hw3,hw4,c,splice,hbd]
   refine hn _ ?_ trivial
   simp
 intro _ q hx hr
 simp
 refine hx _ _ ?_
 clear hx hr q
 generalize hA:a.T.filterMap (m1 b k)=A
 have hAl:A.length≤a.T.length:=by rw[←hA];exact List.length_filterMap_le _ _
 simp
 refine aZ (l:=Tt) (b:=Vt) rfl [19,20] (fun i=>[(7,.bx 0 201 [.int .i64 (a.C+k*b.C),.osl 0 320 (A++(b.T.take i).filterMap (m2 a k)).length (Ows ((A++(b.T.take i).filterMap (m2 a k)).flatMap Term.d))]),(17,.int .i64 i)]) (fun _=>True) b.T.length trivial (by simp) ?_ ?_
 ·intro i hi _ q hn hx hr
  obtain⟨x,hx0⟩:=ax hi
  have hrow:=row_drop Term.d 2 Term.d_len hx0
  have hw:=wrap_succ (i:=i) (by omega)
  have hxb:=bJ (hb.t.each x (List.mem_of_getElem? hx0)).2.2
  have hm:=Qn hk hxb
  obtain⟨y,hy⟩:∃ y,k*x.N=y:=⟨_,rfl⟩
  have hw3:IntKind.i64.wrap (k*x.N)=y:=by rw[hy];exact wrap64 (by omega) (by omega)
  have hfm:=Gj (m2 a k) hx0
  have hln:=MH (m2 a k) b.T i
  rw[hfm,←List.append_assoc] at hn
  generalize hB:A++(b.T.take i).filterMap (m2 a k)=B at hn ⊢
  have hbd:B.length+1≤bnd:=by rw[←hB,List.length_append];unfold bnd;omega
  have f:=mi a x.Name (by omega)
  simp at f
  by_cases c:y=0
  ·have e1:m2 a k x=none:=by unfold m2;rw[hy,if_pos c]
   rw[e1] at hn
   simp[hi,aj,hrow,splice,hw3,c,hw]
   refine hn _ ?_ trivial
   simp
  ·by_cases c2:dD a.T x.Name=0
   ·have e1:m2 a k x=some ⟨x.Name,y⟩:=by unfold m2;rw[hy,if_neg c,if_pos c2]
    rw[e1] at hn
    rw[c2] at f
    simp[hi,aj,hrow,splice,hw3,c]
    refine ai f ?_
    simp[hw,splice,hbd,c]
    refine hn _ ?_ trivial
    simp
   ·have e1:m2 a k x=none:=by unfold m2;rw[hy,if_neg c,if_neg c2]
    rw[e1] at hn
    simp[hi,aj,hrow,splice,hw3,c]
    refine ai f ?_
    simp[hw,splice,c,c2]
    refine hn _ ?_ trivial
    simp
 intro _ q hx hr
 rw[List.take_length]
 generalize hB:A++b.T.filterMap (m2 a k)=B
 simp
 refine hx _ _ ?_
 clear hx hr q
 have hBl:B.length≤100000000:=by
  have:=List.length_filterMap_le (m2 a k) b.T
  rw[←hB,List.length_append];omega
 have fS:=JJ B (by omega)
 have hBn:∀ t∈B,t.Name.length≤6:=by
  intro t ht
  rw[←hB,←hA] at ht
  rcases List.mem_append.1 ht with ht|ht
  ·obtain⟨x,hx,he⟩:=List.mem_filterMap.1 ht
   rw[F8 he];exact nm6 (ha.t.each x hx).1
  ·obtain⟨x,hx,he⟩:=List.mem_filterMap.1 ht
   rw[F7 he];exact nm6 (hb.t.each x hx).1
 have fO:=qx ⟨a.C+k*b.C,sortT B⟩ (by
  rw[Aff.tot_eq]
  show (sortT B).length+((sortT B).map Term.tot).sum≤4294967296
  have:=Sr (sortT B) fun t ht=>hBn t ((nK B).1.mem_iff.1 ht)
  rw[oG] at this ⊢
  omega)
 have hM:kD a b k=⟨a.C+k*b.C,sortT B⟩:=by rw[kD,Ya,hA,hB]
 rw[hM] at hR
 have hlen:=oG B
 generalize sortT B=Z at fS fO hR hlen
 have pl:aY prog 414=true:=by kernel_rfl
 simp at fO
 simp
 refine bn [_] pl fS ?_
 simp
 refine ai fO ?_
 cases hz:iy ⟨a.C+k*b.C,Z⟩
 ·simp[splice,←hR,okA,hz,dh]
 ·simp[splice,←hR,okA,hz,dh]
def puts (l:List Nm) (ts:List Term):List Nm:=ts.foldl (fun l t=>put l t.Name) l
def l9 (a b:Aff):List Nm:=puts (puts [] a.T) b.T
theorem rH (ts:List Term):∀ (l:List Nm),(puts l ts).length≤l.length+ts.length:=by
 induction ts with
 | nil=>intro l;simp[puts]
 | cons t ts ih =>
  intro l
  have h1:=ih (put l t.Name)
  have h2:=wR l t.Name
  simp only[puts,List.foldl_cons,List.length_cons] at h1 ⊢
  omega
theorem Ea (l:List Nm) {ts:List Term} {i:Nat} {t:Term} (h:ts[i]?=some t):puts l (ts.take (i+1))=put (puts l (ts.take i)) t.Name:=by
 rw[List.take_add_one,h];simp[puts,List.foldl_append]
theorem J6 (a b:Aff) (hl:a.T.length+b.T.length≤100000000):Says prog 413 [.agg (Cs a.d),.agg (Cs b.d)] (.osl 0 9 (l9 a b).length (Ows ((l9 a b).flatMap bG))) []:=by
 refine aP Go.Proofs.Tryz.func413 aEp ?_
 generalize hR:l9 a b=R0
 simp[aLE,aNo]
 refine aZ (l:=S9) (b:=Vj) rfl [] (fun i=>[(5,.osl 0 9 (puts [] (a.T.take i)).length (Ows ((puts [] (a.T.take i)).flatMap bG))),(6,.int .i64 i)]) (fun _=>True) a.T.length trivial (by simp[puts]) ?_ ?_
 ·intro i hi _ q hn hx hr
  obtain⟨x,hx0⟩:=ax hi
  have hrow:=row_drop Term.d 2 Term.d_len hx0
  have hw:=wrap_succ (i:=i) (by omega)
  have hpl:=rH (a.T.take i) []
  rw[Ea _ hx0] at hn
  rw[List.length_take] at hpl
  generalize puts [] (a.T.take i)=o at hn hpl ⊢
  have f:=rJ o x.Name (by simp at hpl;omega)
  generalize put o x.Name=o2 at f hn
  simp[hi,aj,hrow]
  refine ai f ?_
  simp[hw]
  refine hn _ ?_ trivial
  simp
 intro _ q hx hr
 rw[List.take_length]
 have hpl:=rH a.T []
 have hR2:puts (puts [] a.T) b.T=R0:=hR
 generalize puts [] a.T=o at hpl hR2 ⊢
 simp
 refine hx _ _ ?_
 clear hx hr q
 simp
 refine aZ (l:=Tc) (b:=Vk) rfl [] (fun i=>[(5,.osl 0 9 (puts o (b.T.take i)).length (Ows ((puts o (b.T.take i)).flatMap bG))),(8,.int .i64 i)]) (fun _=>True) b.T.length trivial (by simp[puts]) ?_ ?_
 ·intro i hi _ q hn hx hr
  obtain⟨x,hx0⟩:=ax hi
  have hrow:=row_drop Term.d 2 Term.d_len hx0
  have hw:=wrap_succ (i:=i) (by omega)
  have hpl2:=rH (b.T.take i) o
  rw[Ea _ hx0] at hn
  rw[List.length_take] at hpl2
  generalize puts o (b.T.take i)=o1 at hn hpl2 ⊢
  have f:=rJ o1 x.Name (by simp at hpl;omega)
  generalize put o1 x.Name=o2 at f hn
  simp[hi,aj,hrow]
  refine ai f ?_
  simp[hw]
  refine hn _ ?_ trivial
  simp
 intro _ q hx hr
 rw[List.take_length,hR2]
 simp
 refine hx _ _ ?_
 simp
def s1 (a b:Aff) (k:Int) (n:Nm):Option Term:=if dD a.T n+k*dD b.T n=0 then none else some ⟨n,dD a.T n+k*dD b.T n⟩
def Nj (a b:Aff) (k:Int):Aff:=⟨a.C+k*b.C,(l9 a b).filterMap (s1 a b k)⟩
theorem Io (a b:Aff) (k:Int) (ha:AOk a) (hb:AOk b) (hk:-100000≤k∧k≤100000) (hl:a.T.length+b.T.length≤100000000) (hn6:∀ n∈l9 a b,n.length≤6):Says prog 392 [.agg (Cs a.d),.agg (Cs b.d),.int .i64 k] (dh (okA (Nj a b k))) []:=by
 have t6:∀ x:Aff,AOk x→x.T.length≤100000000→x.tot≤4294967296:=fun x hx h=>by
  rw[Aff.tot_eq]
  have:=Sr x.T fun t ht=>nm6 (hx.t.each t ht).1
  omega
 have fa:=eY a (t6 a ha (by omega))
 have fb:=eY b (t6 b hb (by omega))
 have fn:=J6 a b hl
 have hnl:(l9 a b).length≤100000000:=by
  have h1:=rH b.T (puts [] a.T)
  have h2:=rH a.T []
  simp at h2
  exact Nat.le_trans h1 (by omega)
 have fO:=eY (Nj a b k) (by
  rw[Aff.tot_eq]
  have:=Sr (Nj a b k).T fun t ht=>by
   obtain⟨n,hn,he⟩:=List.mem_filterMap.1 ht
   unfold s1 at he
   split at he<;>cases he
   exact hn6 n hn
  have h2:(Nj a b k).T.length≤(l9 a b).length:=List.length_filterMap_le _ _
  omega)
 rw[(dX a).2 ha] at fa
 rw[(dX b).2 hb] at fb
 refine aP Go.Proofs.Tryz.func392 aEA ?_
 have hC:=bJ ha.c
 have hD:=Qn hk (bJ hb.c)
 have hw1:IntKind.i64.wrap (k*b.C)=k*b.C:=wrap64 (by omega) (by omega)
 have hw2:IntKind.i64.wrap (a.C+k*b.C)=a.C+k*b.C:=wrap64 (by omega) (by omega)
 generalize hR:dh (okA (Nj a b k))=R0
 have hS:Nj a b k=⟨a.C+k*b.C,(l9 a b).filterMap (s1 a b k)⟩:=rfl
 rw[hS] at hR fO
 generalize l9 a b=L at *
 simp at fa fb
 simp[aLO,aNy]
 refine ai fa ?_
 simp
 refine ai fb ?_
 simp[hw1,hw2,splice]
 refine ai fn ?_
 simp
 refine aZ (l:=Tu) (b:=Vu) rfl [12] (fun i=>[(8,.bx 0 201 [.int .i64 (a.C+k*b.C),.osl 0 320 ((L.take i).filterMap (s1 a b k)).length (Ows (((L.take i).filterMap (s1 a b k)).flatMap Term.d))]),(10,.int .i64 i)]) (fun _=>True) L.length trivial (by simp) ?_ ?_
 ·intro i hi _ q hn hx hr
  obtain⟨x,hx0⟩:=ax hi
  have hrow:=row_drop bG 1 (fun _=>by simp) hx0
  rw[Nat.mul_one] at hrow
  have hw:=wrap_succ (i:=i) (by omega)
  have hca:=Di ha.t x
  have hcb:=Di hb.t x
  have hm:=Qn hk hcb
  have hw3:IntKind.i64.wrap (k*dD b.T x)=k*dD b.T x:=wrap64 (by omega) (by omega)
  have hw4:IntKind.i64.wrap (dD a.T x+k*dD b.T x)=dD a.T x+k*dD b.T x:=wrap64 (by omega) (by omega)
  have hfm:=Gj (s1 a b k) hx0
  have hln:=MH (s1 a b k) L i
  generalize (L.take i).filterMap (s1 a b k)=A at hfm hln ⊢
  rw[hfm] at hn
  have hbd:A.length+1≤bnd:=by unfold bnd;omega
  have f1:=kU a x (by omega)
  have f2:=kU b x (by omega)
  simp at f1 f2
  have hne:Ows (L.flatMap bG)≠[]:=by
   intro h
   have:=congrArg List.length h
   rw[bD,dV bG 1 (fun _=>rfl)] at this
   simp at this;subst this;simp at hi
  have hlen:(Ows (L.flatMap bG)).length=L.length:=by rw[bD,dV bG 1 (fun _=>rfl),Nat.mul_one]
  have hi1:i+1≤L.length:=hi
  simp[hi,hi1,ig hne,hlen,-bD,kz,hrow,splice]
  refine ay f1 ?_
  simp[hi,hi1,ig hne,hlen,-bD,kz,hrow,splice]
  refine ay f2 ?_
  by_cases c:dD a.T x+k*dD b.T x=0
  ·have e1:s1 a b k x=none:=by simp[s1,c]
   rw[e1] at hn
   simp[hw,hw3,hw4,c]
   refine hn _ ?_ trivial
   simp
  ·have e1:s1 a b k x=some ⟨x,dD a.T x+k*dD b.T x⟩:=by simp[s1,c]
   rw[e1] at hn
   simp[hi,hi1,ig hne,hlen,-bD,kz,hrow,hw,hw3,hw4,c,splice,hbd]
   refine hn _ ?_ trivial
   simp
 intro _ q hx hr
 rw[List.take_length]
 generalize L.filterMap (s1 a b k)=Z at fO hR ⊢
 simp at fO
 simp
 refine hx _ _ ?_
 clear hx hr q
 simp
 refine ai fO ?_
 cases hz:iy ⟨a.C+k*b.C,Z⟩
 ·simp[splice,←hR,okA,hz,dh]
 ·simp[splice,←hR,okA,hz,dh]
theorem Bo:∀ (ts:List Term) (l:List Nm),Sd l→Sd (puts l ts)∧∀ n,n∈puts l ts↔n∈l∨∃ t∈ts,t.Name=n
 | [],l,h=>by simp[puts,h]
 | t::ts,l,h=>by
  obtain⟨h1,h2⟩:=Bo ts (put l t.Name) (SI h _)
  refine⟨h1,fun n=>?_⟩
  show n∈puts (put l t.Name) ts↔_
  rw[h2,NI h]
  constructor
  ·rintro ((rfl|h)|⟨u,hu,h⟩)
   ·exact .inr ⟨t,by simp,rfl⟩
   ·exact .inl h
   ·exact .inr ⟨u,by simp[hu],h⟩
  ·rintro (h|⟨u,hu,h⟩)
   ·exact .inl (.inr h)
   ·rcases List.mem_cons.1 hu with rfl|hu
    ·exact .inl (.inl h.symm)
    ·exact .inr ⟨u,hu,h⟩
theorem xC (a b:Aff):Sd (l9 a b)∧∀ n,n∈l9 a b↔(∃ t∈a.T,t.Name=n)∨∃ t∈b.T,t.Name=n:=by
 obtain⟨h1,h2⟩:=Bo a.T [] (by simp)
 obtain⟨h3,h4⟩:=Bo b.T _ h1
 refine⟨h3,fun n=>?_⟩
 show n∈puts (puts [] a.T) b.T↔_
 rw[h4,h2];simp
theorem NG {a b:Aff} (ha:AOk a) (hb:AOk b):∀ n∈l9 a b,n.length≤6:=by
 intro n hn
 rcases ((xC a b).2 n).1 hn with ⟨t,ht,rfl⟩|⟨t,ht,rfl⟩
 ·exact nm6 (ha.t.each t ht).1
 ·exact nm6 (hb.t.each t ht).1
theorem DN {xs ys:List Term} (h1:xs.Pairwise fun x y=>x.Name<y.Name) (h2:ys.Pairwise fun x y=>x.Name<y.Name) (h:∀ x,x∈xs↔x∈ys):xs=ys :=
 FX (fun x=>List.lt_irrefl x.Name) (fun x y h h'=>List.lt_irrefl x.Name (List.lt_trans h h')) h1 h2 h
theorem QF {ts:List Term} (h:ts.Pairwise fun x y=>x.Name≠y.Name):(sortT ts).Pairwise fun x y=>x.Name<y.Name:=by
 obtain⟨hp,hs⟩:=nK ts
 have hn:(sortT ts).Pairwise fun x y=>x.Name≠y.Name:=(hp.symm.pairwise_iff (fun h=>Ne.symm h)).1 h
 refine (hs.and hn).imp ?_
 rintro x y ⟨h1,h2⟩
 rcases List.le_total x.Name y.Name with h|h
 ·exact List.not_le.1 fun h'=>h2 (List.le_antisymm h h')
 ·exact absurd (List.le_antisymm h (List.not_lt.1 h1)) (Ne.symm h2)
theorem m1_iff {b:Aff} {k:Int} {x y:Term}:m1 b k x=some y↔y.Name=x.Name∧y.N=x.N+k*dD b.T x.Name∧y.N≠0:=by
 unfold m1
 constructor
 ·intro h
  split at h
  ·cases h
  ·rename_i h0;cases h;exact⟨rfl,rfl,h0⟩
 ·rintro⟨h1,h2,h3⟩
  rw[if_neg (by rw[←h2];exact h3)]
  cases y;simp_all
theorem m2_iff {a:Aff} {k:Int} {x y:Term}:m2 a k x=some y↔y.Name=x.Name∧y.N=k*x.N∧y.N≠0∧dD a.T x.Name=0:=by
 unfold m2
 constructor
 ·intro h
  split at h
  ·cases h
  ·rename_i h0
   split at h
   ·rename_i h1;cases h;exact⟨rfl,rfl,h0,h1⟩
   ·cases h
 ·rintro⟨h1,h2,h3,h4⟩
  rw[if_neg (by rw[←h2];exact h3),if_pos h4]
  cases y;simp_all
theorem s1_iff {a b:Aff} {k:Int} {n:Nm} {y:Term}:s1 a b k n=some y↔y.Name=n∧y.N=dD a.T n+k*dD b.T n∧y.N≠0:=by
 unfold s1
 constructor
 ·intro h
  split at h
  ·cases h
  ·rename_i h0;cases h;exact⟨rfl,rfl,h0⟩
 ·rintro⟨h1,h2,h3⟩
  rw[if_neg (by rw[←h2];exact h3)]
  cases y;simp_all
theorem Xh {α:Type} {f:α→Option Term} {R:α→α→Prop} {S:Term→Term→Prop} {xs:List α} (h:xs.Pairwise R) (hf:∀ x y u v,R x y→f x=some u→f y=some v→S u v):(xs.filterMap f).Pairwise S:=by
 rw[List.pairwise_filterMap]
 exact h.imp fun hr u hu v hv=>hf _ _ _ _ hr hu hv
theorem IP {a b:Aff} {k:Int} (ha:AOk a) (hb:AOk b) (y:Term):y∈Ya a b k↔y.N=dD a.T y.Name+k*dD b.T y.Name∧y.N≠0:=by
 rw[Ya,(nK _).1.mem_iff,List.mem_append,List.mem_filterMap,List.mem_filterMap]
 constructor
 ·rintro (⟨x,hx,h⟩|⟨x,hx,h⟩)
  ·obtain⟨h1,h2,h3⟩:=m1_iff.1 h
   rw[h1,lC ha.t hx];exact⟨h2,h3⟩
  ·obtain⟨h1,h2,h3,h4⟩:=m2_iff.1 h
   rw[h1,h4,lC hb.t hx];exact⟨by omega,h3⟩
 ·rintro⟨h1,h2⟩
  by_cases h0:dD a.T y.Name=0
  ·right
   have hb0:dD b.T y.Name≠0:=fun e=>h2 (by rw[h1,h0,e];simp)
   have:∃ t∈b.T,t.Name=y.Name:=by
    refine Classical.byContradiction fun hc=>hb0 ?_
    exact kV fun t ht e=>hc ⟨t,ht,e⟩
   obtain⟨t,ht,e⟩:=this
   exact⟨t,ht,m2_iff.2 ⟨e.symm,by rw[h1,h0,←e,lC hb.t ht];simp,h2,by rw[e];exact h0⟩⟩
  ·left
   have:∃ t∈a.T,t.Name=y.Name:=by
    refine Classical.byContradiction fun hc=>h0 ?_
    exact kV fun t ht e=>hc ⟨t,ht,e⟩
   obtain⟨t,ht,e⟩:=this
   exact⟨t,ht,m1_iff.2 ⟨e.symm,by rw[h1,←e,lC ha.t ht],h2⟩⟩
theorem NH {a b:Aff} {k:Int} (ha:AOk a) (hb:AOk b):(Ya a b k).Pairwise fun x y=>x.Name<y.Name:=by
 refine QF ?_
 have ne:∀ {x y:Nm},x<y→x≠y:=fun h e=>List.lt_irrefl _ (e▸h)
 rw[List.pairwise_append]
 refine⟨Xh ha.t.ord fun x y u v hr hu hv=>?_,Xh hb.t.ord fun x y u v hr hu hv=>?_,fun u hu v hv=>?_⟩
 ·rw[F8 hu,F8 hv];exact ne hr
 ·rw[F7 hu,F7 hv];exact ne hr
 ·obtain⟨x,hx,h⟩:=List.mem_filterMap.1 hu
  obtain⟨z,hz,h'⟩:=List.mem_filterMap.1 hv
  intro e
  obtain⟨h1,_⟩:=m1_iff.1 h
  obtain⟨h2,_,_,h4⟩:=m2_iff.1 h'
  exact (PR ha.t).1 h4 x hx (by rw[←h1,e,h2])
theorem Nc {a b:Aff} (k:Int) (ha:AOk a) (hb:AOk b):Nj a b k=kD a b k:=by
 unfold Nj kD
 congr 1
 refine DN (Xh (xC a b).1 fun x y u v hr hu hv=>?_) (NH ha hb) fun y=>?_
 ·rw[(s1_iff.1 hu).1,(s1_iff.1 hv).1];exact hr
 ·rw[IP ha hb,List.mem_filterMap]
  constructor
  ·rintro⟨n,hn,h⟩
   obtain⟨h1,h2,h3⟩:=s1_iff.1 h
   rw[h1];exact⟨h2,h3⟩
  ·rintro⟨h1,h2⟩
   refine⟨y.Name,?_,s1_iff.2 ⟨rfl,h1,h2⟩⟩
   rw[(xC a b).2]
   refine Classical.byContradiction fun hc=>?_
   simp only[not_or] at hc
   have e1:dD a.T y.Name=0:=kV fun t ht e=>hc.1 ⟨t,ht,e⟩
   have e2:dD b.T y.Name=0:=kV fun t ht e=>hc.2 ⟨t,ht,e⟩
   exact h2 (by rw[h1,e1,e2];simp)
def lW (a:Aff) (n:Int):Aff:=⟨a.C*n,if n=0 then [] else a.T.map fun t=>⟨t.Name,t.N*n⟩⟩
def noA:Aff:=⟨0,[]⟩
theorem CV:AOk noA:=⟨⟨by simp[noA],by simp[noA],by simp⟩,by decide⟩
theorem xk {b:Aff} (k:Int) (hb:AOk b):lW b k=kD noA b k:=by
 unfold lW kD
 have e0:noA.C+k*b.C=b.C*k:=by simp[noA,Int.mul_comm]
 rw[e0]
 congr 1
 refine DN ?_ (NH CV hb) fun y=>?_
 ·split
  ·exact List.Pairwise.nil
  ·rw[List.pairwise_map];exact hb.t.ord
 ·rw[IP CV hb]
  have e1:dD noA.T y.Name=0:=rfl
  rw[e1]
  split
  ·rename_i h;subst h;simp
  ·rename_i h
   rw[List.mem_map]
   constructor
   ·rintro⟨t,ht,rfl⟩
    refine⟨by simp only;rw[lC hb.t ht,Int.mul_comm];simp,?_⟩
    simp only
    exact Int.mul_ne_zero (hb.t.each t ht).2.1 h
   ·rintro⟨h1,h2⟩
    have hb0:dD b.T y.Name≠0:=fun e=>h2 (by rw[h1,e];simp)
    have:∃ t∈b.T,t.Name=y.Name:=by
     refine Classical.byContradiction fun hc=>hb0 ?_
     exact kV fun t ht e=>hc ⟨t,ht,e⟩
    obtain⟨t,ht,e⟩:=this
    refine⟨t,ht,?_⟩
    cases y with
    | mk nm n =>
     simp only at e h1
     rw[←e,lC hb.t ht] at h1
     rw[e,h1,Int.mul_comm];simp
theorem QX (a b:Aff) (k:Int):(kD a b k).T.length≤a.T.length+b.T.length:=by
 show (sortT _).length≤_
 rw[oG,List.length_append]
 have h1:=List.length_filterMap_le (m1 b k) a.T
 have h2:=List.length_filterMap_le (m2 a k) b.T
 omega
theorem QU {a x:Aff} (h:okA a=some x):x=a∧AOk x:=by
 unfold okA at h
 split at h
 ·rename_i h0;cases h;exact⟨rfl,(dX _).1 h0⟩
 ·cases h
end Go.AmC
