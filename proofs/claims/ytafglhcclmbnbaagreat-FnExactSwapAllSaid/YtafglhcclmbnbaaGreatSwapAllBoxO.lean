import Derived.Test.YtafglhcclmbnbaaGreatSwapAllAffH
set_option linter.unusedSimpArgs false
set_option linter.unusedVariables false
set_option maxRecDepth 20000
set_option maxHeartbeats 4000000
namespace Go.AmC
open Go Go.AM
open Go.Proofs.Tryz (prog)
def dO (e:Exp):Option Int:=(dZ [] e).map (·.C)
def nY (o:Option Int):AV:=.tup [none,none] [.int .i64 (o.getD 0),.bool o.isSome]
theorem SH (o:Option Aff):nY (o.map (·.C))=.tup [none,none] [.int .i64 (o.getD ⟨0,[]⟩).C,.bool o.isSome]:=by
 cases o<;>rfl
theorem Az (e:Exp) (h:e.tot≤10000000):Says prog 318 [.agg (Cs e.d)] (nY (dO e)) []:=by
 have f:=Jn [] (by simp) e h
 unfold dO
 rw[SH]
 refine aP Go.Proofs.Tryz.func318 aFf ?_
 generalize dZ [] e=o at f ⊢
 simp[dh] at f
 simp[aMb,aNV,splice]
 refine ai f ?_
 simp[splice]
theorem Aw (e:Exp) (h:e.tot≤10000000):Says prog 291 [.agg (Cs e.d)] (nY (dO e)) []:=by
 have f:=Jm [] (by simp) e h
 unfold dO
 rw[SH]
 refine aP Go.Proofs.Tryz.func291 aFE ?_
 generalize dZ [] e=o at f ⊢
 simp[dh] at f
 simp[aMw,aOg,splice]
 refine ai f ?_
 simp[splice]
def inB (n:Int):Bool:=decide (-10000≤n)&&decide (n≤10000)
def aF (l:List Rng):List Nm:=l.map (·.Name)
def okB (all:List Rng):Nat→List Rng→Bool
 | _,[]=>true
 | i,r::rs=>bZ r.Name&&inB r.Lo&&inB r.Hi&&decide (idxOf r.Name (aF all) 0=(i:Int))&&okB all (i+1) rs
def boxOk (l:List Rng):Bool:=okB l 0 l&&decide (l.length≤8)
def iV (l:List Rng):Bool:=l.all (fun r=>decide (r.Lo≤r.Hi))&&boxOk l
theorem AQ (l:List Rng) (n:Nm) (hl:l.length≤4000000000):Says prog 232 [.rsl l.length (Cs (l.flatMap Rng.d)),.str n] (.int .i64 (idxOf n (aF l) 0)) []:=by
 refine aP Go.Proofs.Tryz.func232 aGa ?_
 generalize hR:idxOf n (aF l) 0=R0
 simp[v232,aOz]
 refine aZ (l:=Ul) (b:=V8) rfl [] (fun i=>[(3,.int .i64 i)]) (fun i=>idxOf n (aF (l.drop i)) i=R0) l.length (by simpa using hR) (by simp) ?_ ?_
 ·intro i hi hI q hn hx hr
  obtain⟨x,hx0⟩:=ax hi
  have hrow:=row_drop Rng.d 3 Rng.d_len hx0
  have hw:=wrap_succ (i:=i) (by omega)
  rw[drop_cons hx0] at hI
  simp only[aF,List.map_cons,idxOf] at hI
  by_cases c:x.Name=n
  ·simp[hi,aj,hrow,c]
   refine hr _ ?_
   rw[if_pos c] at hI
   simp[hI]
  ·simp[hi,aj,hrow,c,hw]
   rw[if_neg c] at hI
   exact hn _ (by simp) hI
 ·intro hI q hx hr
  simp[aF,idxOf] at hI
  simp
  refine hx _ _ ?_
  simp[hI]
theorem HY (r:Rng) (n:Nm):Says prog 305 [.agg (Cs r.d),.rp [.str n]] (.bool (r.Name==n)) []:=by
 refine aP Go.Proofs.Tryz.func305 aFr ?_
 simp[aMl,aN5]
theorem Pg (l:List Rng) (n:Nm) (hl:l.length≤4000000000):Says prog 304 [.rsl l.length (Cs (l.flatMap Rng.d)),.fn 305 [.rp [.str n]]] (.int .i64 (idxOf n (aF l) 0)) []:=by
 refine aP Go.Proofs.Tryz.func304 aFs ?_
 have pl:aY prog 305=true:=by kernel_rfl
 generalize hR:idxOf n (aF l) 0=R0
 simp[aMm,aN6]
 refine aZ (l:=TY) (b:=VS) rfl [6] (fun i=>[(4,.int .i64 i)]) (fun i=>idxOf n (aF (l.drop i)) i=R0) l.length (by simpa using hR) (by simp) ?_ ?_
 ·intro i hi hI q hn hx hr
  obtain⟨x,hx0⟩:=ax hi
  have hrow:=row_drop Rng.d 3 Rng.d_len hx0
  have hw:=wrap_succ (i:=i) (by omega)
  rw[drop_cons hx0] at hI
  simp only[aF,List.map_cons,idxOf] at hI
  have f:=HY x n
  simp at f
  simp[hi,aj,hrow]
  refine Lp pl f ?_
  by_cases c:x.Name=n
  ·simp[c]
   refine hr _ ?_
   rw[if_pos c] at hI
   simp[hI]
  ·simp[c,hw]
   rw[if_neg c] at hI
   exact hn _ (by simp) hI
 ·intro hI q hx hr
  simp[aF,idxOf] at hI
  simp
  refine hx _ _ ?_
  simp[hI]
theorem Gp (l:List Rng) (n:Nm) (hl:l.length≤4000000000):Says prog 243 [.rsl l.length (Cs (l.flatMap Rng.d)),.str n] (.int .i64 (idxOf n (aF l) 0)) []:=by
 have f:=Pg l n hl
 refine aP Go.Proofs.Tryz.func243 aF2 ?_
 simp[aMJ,aOt]
 refine ai f ?_
 simp
theorem IE {all l:List Rng} {i:Nat} {r:Rng} (h:l[i]?=some r) {b:Bool} (hI:okB all i (l.drop i)=b) :
  (bZ r.Name&&inB r.Lo&&inB r.Hi&&decide (idxOf r.Name (aF all) 0=(i:Int))&&okB all (i+1) (l.drop (i+1)))=b:=by
 rw[drop_cons h,okB] at hI;exact hI
theorem Lr (l:List Rng) (hl:l.length≤4000000000) (hs:∀ r∈l,r.Name.length≤4294967296):Says prog 292 [.rsl l.length (Cs (l.flatMap Rng.d))] (.bool (boxOk l)) []:=by
 refine aP Go.Proofs.Tryz.func292 aFD ?_
 generalize hR:boxOk l=R0
 unfold boxOk at hR
 generalize hR2:okB l 0 l=R2 at hR
 simp[aMv,aOf]
 refine aZ (l:=Uf) (b:=VZ) rfl [] (fun i=>[(2,.int .i64 i)]) (fun i=>okB l i (l.drop i)=R2) l.length (by simpa using hR2) (by simp) ?_ ?_
 ·intro i hi hI q hn hx hr
  obtain⟨x,hx0⟩:=ax hi
  have hrow:=row_drop Rng.d 3 Rng.d_len hx0
  have hw:=wrap_succ (i:=i) (by omega)
  have hI2:=IE hx0 hI
  have fN:=tK x.Name (hs x (List.mem_of_getElem? hx0))
  have fL:=iU x.Lo (-10000) 10000
  have fH:=iU x.Hi (-10000) 10000
  have fA:=AQ l x.Name hl
  have bad:R2=false→R0=false:=fun h=>by rw[←hR,h];rfl
  change Says prog _ _ (.bool (inB x.Lo)) _ at fL
  change Says prog _ _ (.bool (inB x.Hi)) _ at fH
  cases c1:bZ x.Name
  ·rw[c1] at fN hI2
   simp[hi,aj,hrow,splice]
   refine ai fN ?_
   simp
   refine hr _ ?_
   simp at hI2
   simp[bad hI2]
  cases c2:inB x.Lo
  ·rw[c1] at fN hI2
   rw[c2] at fL hI2
   simp[hi,aj,hrow,splice]
   refine ai fN ?_
   simp[hi,aj,hrow]
   refine ai fL ?_
   simp
   refine hr _ ?_
   simp at hI2
   simp[bad hI2]
  cases c3:inB x.Hi
  ·rw[c1] at fN hI2
   rw[c2] at fL hI2
   rw[c3] at fH hI2
   simp[hi,aj,hrow,splice]
   refine ai fN ?_
   simp[hi,aj,hrow]
   refine ai fL ?_
   simp[hi,aj,hrow]
   refine ai fH ?_
   simp
   refine hr _ ?_
   simp at hI2
   simp[bad hI2]
  rw[c1] at fN hI2
  rw[c2] at fL hI2
  rw[c3] at fH hI2
  simp[hi,aj,hrow,splice]
  refine ai fN ?_
  simp[hi,aj,hrow]
  refine ai fL ?_
  simp[hi,aj,hrow]
  refine ai fH ?_
  simp[hi,aj,hrow]
  refine ai fA ?_
  by_cases c4:idxOf x.Name (aF l) 0=(i:Int)
  ·simp[c4,hw]
   exact hn _ (by simp) (by simpa [c4] using hI2)
  ·simp[c4,hw]
   refine hr _ ?_
   simp[c4] at hI2
   simp[bad hI2]
 ·intro hI q hx hr
  simp[okB] at hI
  simp
  refine hx _ _ ?_
  have e:((l.length:Int)≤8)↔l.length≤8:=by omega
  simp[←hR,←hI,e]
theorem Ls (l:List Rng) (hl:l.length≤4000000000) (hs:∀ r∈l,r.Name.length≤4294967296):Says prog 319 [.rsl l.length (Cs (l.flatMap Rng.d))] (.bool (boxOk l)) []:=by
 refine aP Go.Proofs.Tryz.func319 aFe ?_
 generalize hR:boxOk l=R0
 unfold boxOk at hR
 generalize hR2:okB l 0 l=R2 at hR
 simp[aMa,aNU]
 refine aZ (l:=TR) (b:=VL) rfl [6,7] (fun i=>[(4,.int .i64 i)]) (fun i=>okB l i (l.drop i)=R2) l.length (by simpa using hR2) (by simp) ?_ ?_
 ·intro i hi hI q hn hx hr
  obtain⟨x,hx0⟩:=ax hi
  have hrow:=row_drop Rng.d 3 Rng.d_len hx0
  have hw:=wrap_succ (i:=i) (by omega)
  have hI2:=IE hx0 hI
  have fN:=qF x.Name (hs x (List.mem_of_getElem? hx0))
  have fL:=iq x.Lo (-10000) 10000
  have fH:=iq x.Hi (-10000) 10000
  have fA:=Gp l x.Name hl
  have bad:R2=false→R0=false:=fun h=>by rw[←hR,h];rfl
  change Says prog _ _ (.bool (inB x.Lo)) _ at fL
  change Says prog _ _ (.bool (inB x.Hi)) _ at fH
  cases c1:bZ x.Name
  ·rw[c1] at fN hI2
   simp[hi,aj,hrow,splice]
   refine ai fN ?_
   simp
   refine hr _ ?_
   simp at hI2
   simp[bad hI2]
  cases c2:inB x.Lo
  ·rw[c1] at fN hI2
   rw[c2] at fL hI2
   simp[hi,aj,hrow,splice]
   refine ai fN ?_
   simp[hi,aj,hrow]
   refine ai fL ?_
   simp
   refine hr _ ?_
   simp at hI2
   simp[bad hI2]
  cases c3:inB x.Hi
  ·rw[c1] at fN hI2
   rw[c2] at fL hI2
   rw[c3] at fH hI2
   simp[hi,aj,hrow,splice]
   refine ai fN ?_
   simp[hi,aj,hrow]
   refine ai fL ?_
   simp[hi,aj,hrow]
   refine ai fH ?_
   simp
   refine hr _ ?_
   simp at hI2
   simp[bad hI2]
  rw[c1] at fN hI2
  rw[c2] at fL hI2
  rw[c3] at fH hI2
  simp[hi,aj,hrow,splice]
  refine ai fN ?_
  simp[hi,aj,hrow]
  refine ai fL ?_
  simp[hi,aj,hrow]
  refine ai fH ?_
  simp[hi,aj,hrow]
  refine ai fA ?_
  by_cases c4:idxOf x.Name (aF l) 0=(i:Int)
  ·simp[c4,hw]
   exact hn _ (by simp) (by simpa [c4] using hI2)
  ·simp[c4,hw]
   refine hr _ ?_
   simp[c4] at hI2
   simp[bad hI2]
 ·intro hI q hx hr
  simp[okB] at hI
  simp
  refine hx _ _ ?_
  have e:((l.length:Int)≤8)↔l.length≤8:=by omega
  simp[←hR,←hI,e]
theorem Jl {l:List Rng} {i:Nat} {r:Rng} (h:l[i]?=some r) {b:Bool} (hI:(l.drop i).all (fun r=>decide (r.Lo≤r.Hi))=b) :
  (decide (r.Lo≤r.Hi)&&(l.drop (i+1)).all (fun r=>decide (r.Lo≤r.Hi)))=b:=by
 rw[drop_cons h,List.all_cons] at hI;exact hI
theorem xN (l:List Rng) (hl:l.length≤4000000000) (hs:∀ r∈l,r.Name.length≤4294967296):Says prog 231 [.rsl l.length (Cs (l.flatMap Rng.d))] (.bool (iV l)) []:=by
 have fB:=Lr l hl hs
 refine aP Go.Proofs.Tryz.func231 aGb ?_
 generalize hR:iV l=R0
 unfold iV at hR
 generalize hR2:l.all (fun r=>decide (r.Lo≤r.Hi))=R2 at hR
 simp[aMN,aOA]
 refine aZ (l:=Um) (b:=V9) rfl [] (fun i=>[(2,.int .i64 i)]) (fun i=>(l.drop i).all (fun r=>decide (r.Lo≤r.Hi))=R2) l.length (by simpa using hR2) (by simp) ?_ ?_
 ·intro i hi hI q hn hx hr
  obtain⟨x,hx0⟩:=ax hi
  have hrow:=row_drop Rng.d 3 Rng.d_len hx0
  have hw:=wrap_succ (i:=i) (by omega)
  have hI2:=Jl hx0 hI
  by_cases c:x.Lo≤x.Hi
  ·have c':¬x.Hi<x.Lo:=by omega
   simp[hi,aj,hrow,splice,c,c',hw]
   exact hn _ (by simp) (by simpa [c] using hI2)
  ·have c':x.Hi<x.Lo:=by omega
   simp[hi,aj,hrow,splice,c,c',hw]
   refine hr _ ?_
   simp[c] at hI2
   simp[←hR,hI2]
 ·intro hI q hx hr
  simp at hI
  simp
  refine hx _ _ ?_
  simp
  refine ai fB ?_
  simp[←hR,←hI]
theorem ED (l:List Rng) (hl:l.length≤4000000000) (hs:∀ r∈l,r.Name.length≤4294967296):Says prog 255 [.rsl l.length (Cs (l.flatMap Rng.d))] (.bool (iV l)) []:=by
 have fB:=Ls l hl hs
 refine aP Go.Proofs.Tryz.func255 aFS ?_
 generalize hR:iV l=R0
 unfold iV at hR
 generalize hR2:l.all (fun r=>decide (r.Lo≤r.Hi))=R2 at hR
 simp[aMF,aOp]
 refine aZ (l:=Uj) (b:=V6) rfl [6] (fun i=>[(4,.int .i64 i)]) (fun i=>(l.drop i).all (fun r=>decide (r.Lo≤r.Hi))=R2) l.length (by simpa using hR2) (by simp) ?_ ?_
 ·intro i hi hI q hn hx hr
  obtain⟨x,hx0⟩:=ax hi
  have hrow:=row_drop Rng.d 3 Rng.d_len hx0
  have hw:=wrap_succ (i:=i) (by omega)
  have hI2:=Jl hx0 hI
  by_cases c:x.Lo≤x.Hi
  ·have c':¬x.Hi<x.Lo:=by omega
   simp[hi,aj,hrow,splice,c,c',hw]
   exact hn _ (by simp) (by simpa [c] using hI2)
  ·have c':x.Hi<x.Lo:=by omega
   simp[hi,aj,hrow,splice,c,c',hw]
   refine hr _ ?_
   simp[c] at hI2
   simp[←hR,hI2]
 ·intro hI q hx hr
  simp at hI
  simp
  refine hx _ _ ?_
  simp
  refine ai fB ?_
  simp[←hR,←hI]
def kC:Stmt→List Rng × Bool
 | ⟨K,S,_,_,Lo,Hi,B⟩=>if K=3 then (⟨S,(dO Lo).getD 0,(dO Hi).getD 0⟩::(B.map kC).flatMap (·.1),(dO Lo).isSome&&(dO Hi).isSome&&(B.map kC).all (·.2)) else ([],true)
def jk (l:List Stmt):List Rng × Bool:=((l.map kC).flatMap (·.1),(l.map kC).all (·.2))
theorem tu (x:Stmt):kC x=if x.K=3 then (⟨x.S,(dO x.Lo).getD 0,(dO x.Hi).getD 0⟩::(jk x.Body).1,(dO x.Lo).isSome&&(dO x.Hi).isSome&&(jk x.Body).2) else ([],true):=by
 cases x;rw[kC];rfl
theorem OV {l:List Stmt} {i:Nat} {x:Stmt} (h:l[i]?=some x):jk (l.take (i+1))=((jk (l.take i)).1++(kC x).1,(jk (l.take i)).2&&(kC x).2):=by
 rw[List.take_add_one,h];simp[jk,List.flatMap_append,List.all_append]
theorem Bl:∀ x:Stmt,(kC x).1.length≤1+x.tot:=Stmt.ind fun x ih=>by
 rw[tu,x.tot_eq]
 split
 ·have h:(jk x.Body).1.length≤x.Body.length+(x.Body.map Stmt.tot).sum:=by
   have key:∀ l:List Stmt,(∀ y∈l,(kC y).1.length≤1+y.tot)→(jk l).1.length≤l.length+(l.map Stmt.tot).sum:=by
    intro l
    induction l with
    | nil=>intro _;simp[jk]
    | cons y l ihl =>
     intro hy
     have h1:=hy y (by simp)
     have h2:=ihl fun z hz=>hy z (by simp[hz])
     simp only[jk,List.map_cons,List.flatMap_cons,List.length_append,List.length_cons,List.sum_cons] at h2 ⊢
     omega
   exact key _ ih
  simp only[List.length_cons];omega
 ·simp
theorem QN (l:List Stmt):(jk l).1.length≤l.length+(l.map Stmt.tot).sum:=by
 induction l with
 | nil=>simp[jk]
 | cons y l ih =>
  have h1:=Bl y
  simp only[jk,List.map_cons,List.flatMap_cons,List.length_append,List.length_cons,List.sum_cons] at ih ⊢
  omega
theorem CP (l:List Stmt) (i:Nat):(jk (l.take i)).1.length≤(jk l).1.length:=by
 have:jk l=((jk (l.take i)).1++(jk (l.drop i)).1,(jk l).2):=by
  have h:l=l.take i++l.drop i:=(List.take_append_drop i l).symm
  conv=>lhs;rw[h]
  simp only[jk,List.map_append,List.flatMap_append]
  rw[Prod.mk.injEq]
  exact⟨rfl,by conv=>rhs;rw[h,List.map_append]⟩
 rw[this];simp
theorem Xa:∀ {ds:List D},(∀ d∈ds,isL d=false)→Ows ds=Cs ds
 | [],_=>rfl
 | d::ds,h=>by
  have h1:=h d (by simp)
  have h2:=Xa (ds:=ds) fun x hx=>h x (by simp[hx])
  rw[Cm,Gs,h2]
  cases d<;>first|rfl|simp[isL] at h1
theorem LW (l:List Rng):Ows (l.flatMap Rng.d)=Cs (l.flatMap Rng.d):=Xa fun d hd=>by
 obtain⟨x,_,hx⟩:=List.mem_flatMap.1 hd
 simp at hx
 rcases hx with rfl|rfl|rfl<;>rfl
def oI (r:List Rng × Bool):AV:=.tup [none,none] [.osl 0 190 r.1.length (Ows (r.1.flatMap Rng.d)),.bool r.2]
theorem D6 (l:List Stmt) (hl:l.length≤10000000) (ht:(l.map Stmt.tot).sum≤10000000) (h:∀ y∈l,Says prog 254 [.rsl y.Body.length (Cs (y.Body.flatMap Stmt.d))] (oI (jk y.Body)) []) :
  Says prog 254 [.rsl l.length (Cs (l.flatMap Stmt.d))] (oI (jk l)) []:=by
 refine aP Go.Proofs.Tryz.func254 aFT ?_
 have hfl:=QN l
 have htl:=CP l
 generalize hR:oI (jk l)=R0
 simp[aMG,aOq]
 refine aZ (l:=Uk) (b:=V7) rfl [9,11,12,13,14,15,16] (fun i=>[(3,.osl 0 190 (jk (l.take i)).1.length (Ows ((jk (l.take i)).1.flatMap Rng.d))),(4,.bool (jk (l.take i)).2),(7,.int .i64 i)]) (fun _=>True) l.length trivial (by simp[jk]) ?_ ?_
 ·intro i hi _ q hn hx hr
  obtain⟨x,hx0⟩:=ax hi
  have hrow:=row_drop Stmt.d 19 Stmt.d_len hx0
  have hw:=wrap_succ (i:=i) (by omega)
  have hm:=List.mem_of_getElem? hx0
  have hxt:=az Stmt.tot hm
  have hxe:=x.tot_eq
  have fL:=Az x.Lo (by omega)
  have fH:=Az x.Hi (by omega)
  have fB:=h x hm
  have hlen1:=htl (i+1)
  rw[OV hx0] at hn hlen1
  have hlen:=htl i
  rw[tu] at hn hlen1
  generalize (jk (l.take i)).1=A at hn hlen hlen1 ⊢
  generalize (jk (l.take i)).2=bb at hn ⊢
  by_cases c:x.K=3
  ·rw[if_pos c] at hn hlen1
   generalize hlo:dO x.Lo=lo at fL hn hlen1
   generalize hhi:dO x.Hi=hi' at fH hn hlen1
   simp only[oI] at fB
   generalize (jk x.Body).1=B at fB hn hlen1
   generalize (jk x.Body).2=b2 at fB hn
   simp only[List.length_append,List.length_cons] at hlen1
   have hb1:A.length+1≤bnd:=by unfold bnd;omega
   have hb2:A.length+1+B.length≤bnd:=by unfold bnd;omega
   simp[nY] at fL fH
   try simp at fB
   simp[hi,aj,hrow,splice,c]
   refine ai fL ?_
   simp
   refine ai fH ?_
   simp
   refine ai fB ?_
   have hsc:=LW B
   cases bb<;>cases hl1:lo.isSome<;>cases hl2:hi'.isSome<;>simp[hw,hb1,hb2,splice,hsc]<;>refine hn _ ?_ trivial<;>simp[hl1,hl2,hsc]<;>omega
  ·rw[if_neg c] at hn
   simp[hi,aj,hrow,splice,c,hw]
   refine hn _ ?_ trivial
   simp
 intro _ q hx hr
 rw[List.take_length]
 simp
 refine hx _ _ ?_
 simp[←hR,oI]
theorem OT:∀ x:Stmt,x.tot≤10000000→Says prog 254 [.rsl x.Body.length (Cs (x.Body.flatMap Stmt.d))] (oI (jk x.Body)) []:=Stmt.ind fun x ih hx=>by
 have:=x.tot_eq
 exact D6 x.Body (by omega) (by omega) fun y hy=>ih y hy (by have:=az Stmt.tot hy;omega)
mutual
def boxS (out:List Rng):Stmt→List Rng × Bool
 | ⟨K,S,_,_,Lo,Hi,B⟩=>if K=3∧(dO Lo).isSome=true∧(dO Hi).isSome=true then uo (out++[⟨S,(dO Lo).getD 0,(dO Hi).getD 0⟩]) B else (out,false)
def uo (out:List Rng):List Stmt→List Rng × Bool
 | []=>(out,true)
 | s::l=>if s.K=3 then (if (boxS out s).2=true then uo (boxS out s).1 l else (out,false)) else uo out l
end
theorem Gn (out:List Rng) (x:Stmt):boxS out x=if x.K=3∧(dO x.Lo).isSome=true∧(dO x.Hi).isSome=true then uo (out++[⟨x.S,(dO x.Lo).getD 0,(dO x.Hi).getD 0⟩]) x.Body else (out,false):=by
 cases x;rw[boxS]
def pq (out:List Rng) (r p:List Rng × Bool):Prop:=r.2=p.2∧(p.2=true→r.1=out++p.1)
theorem Rz {l:List Stmt} (h:∀ x∈l,∀ out,pq out (boxS out x) ((kC x).1,decide (x.K=3)&&(kC x).2)):∀ out,pq out (uo out l) (jk l):=by
 induction l with
 | nil=>intro out;simp[pq,uo,jk]
 | cons s l ih =>
  intro out
  have hs:=h s (by simp) out
  have ih:=ih fun x hx=>h x (by simp[hx])
  have e:jk (s::l)=((kC s).1++(jk l).1,(kC s).2&&(jk l).2):=by simp[jk]
  rw[e]
  by_cases c:s.K=3
  ·rw[uo,if_pos c]
   simp only[pq,c,decide_true,Bool.true_and] at hs ⊢
   cases hb:(kC s).2
   ·rw[hs.1,hb];simp
   ·rw[hs.1,hb,if_pos rfl]
    have:=ih (boxS out s).1
    rw[hs.2 hb] at this ⊢
    simp only[pq] at this
    simpa using this
  ·rw[uo,if_neg c]
   have e2:kC s=([],true):=by rw[tu,if_neg c]
   rw[e2];simpa using ih out
theorem Ry:∀ x:Stmt,∀ out,pq out (boxS out x) ((kC x).1,decide (x.K=3)&&(kC x).2):=Stmt.ind fun x ih out=>by
 rw[Gn,tu]
 by_cases c:x.K=3
 ·simp only[c,true_and,if_true,decide_true,Bool.true_and]
  cases h1:(dO x.Lo).isSome
  ·simp[pq]
  cases h2:(dO x.Hi).isSome
  ·simp[pq]
  have:=Rz ih (out++[⟨x.S,(dO x.Lo).getD 0,(dO x.Hi).getD 0⟩])
  simpa [pq] using this
 ·simp[c,pq]
theorem Ji:∀ x:Stmt,∀ out,(boxS out x).1.length≤out.length+1+x.tot:=Stmt.ind fun x ih out=>by
 rw[Gn,x.tot_eq]
 have key:∀ l:List Stmt,(∀ y∈l,∀ out,(boxS out y).1.length≤out.length+1+y.tot)→∀ out,(uo out l).1.length≤out.length+l.length+(l.map Stmt.tot).sum:=by
  intro l
  induction l with
  | nil=>intro _ out;simp[uo]
  | cons y l ihl =>
   intro hy out
   have h1:=hy y (by simp) out
   have h2:=ihl (fun z hz=>hy z (by simp[hz]))
   rw[uo]
   simp only[List.length_cons,List.map_cons,List.sum_cons]
   split
   ·split
    ·have:=h2 (boxS out y).1;omega
    ·simp only;omega
   ·have:=h2 out;omega
 split
 ·have:=key _ ih (out++[⟨x.S,(dO x.Lo).getD 0,(dO x.Hi).getD 0⟩])
  simp only[List.length_append,List.length_cons,List.length_nil] at this
  omega
 ·simp only;omega
theorem RD (l:List Stmt) (out:List Rng):(uo out l).1.length≤out.length+l.length+(l.map Stmt.tot).sum:=by
 induction l generalizing out with
 | nil=>simp[uo]
 | cons y l ihl =>
  have h1:=Ji y out
  rw[uo]
  simp only[List.length_cons,List.map_cons,List.sum_cons]
  split
  ·split
   ·have:=ihl (boxS out y).1;omega
   ·simp only;omega
  ·have:=ihl out;omega
def JW (r:List Rng × Bool):AV:=.tup [none,none] [if r.2=true then .osl 0 190 r.1.length (Ows (r.1.flatMap Rng.d)) else .rsl r.1.length [],.bool r.2]
theorem aPQ {l:List Rng}:JW (l,true)=.tup [none,none] [.osl 0 190 l.length (Ows (l.flatMap Rng.d)),.bool true]:=rfl
theorem aPR {l:List Rng}:JW (l,false)=.tup [none,none] [.rsl l.length [],.bool false]:=rfl
theorem aBW {g:Nat} {args:List AV} {l:List Rng} (h:Says prog g args (.tup [none,none] [.osl 0 190 l.length (Ows (l.flatMap Rng.d)),.bool false]) []):Says prog g args (JW (l,false)) [] :=
 Ie (fun w Φ σ cv f hv=>⟨_,Qq hv,fun b=>Nat.zero_le _⟩) rfl rfl h
theorem aBV {g:Nat} {args:List AV} {l:List Rng} (h:Says prog g args (.tup [none,none] [.rsl l.length (Cs (l.flatMap Rng.d)),.bool false]) []):Says prog g args (JW (l,false)) [] :=
 Ie (fun w Φ σ cv f hv=>⟨f,Ig hv,fun b=>Nat.le_refl _⟩) rfl rfl h
theorem Rx:∀ (x:Stmt),x.tot≤10000000→∀ out:List Rng,out.length+1+x.tot≤100000000→Says prog 230 [.rsl out.length (Cs (out.flatMap Rng.d)),.agg (Cs x.d)] (JW (boxS out x)) []:=Stmt.ind fun x ih hx out ho=>by
 have hxe:=x.tot_eq
 have fL:=Aw x.Lo (by omega)
 have fH:=Aw x.Hi (by omega)
 rw[Gn]
 generalize hlo:dO x.Lo=lo at fL ⊢
 generalize hhi:dO x.Hi=hi at fH ⊢
 simp[nY] at fL fH
 by_cases c:x.K=3∧lo.isSome=true∧hi.isSome=true
 ·obtain⟨c1,c2,c3⟩:=c
  rw[if_pos ⟨c1,c2,c3⟩]
  rw[c2] at fL
  rw[c3] at fH
  have hbl:=RD x.Body (out++[⟨x.S,lo.getD 0,hi.getD 0⟩])
  have hcl:(List.flatMap Rng.d out).length=out.length*3:=dV Rng.d 3 Rng.d_len out
  have hb0:out.length≤bnd:=by unfold bnd;omega
  have hb1:out.length+1≤bnd:=by unfold bnd;omega
  have main:∀ R0,(∀ r,uo (out++[⟨x.S,lo.getD 0,hi.getD 0⟩]) x.Body=r→R0=.tup [none,none] [.osl 0 190 r.1.length (Ows (r.1.flatMap Rng.d)),.bool r.2])→Says prog 230 [.rsl out.length (Cs (out.flatMap Rng.d)),.agg (Cs x.d)] R0 []:=by
   intro R0 hR
   refine aP Go.Proofs.Tryz.func230 afI ?_
   simp[XA,XV,splice]
   refine ai fL ?_
   simp
   refine ai fH ?_
   simp[c1,hb0,hb1,splice,hcl,-List.length_flatMap]
   refine LM (α:=Nat × List Rng) (l:=Un) (b:=We) rfl [13,14] (fun a=>[(0,.osl 0 190 a.2.length (Ows (a.2.flatMap Rng.d))),(10,.int .i64 a.1)]) (fun a=>x.Body.length-a.1)
    (fun a=>a.1≤x.Body.length∧uo a.2 (x.Body.drop a.1)=uo (out++[⟨x.S,lo.getD 0,hi.getD 0⟩]) x.Body∧a.2.length+(x.Body.drop a.1).length+((x.Body.drop a.1).map Stmt.tot).sum≤out.length+1+x.tot) (0,out++[⟨x.S,lo.getD 0,hi.getD 0⟩]) ⟨by simp,by simp,by simp;omega⟩ (by simp[LW]) ?_
   rintro⟨i,o⟩ ⟨hi,hI,hJ⟩ q hn hx hr
   simp only at hi hI hJ
   have hR:=hR _ hI.symm
   by_cases hil:i<x.Body.length
   ·obtain⟨y,hy0⟩:=ax hil
    have hrow:=row_drop Stmt.d 19 Stmt.d_len hy0
    have hw:=wrap_succ (i:=i) (by omega)
    have hm:=List.mem_of_getElem? hy0
    have hyt:=az Stmt.tot hm
    rw[drop_cons hy0,uo] at hI hR
    rw[drop_cons hy0] at hJ
    simp only[List.length_cons,List.map_cons,List.sum_cons] at hJ
    by_cases d1:y.K=3
    ·rw[if_pos d1] at hI hR
     have f:=ih y hm (by omega) o (by omega)
     have hbl:=Ji y o
     generalize boxS o y=r at f hI hR hbl
     obtain⟨r1,r2⟩:=r
     simp[d1] at f
     cases r2
     ·simp at hR
      simp[JW] at f
      simp[hil,aj,hrow,d1]
      refine ai f ?_
      simp
      refine hr _ ?_
      simp[hR]
     ·simp only[if_true] at hI hR
      simp[JW] at f
      simp[hil,aj,hrow,d1]
      refine ai f ?_
      simp[hw]
      simp only at hbl
      exact hn _ (i+1,r1) (by simp) ⟨by omega,hI,by simp only;omega⟩ (by simp only;omega)
    ·rw[if_neg d1] at hI hR
     simp[hil,aj,hrow,d1,hw]
     exact hn _ (i+1,o) (by simp) ⟨by omega,hI,by simp only;omega⟩ (by simp only;omega)
   ·have hie:i=x.Body.length:=by omega
    subst hie
    simp[uo] at hR
    simp
    refine hx _ _ ?_
    simp[hR]
  generalize hr:uo (out++[⟨x.S,lo.getD 0,hi.getD 0⟩]) x.Body=r at main
  obtain⟨r1,r2⟩:=r
  have:=main _ (fun r' h=>by rw[←h])
  cases r2
  ·exact aBW this
  ·exact this
 ·rw[if_neg c]
  refine aBV ?_
  refine aP Go.Proofs.Tryz.func230 afI ?_
  by_cases c1:x.K=3
  ·cases c2:lo.isSome
   ·rw[c2] at fL
    simp[XA,XV,splice]
    refine ai fL ?_
    simp
    refine ai fH ?_
    simp[c1]
   ·cases c3:hi.isSome
    ·rw[c2] at fL
     rw[c3] at fH
     simp[XA,XV,splice]
     refine ai fL ?_
     simp
     refine ai fH ?_
     simp[c1]
    ·exact absurd ⟨c1,c2,c3⟩ c
  ·simp[XA,XV,splice]
   refine ai fL ?_
   simp
   refine ai fH ?_
   simp[c1]
def jA (x:Stmt):Option (List Rng):=if x.K=3∧(kC x).2=true∧iV (kC x).1=true then some (kC x).1 else none
theorem Bj:∀ x:Stmt,∀ r∈(kC x).1,r.Name.length≤x.tot:=Stmt.ind fun x ih r hr=>by
 rw[tu] at hr
 rw[x.tot_eq]
 split at hr
 ·rcases List.mem_cons.1 hr with rfl|hr
  ·simp only;omega
  ·simp only[jk,List.mem_flatMap,List.mem_map] at hr
   obtain⟨_,⟨y,hy,rfl⟩,hr⟩:=hr
   have h1:=ih y hy r hr
   have h2:=az Stmt.tot hy
   omega
 ·simp at hr
theorem sJ {x:Stmt} {l:List Rng} (h:jA x=some l):1≤l.length∧l.length≤8∧iV l=true:=by
 unfold jA at h
 split at h
 ·rename_i hc;obtain⟨h1,h2,h3⟩:=hc
  cases h
  refine⟨?_,?_,h3⟩
  ·rw[tu,if_pos h1];simp
  ·unfold iV boxOk at h3
   simp only[Bool.and_eq_true,decide_eq_true_eq] at h3
   exact h3.2.2
 ·cases h
def qB (o:Option (List Rng)):AV:=oI (o.getD [],o.isSome)
theorem AP (x:Stmt) (hx:x.tot≤5000000):Says prog 188 [.agg (Cs x.d)] (qB (jA x)) []:=by
 have h1:(jk [x])=kC x:=by simp[jk]
 have f:=D6 [x] (by simp) (by simp;omega) (fun y hy=>by simp at hy;subst hy;exact OT y (by omega))
 rw[h1] at f
 have hll:=Bl x
 have fF:=ED (kC x).1 (by omega) (fun r hr=>by have:=Bj x r hr;omega)
 refine aP Go.Proofs.Tryz.func188 aGp ?_
 by_cases c:x.K=3
 ·have e:jA x=if (kC x).2=true∧iV (kC x).1=true then some (kC x).1 else none:=by unfold jA;simp[c]
  rw[e]
  generalize kC x=r at f fF ⊢
  obtain⟨r1,r2⟩:=r
  simp[oI,c] at f
  simp at fF
  simp only
  have hsc:=LW r1
  cases r2
  ·simp[afn,afz,c,splice]
   refine ai f ?_
   simp[qB,oI]
  ·simp[afn,afz,c,splice]
   refine ai f ?_
   simp
   refine ai fF ?_
   cases hz:iV r1
   ·simp[qB,oI]
   ·simp[qB,oI]
 ·have e:jA x=none:=by unfold jA;simp[c]
  rw[e]
  simp[afn,afz,c,qB,oI]
theorem qw (x:Stmt) (hx:x.tot≤5000000):Says prog 160 [.agg (Cs x.d)] (qB (jA x)) []:=by
 have f:=Rx x (by omega) [] (by simp;omega)
 obtain⟨k1,k2⟩:=Ry x []
 have hll:=Bl x
 have fF:=xN (kC x).1 (by omega) (fun r hr=>by have:=Bj x r hr;omega)
 have e:jA x=if (decide (x.K=3)&&(kC x).2)=true∧iV (kC x).1=true then some (kC x).1 else none:=by unfold jA;simp[and_assoc]
 rw[e]
 simp only at k1 k2
 refine aP Go.Proofs.Tryz.func160 aGD ?_
 generalize (decide (x.K=3)&&(kC x).2)=b at k1 k2 ⊢
 generalize boxS [] x=r at f k1 k2
 obtain⟨r1,r2⟩:=r
 simp only at k1 k2
 subst k1
 cases r2
 ·simp[JW] at f
  simp[v160,aDk,splice]
  refine ai f ?_
  simp[qB,oI]
 ·obtain rfl:=k2 rfl
  simp only[List.nil_append] at f
  generalize (kC x).1=r1 at f fF ⊢
  simp[JW] at f
  try simp at fF
  simp[v160,aDk,splice]
  refine ai f ?_
  simp
  refine ai fF ?_
  cases hz:iV r1
  ·simp[qB,oI]
  ·simp[qB,oI]
end Go.AmC
