import Derived.Test.YtafglhcclmbnbaaGreatSwapAllOrdS
import Derived.Test.YtafglhcclmbnbaaGreatSwapAllAsked
import Derived.Test.YtafglhcclmbnbaaGreatAmGrow
import Derived.Test.YtafglhcclmbnbaaGreatSwapAllExpsN
import Derived.Test.YtafglhcclmbnbaaGreatSwapAllSize
set_option linter.unusedSimpArgs false
set_option linter.unusedVariables false
set_option maxRecDepth 20000
set_option maxHeartbeats 4000000
namespace Go.AmC
open Go Go.AM
open Go.Proofs.Tryz (prog)
def aO (l:List Arr):List Nm:=l.map Arr.Name
def mZ (p:Prog) (n:Nm):Int:=idxOf n (aO p.Arrs) 0
theorem Q9 (s:Nm):∀ (l:List Nm) (i:Nat),idxOf s l i=-1∨(i:Int)≤idxOf s l i∧idxOf s l i<(i+l.length:Nat)
 | [],i=>by simp[idxOf]
 | x::xs,i=>by
  by_cases c:x=s
  ·right;simp[idxOf,c];omega
  ·have:=Q9 s xs (i+1)
   simp only[idxOf,if_neg c,List.length_cons]
   omega
theorem vV (p:Prog) (n:Nm):(0≤mZ p n)↔n∈aO p.Arrs:=pI n (aO p.Arrs) 0
theorem AX (p:Prog) (n:Nm) (hp:p.Arrs.length≤4000000000):Says prog 185 [.agg (Cs p.d),.str n] (.int .i64 (mZ p n)) []:=by
 refine aP Go.Proofs.Tryz.func185 aGr ?_
 generalize hR:mZ p n=R0
 unfold mZ at hR
 simp[aMV,aON]
 refine aZ (l:=Uy) (b:=Ws) rfl [5,6] (fun i=>[(4,.int .i64 i)]) (fun i=>idxOf n (aO (p.Arrs.drop i)) i=R0) p.Arrs.length (by simpa using hR) (by simp) ?_ ?_
 ·intro i hi hI q hn hx hr
  obtain⟨x,hx0⟩:=ax hi
  have hrow:=row_drop Arr.d 2 Arr.d_len hx0
  have hw:=wrap_succ (i:=i) (by omega)
  rw[drop_cons hx0] at hI
  simp only[aO,List.map_cons,idxOf] at hI
  by_cases c:x.Name=n
  ·simp[hi,aj,hrow,c]
   refine hr _ ?_
   rw[if_pos c] at hI
   simp[hI]
  ·simp[hi,aj,hrow,c,hw]
   rw[if_neg c] at hI
   exact hn _ (by simp) hI
 ·intro hI q hx hr
  simp[aO,idxOf] at hI
  simp
  refine hx _ _ ?_
  simp[hI]
theorem KQ (r:Arr) (n:Nm):Says prog 297 [.agg (Cs r.d),.rp [.str n]] (.bool (r.Name==n)) []:=by
 refine aP Go.Proofs.Tryz.func297 aFz ?_
 simp[aMs,aOc]
theorem Ph (l:List Arr) (n:Nm) (hl:l.length≤4000000000):Says prog 296 [.rsl l.length (Cs (l.flatMap Arr.d)),.fn 297 [.rp [.str n]]] (.int .i64 (idxOf n (aO l) 0)) []:=by
 refine aP Go.Proofs.Tryz.func296 aFA ?_
 have pl:aY prog 297=true:=by kernel_rfl
 generalize hR:idxOf n (aO l) 0=R0
 simp[aMt,aOd]
 refine aZ (l:=Uc) (b:=VW) rfl [6] (fun i=>[(4,.int .i64 i)]) (fun i=>idxOf n (aO (l.drop i)) i=R0) l.length (by simpa using hR) (by simp) ?_ ?_
 ·intro i hi hI q hn hx hr
  obtain⟨x,hx0⟩:=ax hi
  have hrow:=row_drop Arr.d 2 Arr.d_len hx0
  have hw:=wrap_succ (i:=i) (by omega)
  rw[drop_cons hx0] at hI
  simp only[aO,List.map_cons,idxOf] at hI
  have f:=KQ x n
  simp at f
  simp[hi,aj,hrow]
  refine Lp pl f ?_
  by_cases c:x.Name=n
  ·simp[c]
   refine hr _ ?_
   rw[if_pos c] at hI
   simp[hI]
  ·simp[c,hw]
   rw[if_neg c] at hI
   exact hn _ (by simp) hI
 ·intro hI q hx hr
  simp[aO,idxOf] at hI
  simp
  refine hx _ _ ?_
  simp[hI]
theorem AY (p:Prog) (n:Nm) (hp:p.Arrs.length≤4000000000):Says prog 236 [.agg (Cs p.d),.str n] (.int .i64 (mZ p n)) []:=by
 have f:=Ph p.Arrs n hp
 refine aP Go.Proofs.Tryz.func236 aF7 ?_
 change Says _ _ _ (.int .i64 (mZ p n)) _ at f
 generalize mZ p n=R at f ⊢
 try simp at f
 simp[v236,aOw]
 refine ai f ?_
 simp
theorem pM (p:Prog) (ns:List Nm) (hp:p.Arrs.length≤4000000000) (hn:ns.length≤4000000000):Says prog 194 [.agg (Cs p.d),.rsl ns.length (Cs (ns.flatMap bG))] (.tup [none,none] [.bool (ns.all fun n=>decide (n∈aO p.Arrs)),.bool (ns.any fun n=>decide (n∈aO p.Arrs))]) []:=by
 refine aP Go.Proofs.Tryz.func194 aGk ?_
 simp only[v194,aOH]
 simp
 refine aZ (l:=Uu) (b:=Wn) rfl [11,12] (fun i=>[(5,.bool ((ns.take i).all fun n=>decide (n∈aO p.Arrs))),(6,.bool ((ns.take i).any fun n=>decide (n∈aO p.Arrs))),(9,.int .i64 i)]) (fun i=>True) ns.length trivial (by simp) ?_ ?_
 ·intro i hi hI q hn hx hr
  obtain⟨x,hx0⟩:=ax hi
  have hrow:=row_drop bG 1 (fun _=>by simp) hx0
  rw[Nat.mul_one] at hrow
  have hw:=wrap_succ (i:=i) (by omega)
  have f:=AY p x hp
  have hd:=vV p x
  have e1:(ns.take (i+1)).all (fun n=>decide (n∈aO p.Arrs))=((ns.take i).all (fun n=>decide (n∈aO p.Arrs))&&decide (x∈aO p.Arrs)):=by rw[List.take_add_one,hx0];simp
  have e2:(ns.take (i+1)).any (fun n=>decide (n∈aO p.Arrs))=((ns.take i).any (fun n=>decide (n∈aO p.Arrs))||decide (x∈aO p.Arrs)):=by rw[List.take_add_one,hx0];simp
  rw[e1,e2] at hn
  generalize (ns.take i).all (fun n=>decide (n∈aO p.Arrs))=A at hn ⊢
  generalize (ns.take i).any (fun n=>decide (n∈aO p.Arrs))=B at hn ⊢
  generalize mZ p x=z at f hd
  simp at f
  by_cases c:x∈aO p.Arrs
  ·have cz:0≤z:=hd.2 c
   have c1:decide (x∈aO p.Arrs)=true:=decide_eq_true c
   rw[c1] at hn
   cases A<;>cases B<;>simp[hi,aj,hrow]<;>refine ai f ?_<;>simp[cz,hw]<;>exact hn _ (by simp) trivial
  ·have cz:¬0≤z:=fun h=>c (hd.1 h)
   have c1:decide (x∈aO p.Arrs)=false:=decide_eq_false c
   rw[c1] at hn
   cases A<;>cases B<;>simp[hi,aj,hrow]<;>refine ai f ?_<;>simp[cz,hw]<;>exact hn _ (by simp) trivial
 ·intro hI q hx hr
  rw[List.take_length]
  generalize ns.all (fun n=>decide (n∈aO p.Arrs))=A at hx hr ⊢
  generalize ns.any (fun n=>decide (n∈aO p.Arrs))=B at hx hr ⊢
  simp
  refine hx _ _ ?_
  simp
theorem ER (p:Prog) (ns:List Nm) (hp:p.Arrs.length≤4000000000) (hn:ns.length≤4000000000):Says prog 112 [.agg (Cs p.d),.rsl ns.length (Cs (ns.flatMap bG))] (.bool (ns.all fun n=>decide (n∈aO p.Arrs))) []:=by
 refine aP Go.Proofs.Tryz.func112 aGS ?_
 generalize hR:(ns.all fun n=>decide (n∈aO p.Arrs))=R0
 simp[aM9,aO9]
 refine aZ (l:=UX) (b:=WU) rfl [5,6] (fun i=>[(4,.int .i64 i)]) (fun i=>(ns.take i).all (fun n=>decide (n∈aO p.Arrs))=true) ns.length (by simp) (by simp) ?_ ?_
 ·intro i hi hI q hn hx hr
  obtain⟨x,hx0⟩:=ax hi
  have hrow:=row_drop bG 1 (fun _=>by simp) hx0
  rw[Nat.mul_one] at hrow
  have hw:=wrap_succ (i:=i) (by omega)
  have f:=AX p x hp
  have hd:=vV p x
  generalize mZ p x=z at f hd
  simp at f
  by_cases c:x∈aO p.Arrs
  ·have cz:¬z<0:=by have:=hd.2 c;omega
   simp[hi,aj,hrow]
   refine ay f ?_
   simp[cz,hw]
   exact hn _ (by simp) (je hI hx0 (decide_eq_true c))
  ·have cz:z<0:=by have:¬0≤z:=fun h=>c (hd.1 h);omega
   simp[hi,aj,hrow]
   refine ay f ?_
   simp[cz]
   refine hr _ ?_
   have:=kF (p:=fun n=>decide (n∈aO p.Arrs)) hx0 (decide_eq_false c)
   simp[←hR,this]
 ·intro hI q hx hr
  rw[List.take_length] at hI
  simp
  refine hx _ _ ?_
  simp[←hR,hI]
theorem apart_spec (a b:List Nm) (ha:a.length≤4000000000) (hb:b.length≤4000000000):Says prog 114 [.rsl a.length (Cs (a.flatMap bG)),.rsl b.length (Cs (b.flatMap bG))] (.bool (a.all fun n=>!decide (n∈b))) []:=by
 refine aP Go.Proofs.Tryz.func114 aGR ?_
 generalize hR:(a.all fun n=>!decide (n∈b))=R0
 simp[aM8,aO8]
 refine aZ (l:=UW) (b:=WT) rfl [4,5] (fun i=>[(3,.int .i64 i)]) (fun i=>(a.take i).all (fun n=>!decide (n∈b))=true) a.length (by simp) (by simp) ?_ ?_
 ·intro i hi hI q hn hx hr
  obtain⟨x,hx0⟩:=ax hi
  have hrow:=row_drop bG 1 (fun _=>by simp) hx0
  rw[Nat.mul_one] at hrow
  have hw:=wrap_succ (i:=i) (by omega)
  have f:=wH b x hb
  cases c:decide (x∈b)
  ·rw[c] at f
   simp[hi,aj,hrow]
   refine ai f ?_
   simp[hw]
   exact hn _ (by simp) (je hI hx0 (by simp[c]))
  ·rw[c] at f
   simp[hi,aj,hrow]
   refine ai f ?_
   simp
   refine hr _ ?_
   have:=kF (p:=fun n=>!decide (n∈b)) hx0 (by simp[c])
   simp[←hR,this]
 ·intro hI q hx hr
  rw[List.take_length] at hI
  simp
  refine hx _ _ ?_
  simp[←hR,hI]
mutual
def nO (ar:List Nm):Stmt→Bool
 | ⟨K,S,At,E,Lo,Hi,B⟩=>if K=3 then !decide (S∈ar)&&ku (ar++[S]) B else true
def ku (ar:List Nm):List Stmt→Bool
 | []=>true
 | x::l=>nO ar x&&ku ar l
end
theorem lm (ar:List Nm) (x:Stmt):nO ar x=if x.K=3 then !decide (x.S∈ar)&&ku (ar++[x.S]) x.Body else true:=by cases x;rw[nO]
theorem BG (ar:List Nm):∀ l:List Stmt,ku ar l=l.all (nO ar)
 | []=>by simp[ku]
 | x::l=>by simp[ku,BG ar l]
theorem kM:∀ xs:List Nm,Cs (xs.flatMap bG)=Ows (xs.flatMap bG)
 | []=>by simp
 | x::xs=>by have:=kM xs;simp only[List.flatMap_cons,oQ,gU,this];simp
theorem kT (xs:List Nm):(xs.flatMap bG).length=xs.length:=by simpa using dV bG 1 (fun _=>by simp) xs
theorem Ia (xs:List Nm) (hl:xs.length≤4000000000):Says prog 266 [.rsl xs.length (Cs (xs.flatMap bG))] (.osl 0 9 xs.length (Ows (xs.flatMap bG))) []:=by
 cases xs with
 | nil =>
  refine Jr 0 (by simp) fun t=>?_
  refine aP Go.Proofs.Tryz.func266 afH ?_
  cases t<;>simp[aCC,aC8]
 | cons x xs =>
  refine aP Go.Proofs.Tryz.func266 afH ?_
  have h1:=kT (x::xs)
  have h2:=kM (x::xs)
  have hb:xs.length+1≤bnd:=by unfold bnd;simp at hl;omega
  simp only[List.length_cons] at h1 ⊢
  generalize List.flatMap bG (x::xs)=A at h1 h2 ⊢
  simp[aCC,aC8,nZ,h1,hb,h2]
theorem zW (l:List Stmt) (hl:l.length+(l.map Stmt.tot).sum≤5000000) (ar:List Nm) (ha:ar.length+(l.map fun x=>1+x.tot).sum≤20000000)
  (hrec:∀ x∈l,∀ ar:List Nm,ar.length+(x.Body.map fun x=>1+x.tot).sum≤20000000→Says prog 199 [.rsl x.Body.length (Cs (x.Body.flatMap Stmt.d)),.rsl ar.length (Cs (ar.flatMap bG))] (.bool (ku ar x.Body)) []) :
  Says prog 199 [.rsl l.length (Cs (l.flatMap Stmt.d)),.rsl ar.length (Cs (ar.flatMap bG))] (.bool (ku ar l)) []:=by
 refine aP Go.Proofs.Tryz.func199 aGf ?_
 rw[BG]
 generalize hRR:l.all (nO ar)=R
 simp[aMO,aOC]
 refine aZ (l:=Ur) (b:=Wi) rfl [7,8,9] (fun i=>[(5,.int .i64 i)]) (fun i=>(l.take i).all (nO ar)=true) l.length (by simp) (by simp) ?_ ?_
 ·intro i hi hI q hn hx hr
  obtain⟨y,hy0⟩:=ax hi
  have hrow:=row_drop Stmt.d 19 Stmt.d_len hy0
  have hw:=wrap_succ (i:=i) (by omega)
  have hym:=List.mem_of_getElem? hy0
  have hms:=az (fun x:Stmt=>1+x.tot) hym
  have hw1:=wt1 y
  by_cases k:y.K=3
  ·have f1:=BJ ar y.S (by omega)
   have f2:=Ia ar (by omega)
   have f3:=hrec y hym (ar++[y.S]) (by simp only[List.length_append,List.length_cons,List.length_nil];omega)
   have hb:ar.length+1≤bnd:=by unfold bnd;omega
   simp at f3
   cases c:decide (y.S∈ar)
   ·rw[c] at f1
    cases c2:ku (ar++[y.S]) y.Body
    ·rw[c2] at f3
     have hb2:nO ar y=false:=by rw[lm,if_pos k,c,c2];rfl
     simp[hi,aj,hrow,splice,k]
     refine ay f1 ?_
     simp
     refine ay f2 ?_
     simp[hb]
     refine ay f3 ?_
     simp
     refine hr _ ?_
     simp[←hRR,kF hy0 hb2]
    ·rw[c2] at f3
     have hb2:nO ar y=true:=by rw[lm,if_pos k,c,c2];rfl
     simp[hi,aj,hrow,splice,k]
     refine ay f1 ?_
     simp
     refine ay f2 ?_
     simp[hb]
     refine ay f3 ?_
     simp[hw]
     exact hn _ (by simp) (je hI hy0 hb2)
   ·rw[c] at f1
    have hb2:nO ar y=false:=by rw[lm,if_pos k,c];rfl
    simp[hi,aj,hrow,splice,k]
    refine ay f1 ?_
    simp
    refine hr _ ?_
    simp[←hRR,kF hy0 hb2]
  ·have hb2:nO ar y=true:=by rw[lm,if_neg k]
   simp[hi,aj,hrow,splice,k,hw]
   exact hn _ (by simp) (je hI hy0 hb2)
 ·intro hI q hx hr
  rw[List.take_length] at hI
  simp
  refine hx _ _ ?_
  simp[←hRR,hI]
theorem J5:∀ x:Stmt,x.tot≤5000000→∀ ar:List Nm,ar.length+(x.Body.map fun x=>1+x.tot).sum≤20000000→Says prog 199 [.rsl x.Body.length (Cs (x.Body.flatMap Stmt.d)),.rsl ar.length (Cs (ar.flatMap bG))] (.bool (ku ar x.Body)) []:=Stmt.ind fun x ih hx ar ha=>by
 have ht:=x.tot_eq
 exact zW x.Body (by omega) ar ha (fun y hy=>ih y hy (by have:=az Stmt.tot hy;omega))
theorem OZ (l:List Stmt) (hl:l.length+(l.map Stmt.tot).sum≤5000000):Says prog 199 [.rsl l.length (Cs (l.flatMap Stmt.d)),.rsl 0 []] (.bool (ku [] l)) []:=by
 simpa using zW l hl [] (by rw[wP];simp;omega) (fun y hy=>J5 y (by have:=az Stmt.tot hy;omega))
theorem zV (l:List Stmt) (hl:l.length+(l.map Stmt.tot).sum≤5000000) (ar:List Nm) (ha:ar.length+(l.map fun x=>1+x.tot).sum≤20000000)
  (hrec:∀ x∈l,∀ ar:List Nm,ar.length+(x.Body.map fun x=>1+x.tot).sum≤20000000→Says prog 116 [.rsl x.Body.length (Cs (x.Body.flatMap Stmt.d)),.rsl ar.length (Cs (ar.flatMap bG))] (.bool (ku ar x.Body)) []) :
  Says prog 116 [.rsl l.length (Cs (l.flatMap Stmt.d)),.rsl ar.length (Cs (ar.flatMap bG))] (.bool (ku ar l)) []:=by
 refine aP Go.Proofs.Tryz.func116 aGP ?_
 rw[BG]
 generalize hRR:l.all (nO ar)=R
 simp[aM6,aO6]
 refine aZ (l:=UV) (b:=WS) rfl [4,5,6] (fun i=>[(2,.bool false),(3,.int .i64 i)]) (fun i=>(l.take i).all (nO ar)=true) l.length (by simp) (by simp) ?_ ?_
 ·intro i hi hI q hn hx hr
  obtain⟨y,hy0⟩:=ax hi
  have hrow:=row_drop Stmt.d 19 Stmt.d_len hy0
  have hw:=wrap_succ (i:=i) (by omega)
  have hym:=List.mem_of_getElem? hy0
  have hms:=az (fun x:Stmt=>1+x.tot) hym
  have hw1:=wt1 y
  by_cases k:y.K=3
  ·have f1:=wH ar y.S (by omega)
   have f3:=hrec y hym (ar++[y.S]) (by simp only[List.length_append,List.length_cons,List.length_nil];omega)
   have hb:ar.length+1≤bnd:=by unfold bnd;omega
   have hb0:ar.length≤bnd:=by omega
   have hl1:=kT ar
   have hl2:=kM ar
   simp at f3
   rw[hl2] at f3
   cases c:decide (y.S∈ar)
   ·rw[c] at f1
    cases c2:ku (ar++[y.S]) y.Body
    ·rw[c2] at f3
     have hb2:nO ar y=false:=by rw[lm,if_pos k,c,c2];rfl
     simp[hi,aj,hrow,splice,k]
     refine ay f1 ?_
     simp[hi,aj,hrow,splice,hb,hb0,nZ,hl1,hl2]
     refine ay f3 ?_
     simp
     refine hr _ ?_
     simp[←hRR,kF hy0 hb2]
    ·rw[c2] at f3
     have hb2:nO ar y=true:=by rw[lm,if_pos k,c,c2];rfl
     simp[hi,aj,hrow,splice,k]
     refine ay f1 ?_
     simp[hi,aj,hrow,splice,hb,hb0,nZ,hl1,hl2]
     refine ay f3 ?_
     simp[hw]
     rw[←hl2]
     exact hn _ (by simp) (je hI hy0 hb2)
   ·rw[c] at f1
    have hb2:nO ar y=false:=by rw[lm,if_pos k,c];rfl
    simp[hi,aj,hrow,splice,k]
    refine ay f1 ?_
    simp
    refine hr _ ?_
    simp[←hRR,kF hy0 hb2]
  ·have hb2:nO ar y=true:=by rw[lm,if_neg k]
   simp[hi,aj,hrow,splice,k,hw]
   exact hn _ (by simp) (je hI hy0 hb2)
 ·intro hI q hx hr
  rw[List.take_length] at hI
  simp
  refine hx _ _ ?_
  simp[←hRR,hI]
theorem J4:∀ x:Stmt,x.tot≤5000000→∀ ar:List Nm,ar.length+(x.Body.map fun x=>1+x.tot).sum≤20000000→Says prog 116 [.rsl x.Body.length (Cs (x.Body.flatMap Stmt.d)),.rsl ar.length (Cs (ar.flatMap bG))] (.bool (ku ar x.Body)) []:=Stmt.ind fun x ih hx ar ha=>by
 have ht:=x.tot_eq
 exact zV x.Body (by omega) ar ha (fun y hy=>ih y hy (by have:=az Stmt.tot hy;omega))
theorem OY (l:List Stmt) (hl:l.length+(l.map Stmt.tot).sum≤5000000):Says prog 116 [.rsl l.length (Cs (l.flatMap Stmt.d)),.rsl 0 []] (.bool (ku [] l)) []:=by
 simpa using zV l hl [] (by rw[wP];simp;omega) (fun y hy=>J4 y (by have:=az Stmt.tot hy;omega))
theorem nH (l:List Stmt) (hl:l.length+(l.map Stmt.tot).sum≤5000000):Says prog 109 [.rsl l.length (Cs (l.flatMap Stmt.d))] (.osl 0 9 (varsOf l).length (Ows ((varsOf l).flatMap bG))) []:=by
 have f:=bC (pG 1 l hl)
 refine aP Go.Proofs.Tryz.func109 aGV ?_
 unfold varsOf
 generalize nrm (colS (ofK 1) l)=R at f ⊢
 simp at f
 simp[v109,aPc]
 refine bn [.gone] XY f ?_
 simp
theorem CW (l:List Stmt) (hl:l.length+(l.map Stmt.tot).sum≤5000000):Says prog 110 [.rsl l.length (Cs (l.flatMap Stmt.d))] (.osl 0 9 (cu l).length (Ows ((cu l).flatMap bG))) []:=by
 have f:=bC (pG 3 l hl)
 refine aP Go.Proofs.Tryz.func110 aGU ?_
 unfold cu
 generalize nrm (colS (ofK 3) l)=R at f ⊢
 simp at f
 simp[aNb,aPb]
 refine bn [.gone] XY f ?_
 simp
theorem agQ (l:List Stmt):nrm (colS (iC 2) l)=iE l:=NE (Jd (IL 2) l)
def lM (l:List Stmt):List Nm:=nrm (colS (ofK 2) l)
def mP (l:List Stmt):List Nm:=nrm (colS (oP 3) l)
theorem LC (l:List Stmt) (hl:l.length+(l.map Stmt.tot).sum≤5000000):Says prog 115 [.rsl l.length (Cs (l.flatMap Stmt.d))] (.osl 0 9 (iE l).length (Ows ((iE l).flatMap bG))) []:=by
 have f:=bC (PH 2 l hl)
 refine aP Go.Proofs.Tryz.func115 aGQ ?_
 rw[agQ] at f
 generalize iE l=R at f ⊢
 simp at f
 simp[aM7,aO7]
 refine bn [.gone] tC f ?_
 simp
theorem KF (n:Nat) (hn:n≤1000000000):Says prog 265 [.nsl true,.int .i64 n] (.osl 0 9 0 []) [] :=
 Eu Go.Proofs.Tryz.growN (z:=.string ⟨#[]⟩) (size:=1) (bytes:=16) (by kernel_rfl) (by decide) (by decide) (by kernel_rfl) n (by omega) (by omega)
theorem Yr (a b c:List Nm) (h:a.length+(b.length+c.length)≤900000000) :
  Says prog 197 [.rsl 3 [.rsl a.length (Cs (a.flatMap bG)),.rsl b.length (Cs (b.flatMap bG)),.rsl c.length (Cs (c.flatMap bG))]]
   (.osl 0 9 (a.length+(b.length+c.length)) (Ows ((a++(b++c)).flatMap bG))) []:=by
 have f:=KF (a.length+(b.length+c.length)) (by omega)
 have w1:IntKind.i64.wrap ((a.length:Int))=(a.length:Int):=by rw[aA]<;>omega
 have w2:IntKind.i64.wrap ((a.length:Int)+b.length)=((a.length+b.length:Nat):Int):=by rw[aA]<;>omega
 have w3:IntKind.i64.wrap ((a.length:Int)+b.length+c.length)=((a.length+(b.length+c.length):Nat):Int):=by rw[aA]<;>omega
 have la:=kT a
 have lb:=kT b
 have lc:=kT c
 have sa:=kM a
 have sb:=kM b
 have sc:=kM c
 have hb1:a.length≤bnd:=by unfold bnd;omega
 have hb2:a.length+b.length≤bnd:=by unfold bnd;omega
 have hb3:a.length+b.length+c.length≤bnd:=by unfold bnd;omega
 rw[List.flatMap_append,List.flatMap_append]
 generalize List.flatMap bG a=A at la sa ⊢
 generalize List.flatMap bG b=B at lb sb ⊢
 generalize List.flatMap bG c=C at lc sc ⊢
 generalize a.length=x at *
 generalize b.length=y at *
 generalize c.length=z at *
 simp at f
 have p0:0≤(x:Int)+y:=by omega
 have p1:0≤(x:Int)+(y+z):=by omega
 refine aP Go.Proofs.Tryz.func197 aGh ?_
 simp[aMP,aOE]
 refine aZ (l:=Us) (b:=Wj) rfl [6,7,8] (fun i=>[(2,.int .i64 (if i=0 then 0 else if i=1 then (x:Int) else if i=2 then ((x+y:Nat):Int) else ((x+(y+z):Nat):Int))),(5,.int .i64 i)]) (fun i=>True) 3 trivial (by simp) ?_ ?_
 ·intro i hi hI q hn hx hr
  have hw:=wrap_succ (i:=i) (by omega)
  have hq:i=0∨i=1∨i=2:=by omega
  rcases hq with rfl|rfl|rfl
  all_goals
   simp at hw
   simp[w1,w2,w3,hw,p0,p1]
   refine hn _ ?_ trivial
   simp
 ·intro hI q hx hr
  simp
  refine hx _ _ ?_
  simp
  refine ai f ?_
  simp
  refine aZ (l:=Ut) (b:=Wl) rfl [13,14] (fun i=>[(9,if i=0 then .osl 0 9 0 [] else if i=1 then .osl 0 9 x (Ows A) else if i=2 then .osl 0 9 (x+y) (Ows (A++B)) else .osl 0 9 (x+(y+z)) (Ows (A++(B++C)))),(12,.int .i64 i)]) (fun i=>True) 3 trivial (by simp) ?_ ?_
  ·intro i hi hI q hn hx hr
   have hw:=wrap_succ (i:=i) (by omega)
   have hq:i=0∨i=1∨i=2:=by omega
   rcases hq with rfl|rfl|rfl
   all_goals
    simp at hw
    simp[hw,nZ,la,lb,lc,hb1,hb2,hb3]
    refine hn _ ?_ trivial
    simp[sa,sb,sc,Nat.add_assoc]
  ·intro hI q hx hr
   simp
   refine hx _ _ ?_
   simp
set_option maxHeartbeats 8000000
def jI (p:Prog) (l:List Nm):Bool:=l.all fun n=>decide (n∈aO p.Arrs)
def apartB (a b:List Nm):Bool:=a.all fun n=>!decide (n∈b)
def okP (p:Prog):Bool:=headB p&&(jI p (lM p.Body)&&(jI p (mP p.Body)&&(apartB (aO p.Arrs) (varsOf p.Body)&&(apartB (aO p.Arrs) (cu p.Body)&&(apartB (aO p.Arrs) (iE p.Body)&&(apartB (varsOf p.Body) (cu p.Body)&&(ku [] p.Body&&decide ((varsOf p.Body).length≤6))))))))
theorem oZ (k:Int) (l:List Stmt):(nrm (colS (ofK k) l)).length≤l.length+(l.map Stmt.tot).sum:=by
 have h1:=tJ (colS (ofK k) l)
 have h2:=rQ (f:=ofK k) (w:=fun _=>1) (fun x=>by unfold ofK;split<;>simp) (wt:=fun x=>1+x.tot) wt1 l
 rw[wP] at h2
 omega
theorem sK (k:Int) (l:List Stmt):(nrm (colS (oP k) l)).length≤4*l.length+5*(l.map Stmt.tot).sum:=by
 have h1:=tJ (colS (oP k) l)
 have h2:=rQ (f:=oP k) (w:=Dn) (fun x=>by simpa [bI] using Gq k [] x) (wt:=fun x=>4+5*x.tot) nC l
 rw[AU] at h2
 omega
theorem RH (l:List Arr) (i:Nat) (y:Arr) (h:l[i]?=some y):aO (l.take (i+1))=aO (l.take i)++[y.Name]:=by
 rw[List.take_add_one,h];simp[aO]
theorem FY (p:Prog) (hp:p.tot≤5000000):Says prog 51 [.agg (Cs p.d)] (.bool (okP p)) []:=by
 have ht:=p.tot_eq
 have hB:p.Body.length+(p.Body.map Stmt.tot).sum≤5000000:=by omega
 have fH:=Po p hp
 have fV:=nH p.Body hB
 have fL:=CW p.Body hB
 have fP:=bC (pG 2 p.Body hB)
 have fG:=KO 3 p.Body hB
 rw[show nrm (colS (iC 3) p.Body)=mP p.Body from NE (Jd (IL 3) p.Body)] at fG
 change Says prog _ _ (.osl 0 _ (lM p.Body).length (Ows ((lM p.Body).flatMap bG))) _ at fP
 have fA:=LC p.Body hB
 have fN:=OY p.Body hB
 have lV:=oZ 1 p.Body
 have lL:=oZ 3 p.Body
 have lP:=oZ 2 p.Body
 have lG:=sK 3 p.Body
 have lA:=sK 2 p.Body
 change (varsOf p.Body).length≤_ at lV
 change (cu p.Body).length≤_ at lL
 change (lM p.Body).length≤_ at lP
 change (mP p.Body).length≤_ at lG
 change (iE p.Body).length≤_ at lA
 have gP:=ER p (lM p.Body) (by omega) (by omega)
 have gG:=ER p (mP p.Body) (by omega) (by omega)
 have lN:(aO p.Arrs).length=p.Arrs.length:=by simp[aO]
 have g1:=apart_spec (aO p.Arrs) (varsOf p.Body) (by omega) (by omega)
 have g2:=apart_spec (aO p.Arrs) (cu p.Body) (by omega) (by omega)
 have g3:=apart_spec (aO p.Arrs) (iE p.Body) (by omega) (by omega)
 have g4:=apart_spec (varsOf p.Body) (cu p.Body) (by omega) (by omega)
 refine aP Go.Proofs.Tryz.func51 aTp ?_
 generalize hR:okP p=R0
 unfold okP at hR
 change Says prog _ _ (.bool (jI p (lM p.Body))) _ at gP
 change Says prog _ _ (.bool (jI p (mP p.Body))) _ at gG
 change Says prog _ _ (.bool (apartB _ _)) _ at g1 g2 g3 g4
 generalize headB p=bH at hR fH
 generalize jI p (lM p.Body)=b1 at hR gP
 generalize jI p (mP p.Body)=b2 at hR gG
 generalize apartB (aO p.Arrs) (varsOf p.Body)=b3 at hR g1
 generalize apartB (aO p.Arrs) (cu p.Body)=b4 at hR g2
 generalize apartB (aO p.Arrs) (iE p.Body)=b5 at hR g3
 generalize apartB (varsOf p.Body) (cu p.Body)=b6 at hR g4
 generalize ku [] p.Body=b7 at hR fN
 generalize lM p.Body=xP at *
 generalize mP p.Body=xG at *
 generalize iE p.Body=xA at *
 generalize cu p.Body=xL at *
 generalize varsOf p.Body=xV at *
 have hb:p.Arrs.length+1≤bnd:=by unfold bnd;omega
 rw[lN] at g1 g2 g3
 simp at fH fV fL fP fG fA fN gP gG g1 g2 g3 g4
 simp[v51,r51,splice]
 refine ai fH ?_
 cases bH
 ·simp at hR
  subst hR
  simp
 simp
 refine aZ (l:=af0) (b:=agu) rfl [6] (fun i=>[(4,.osl 0 9 i (Ows ((aO (p.Arrs.take i)).flatMap bG))),(5,.int .i64 i)]) (fun i=>True) p.Arrs.length trivial (by simp[aO]) ?_ ?_
 ·intro i hi hI q hn hx hr
  obtain⟨y,hy0⟩:=ax hi
  have hrow:=row_drop Arr.d 2 Arr.d_len hy0
  have hw:=wrap_succ (i:=i) (by omega)
  have e1:=RH p.Arrs i y hy0
  have hb2:i+1≤bnd:=by omega
  simp[hi,aj,hrow,splice,hb2,hw]
  refine hn _ ?_ trivial
  simp[e1,List.flatMap_append]
 ·intro hI q hx hr
  rw[List.take_length]
  simp
  refine hx _ _ ?_
  simp
  refine ai fV ?_
  simp
  refine ai fL ?_
  simp
  refine bn [.gone] XY fP ?_
  simp[splice]
  generalize List.flatMap bG (aO p.Arrs)=AN at *
  refine ay gP ?_
  cases b1
  ·simp at hR
   subst hR
   simp
  simp[splice]
  by_cases hx0:xG=[]
  ·subst hx0
   rw[gJ] at fG
   simp at gG
   refine ay fG ?_
   simp[splice]
   refine ay gG ?_
   cases b2
   ·simp at hR
    subst hR
    simp
   simp[splice]
   refine ay g1 ?_
   cases b3
   ·simp at hR
    subst hR
    simp
   simp[splice]
   refine ay g2 ?_
   cases b4
   ·simp at hR
    subst hR
    simp
   simp[splice]
   refine ay fA ?_
   simp[splice]
   refine ay g3 ?_
   cases b5
   ·simp at hR
    subst hR
    simp
   simp[splice]
   refine ay g4 ?_
   cases b6
   ·simp at hR
    subst hR
    simp
   simp[splice]
   refine ay fN ?_
   cases b7
   ·simp at hR
    subst hR
    simp
   simp at hR
   by_cases c6:xV.length≤6
   ·simp[c6] at hR
    subst hR
    simp[c6]
    omega
   ·simp[c6] at hR
    subst hR
    simp[c6]
    omega
  ·rw[iG hx0] at fG
   refine ay fG ?_
   simp[splice]
   refine ay gG ?_
   cases b2
   ·simp at hR
    subst hR
    simp
   simp[splice]
   refine ay g1 ?_
   cases b3
   ·simp at hR
    subst hR
    simp
   simp[splice]
   refine ay g2 ?_
   cases b4
   ·simp at hR
    subst hR
    simp
   simp[splice]
   refine ay fA ?_
   simp[splice]
   refine ay g3 ?_
   cases b5
   ·simp at hR
    subst hR
    simp
   simp[splice]
   refine ay g4 ?_
   cases b6
   ·simp at hR
    subst hR
    simp
   simp[splice]
   refine ay fN ?_
   cases b7
   ·simp at hR
    subst hR
    simp
   simp at hR
   by_cases c6:xV.length≤6
   ·simp[c6] at hR
    subst hR
    simp[c6]
    omega
   ·simp[c6] at hR
    subst hR
    simp[c6]
    omega
end Go.AmC
