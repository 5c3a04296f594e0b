import Derived.Test.YtafglhcclmbnbaaGreatLocksArrI
import Derived.Lib.SlicesCompact
import Derived.Test.YtafglhcclmbnbaaGreatLocksLay1
import Derived.Test.YtafglhcclmbnbaaGreatAmGrow
set_option linter.unusedSimpArgs false
set_option linter.unusedVariables false
set_option maxRecDepth 20000
set_option maxHeartbeats 4000000
namespace Go.AmC
open Go Go.AM
open Go.Proofs.Tryz (prog)
structure Cap {α:Type} (cp:α→List AV) (ss:List Nat):Prop where
 st:∀ a,oQ 1 (cp a)=some (cp a,ss)
 re:∀ a,yC ss ((cp a).take ss.length)=cp a
 ln:∀ a,(cp a).length=ss.length
 le:ss.length≤1000
 fz:∀ a,(cp a).all gY=false
 hr:∀ a,hrs (cp a)=false
 rf:∀ a,(cp a).any eU=false
 ins:∀ a,(cp a).all Dk=true
 lz:∀ a g r p o,lz1 r p o (.fn g (cp a))=.pf r p o
 dr:∀ a,(cp a).drop ss.length=[]
 ox:∀ a g x rest,(∀ s,isS s x=false)→(∀ s,y7 s x=none)→wC (x::.fn g (cp a)::rest) ss=some (cp a)
 nz:∀ s∈ss,s≠0
 nm:∀ a,num 1 (cp a)=ss.zip (cp a)
section
variable {α : Type} {cp : α → List AV} {ss : List Nat} {g : Nat}
def eX (step:α→Exp→α):α→Exp→α
 | a,⟨K,N,S,L⟩=>step (L.foldl (eX step) a) ⟨K,N,S,L⟩
theorem sG (step:α→Exp→α) (a:α) (e:Exp):eX step a e=step (e.L.foldl (eX step) a) e:=by cases e;rw[eX]
theorem uB {step:α→Exp→α} {m:α→Nat} (hm:∀ a e,m (step a e)≤m a+1):∀ (e:Exp) (a:α),m (eX step a e)≤m a+(1+e.tot):=Exp.ind fun e ih a=>by
 have key:∀ (L:List Exp),(∀ y∈L,∀ a,m (eX step a y)≤m a+(1+y.tot))→∀ a,m (L.foldl (eX step) a)≤m a+(L.length+(L.map Exp.tot).sum):=by
  intro L
  induction L with
  | nil=>intro _ a;simp
  | cons y L ihL =>
   intro h a
   have h1:=h y (by simp) a
   have h2:=ihL (fun z hz=>h z (by simp[hz])) (eX step a y)
   simp only[List.foldl_cons,List.length_cons,List.map_cons,List.sum_cons]
   omega
 have h1:=key e.L ih a
 have h2:=hm (e.L.foldl (eX step) a) e
 have h3:=e.tot_eq
 rw[sG];omega
theorem Oa (hc:Cap cp ss) (hp:dZ prog g=true) (step:α→Exp→α) (m:α→Nat) (B:Nat) (hm:∀ a e,m (step a e)≤m a+1)
  (hstep:∀ a e,m a+1≤B→e.tot≤5000000→Says prog g (.agg (Cs e.d)::cp a) (.tup [] []) (num 1 (cp (step a e)))) :
  ∀ e:Exp,e.tot≤5000000→∀ a,m a+(1+e.tot)≤B→Says prog 320 [.agg (Cs e.d),.fn g (cp a)] (.tup [] []) (num 1 (cp (eX step a e))):=Exp.ind fun e ih he a ha=>by
 have ht:=e.tot_eq
 have pE:dZ prog 320=true:=by kernel_rfl
 rw[hc.nm]
 refine kX ss (cp (eX step a e)) Go.Proofs.Tryz.func320 avc hc.nz ?_
 simp[aDA,aEJ,↓hc.rf]
 refine eY (l:=O3) (b:=Qk) rfl [7] (fun i=>[(1,.fn g (cp ((e.L.take i).foldl (eX step) a))),(5,.int .i64 i)]) (fun i=>m ((e.L.take i).foldl (eX step) a)≤m a+(i+((e.L.take i).map Exp.tot).sum)) e.L.length (by simp) (by simp) ?_ ?_
 ·intro i hi hI q hn hx hr
  obtain⟨y,hy0⟩:=cu hi
  have hrow:=row_drop Exp.d 4 Exp.d_len hy0
  have hw:=wrap_succ (i:=i) (by omega)
  have hym:=List.mem_of_getElem? hy0
  have hs:=iM Exp.tot hy0
  have hle:=AM.sum_take_le Exp.tot e.L (i+1)
  have hyt:=dV Exp.tot hym
  have fy:=ih y hym (by omega) ((e.L.take i).foldl (eX step) a) (by omega)
  have ht1:(e.L.take (i+1)).foldl (eX step) a=eX step ((e.L.take i).foldl (eX step) a) y:=by rw[List.take_add_one,hy0];simp
  have hm1:=uB hm y ((e.L.take i).foldl (eX step) a)
  rw[ht1] at hn
  rw[hs] at hn hle
  generalize (e.L.take i).foldl (eX step) a=a1 at hn hI fy hm1 ⊢
  generalize eX step a1 y=a2 at hn fy hm1
  simp at fy
  simp[hi,aT,hrow,splice,↓hc.lz,↓hc.rf,↓hc.st,↓hc.fz,↓hc.hr,↓hc.re,↓hc.ln,↓hc.ins,↓hc.dr,hc.le]
  refine eF (cp a2) pE fy ?_
  simp[↓hc.lz,↓hc.rf,↓hc.st,↓hc.fz,↓hc.hr,↓hc.re,↓hc.ln,↓hc.ins,↓hc.dr,hc.le,hw]
  refine hn _ ?_ (by omega)
  simp
 ·intro hI q hx hr
  rw[List.take_length] at hI ⊢
  have fy:=hstep (e.L.foldl (eX step) a) e (by omega) he
  have he2:=sG step a e
  rw[←he2] at fy
  clear he2
  generalize e.L.foldl (eX step) a=a1 at fy ⊢
  generalize eX step a e=a2 at fy hx hr ⊢
  simp at fy
  simp[↓hc.lz,↓hc.rf,↓hc.st,↓hc.fz,↓hc.hr,↓hc.re,↓hc.ln,↓hc.ins,↓hc.dr,hc.le]
  refine hx _ _ ?_
  simp[splice,↓hc.lz,↓hc.rf,↓hc.st,↓hc.fz,↓hc.hr,↓hc.re,↓hc.ln,↓hc.ins,↓hc.dr,hc.le]
  refine eF (cp a2) hp fy ?_
  simp[↓hc.lz,↓hc.rf,↓hc.st,↓hc.fz,↓hc.hr,↓hc.re,↓hc.ln,↓hc.ins,↓hc.dr,hc.le]
  rw[hc.ox _ _ _ _ (fun s=>by simp) (fun s=>by simp)]
def eG (step:α→Stmt→α):α→Stmt→α
 | a,⟨K,S,At,E,Lo,Hi,B⟩=>B.foldl (eG step) (step a ⟨K,S,At,E,Lo,Hi,B⟩)
theorem mJ (step:α→Stmt→α) (a:α) (x:Stmt):eG step a x=x.Body.foldl (eG step) (step a x):=by cases x;rw[eG]
theorem Ac {step:α→Stmt→α} {m:α→Nat} {w:Stmt→Nat} (hm:∀ a x,m (step a x)≤m a+w x) {wt:Stmt→Nat} (hw:∀ x,w x+(x.Body.map wt).sum≤wt x):∀ (x:Stmt) (a:α),m (eG step a x)≤m a+wt x:=Stmt.ind fun x ih a=>by
 have key:∀ (L:List Stmt),(∀ y∈L,∀ a,m (eG step a y)≤m a+wt y)→∀ a,m (L.foldl (eG step) a)≤m a+(L.map wt).sum:=by
  intro L
  induction L with
  | nil=>intro _ a;simp
  | cons y L ihL =>
   intro h a
   have h1:=h y (by simp) a
   have h2:=ihL (fun z hz=>h z (by simp[hz])) (eG step a y)
   simp only[List.foldl_cons,List.map_cons,List.sum_cons]
   omega
 have h1:=key x.Body ih (step a x)
 have h2:=hm a x
 have h3:=hw x
 rw[mJ];omega
theorem Af (hc:Cap cp ss) (hp:dZ prog g=true) (step:α→Stmt→α) (m:α→Nat) (B:Nat) (w:Stmt→Nat) (hm:∀ a x,m (step a x)≤m a+w x) (wt:Stmt→Nat) (hw:∀ x,w x+(x.Body.map wt).sum≤wt x)
  (hstep:∀ a x,m a+w x≤B→x.tot≤5000000→Says prog g (.agg (Cs x.d)::cp a) (.tup [] []) (num 1 (cp (step a x))))
  (l:List Stmt) (hl:l.length+(l.map Stmt.tot).sum≤5000000) (hrec:∀ x∈l,∀ a,m a+(x.Body.map wt).sum≤B→Says prog 260 [.rsl x.Body.length (Cs (x.Body.flatMap Stmt.d)),.fn g (cp a)] (.tup [] []) (num 1 (cp (x.Body.foldl (eG step) a))))
  (a:α) (ha:m a+(l.map wt).sum≤B):Says prog 260 [.rsl l.length (Cs (l.flatMap Stmt.d)),.fn g (cp a)] (.tup [] []) (num 1 (cp (l.foldl (eG step) a))):=by
 have pE:dZ prog 260=true:=by kernel_rfl
 rw[hc.nm]
 refine kX ss (cp (l.foldl (eG step) a)) Go.Proofs.Tryz.func260 avE hc.nz ?_
 simp[aDT,aE2,↓hc.lz,↓hc.rf,↓hc.st,↓hc.fz,↓hc.hr,↓hc.re,↓hc.ln,↓hc.ins,↓hc.dr,hc.le]
 refine eY (l:=O9) (b:=Qq) rfl [6] (fun i=>[(1,.fn g (cp ((l.take i).foldl (eG step) a))),(4,.int .i64 i)]) (fun i=>m ((l.take i).foldl (eG step) a)≤m a+((l.take i).map wt).sum) l.length (by simp) (by simp) ?_ ?_
 ·intro i hi hI q hn hx hr
  obtain⟨y,hy0⟩:=cu hi
  have hrow:=row_drop Stmt.d 19 Stmt.d_len hy0
  have hwi:=wrap_succ (i:=i) (by omega)
  have hym:=List.mem_of_getElem? hy0
  have hs:=iM wt hy0
  have hle:=AM.sum_take_le wt l (i+1)
  have hyt:=dV Stmt.tot hym
  have hwy:=hw y
  have fy:=hstep ((l.take i).foldl (eG step) a) y (by omega) (by omega)
  have hm0:=hm ((l.take i).foldl (eG step) a) y
  have fz:=hrec y hym (step ((l.take i).foldl (eG step) a) y) (by omega)
  have ht1:(l.take (i+1)).foldl (eG step) a=y.Body.foldl (eG step) (step ((l.take i).foldl (eG step) a) y):=by rw[List.take_add_one,hy0,←mJ];simp
  have hm1:=Ac hm hw y ((l.take i).foldl (eG step) a)
  rw[mJ] at hm1
  rw[ht1] at hn
  rw[hs] at hn hle
  generalize (l.take i).foldl (eG step) a=a1 at hn hI fy fz hm1 ⊢
  generalize y.Body.foldl (eG step) (step a1 y)=a3 at hn fz hm1
  generalize step a1 y=a2 at fy fz
  simp at fy fz
  simp[hi,aT,hrow,splice,↓hc.lz,↓hc.rf,↓hc.st,↓hc.fz,↓hc.hr,↓hc.re,↓hc.ln,↓hc.ins,↓hc.dr,hc.le]
  refine eF (cp a2) hp fy ?_
  simp[↓hc.lz,↓hc.rf,↓hc.st,↓hc.fz,↓hc.hr,↓hc.re,↓hc.ln,↓hc.ins,↓hc.dr,hc.le]
  refine eF (cp a3) pE fz ?_
  simp[↓hc.lz,↓hc.rf,↓hc.st,↓hc.fz,↓hc.hr,↓hc.re,↓hc.ln,↓hc.ins,↓hc.dr,hc.le,hwi]
  refine hn _ ?_ (by omega)
  simp
 ·intro hI q hx hr
  rw[List.take_length] at hI ⊢
  generalize l.foldl (eG step) a=a1 at hx hr ⊢
  simp[↓hc.lz,↓hc.rf,↓hc.st,↓hc.fz,↓hc.hr,↓hc.re,↓hc.ln,↓hc.ins,↓hc.dr,hc.le]
  refine hx _ _ ?_
  simp[↓hc.lz,↓hc.rf,↓hc.st,↓hc.fz,↓hc.hr,↓hc.re,↓hc.ln,↓hc.ins,↓hc.dr,hc.le]
  rw[hc.ox _ _ _ _ (fun s=>by simp) (fun s=>by simp)]
theorem Ij (hc:Cap cp ss) (hp:dZ prog g=true) (step:α→Stmt→α) (m:α→Nat) (B:Nat) (w:Stmt→Nat) (hm:∀ a x,m (step a x)≤m a+w x) (wt:Stmt→Nat) (hw:∀ x,w x+(x.Body.map wt).sum≤wt x)
  (hstep:∀ a x,m a+w x≤B→x.tot≤5000000→Says prog g (.agg (Cs x.d)::cp a) (.tup [] []) (num 1 (cp (step a x)))) :
  ∀ x:Stmt,x.tot≤5000000→∀ a,m a+(x.Body.map wt).sum≤B→Says prog 260 [.rsl x.Body.length (Cs (x.Body.flatMap Stmt.d)),.fn g (cp a)] (.tup [] []) (num 1 (cp (x.Body.foldl (eG step) a))):=Stmt.ind fun x ih hx a ha=>by
 have ht:=x.tot_eq
 exact Af hc hp step m B w hm wt hw hstep x.Body (by omega) (fun y hy=>ih y hy (by have:=dV Stmt.tot hy;omega)) a ha
theorem Dv (hc:Cap cp ss) (hp:dZ prog g=true) (step:α→Stmt→α) (m:α→Nat) (B:Nat) (w:Stmt→Nat) (hm:∀ a x,m (step a x)≤m a+w x) (wt:Stmt→Nat) (hw:∀ x,w x+(x.Body.map wt).sum≤wt x)
  (hstep:∀ a x,m a+w x≤B→x.tot≤5000000→Says prog g (.agg (Cs x.d)::cp a) (.tup [] []) (num 1 (cp (step a x))))
  (l:List Stmt) (hl:l.length+(l.map Stmt.tot).sum≤5000000) (a:α) (ha:m a+(l.map wt).sum≤B):Says prog 260 [.rsl l.length (Cs (l.flatMap Stmt.d)),.fn g (cp a)] (.tup [] []) (num 1 (cp (l.foldl (eG step) a))) :=
 Af hc hp step m B w hm wt hw hstep l hl (fun x hx=>Ij hc hp step m B w hm wt hw hstep x (by have:=dV Stmt.tot hx;omega)) a ha
end
end Go.AmC
set_option linter.unusedSimpArgs false
set_option linter.unusedVariables false
set_option maxRecDepth 20000
set_option maxHeartbeats 4000000
namespace Go.AmC
open Go Go.AM
def bC (l:List Nm) (r:List Nm):List Nm:=r.foldl put l
theorem sS:∀ {r l:List Nm},Sd l→Sd (bC l r)∧∀ x,x∈bC l r↔x∈l∨x∈r
 | [],l,h=>⟨h,fun x=>by simp[bC]⟩
 | s::r,l,h=>by
  obtain⟨h1,h2⟩:=sS (r:=r) (adq h s)
  refine⟨h1,fun x=>?_⟩
  have:=h2 x
  rw[TT h] at this
  show x∈bC (put l s) r↔_
  rw[this,List.mem_cons]
  exact⟨fun h=>by rcases h with (h|h)|h<;>simp only[h,true_or,or_true],fun h=>by rcases h with h|h|h<;>simp only[h,true_or,or_true]⟩
theorem eP:∀ (r l:List Nm),(bC l r).length≤l.length+r.length
 | [],l=>by simp[bC]
 | s::r,l=>by
  have h1:=eP r (put l s)
  have h2:=zq l s
  show (bC (put l s) r).length≤_
  simp only[List.length_cons]
  omega
def nrm (r:List Nm):List Nm:=bC [] r
theorem BB (r:List Nm):Sd (nrm r):=(sS (r:=r) (l:=[]) List.Pairwise.nil).1
theorem zU (r:List Nm) (x:Nm):x∈nrm r↔x∈r:=by
 have:=(sS (r:=r) (l:=[]) List.Pairwise.nil).2 x
 simpa [nrm] using this
theorem uh (r:List Nm):(nrm r).length≤r.length:=by
 have:=eP r []
 simpa [nrm] using this
theorem Js {a b:List Nm} (h:∀ x,x∈a↔x∈b):nrm a=nrm b :=
 IG (BB a) (BB b) fun x=>by rw[zU,zU,h]
theorem dU (l a b:List Nm):bC l (a++b)=bC (bC l a) b:=by simp[bC]
section
open Go.Lib
theorem rQ (d:Array Nm) (hs:∀ i j,i≤j→j<d.size→d[i]!≤d[j]!):∀ m,m≤d.size→Sd (compactUpTo d m)∧∀ x,x∈compactUpTo d m↔∃ j,j<m∧d[j]! = x
 | 0,_=>by simp[compactUpTo]
 | m+1,hm=>by
  obtain⟨h1,h2⟩:=rQ d hs m (by omega)
  rw[compactUpTo_succ]
  by_cases hk:keeps d m=true
  ·rw[if_pos hk]
   have hlt:∀ j,j<m→d[j]! < d[m]!:=by
    intro j hj
    have hne:d[m]!≠d[m-1]!:=by
     intro e
     have:=keeps_neg (d:=d) (m:=m) (by omega) e
     rw[this] at hk;cases hk
    have h3:=hs j (m-1) (by omega) (by omega)
    have h4:=hs (m-1) m (by omega) (by omega)
    have h5:d[m-1]! < d[m]!:=List.not_le.1 fun h=>hne (List.le_antisymm h h4)
    exact List.not_le.1 fun h=>absurd (List.le_trans h h3) (List.not_le.2 h5)
   refine⟨?_,fun x=>?_⟩
   ·refine List.pairwise_append.2 ⟨h1,by simp,fun a ha b hb=>?_⟩
    obtain⟨j,hj,rfl⟩:=(h2 a).1 ha
    simp at hb;subst hb
    exact hlt j hj
   ·rw[List.mem_append,h2]
    constructor
    ·rintro (⟨j,hj,rfl⟩|h)
     ·exact⟨j,by omega,rfl⟩
     ·simp at h;exact⟨m,by omega,h.symm⟩
    ·rintro⟨j,hj,rfl⟩
     by_cases e:j=m
     ·subst e;simp
     ·exact .inl ⟨j,by omega,rfl⟩
  ·rw[if_neg hk,List.append_nil]
   refine⟨h1,fun x=>?_⟩
   rw[h2]
   constructor
   ·rintro⟨j,hj,rfl⟩;exact⟨j,by omega,rfl⟩
   ·rintro⟨j,hj,rfl⟩
    by_cases e:j=m
    ·subst e
     have h0:j≠0:=by
      rintro rfl
      exact hk (by simp[keeps])
     refine⟨j-1,by omega,?_⟩
     refine Classical.byContradiction fun hne=>hk ?_
     exact keeps_pos (Ne.symm hne)
    ·exact⟨j,by omega,rfl⟩
theorem Fh (zs:List Nm):compact (zs.mergeSort fun x y=>decide (x≤y))=nrm zs:=by
 have hp:=List.mergeSort_perm zs (fun x y=>decide (x≤y))
 have hso:(zs.mergeSort fun x y=>decide (x≤y)).Pairwise fun x y=>decide (x≤y)=true :=
  List.pairwise_mergeSort (le:=fun x y:Nm=>decide (x≤y)) (fun a b c h1 h2=>by simp only[decide_eq_true_eq] at *;exact List.le_trans h1 h2) (fun a b=>by
   simp only[Bool.or_eq_true,decide_eq_true_eq];exact List.le_total a b) zs
 generalize zs.mergeSort (fun x y=>decide (x≤y))=ms at hp hso
 have hs:∀ i j,i≤j→j<ms.toArray.size→ms.toArray[i]!≤ms.toArray[j]!:=by
  intro i j hij hj
  have hj':j<ms.length:=by simpa using hj
  by_cases e:i=j
  ·subst e;exact List.le_refl _
  ·have:=(List.pairwise_iff_getElem.1 hso) i j (by omega) hj' (by omega)
   rw[getElem!_pos ms.toArray i (by simp;omega),getElem!_pos ms.toArray j (by simpa using hj')]
   simpa using this
 have h:=rQ ms.toArray hs ms.length (by simp)
 refine IG h.1 (BB zs) fun x=>?_
 rw[zU,←hp.mem_iff]
 show x∈compactUpTo ms.toArray ms.length↔_
 rw[h.2,List.mem_iff_getElem]
 constructor
 ·rintro⟨j,hj,e⟩
  refine⟨j,hj,?_⟩
  rw[getElem!_pos ms.toArray j (by simpa using hj)] at e
  simpa using e
 ·rintro⟨j,hj,e⟩
  refine⟨j,hj,?_⟩
  rw[getElem!_pos ms.toArray j (by simpa using hj)]
  simpa using e
end
end Go.AmC
set_option linter.unusedSimpArgs false
set_option linter.unusedVariables false
set_option maxRecDepth 100000
set_option maxHeartbeats 4000000
namespace Go.AmC
open Go Go.AM Go.Sort Go.Proofs
open Go.Proofs.Tryz (prog)
theorem Ak (a:Option Addr) (n cap:Nat) (w:World) (hn:n≤cap) (h0:a=none→cap=0):Calls prog 285 #[.slice a n cap] w fun e w'=>e=.returned (.slice a n n)∧w'=w:=by
 go_enter Go.Proofs.Tryz.func285,Go.Proofs.Tryz.ntmps285
 go_wp2
 go_ret
 exact⟨rfl,rfl⟩
theorem Ha (blk cap:Nat) (zs:List Nm) (w:World) (hH:Holds encStr w blk 0 zs.toArray) (hblk:blk<w.heap.size) (hsz:zs.length<4611686018427387904) :
  Calls prog 284 #[.slice (some ⟨blk,0,none⟩) zs.length cap] w fun e w'=>e=.returned (.tuple #[])∧∃ n os,w'=grow (putRow encStr (Sort.ahead w n) blk 0 (zs.mergeSort fun x y=>decide (x≤y)).toArray) os :=
 Any.slices_Sort_string Go.Proofs.Tryz.sortS blk 0 cap zs w hH hblk hsz
theorem Io (blk cap:Nat) (zs:List Nm) (w:World) (hH:Holds encStr w blk 0 zs.toArray) (hsz:zs.length≤9223372036854775807) (hcap:zs.length≤cap) :
  Calls prog 286 #[.slice (some ⟨blk,0,none⟩) zs.length cap] w fun e w'=>e=.returned (.slice (some ⟨blk,0,none⟩) (Lib.compact zs).length cap)∧∃ q,w'=putRow encStr (Sort.ahead w q) blk 0 (Lib.compact zs++List.replicate (zs.length-(Lib.compact zs).length) []).toArray :=
 Any.slices_Compact_string Go.Proofs.Tryz.compS blk 0 cap zs w hH hsz hcap
def qK (zs:List Nm):List Nm:=nrm zs++List.replicate (zs.length-(nrm zs).length) []
theorem xe (zs:List Nm):(qK zs).length=zs.length:=by
 have:=uh zs
 unfold qK;simp;omega
theorem DY (blk cap:Nat) (zs:List Nm) (w:World) (hH:Holds encStr w blk 0 zs.toArray) (hblk:blk<w.heap.size) (hsz:zs.length<4611686018427387904) (hcap:zs.length≤cap) :
  Calls prog 225 #[.slice (some ⟨blk,0,none⟩) zs.length cap] w fun e w'=>e=.returned (.slice (some ⟨blk,0,none⟩) (nrm zs).length (nrm zs).length)∧∃ n os,w'=grow (putRow encStr (Sort.ahead w n) blk 0 (qK zs).toArray) os:=by
 have hl:(zs.mergeSort fun x y=>decide (x≤y)).length=zs.length:=List.length_mergeSort zs
 have hcz:=Fh zs
 have h1:=fun W hH hb=>Ha blk cap zs W hH hb hsz
 generalize zs.mergeSort (fun x y=>decide (x≤y))=ms at hl hcz h1
 have h2:=fun W hH=>Io blk cap ms W hH (by omega) (by omega)
 rw[hcz,hl] at h2
 have hn:=uh zs
 have h3:=fun W=>Ak (some ⟨blk,0,none⟩) (nrm zs).length cap W (by omega) (fun h=>by cases h)
 go_enter Go.Proofs.Tryz.func225,Go.Proofs.Tryz.ntmps225
 go_wp2_with (go_at_call 284;refine (h1 _ hH hblk).mono ?_;rintro e w1 ⟨rfl,n,os,rfl⟩)
 have hs0:(grow (putRow encStr (Sort.ahead w n) blk 0 ms.toArray) os).heap.size≥w.heap.size:=by simp[grow,putRow,mapBlock,Sort.ahead]
 have hb2:blk<(putRow encStr (Sort.ahead w n) blk 0 ms.toArray).heap.size:=by simpa [putRow,mapBlock,Sort.ahead] using hblk
 have hH2:Holds encStr (grow (putRow encStr (Sort.ahead w n) blk 0 ms.toArray) os) blk 0 ms.toArray :=
  holds_grow _ _ _ _ _ _ hb2 (holds_putRow encStr (Sort.ahead w n) blk 0 zs.toArray ms.toArray (holds_ahead _ _ _ _ _ _ hH) (by simpa using hl))
 refine (h2 _ hH2).mono ?_
 rintro e w2 ⟨rfl,q,rfl⟩
 go_wp2_with (go_at_call 285;refine (h3 _).mono ?_;rintro e w3 ⟨rfl,rfl⟩)
 go_ret
 refine⟨rfl,n+q,os,?_⟩
 exact grow_step encStr w os n q blk 0 ms.toArray (qK zs).toArray hblk (by simp[xe,hl])
theorem DZ (w:World):Calls prog 225 #[.slice none 0 0] w fun e w'=>e=.returned (.slice none 0 0)∧w'=w:=by
 have h1:∀ W:World,Calls prog 284 #[.slice none 0 0] W fun e w'=>e=.returned (.tuple #[])∧w'=W:=fun W=>Any.slices_Sort_string_none Go.Proofs.Tryz.sortS none 0 W
 have h2:∀ W:World,Calls prog 286 #[.slice none 0 0] W fun e w'=>e=.returned (.slice none 0 0)∧w'=W:=fun W=>Any.slices_Compact_string_empty Go.Proofs.Tryz.compS none 0 W
 have h3:=fun W=>Ak none 0 0 W (Nat.le_refl _) (fun _=>rfl)
 go_enter Go.Proofs.Tryz.func225,Go.Proofs.Tryz.ntmps225
 go_wp2_with (go_at_call 284;refine (h1 _).mono ?_;rintro e w1 ⟨rfl,rfl⟩)
 refine (h2 _).mono ?_
 rintro e w2 ⟨rfl,rfl⟩
 go_wp2_with (go_at_call 285;refine (h3 _).mono ?_;rintro e w3 ⟨rfl,rfl⟩)
 go_ret
 exact⟨rfl,rfl⟩
theorem adH (zs:List Nm) (j:Nat) (x:Nm) (h:zs[j]?=some x):((zs.flatMap ed).map dv)[j]?=some (encStr x):=by
 have:=row_drop ed 1 (fun _=>by simp) h
 rw[Nat.mul_one] at this
 have h2:(zs.flatMap ed)[j]?=some (.S x):=by
  have h3:=congrArg (·[0]?) this
  simpa using h3
 rw[List.getElem?_map,h2];rfl
theorem acm:∀ (zs:List Nm),zs.flatMap ed=zs.map .S
 | []=>rfl
 | x::zs=>by simp[acm zs]
theorem ql (zs:List Nm) (hz:zs.length≤4294967296):Says prog 225 [.osl 1 9 zs.length (Ows (zs.flatMap ed))] (.rsl (nrm zs).length (Cs ((nrm zs).flatMap ed))) (num 1 [.gone 0]):=by
 intro w Φ σ cargs fa hcr hh hinv
 simp only[CR] at hcr
 obtain⟨v,vs',f1,f2,hca,hv,⟨rfl,hz2⟩,hfa⟩:=hcr
 have hsc:∀ d∈zs.flatMap ed,isL d=false:=fun d hd=>by
  obtain⟨x,_,hx⟩:=List.mem_flatMap.1 hd
  simp at hx;subst hx;rfl
 simp only[VR] at hv
 obtain⟨hst,hx,cs,f5,ho,hc,hb⟩:=hv
 obtain⟨rfl,hz5⟩:=MK hsc hc
 have hcell:prog.cellsOf 9=1:=by kernel_rfl
 have hcargs:cargs=#[v]:=by
  apply Array.toList_inj.1;rw[hca]
 have hfv:∀ b,fa b=jF v b:=fun b=>by rw[hfa b,hz2 b,hb b,hz5 b];omega
 rw[hcargs]
 have hr0:∀ {n:Nat} {ds:List D},hr (.rsl n (Cs ds))=false:=by intros;rfl
 rcases ho.2 with ⟨rfl,h0⟩|⟨gb,cap,cur,rfl,_,hg,hn,hm,hs,ht⟩
 ·have hxs:zs=[]:=List.eq_nil_of_length_eq_zero h0
  subst hxs
  refine (DZ w).mono ?_
  rintro en w' ⟨rfl,rfl⟩
  refine⟨_,Φ,fun _=>0,fun _=>0,rfl,Ext.refl _ _,fun _ h=>h,fun _ h=>.inl h,?_,rfl,?_,rfl,?_,fun b h=>by simp at h⟩
  ·simp only[VR]
   exact⟨⟨none,0,rfl,Nat.le_refl _,fun _=>⟨rfl,rfl⟩,by simp[nrm,bC,FC]⟩,fun _=>trivial⟩
  ·exact iG (v:=.gone 0) (by simp[VR])
  ·exact⟨fun b=>by simp,fun b hb=>by simp at hb,hinv.fz,fun b _=>by simp,hinv.tab⟩
 ·have hg0:gb<w.heap.size:=(Array.getElem?_eq_some_iff.1 hg).1
  have hH:Holds encStr w gb 0 zs.toArray:=by
   intro j hj
   have hj':j<zs.length:=by simpa using hj
   refine⟨?_,by simp[World.frozen?,hg]⟩
   have:=ho.cells (g:=gb) rfl j _ (adH zs j zs[j] (List.getElem?_eq_getElem hj'))
   rw[getElem!_pos _ j hj]
   simpa [add_lit] using this
  refine (DY gb cap zs w hH hg0 (by omega) hn).mono ?_
  rintro en w' ⟨rfl,n,os,rfl⟩
  have hheap:(grow (putRow encStr (Sort.ahead w n) gb 0 (qK zs).toArray) os).heap=w.heap.modify gb (onCells (putCells encStr 0 (qK zs).toArray))++os:=rfl
  have hother:∀ b,b<w.heap.size→b≠gb→(grow (putRow encStr (Sort.ahead w n) gb 0 (qK zs).toArray) os).heap[b]?=w.heap[b]?:=by
   intro b hb1 hb2
   rw[hheap,Array.getElem?_append_left (by simpa using hb1),Array.getElem?_modify,if_neg (Ne.symm hb2)]
  have hsz:w.heap.size≤(grow (putRow encStr (Sort.ahead w n) gb 0 (qK zs).toArray) os).heap.size:=by rw[hheap];simp
  have hown:∀ b,jF (.slice (some ⟨gb,0,none⟩) zs.length cap) b=if b=gb then 1 else 0:=fun b=>by
   simp[jF,Value.ownBlock,eq_comm]
  have hne:∀ b,Φ b→b≠gb:=fun b hb1 e1=>by
   have h1:=hinv.apart b hb1;have:=hfv b;rw[hown b,if_pos e1] at this;omega
  have hcellR:∀ j x,(nrm zs)[j]?=some x→(grow (putRow encStr (Sort.ahead w n) gb 0 (qK zs).toArray) os).cell? ⟨gb,j,none⟩=some (encStr x):=by
   intro j x hj
   have hj1:j<(nrm zs).length:=(List.getElem?_eq_some_iff.1 hj).1
   have hj2:j<(qK zs).toArray.size:=by
    have:=uh zs
    have:=xe zs
    simp;omega
   have hb2:gb<(putRow encStr (Sort.ahead w n) gb 0 (qK zs).toArray).heap.size:=by simpa [putRow,mapBlock,Sort.ahead] using hg0
   rw[cell?_grow _ _ _ hb2]
   have:=cell?_putRow encStr (Sort.ahead w n) gb 0 zs.toArray (qK zs).toArray (holds_ahead _ _ _ _ _ _ hH) (by simp[xe]) j hj2
   rw[Nat.zero_add] at this
   rw[this,getElem!_pos _ j hj2]
   have e:(qK zs)[j]?=some x:=by
    unfold qK
    rw[List.getElem?_append_left hj1,hj]
   have:=(List.getElem?_eq_some_iff.1 e).2
   simp[this]
  refine⟨_,fun b=>Φ b∨b=gb,fun _=>0,fun _=>0,rfl,⟨rfl,rfl,rfl,hsz,fun b hb1 hb2=>hother b hb1 fun e1=>?_⟩,fun _ h=>.inl h,fun b h=>?_,?_,rfl,?_,rfl,?_,fun b h=>by simp at h⟩
  ·have:=hfv b;rw[hown b,if_pos e1] at this;omega
  ·rcases h with h|h
   ·exact .inl h
   ·exact .inr (.inl (by rw[hfv b,hown b,if_pos h];exact Nat.le_refl _))
  ·simp only[VR]
   refine⟨⟨_,_,rfl,Nat.le_refl _,(fun h=>nomatch h),ES _ _ _ fun i c hi=>?_⟩,fun _=>trivial⟩
   rw[acm,yT,List.map_map,List.getElem?_map] at hi
   cases hx1:(nrm zs)[i]? with
   | none=>rw[hx1] at hi;cases hi
   | some x =>
    rw[hx1] at hi
    obtain rfl:=Option.some.inj hi
    refine⟨⟨gb,0,none⟩,encStr x,rfl,.inr rfl,?_,by simp[gY],fun f hf=>?_⟩
    ·have:=hcellR i x hx1
     simpa [add_lit] using this
    ·simp only[Function.comp,C_S,VR]
     exact⟨trivial,hf⟩
  ·exact iG (v:=.gone 0) (by simp[VR])
  ·refine⟨fun b=>by simp,fun b hb=>by simp at hb,fun b hb=>?_,fun b _=>by simp,iT hinv.tab (fun b hb=>hother b (hinv.fz b hb) (hne b hb)) (fun _ h=>.inl h)⟩
   rcases hb with hb|rfl
   ·exact Nat.lt_of_lt_of_le (hinv.fz b hb) hsz
   ·exact Nat.lt_of_lt_of_le hg0 hsz
theorem Rq:dZ prog 225=true:=by kernel_rfl
end Go.AmC
