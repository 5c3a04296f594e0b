import Derived.Test.YtafglhcclmbnbaaGreatSwapAllSize
import Derived.Sort.Walk0
import Derived.Lib.SlicesCompact
import Derived.Test.YtafglhcclmbnbaaGreatSwapAllHead
import Derived.Test.YtafglhcclmbnbaaGreatAmGrow
set_option linter.unusedSimpArgs false
set_option linter.unusedVariables false
set_option maxRecDepth 20000
set_option maxHeartbeats 4000000
namespace Go.AmC
open Go Go.AM
open Go.Proofs (bytesLess_eq)
open Go.Proofs.Tryz (prog)
abbrev Nm:=List UInt8
def jf (s:Nm):Bool→List Nm→List Nm
 | d,[]=>if d then [] else [s]
 | d,x::xs=>(if !d&&!decide (x<s) then [s] else [])++((if x=s then [] else [x])++jf s (d||!decide (x<s)) xs)
def put (l:List Nm) (s:Nm):List Nm:=jf s false l
theorem Eb (s:Nm):∀ (xs:List Nm) (d:Bool),(jf s d xs).length≤xs.length+(if d then 0 else 1)
 | [],d=>by cases d<;>simp[jf]
 | x::xs,d=>by
  have h:=Eb s xs (d||!decide (x<s))
  cases d<;>by_cases h1:x<s<;>by_cases h2:x=s<;>simp[jf,h1,h2] at h ⊢<;>omega
theorem wR (l:List Nm) (s:Nm):(put l s).length≤l.length+1:=by simpa [put] using Eb s l false
theorem rJ (l:List Nm) (s:Nm) (hl:l.length≤4000000000):Says prog 184 [.rsl l.length (Cs (l.flatMap bG)),.str s] (.osl 0 9 (put l s).length (Ows ((put l s).flatMap bG))) []:=by
 refine aP Go.Proofs.Tryz.func184 aGs ?_
 have hRl:=wR l s
 generalize hR:put l s=R at hRl ⊢
 simp[aMW,aOO]
 refine LM (α:=Nat × Bool × List Nm) (l:=Uz) (b:=Wu) rfl [] (fun a=>[(3,.osl 0 9 a.2.2.length (Ows (a.2.2.flatMap bG))),(4,.bool a.2.1),(5,.int .i64 a.1)]) (fun a=>l.length-a.1)
  (fun a=>a.1≤l.length∧a.2.2++jf s a.2.1 (l.drop a.1)=R) (0,false,[]) ⟨by simp,by simpa [put] using hR⟩ (by simp) ?_
 rintro⟨i,d,o⟩ ⟨hi,hI⟩ q hn hx hr
 simp only at hi hI
 have hol:o.length≤l.length+1:=by have:=congrArg List.length hI;simp at this;omega
 have hb1:o.length+1≤bnd:=by unfold bnd;omega
 have hb2:o.length+1+1≤bnd:=by unfold bnd;omega
 by_cases hil:i<l.length
 ·obtain⟨x,hx0⟩:=ax hil
  have hrow:=row_drop bG 1 (fun _=>by simp) hx0
  rw[Nat.mul_one] at hrow
  have hw:=wrap_succ (i:=i) (by omega)
  rw[drop_cons hx0,jf] at hI
  have hnx:∀ d' o',o'++jf s d' (l.drop (i+1))=R→∀ e',e'=y8 _ _→q .normal e':=fun d' o' h e' he=>hn e' (i+1,d',o') he ⟨by omega,h⟩ (by simp only;omega)
  by_cases h2:x=s
  ·subst h2
   have h1:¬x<x:=List.lt_irrefl x
   cases d
   ·simp[h1] at hI
    simp[hil,aj,hrow,hw,bytesLess_eq,h1,hb1]
    exact hnx true (o++[x]) (by simpa using hI) _ (by simp)
   ·simp[h1] at hI
    simp[hil,aj,hrow,hw,bytesLess_eq,h1,hb1]
    exact hnx true o (by simpa using hI) _ (by simp)
  ·by_cases h1:x<s
   ·cases d
    ·simp[h1,h2] at hI
     simp[hil,aj,hrow,hw,bytesLess_eq,h1,h2,hb1]
     exact hnx false (o++[x]) (by simpa using hI) _ (by simp)
    ·simp[h1,h2] at hI
     simp[hil,aj,hrow,hw,bytesLess_eq,h1,h2,hb1]
     exact hnx true (o++[x]) (by simpa using hI) _ (by simp)
   ·cases d
    ·simp[h1,h2] at hI
     simp[hil,aj,hrow,hw,bytesLess_eq,h1,h2,hb1,hb2]
     exact hnx true (o++[s,x]) (by simpa using hI) _ (by simp)
    ·simp[h1,h2] at hI
     simp[hil,aj,hrow,hw,bytesLess_eq,h1,h2,hb1]
     exact hnx true (o++[x]) (by simpa using hI) _ (by simp)
 ·have hie:i=l.length:=by omega
  subst hie
  simp[jf] at hI
  simp
  refine hx _ _ ?_
  cases d
  ·simp at hI
   simp[hb1,←hI]
  ·simp at hI
   simp[←hI]
abbrev Sd (l:List Nm):Prop:=l.Pairwise (· < ·)
theorem uI (s:Nm):∀ (xs:List Nm),(∀ x∈xs,s<x)→jf s true xs=xs
 | [],_=>by simp[jf]
 | x::xs,h=>by
  have h1:=h x (by simp)
  have h2:¬x=s:=fun e=>List.lt_irrefl _ (e▸h1)
  simp[jf,h2,uI s xs fun y hy=>h y (by simp[hy])]
theorem Bv (s:Nm):∀ (xs:List Nm),Sd xs→Sd (jf s false xs)∧∀ x,x∈jf s false xs↔x=s∨x∈xs
 | [],_=>by simp[jf]
 | x::xs,h=>by
  obtain⟨hx,hs⟩:=List.pairwise_cons.1 h
  obtain⟨k1,k2⟩:=Bv s xs hs
  by_cases h1:x<s
  ·have h2:¬x=s:=fun e=>List.lt_irrefl _ (e▸h1)
   have e:jf s false (x::xs)=x::jf s false xs:=by simp[jf,h1,h2]
   rw[e]
   refine⟨List.pairwise_cons.2 ⟨fun y hy=>?_,k1⟩,fun y=>?_⟩
   ·rcases (k2 y).1 hy with rfl|hy
    ·exact h1
    ·exact hx y hy
   ·rw[List.mem_cons,k2,List.mem_cons]
    exact⟨fun h=>by rcases h with h|h|h<;>simp only[h,true_or,or_true],fun h=>by rcases h with h|h|h<;>simp only[h,true_or,or_true]⟩
  ·by_cases h2:x=s
   ·subst h2
    have e:jf x false (x::xs)=x::xs:=by
     have h0:¬x<x:=List.lt_irrefl x
     simp[jf,h0,uI x xs hx]
    rw[e]
    exact⟨h,fun y=>by simp⟩
   ·have h3:s<x:=by
     rcases List.le_total x s with h|h
     ·exact absurd (List.le_antisymm h (List.not_lt.1 h1)) h2
     ·exact List.not_le.1 fun h'=>h2 (List.le_antisymm h' h)
    have e:jf s false (x::xs)=s::x::xs:=by
     simp[jf,h1,h2,uI s xs fun y hy=>List.lt_trans h3 (hx y hy)]
    rw[e]
    refine⟨List.pairwise_cons.2 ⟨fun y hy=>?_,h⟩,fun y=>by simp⟩
    rcases List.mem_cons.1 hy with rfl|hy
    ·exact h3
    ·exact List.lt_trans h3 (hx y hy)
theorem SI {l:List Nm} (h:Sd l) (s:Nm):Sd (put l s):=(Bv s l h).1
theorem NI {l:List Nm} (h:Sd l) (s x:Nm):x∈put l s↔x=s∨x∈l:=(Bv s l h).2 x
theorem FX {α:Type} {R:α→α→Prop} (hirr:∀ x,¬R x x) (hasy:∀ x y,R x y→¬R y x):∀ {xs ys:List α},xs.Pairwise R→ys.Pairwise R→(∀ x,x∈xs↔x∈ys)→xs=ys
 | [],[],_,_,_=>rfl
 | [],y::ys,_,_,h=>absurd ((h y).2 (by simp)) (by simp)
 | x::xs,[],_,_,h=>absurd ((h x).1 (by simp)) (by simp)
 | x::xs,y::ys,h1,h2,h=>by
  obtain⟨a1,b1⟩:=List.pairwise_cons.1 h1
  obtain⟨a2,b2⟩:=List.pairwise_cons.1 h2
  have e:x=y:=by
   rcases List.mem_cons.1 ((h x).1 (by simp)) with e|hx
   ·exact e
   ·rcases List.mem_cons.1 ((h y).2 (by simp)) with e|hy
    ·exact e.symm
    ·exact absurd (a2 x hx) (hasy _ _ (a1 y hy))
  subst e
  rw[FX hirr hasy b1 b2 fun z=>?_]
  constructor
  ·intro hz
   rcases List.mem_cons.1 ((h z).1 (by simp[hz])) with e|hz'
   ·subst e;exact absurd (a1 z hz) (hirr z)
   ·exact hz'
  ·intro hz
   rcases List.mem_cons.1 ((h z).2 (by simp[hz])) with e|hz'
   ·subst e;exact absurd (a2 z hz) (hirr z)
   ·exact hz'
theorem SE {xs ys:List Nm} (h1:Sd xs) (h2:Sd ys) (h:∀ x,x∈xs↔x∈ys):xs=ys :=
 FX (fun x=>List.lt_irrefl x) (fun x y h h'=>List.lt_irrefl x (List.lt_trans h h')) h1 h2 h
def idxOf (s:Nm):List Nm→Nat→Int
 | [],_=>-1
 | x::xs,i=>if x=s then i else idxOf s xs (i+1)
theorem Ky (l:List Nm) (s:Nm) (hl:l.length≤4000000000):Says prog 259 [.rsl l.length (Cs (l.flatMap bG)),.str s] (.int .i64 (idxOf s l 0)) []:=by
 refine aP Go.Proofs.Tryz.func259 aFP ?_
 generalize hR:idxOf s l 0=R0
 simp[aMD,aOn]
 refine aZ (l:=Ui) (b:=V5) rfl [6] (fun i=>[(4,.int .i64 i)]) (fun i=>idxOf s (l.drop i) i=R0) l.length (by simpa using hR) (by simp) ?_ ?_
 ·intro i hi hI q hn hx hr
  obtain⟨x,hx0⟩:=ax hi
  have hrow:=row_drop bG 1 (fun _=>by simp) hx0
  rw[Nat.mul_one] at hrow
  have hw:=wrap_succ (i:=i) (by omega)
  rw[drop_cons hx0,idxOf] at hI
  by_cases c:x=s
  ·simp[hi,aj,hrow,c]
   refine hr _ ?_
   rw[if_pos c] at hI
   simp[hI]
  ·simp[hi,aj,hrow,Ne.symm c,hw]
   rw[if_neg c] at hI
   exact hn _ (by simp) hI
 ·intro hI q hx hr
  simp[idxOf] at hI
  simp
  refine hx _ _ ?_
  simp[hI]
theorem pI (s:Nm):∀ (l:List Nm) (i:Nat),(0≤idxOf s l i)↔s∈l
 | [],i=>by simp[idxOf]
 | x::xs,i=>by
  by_cases c:x=s
  ·simp[idxOf,c]
  ·simp[idxOf,c,Ne.symm c,pI s xs]
theorem BJ (l:List Nm) (s:Nm) (hl:l.length≤4000000000):Says prog 193 [.rsl l.length (Cs (l.flatMap bG)),.str s] (.bool (decide (s∈l))) []:=by
 have f:=Ky l s hl
 refine aP Go.Proofs.Tryz.func193 aGl ?_
 simp[v193,aOI]
 refine ai f ?_
 simp[pI]
end Go.AmC
set_option linter.unusedSimpArgs false
set_option linter.unusedVariables false
set_option maxRecDepth 20000
set_option maxHeartbeats 4000000
namespace Go.AmC
open Go Go.AM
def au (l:List Nm) (r:List Nm):List Nm:=r.foldl put l
theorem xw:∀ {r l:List Nm},Sd l→Sd (au l r)∧∀ x,x∈au l r↔x∈l∨x∈r
 | [],l,h=>⟨h,fun x=>by simp[au]⟩
 | s::r,l,h=>by
  obtain⟨h1,h2⟩:=xw (r:=r) (SI h s)
  refine⟨h1,fun x=>?_⟩
  have:=h2 x
  rw[NI h] at this
  show x∈au (put l s) r↔_
  rw[this,List.mem_cons]
  exact⟨fun h=>by rcases h with (h|h)|h<;>simp only[h,true_or,or_true],fun h=>by rcases h with h|h|h<;>simp only[h,true_or,or_true]⟩
theorem cO:∀ (r l:List Nm),(au l r).length≤l.length+r.length
 | [],l=>by simp[au]
 | s::r,l=>by
  have h1:=cO r (put l s)
  have h2:=wR l s
  show (au (put l s) r).length≤_
  simp only[List.length_cons]
  omega
def nrm (r:List Nm):List Nm:=au [] r
theorem LY (r:List Nm):Sd (nrm r):=(xw (r:=r) (l:=[]) List.Pairwise.nil).1
theorem FZ (r:List Nm) (x:Nm):x∈nrm r↔x∈r:=by
 have:=(xw (r:=r) (l:=[]) List.Pairwise.nil).2 x
 simpa [nrm] using this
theorem tJ (r:List Nm):(nrm r).length≤r.length:=by
 have:=cO r []
 simpa [nrm] using this
theorem NE {a b:List Nm} (h:∀ x,x∈a↔x∈b):nrm a=nrm b :=
 SE (LY a) (LY b) fun x=>by rw[FZ,FZ,h]
theorem bK (l a b:List Nm):au l (a++b)=au (au l a) b:=by simp[au]
section
open Go.Lib
theorem qX (d:Array Nm) (hs:∀ i j,i≤j→j<d.size→d[i]!≤d[j]!):∀ m,m≤d.size→Sd (compactUpTo d m)∧∀ x,x∈compactUpTo d m↔∃ j,j<m∧d[j]! = x
 | 0,_=>by simp[compactUpTo]
 | m+1,hm=>by
  obtain⟨h1,h2⟩:=qX d hs m (by omega)
  rw[compactUpTo_succ]
  by_cases hk:keeps d m=true
  ·rw[if_pos hk]
   have hlt:∀ j,j<m→d[j]! < d[m]!:=by
    intro j hj
    have hne:d[m]!≠d[m-1]!:=by
     intro e
     have:=keeps_neg (d:=d) (m:=m) (by omega) e
     rw[this] at hk;cases hk
    have h3:=hs j (m-1) (by omega) (by omega)
    have h4:=hs (m-1) m (by omega) (by omega)
    have h5:d[m-1]! < d[m]!:=List.not_le.1 fun h=>hne (List.le_antisymm h h4)
    exact List.not_le.1 fun h=>absurd (List.le_trans h h3) (List.not_le.2 h5)
   refine⟨?_,fun x=>?_⟩
   ·refine List.pairwise_append.2 ⟨h1,by simp,fun a ha b hb=>?_⟩
    obtain⟨j,hj,rfl⟩:=(h2 a).1 ha
    simp at hb;subst hb
    exact hlt j hj
   ·rw[List.mem_append,h2]
    constructor
    ·rintro (⟨j,hj,rfl⟩|h)
     ·exact⟨j,by omega,rfl⟩
     ·simp at h;exact⟨m,by omega,h.symm⟩
    ·rintro⟨j,hj,rfl⟩
     by_cases e:j=m
     ·subst e;simp
     ·exact .inl ⟨j,by omega,rfl⟩
  ·rw[if_neg hk,List.append_nil]
   refine⟨h1,fun x=>?_⟩
   rw[h2]
   constructor
   ·rintro⟨j,hj,rfl⟩;exact⟨j,by omega,rfl⟩
   ·rintro⟨j,hj,rfl⟩
    by_cases e:j=m
    ·subst e
     have h0:j≠0:=by
      rintro rfl
      exact hk (by simp[keeps])
     refine⟨j-1,by omega,?_⟩
     refine Classical.byContradiction fun hne=>hk ?_
     exact keeps_pos (Ne.symm hne)
    ·exact⟨j,by omega,rfl⟩
theorem H9 (zs:List Nm):compact (zs.mergeSort fun x y=>decide (x≤y))=nrm zs:=by
 have hp:=List.mergeSort_perm zs (fun x y=>decide (x≤y))
 have hso:(zs.mergeSort fun x y=>decide (x≤y)).Pairwise fun x y=>decide (x≤y)=true :=
  List.pairwise_mergeSort (le:=fun x y:Nm=>decide (x≤y)) (fun a b c h1 h2=>by simp only[decide_eq_true_eq] at *;exact List.le_trans h1 h2) (fun a b=>by
   simp only[Bool.or_eq_true,decide_eq_true_eq];exact List.le_total a b) zs
 generalize zs.mergeSort (fun x y=>decide (x≤y))=ms at hp hso
 have hs:∀ i j,i≤j→j<ms.toArray.size→ms.toArray[i]!≤ms.toArray[j]!:=by
  intro i j hij hj
  have hj':j<ms.length:=by simpa using hj
  by_cases e:i=j
  ·subst e;exact List.le_refl _
  ·have:=(List.pairwise_iff_getElem.1 hso) i j (by omega) hj' (by omega)
   rw[getElem!_pos ms.toArray i (by simp;omega),getElem!_pos ms.toArray j (by simpa using hj')]
   simpa using this
 have h:=qX ms.toArray hs ms.length (by simp)
 refine SE h.1 (LY zs) fun x=>?_
 rw[FZ,←hp.mem_iff]
 show x∈compactUpTo ms.toArray ms.length↔_
 rw[h.2,List.mem_iff_getElem]
 constructor
 ·rintro⟨j,hj,e⟩
  refine⟨j,hj,?_⟩
  rw[getElem!_pos ms.toArray j (by simpa using hj)] at e
  simpa using e
 ·rintro⟨j,hj,e⟩
  refine⟨j,hj,?_⟩
  rw[getElem!_pos ms.toArray j (by simpa using hj)]
  simpa using e
end
end Go.AmC
set_option linter.unusedSimpArgs false
set_option linter.unusedVariables false
set_option maxRecDepth 20000
set_option maxHeartbeats 8000000
namespace Go.AmC
open Go Go.AM
open Go.Proofs.Tryz (prog)
def headB (p:Prog):Bool:=oz none p.Arrs&&(p.Body.all pX&&(decide (p.Arrs.length≤4)&&(decide (p.Body.length≤12)&&decide ((p.Body.map szS).sum≤40))))
theorem Po (p:Prog) (hp:p.tot≤5000000):Says prog 108 [.agg (Cs p.d)] (.bool (headB p)) []:=by
 have ht:=p.tot_eq
 have fS:=OL p.Body (by omega)
 refine aP Go.Proofs.Tryz.func108 aGW ?_
 generalize hR:headB p=R0
 unfold headB at hR
 generalize hR2:oz none p.Arrs=R2 at hR
 simp[aNc,aPd]
 refine aZ (l:=UZ) (b:=WW) rfl [4,5] (fun i=>[(3,.int .i64 i)]) (fun i=>oz (uN p.Arrs i) (p.Arrs.drop i)=R2) p.Arrs.length (by simpa [uN] using hR2) (by simp) ?_ ?_
 ·intro i hi hI q hn hx hr
  obtain⟨y,hy0⟩:=ax hi
  have hrow:=row_drop Arr.d 2 Arr.d_len hy0
  have hw:=wrap_succ (i:=i) (by omega)
  have hI2:=IG hy0 hI
  have fN:=tK y.Name (by have:=az Arr.tot (List.mem_of_getElem? hy0);rw[Arr.tot_eq] at this;omega)
  have fK:=iU y.Size 1 16
  have bad:R2=false→R0=false:=fun h=>by rw[←hR,h];rfl
  cases c1:bZ y.Name
  ·rw[c1] at fN hI2
   simp[hi,aj,hrow,splice]
   refine ay fN ?_
   simp
   refine hr _ ?_
   simp at hI2
   simp[bad hI2]
  rw[c1] at fN hI2
  cases c3:(decide (1≤y.Size)&&decide (y.Size≤16))
  ·rw[c3] at fK hI2
   simp at hI2
   simp[hi,aj,hrow,splice]
   refine ay fN ?_
   simp[hi,aj,hrow]
   refine ay fK ?_
   simp
   refine hr _ ?_
   simp[bad hI2]
  rw[c3] at fK hI2
  simp only[Bool.true_and] at hI2
  simp[hi,aj,hrow,splice]
  refine ay fN ?_
  simp[hi,aj,hrow]
  refine ay fK ?_
  cases i with
  | zero =>
   have hw1:IntKind.i64.wrap 1=1:=by decide
   simp[hw1]
   exact hn _ (by simp) (by simpa [uN,ltO] using hI2)
  | succ j =>
   obtain⟨z,hz0⟩:=ax (xs:=p.Arrs) (i:=j) (by omega)
   have hrow2:=row_drop Arr.d 2 Arr.d_len hz0
   have hwj:IntKind.i64.wrap ((j:Int)+1-1)=(j:Int):=by rw[aA]<;>omega
   have hwj2:IntKind.i64.wrap (j:Int)=(j:Int):=by rw[aA]<;>omega
   have hj:(0:Int)<(j:Int)+1:=by omega
   have hj2:j<p.Arrs.length:=by omega
   have hj3:(0:Int)≤(j:Int)+1:=by omega
   have hj4:(j:Int)+1<(p.Arrs.length:Int):=by omega
   have hw3:IntKind.i64.wrap ((j:Int)+1+1)=(j:Int)+1+1:=by rw[aA]<;>omega
   rw[uM hz0] at hI2
   by_cases c4:z.Name<y.Name
   ·simp[hi,hj,hj2,hj3,hj4,hwj,hwj2,aj,hrow,hrow2,ut,uq,c4,hw3]
    exact hn _ (by simp) (by simpa [c4,ltO] using hI2)
   ·simp[hi,hj,hj2,hj3,hj4,hwj,hwj2,aj,hrow,hrow2,ut,uq,c4,hw3]
    refine hr _ ?_
    simp[c4,ltO] at hI2
    simp[bad hI2]
 ·intro hI q hx hr
  simp[oz] at hI
  subst hI
  simp
  refine hx _ _ ?_
  simp
  refine aZ (l:=U0) (b:=WX) rfl [7,8] (fun i=>[(6,.int .i64 i)]) (fun i=>(p.Body.take i).all pX=true) p.Body.length (by simp) (by simp) ?_ ?_
  ·intro i hi hI q hn hx hr
   obtain⟨y,hy0⟩:=ax hi
   have hrow:=row_drop Stmt.d 19 Stmt.d_len hy0
   have hw:=wrap_succ (i:=i) (by omega)
   have hym:=List.mem_of_getElem? hy0
   have fy:=OI y (by have:=az Stmt.tot hym;omega)
   simp at fy
   cases hb:pX y
   ·rw[hb] at fy
    simp[hi,aj,hrow]
    refine ai fy ?_
    simp
    refine hr _ ?_
    simp[←hR,kF hy0 hb]
   ·rw[hb] at fy
    simp[hi,aj,hrow]
    refine ai fy ?_
    simp[hw]
    exact hn _ (by simp) (je hI hy0 hb)
  ·intro hI q hx hr
   rw[List.take_length] at hI
   simp
   refine hx _ _ ?_
   simp only[hI,Bool.true_and] at hR
   generalize (p.Body.map szS).sum=z at fS hR
   have e:decide ((z:Int)≤40)=decide (z≤40):=decide_eq_decide.2 (by omega)
   by_cases c1:p.Arrs.length≤4
   ·have c1':(p.Arrs.length:Int)≤4:=by omega
    by_cases c2:p.Body.length≤12
    ·have c2':(p.Body.length:Int)≤12:=by omega
     simp[c1,c2] at hR
     simp[c1,c2,c1',c2']
     refine ai fS ?_
     simp[e,←hR]
    ·have c2':¬(p.Body.length:Int)≤12:=by omega
     simp[c1,c2] at hR
     subst hR
     simp[c1,c2,c1',c2']
   ·have c1':¬(p.Arrs.length:Int)≤4:=by omega
    simp[c1] at hR
    subst hR
    simp[c1,c1']
end Go.AmC
set_option linter.unusedSimpArgs false
set_option linter.unusedVariables false
set_option maxRecDepth 100000
set_option maxHeartbeats 4000000
namespace Go.AmC
open Go Go.AM Go.Sort Go.Proofs
open Go.Proofs.Tryz (prog)
theorem AL (a:Option Addr) (n cap:Nat) (w:World) (hn:n≤cap) (h0:a=none→cap=0):Calls prog 285 #[.slice a n cap] w fun e w'=>e=.returned (.slice a n n)∧w'=w:=by
 go_enter Go.Proofs.Tryz.func285,Go.Proofs.Tryz.ntmps285
 go_wp2
 go_ret
 exact⟨rfl,rfl⟩
theorem JH (blk cap:Nat) (zs:List Nm) (w:World) (hH:Holds encStr w blk 0 zs.toArray) (hblk:blk<w.heap.size) (hsz:zs.length<4611686018427387904) :
  Calls prog 284 #[.slice (some ⟨blk,0,none⟩) zs.length cap] w fun e w'=>e=.returned (.tuple #[])∧∃ n os,w'=grow (putRow encStr (Sort.ahead w n) blk 0 (zs.mergeSort fun x y=>decide (x≤y)).toArray) os :=
 Any.slices_Sort_string Go.Proofs.Tryz.sortS blk 0 cap zs w hH hblk hsz
theorem Lc (blk cap:Nat) (zs:List Nm) (w:World) (hH:Holds encStr w blk 0 zs.toArray) (hsz:zs.length≤9223372036854775807) (hcap:zs.length≤cap) :
  Calls prog 286 #[.slice (some ⟨blk,0,none⟩) zs.length cap] w fun e w'=>e=.returned (.slice (some ⟨blk,0,none⟩) (Lib.compact zs).length cap)∧∃ q,w'=putRow encStr (Sort.ahead w q) blk 0 (Lib.compact zs++List.replicate (zs.length-(Lib.compact zs).length) []).toArray :=
 Any.slices_Compact_string Go.Proofs.Tryz.compS blk 0 cap zs w hH hsz hcap
def pW (zs:List Nm):List Nm:=nrm zs++List.replicate (zs.length-(nrm zs).length) []
theorem xm (zs:List Nm):(pW zs).length=zs.length:=by
 have:=tJ zs
 unfold pW;simp;omega
theorem Fp (blk cap:Nat) (zs:List Nm) (w:World) (hH:Holds encStr w blk 0 zs.toArray) (hblk:blk<w.heap.size) (hsz:zs.length<4611686018427387904) (hcap:zs.length≤cap) :
  Calls prog 225 #[.slice (some ⟨blk,0,none⟩) zs.length cap] w fun e w'=>e=.returned (.slice (some ⟨blk,0,none⟩) (nrm zs).length (nrm zs).length)∧∃ n os,w'=grow (putRow encStr (Sort.ahead w n) blk 0 (pW zs).toArray) os:=by
 have hl:(zs.mergeSort fun x y=>decide (x≤y)).length=zs.length:=List.length_mergeSort zs
 have hcz:=H9 zs
 have h1:=fun W hH hb=>JH blk cap zs W hH hb hsz
 generalize zs.mergeSort (fun x y=>decide (x≤y))=ms at hl hcz h1
 have h2:=fun W hH=>Lc blk cap ms W hH (by omega) (by omega)
 rw[hcz,hl] at h2
 have hn:=tJ zs
 have h3:=fun W=>AL (some ⟨blk,0,none⟩) (nrm zs).length cap W (by omega) (fun h=>by cases h)
 go_enter Go.Proofs.Tryz.func225,Go.Proofs.Tryz.ntmps225
 go_wp2_with (go_at_call 284;refine (h1 _ hH hblk).mono ?_;rintro e w1 ⟨rfl,n,os,rfl⟩)
 have hs0:(grow (putRow encStr (Sort.ahead w n) blk 0 ms.toArray) os).heap.size≥w.heap.size:=by simp[grow,putRow,mapBlock,Sort.ahead]
 have hb2:blk<(putRow encStr (Sort.ahead w n) blk 0 ms.toArray).heap.size:=by simpa [putRow,mapBlock,Sort.ahead] using hblk
 have hH2:Holds encStr (grow (putRow encStr (Sort.ahead w n) blk 0 ms.toArray) os) blk 0 ms.toArray :=
  holds_grow _ _ _ _ _ _ hb2 (holds_putRow encStr (Sort.ahead w n) blk 0 zs.toArray ms.toArray (holds_ahead _ _ _ _ _ _ hH) (by simpa using hl))
 refine (h2 _ hH2).mono ?_
 rintro e w2 ⟨rfl,q,rfl⟩
 go_wp2_with (go_at_call 285;refine (h3 _).mono ?_;rintro e w3 ⟨rfl,rfl⟩)
 go_ret
 refine⟨rfl,n+q,os,?_⟩
 exact grow_step encStr w os n q blk 0 ms.toArray (pW zs).toArray hblk (by simp[xm,hl])
theorem Fq (w:World):Calls prog 225 #[.slice none 0 0] w fun e w'=>e=.returned (.slice none 0 0)∧w'=w:=by
 have h1:∀ W:World,Calls prog 284 #[.slice none 0 0] W fun e w'=>e=.returned (.tuple #[])∧w'=W:=fun W=>Any.slices_Sort_string_none Go.Proofs.Tryz.sortS none 0 W
 have h2:∀ W:World,Calls prog 286 #[.slice none 0 0] W fun e w'=>e=.returned (.slice none 0 0)∧w'=W:=fun W=>Any.slices_Compact_string_empty Go.Proofs.Tryz.compS none 0 W
 have h3:=fun W=>AL none 0 0 W (Nat.le_refl _) (fun _=>rfl)
 go_enter Go.Proofs.Tryz.func225,Go.Proofs.Tryz.ntmps225
 go_wp2_with (go_at_call 284;refine (h1 _).mono ?_;rintro e w1 ⟨rfl,rfl⟩)
 refine (h2 _).mono ?_
 rintro e w2 ⟨rfl,rfl⟩
 go_wp2_with (go_at_call 285;refine (h3 _).mono ?_;rintro e w3 ⟨rfl,rfl⟩)
 go_ret
 exact⟨rfl,rfl⟩
theorem ag5 (zs:List Nm) (j:Nat) (x:Nm) (h:zs[j]?=some x):((zs.flatMap bG).map dv)[j]?=some (encStr x):=by
 have:=row_drop bG 1 (fun _=>by simp) h
 rw[Nat.mul_one] at this
 have h2:(zs.flatMap bG)[j]?=some (.S x):=by
  have h3:=congrArg (·[0]?) this
  simpa using h3
 rw[List.getElem?_map,h2];rfl
theorem agb:∀ (zs:List Nm),zs.flatMap bG=zs.map .S
 | []=>rfl
 | x::zs=>by simp[agb zs]
theorem vO (zs:List Nm) (hz:zs.length≤4294967296):Says prog 225 [.osl 1 9 zs.length (Ows (zs.flatMap bG))] (.rsl (nrm zs).length (Cs ((nrm zs).flatMap bG))) (num 1 [.gone]):=by
 intro w Φ σ cargs fa hcr hh hinv
 simp only[CR] at hcr
 obtain⟨v,vs',f1,f2,hca,hv,⟨rfl,hz2⟩,hfa⟩:=hcr
 have hsc:∀ d∈zs.flatMap bG,isL d=false:=fun d hd=>by
  obtain⟨x,_,hx⟩:=List.mem_flatMap.1 hd
  simp at hx;subst hx;rfl
 simp only[VR] at hv
 obtain⟨hst,hx,cs,f5,ho,hc,hb⟩:=hv
 obtain⟨rfl,hz5⟩:=LP hsc hc
 have hcell:prog.cellsOf 9=1:=by kernel_rfl
 have hcargs:cargs=#[v]:=by
  apply Array.toList_inj.1;rw[hca]
 have hfv:∀ b,fa b=iD v b:=fun b=>by rw[hfa b,hz2 b,hb b,hz5 b];omega
 rw[hcargs]
 have hr0:∀ {n:Nat} {ds:List D},hr (.rsl n (Cs ds))=false:=by intros;rfl
 rcases ho.2 with ⟨rfl,h0⟩|⟨gb,cap,cur,rfl,_,hg,hn,hm,hs,ht⟩
 ·have hxs:zs=[]:=List.eq_nil_of_length_eq_zero h0
  subst hxs
  refine (Fq w).mono ?_
  rintro en w' ⟨rfl,rfl⟩
  refine⟨_,Φ,fun _=>0,fun _=>0,rfl,Ext.refl _ _,fun _ h=>h,fun _ h=>.inl h,?_,rfl,?_,rfl,?_,fun b h=>by simp at h⟩
  ·simp only[VR]
   exact⟨⟨none,0,rfl,Nat.le_refl _,fun _=>⟨rfl,rfl⟩,by simp[nrm,au,FC]⟩,fun _=>trivial⟩
  ·exact eP (v:=.gone) (by simp only[VR];intro b;trivial)
  ·exact⟨fun b=>by simp,fun b hb=>by simp at hb,hinv.fz,fun b _=>by simp,hinv.tab⟩
 ·have hg0:gb<w.heap.size:=(Array.getElem?_eq_some_iff.1 hg).1
  have hH:Holds encStr w gb 0 zs.toArray:=by
   intro j hj
   have hj':j<zs.length:=by simpa using hj
   refine⟨?_,by simp[World.frozen?,hg]⟩
   have:=ho.cells (g:=gb) rfl j _ (ag5 zs j zs[j] (List.getElem?_eq_getElem hj'))
   rw[getElem!_pos _ j hj]
   simpa [add_lit] using this
  refine (Fp gb cap zs w hH hg0 (by omega) hn).mono ?_
  rintro en w' ⟨rfl,n,os,rfl⟩
  have hheap:(grow (putRow encStr (Sort.ahead w n) gb 0 (pW zs).toArray) os).heap=w.heap.modify gb (onCells (putCells encStr 0 (pW zs).toArray))++os:=rfl
  have hother:∀ b,b<w.heap.size→b≠gb→(grow (putRow encStr (Sort.ahead w n) gb 0 (pW zs).toArray) os).heap[b]?=w.heap[b]?:=by
   intro b hb1 hb2
   rw[hheap,Array.getElem?_append_left (by simpa using hb1),Array.getElem?_modify,if_neg (Ne.symm hb2)]
  have hsz:w.heap.size≤(grow (putRow encStr (Sort.ahead w n) gb 0 (pW zs).toArray) os).heap.size:=by rw[hheap];simp
  have hown:∀ b,iD (.slice (some ⟨gb,0,none⟩) zs.length cap) b=if b=gb then 1 else 0:=fun b=>by
   simp[iD,Value.ownBlock,eq_comm]
  have hne:∀ b,Φ b→b≠gb:=fun b hb1 e1=>by
   have h1:=hinv.apart b hb1;have:=hfv b;rw[hown b,if_pos e1] at this;omega
  have hcellR:∀ j x,(nrm zs)[j]?=some x→(grow (putRow encStr (Sort.ahead w n) gb 0 (pW zs).toArray) os).cell? ⟨gb,j,none⟩=some (encStr x):=by
   intro j x hj
   have hj1:j<(nrm zs).length:=(List.getElem?_eq_some_iff.1 hj).1
   have hj2:j<(pW zs).toArray.size:=by
    have:=tJ zs
    have:=xm zs
    simp;omega
   have hb2:gb<(putRow encStr (Sort.ahead w n) gb 0 (pW zs).toArray).heap.size:=by simpa [putRow,mapBlock,Sort.ahead] using hg0
   rw[cell?_grow _ _ _ hb2]
   have:=cell?_putRow encStr (Sort.ahead w n) gb 0 zs.toArray (pW zs).toArray (holds_ahead _ _ _ _ _ _ hH) (by simp[xm]) j hj2
   rw[Nat.zero_add] at this
   rw[this,getElem!_pos _ j hj2]
   have e:(pW zs)[j]?=some x:=by
    unfold pW
    rw[List.getElem?_append_left hj1,hj]
   have:=(List.getElem?_eq_some_iff.1 e).2
   simp[this]
  refine⟨_,fun b=>Φ b∨b=gb,fun _=>0,fun _=>0,rfl,⟨rfl,rfl,rfl,hsz,fun b hb1 hb2=>hother b hb1 fun e1=>?_⟩,fun _ h=>.inl h,fun b h=>?_,?_,rfl,?_,rfl,?_,fun b h=>by simp at h⟩
  ·have:=hfv b;rw[hown b,if_pos e1] at this;omega
  ·rcases h with h|h
   ·exact .inl h
   ·exact .inr (.inl (by rw[hfv b,hown b,if_pos h];exact Nat.le_refl _))
  ·simp only[VR]
   refine⟨⟨_,_,rfl,Nat.le_refl _,(fun h=>nomatch h),DC _ _ _ fun i c hi=>?_⟩,fun _=>trivial⟩
   rw[agb,vZ,List.map_map,List.getElem?_map] at hi
   cases hx1:(nrm zs)[i]? with
   | none=>rw[hx1] at hi;cases hi
   | some x =>
    rw[hx1] at hi
    obtain rfl:=Option.some.inj hi
    refine⟨⟨gb,0,none⟩,encStr x,rfl,.inr rfl,?_,by simp[dN],fun f hf=>?_⟩
    ·have:=hcellR i x hx1
     simpa [add_lit] using this
    ·simp only[Function.comp,C_S,VR]
     exact⟨trivial,hf⟩
  ·exact eP (v:=.gone) (by simp only[VR];intro b;trivial)
  ·refine⟨fun b=>by simp,fun b hb=>by simp at hb,fun b hb=>?_,fun b _=>by simp,fZ hinv.tab (fun b hb=>hother b (hinv.fz b hb) (hne b hb)) (fun _ h=>.inl h)⟩
   rcases hb with hb|rfl
   ·exact Nat.lt_of_lt_of_le (hinv.fz b hb) hsz
   ·exact Nat.lt_of_lt_of_le hg0 hsz
theorem afB:aY prog 225=true:=by kernel_rfl
end Go.AmC
