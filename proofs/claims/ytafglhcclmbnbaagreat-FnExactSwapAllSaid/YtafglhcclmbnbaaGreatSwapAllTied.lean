import Derived.Test.YtafglhcclmbnbaaGreatSwapAllSortI
import Derived.Test.YtafglhcclmbnbaaGreatSwapAllOwnS
set_option linter.unusedSimpArgs false
set_option linter.unusedVariables false
set_option maxRecDepth 20000
set_option maxHeartbeats 4000000
namespace Go.AmC
open Go Go.AM Go.Lib
open Go.Proofs.Tryz (prog)
def jY (n:Int):Bool→List Int→List Int
 | d,[]=>if d then [] else [n]
 | d,x::l=>(if !d&&decide (x≥n) then [n] else [])++((if x≠n then [x] else [])++jY n (d||decide (x≥n)) l)
abbrev SdI (l:List Int):Prop:=l.Pairwise (· < ·)
theorem CQ (n:Int):∀ l:List Int,jY n true l=l.filter (·≠n)
 | []=>rfl
 | x::l=>by
  have:=CQ n l
  by_cases c:x=n<;>simp[jY,this,c]
theorem Nu (n:Int):∀ l:List Int,SdI l→SdI (jY n false l)∧∀ y,y∈jY n false l↔y∈l∨y=n
 | [],h=>by simp[jY]
 | x::l,h=>by
  obtain⟨h1,h2⟩:=List.pairwise_cons.1 h
  by_cases c:x≥n
  ·by_cases e:x=n
   ·subst e
    have:jY x false (x::l)=x::l:=by simp[jY,CQ];intro a ha;have:=h1 a ha;omega
    rw[this]
    exact⟨h,fun y=>by simp[or_comm]⟩
   ·have:jY n false (x::l)=n::x::l:=by simp[jY,c,e,CQ];intro a ha;have:=h1 a ha;omega
    rw[this]
    refine⟨List.pairwise_cons.2 ⟨fun y hy=>?_,h⟩,fun y=>?_⟩
    ·rcases List.mem_cons.1 hy with rfl|hy
     ·omega
     ·have:=h1 y hy;omega
    ·simp only[List.mem_cons]
     constructor
     ·rintro (h|h|h)<;>simp[h]
     ·rintro ((h|h)|h)<;>simp[h]
  ·obtain⟨k1,k2⟩:=Nu n l h2
   have e:x≠n:=by omega
   have:jY n false (x::l)=x::jY n false l:=by simp[jY,c,e]
   rw[this]
   refine⟨List.pairwise_cons.2 ⟨fun y hy=>?_,k1⟩,fun y=>?_⟩
   ·rcases (k2 y).1 hy with hy|rfl
    ·exact h1 y hy
    ·omega
   ·simp only[List.mem_cons,k2,or_assoc]
def zT (r:List Int):List Int:=r.foldl (fun l n=>jY n false l) []
theorem BN:∀ (r l:List Int),SdI l→SdI (r.foldl (fun l n=>jY n false l) l)∧∀ y,y∈r.foldl (fun l n=>jY n false l) l↔y∈l∨y∈r
 | [],l,h=>⟨h,fun y=>by simp⟩
 | n::r,l,h=>by
  obtain⟨a1,a2⟩:=Nu n l h
  obtain⟨h1,h2⟩:=BN r _ a1
  refine⟨h1,fun y=>?_⟩
  rw[List.foldl_cons,h2,a2,List.mem_cons,or_assoc]
theorem Nl:∀ {a b:List Int},SdI a→SdI b→(∀ x,x∈a↔x∈b)→a=b
 | [],[],_,_,_=>rfl
 | [],y::b,_,_,h=>absurd ((h y).2 (by simp)) (by simp)
 | x::a,[],_,_,h=>absurd ((h x).1 (by simp)) (by simp)
 | x::a,y::b,ha,hb,h=>by
  obtain⟨a1,a2⟩:=List.pairwise_cons.1 ha
  obtain⟨b1,b2⟩:=List.pairwise_cons.1 hb
  have e:x=y:=by
   have h1:=(h x).1 (by simp)
   have h2:=(h y).2 (by simp)
   rcases List.mem_cons.1 h1 with h1|h1
   ·exact h1
   rcases List.mem_cons.1 h2 with h2|h2
   ·exact h2.symm
   have:=b1 x h1;have:=a1 y h2;omega
  subst e
  rw[Nl a2 b2 fun z=>?_]
  have h3:=h z
  simp only[List.mem_cons] at h3
  constructor
  ·intro hz
   rcases h3.1 (.inr hz) with rfl|h4
   ·exact absurd (a1 z hz) (by omega)
   ·exact h4
  ·intro hz
   rcases h3.2 (.inr hz) with rfl|h4
   ·exact absurd (b1 z hz) (by omega)
   ·exact h4
theorem qp (d:Array Int) (hs:∀ i j,i≤j→j<d.size→d[i]!≤d[j]!):∀ m,m≤d.size→SdI (compactUpTo d m)∧∀ x,x∈compactUpTo d m↔∃ j,j<m∧d[j]! = x
 | 0,_=>by simp[compactUpTo]
 | m+1,hm=>by
  obtain⟨h1,h2⟩:=qp d hs m (by omega)
  rw[compactUpTo_succ]
  by_cases hk:keeps d m=true
  ·rw[if_pos hk]
   have hlt:∀ j,j<m→d[j]! < d[m]!:=by
    intro j hj
    have hne:d[m]!≠d[m-1]!:=by
     intro e
     have:=keeps_neg (d:=d) (m:=m) (by omega) e
     rw[this] at hk;cases hk
    have h3:=hs j (m-1) (by omega) (by omega)
    have h4:=hs (m-1) m (by omega) (by omega)
    omega
   refine⟨?_,fun x=>?_⟩
   ·refine List.pairwise_append.2 ⟨h1,by simp,fun a ha b hb=>?_⟩
    obtain⟨j,hj,rfl⟩:=(h2 a).1 ha
    simp at hb;subst hb
    exact hlt j hj
   ·rw[List.mem_append,h2]
    constructor
    ·rintro (⟨j,hj,rfl⟩|h)
     ·exact⟨j,by omega,rfl⟩
     ·simp at h;exact⟨m,by omega,h.symm⟩
    ·rintro⟨j,hj,rfl⟩
     by_cases e:j=m
     ·subst e;simp
     ·exact .inl ⟨j,by omega,rfl⟩
  ·rw[if_neg hk,List.append_nil]
   refine⟨h1,fun x=>?_⟩
   rw[h2]
   constructor
   ·rintro⟨j,hj,rfl⟩;exact⟨j,by omega,rfl⟩
   ·rintro⟨j,hj,rfl⟩
    by_cases e:j=m
    ·subst e
     have h0:j≠0:=by
      rintro rfl
      exact hk (by simp[keeps])
     refine⟨j-1,by omega,?_⟩
     refine Classical.byContradiction fun hne=>hk ?_
     exact keeps_pos (Ne.symm hne)
    ·exact⟨j,by omega,rfl⟩
theorem FP (zs:List Int):compact (sortI zs)=zT zs:=by
 have hp:=List.mergeSort_perm zs (fun x y=>decide (x≤y))
 have hso:(sortI zs).Pairwise fun x y=>decide (x≤y)=true :=
  List.pairwise_mergeSort (le:=fun x y:Int=>decide (x≤y)) (fun a b c h1 h2=>by simp only[decide_eq_true_eq] at *;omega) (fun a b=>by
   simp only[Bool.or_eq_true,decide_eq_true_eq];omega) zs
 change (sortI zs).Perm zs at hp
 generalize sortI zs=ms at hp hso
 have hs:∀ i j,i≤j→j<ms.toArray.size→ms.toArray[i]!≤ms.toArray[j]!:=by
  intro i j hij hj
  have hj':j<ms.length:=by simpa using hj
  by_cases e:i=j
  ·subst e;exact Int.le_refl _
  ·have:=(List.pairwise_iff_getElem.1 hso) i j (by omega) hj' (by omega)
   rw[getElem!_pos ms.toArray i (by simp;omega),getElem!_pos ms.toArray j (by simpa using hj')]
   simpa using this
 have h:=qp ms.toArray hs ms.length (by simp)
 obtain⟨n1,n2⟩:=BN zs [] List.Pairwise.nil
 refine Nl h.1 n1 fun x=>?_
 have n3:x∈zT zs↔x∈zs:=by have:=n2 x;simpa [zT] using this
 rw[n3,←hp.mem_iff]
 show x∈compactUpTo ms.toArray ms.length↔_
 rw[h.2,List.mem_iff_getElem]
 constructor
 ·rintro⟨j,hj,e⟩
  refine⟨j,hj,?_⟩
  rw[getElem!_pos ms.toArray j (by simpa using hj)] at e
  simpa using e
 ·rintro⟨j,hj,e⟩
  refine⟨j,hj,?_⟩
  rw[getElem!_pos ms.toArray j (by simpa using hj)]
  simpa using e
theorem Bq (n:Int):∀ (d:Bool) (l:List Int),(jY n d l).length≤l.length+1
 | true,[]=>by simp[jY]
 | false,[]=>by simp[jY]
 | d,x::l=>by
  have:=Bq n (d||decide (x≥n)) l
  have hf:(List.filter (fun y=>!decide (y=n)) l).length≤l.length:=List.length_filter_le _ _
  by_cases c:x≥n
  ·by_cases e:x=n
   ·cases d
    ·simp[jY,e,CQ];omega
    ·simp[jY,e] at this ⊢;omega
   ·cases d
    ·simp[jY,c,e,CQ];omega
    ·simp[jY,c,e] at this ⊢;omega
  ·have e:x≠n:=by omega
   cases d<;>simp[jY,c,e] at this ⊢<;>omega
theorem JX (l:List Int) (n:Int) (hl:l.length≤4000000000):Says prog 343 [.rsl l.length (Cs (l.flatMap jG)),.int .i64 n] (.osl 0 3 (jY n false l).length (Ows ((jY n false l).flatMap jG))) []:=by
 have hlen:=Bq n false l
 refine aP Go.Proofs.Tryz.func343 aEY ?_
 generalize hR:jY n false l=R at *
 simp[aL3,aNN]
 refine LM (α:=Nat × Bool × List Int) (l:=TI) (b:=VE) rfl [6,7,8] (fun a=>[(3,.osl 0 3 a.2.2.length (Ows (a.2.2.flatMap jG))),(4,.bool a.2.1),(5,.int .i64 a.1)]) (fun a=>l.length-a.1)
  (fun a=>a.1≤l.length∧a.2.2++jY n a.2.1 (l.drop a.1)=R) (0,false,[]) ⟨by simp,by simpa using hR⟩ (by simp) ?_
 rintro⟨i,d,o⟩ ⟨hi,hI⟩ q hn hx hr
 simp only at hi hI
 have hol:o.length≤l.length+1:=by have:=congrArg List.length hI;simp at this;omega
 have hb1:o.length+1≤bnd:=by unfold bnd;omega
 have hb2:o.length+1+1≤bnd:=by unfold bnd;omega
 by_cases hil:i<l.length
 ·obtain⟨x,hx0⟩:=ax hil
  have hrow:=row_drop jG 1 o7 hx0
  rw[Nat.mul_one] at hrow
  have hw:=wrap_succ (i:=i) (by omega)
  rw[drop_cons hx0,jY] at hI
  have hnx:∀ d' o',o'++jY n d' (l.drop (i+1))=R→∀ e',[6,7,8].foldl (fun e j=>e.set j .dead) e'=y8 _ _→q .normal e':=fun d' o' h e' he=>hn e' (i+1,d',o') he ⟨by omega,h⟩ (by simp only;omega)
  by_cases c1:x≥n<;>by_cases c2:x=n<;>cases d
  all_goals
   simp[c1,c2] at hI
   simp[hil,aj,hrow,c1,c2,hb1,hb2,hw]
  ·exact hnx true (o++[n]) (by simpa using hI) _ (by simp)
  ·exact hnx true o (by simpa using hI) _ (by simp)
  ·exact hnx true (o++[n,x]) (by simpa using hI) _ (by simp)
  ·exact hnx true (o++[x]) (by simpa using hI) _ (by simp)
  ·exact absurd (c2▸Int.le_refl n) c1
  ·exact absurd (c2▸Int.le_refl n) c1
  ·exact hnx false (o++[x]) (by simpa using hI) _ (by simp)
  ·exact hnx true (o++[x]) (by simpa using hI) _ (by simp)
 ·have hd:l.drop i=[]:=List.drop_of_length_le (by omega)
  rw[hd] at hI
  simp[hil]
  refine hx _ _ ?_
  cases d
  ·simp[jY] at hI
   simp[hb1,←hI]
  ·simp[jY] at hI
   simp[hI]
end Go.AmC
set_option linter.unusedSimpArgs false
set_option linter.unusedVariables false
set_option maxRecDepth 20000
set_option maxHeartbeats 4000000
namespace Go.AmC
open Go Go.AM
open Go.Proofs.Tryz (prog)
def iJ (st:Bool) (x:Stmt):Option (List Int):=match nV st x with
 | none=>none
 | some l=>if l.all (·.Far) then some (zT (l.map (·.W))) else none
theorem vG (st:Bool) (x:Stmt) (hL:∀ r,dH st x=some r→r.1.length≤60000) (l:List Dep) (h:nV st x=some l):l.length≤3600000000:=by
 unfold nV at h
 split at h
 ·cases h
 ·rename_i r hr0
  cases h
  have h1:=ql x.S r.2 r.1 r.1.length
  have h2:r.1.length*r.1.length≤60000*60000:=Nat.mul_le_mul (hL r hr0) (hL r hr0)
  omega
def Qk (v:Option (List Int)):AV:=match v with
 | none=>.tup [none,none] [.osl 0 3 0 [],.bool false]
 | some l=>.tup [none,none] [.rsl l.length (Cs (l.flatMap jG)),.bool true]
def Qj (v:Option (List Int)):AV:=match v with
 | none=>.tup [none,none] [.osl 0 3 0 [],.bool false]
 | some l=>.tup [none,none] [.osl 0 3 l.length (Ows (l.flatMap jG)),.bool true]
theorem XX:aY prog 347=true:=by kernel_rfl
theorem XZ:aY prog 349=true:=by kernel_rfl
theorem KX (x:Stmt) (hx:x.tot≤5000000) (hL:∀ r,dH true x=some r→r.1.length≤60000):Says prog 314 [.agg (Cs x.d)] (Qk (iJ true x)) []:=by
 have f:=H6 x hx hL
 have hlen:=vG true x hL
 refine aP Go.Proofs.Tryz.func314 aFj ?_
 generalize hR:Qk (iJ true x)=R0
 unfold iJ at hR
 generalize nV true x=o at f hlen hR
 cases o with
 | none =>
  simp[Qk] at hR
  simp[tq] at f
  simp[aCx,aC3]
  refine gQ f ?_
  simp[←hR]
 | some l =>
  have hl:=hlen l rfl
  simp only at hR
  simp[tq] at f
  simp[aCx,aC3]
  refine gQ f ?_
  simp
  refine aZ (l:=TT) (b:=VN) rfl [11,12,13] (fun i=>[(7,.osl 0 3 ((l.take i).map (·.W)).length (Ows (((l.take i).map (·.W)).flatMap jG))),(10,.int .i64 i)]) (fun i=>(l.take i).all (·.Far)=true) l.length (by simp) (by simp) ?_ ?_
  ·intro i hi hI q hn hx' hr
   obtain⟨y,hy0⟩:=ax hi
   have hrow:=row_drop Dep.d 4 Dep.d_len hy0
   have hw:=wrap_succ (i:=i) (by omega)
   have hol:((l.take i).map (·.W)).length=i:=by simp;omega
   have hb1:((l.take i).map (·.W)).length+1≤bnd:=by rw[hol];unfold bnd;omega
   rw[List.take_add_one,hy0,List.map_append,List.all_append] at hn
   generalize (l.take i).map (·.W)=O at hn hb1 ⊢
   cases c:y.Far
   ·have hall:l.all (·.Far)=false:=by
     rw[List.all_eq_false];exact⟨y,List.mem_of_getElem? hy0,by simp[c]⟩
    simp[hall,Qk] at hR
    simp[hi,aj,hrow,splice,Dep.d,c]
    refine hr _ ?_
    simp[←hR]
   ·simp[hi,aj,hrow,splice,Dep.d,c,hb1,hw]
    refine hn _ ?_ (by simp[hI,c])
    simp
  ·intro hI q hx' hr
   rw[List.take_length] at hI ⊢
   rw[if_pos hI,←FP] at hR
   have f1:=JI (l.map (·.W)) (by simp;omega)
   have f2:=Ld (sortI (l.map (·.W))) (by rw[xn];simp;omega)
   rw[xn] at f2
   simp only[Qk] at hR
   generalize sortI (l.map (·.W))=S at f1 f2 hR
   generalize Go.Lib.compact S=C at f2 hR
   have f3:=aG9 C.length (C.flatMap jG)
   generalize l.map (·.W)=W at f1 f2 ⊢
   simp at f1 f2 f3
   simp
   refine hx' _ _ ?_
   simp
   refine bn [_] XX f1 ?_
   simp
   refine bn [.gone] XZ f2 ?_
   simp
   refine ai f3 ?_
   simp[←hR]
theorem xQ:∀ (r l:List Int),(r.foldl (fun l n=>jY n false l) l).length≤l.length+r.length
 | [],l=>by simp
 | n::r,l=>by
  have h1:=xQ r (jY n false l)
  have h2:=Bq n false l
  rw[List.foldl_cons,List.length_cons];omega
theorem KW (x:Stmt) (hx:x.tot≤5000000) (hL:∀ r,dH false x=some r→r.1.length≤60000):Says prog 311 [.agg (Cs x.d)] (Qj (iJ false x)) []:=by
 have f:=H5 x hx hL
 have hlen:=vG false x hL
 refine aP Go.Proofs.Tryz.func311 aFm ?_
 generalize hR:Qj (iJ false x)=R0
 unfold iJ at hR
 generalize nV false x=o at f hlen hR
 cases o with
 | none =>
  simp[Qj] at hR
  simp[tq] at f
  simp[aCy,aC4]
  refine gQ f ?_
  simp
  refine aZ (l:=L9) (b:=ML) rfl [8,9] (fun i=>[(7,.int .i64 i)]) (fun i=>True) 0 trivial (by simp) (fun i hi=>absurd hi (by omega)) ?_
  intro hI q hx' hr
  simp
  refine hx' _ _ ?_
  simp[←hR]
 | some l =>
  have hl:=hlen l rfl
  simp only at hR
  simp[tq] at f
  simp[aCy,aC4]
  refine gQ f ?_
  simp
  refine aZ (l:=L9) (b:=ML) rfl [8,9] (fun i=>[(6,.osl 0 3 (zT ((l.take i).map (·.W))).length (Ows ((zT ((l.take i).map (·.W))).flatMap jG))),(7,.int .i64 i)]) (fun i=>(l.take i).all (·.Far)=true) l.length (by simp) (by simp[zT]) ?_ ?_
  ·intro i hi hI q hn hx' hr
   obtain⟨y,hy0⟩:=ax hi
   have hrow:=row_drop Dep.d 4 Dep.d_len hy0
   have hw:=wrap_succ (i:=i) (by omega)
   have hol:(zT ((l.take i).map (·.W))).length≤i:=by
    have h0:=xQ ((l.take i).map (·.W)) []
    rw[List.length_nil,Nat.zero_add,List.length_map,List.length_take] at h0
    unfold zT;omega
   have fP:=JX (zT ((l.take i).map (·.W))) y.W (by omega)
   have e:zT ((l.take (i+1)).map (·.W))=jY y.W false (zT ((l.take i).map (·.W))):=by
    unfold zT;rw[List.take_add_one,hy0,List.map_append,List.foldl_append];rfl
   rw[e,List.take_add_one,hy0,List.all_append] at hn
   generalize zT ((l.take i).map (·.W))=O at hn fP ⊢
   generalize jY y.W false O=O2 at hn fP
   cases c:y.Far
   ·have hall:l.all (·.Far)=false:=by
     rw[List.all_eq_false];exact⟨y,List.mem_of_getElem? hy0,by simp[c]⟩
    simp[hall,Qj] at hR
    simp[hi,aj,hrow,splice,Dep.d,c]
    refine hr _ ?_
    simp[←hR]
   ·simp[hi,aj,hrow,splice,Dep.d,c]
    refine ai fP ?_
    simp[hw]
    refine hn _ ?_ (by simp[hI,c])
    simp
  ·intro hI q hx' hr
   rw[List.take_length] at hI ⊢
   rw[if_pos hI] at hR
   simp only[Qj] at hR
   simp
   refine hx' _ _ ?_
   simp[←hR]
theorem pR (l:List Stmt):(varsOf l).length≤(colS (ofK 1) l).length:=tJ _
theorem wJ (k:Int) (l:List Stmt):(colS (ofK k) l).length≤l.length+(l.map Stmt.tot).sum:=by
 have key:∀ (x:Stmt) (a:List Nm),(aI (bI (ofK k)) a x).length≤a.length+(1+x.tot):=qK (m:=List.length) (w:=fun _=>1) (fun a x=>LX k a x) wt1
 have:∀ (L:List Stmt) (a:List Nm),(L.foldl (aI (bI (ofK k))) a).length≤a.length+(L.length+(L.map Stmt.tot).sum):=by
  intro L
  induction L with
  | nil=>intro a;simp
  | cons y L ih =>
   intro a
   have h1:=ih (aI (bI (ofK k)) a y)
   have h2:=key y a
   simp only[List.foldl_cons,List.length_cons,List.map_cons,List.sum_cons]
   omega
 have:=this l []
 simp at this
 exact this
def Qo (st:Bool) (x:Stmt) (n:Nm):Int:=if st then jy x n else lQ x n
def jT (w:Int→Bool) (st:Bool) (x:Stmt):List Nm:=(varsOf x.Body).filter fun n=>w (Qo st x n)
def iO (k:Int):Bool:=decide (2≤k)&&decide (k≤4)
def tied (st:Bool) (x:Stmt):Bool:=(varsOf x.Body).any fun n=>decide (Qo st x n=6)
theorem yK (x:Stmt) (hx:x.tot≤4000000) (g:Nat) (hp:aY prog g=true) (w:Int→Bool) (hw:∀ k,Says prog g [.int .i64 k] (.bool (w k)) []) :
  Says prog 350 [.agg (Cs x.d),.fn g []] (.osl 0 9 (jT w true x).length (Ows ((jT w true x).flatMap bG))) []:=by
 have ht:=x.tot_eq
 have fV:=nI x.Body (by omega)
 have hl:(varsOf x.Body).length≤4000000:=by have:=pR x.Body;have:=wJ 1 x.Body;omega
 have fK:=fun n=>En x n hx
 refine aP Go.Proofs.Tryz.func350 aEU ?_
 unfold jT Qo
 generalize varsOf x.Body=V at fV hl ⊢
 simp at fV fK
 simp[aL1,aNL]
 refine ai fV ?_
 simp
 refine aZ (l:=TD) (b:=VB) rfl [8,9,10] (fun i=>[(4,.osl 0 9 ((V.take i).filter (fun n=>w (jy x n))).length (Ows (((V.take i).filter (fun n=>w (jy x n))).flatMap bG))),(7,.int .i64 i)]) (fun i=>True) V.length trivial (by simp) ?_ ?_
 ·intro i hi hI q hn hx' hr
  obtain⟨n,hn0⟩:=ax hi
  have hrow:=row_drop bG 1 (fun _=>by simp) hn0
  rw[Nat.mul_one] at hrow
  have hw1:=wrap_succ (i:=i) (by omega)
  have hle:=List.length_filter_le (fun n=>w (jy x n)) (V.take i)
  rw[List.length_take] at hle
  rw[List.take_add_one,hn0,List.filter_append] at hn
  generalize (V.take i).filter (fun n=>w (jy x n))=L at hn hle ⊢
  have hb:L.length+1≤bnd:=by unfold bnd;omega
  simp[hi,aj,hrow,splice]
  refine ai (fK n) ?_
  simp
  refine Lp hp (hw _) ?_
  cases c:w (jy x n)
  ·simp[hw1]
   refine hn _ ?_ trivial
   simp[c]
  ·simp[hb,hw1]
   refine hn _ ?_ trivial
   simp[c]
 ·intro hI q hx' hr
  rw[List.take_length]
  simp
  refine hx' _ _ ?_
  simp
theorem Kt (k:Int):Says prog 351 [.int .i64 k] (.bool (iO k)) []:=by
 have f:=iq k 2 4
 refine aP Go.Proofs.Tryz.func351 aET ?_
 simp[aL0,aNK]
 refine ai f ?_
 simp[iO]
theorem OB (x:Stmt) (hx:x.tot≤4000000):Says prog 317 [.agg (Cs x.d)] (.osl 0 9 (jT iO true x).length (Ows ((jT iO true x).flatMap bG))) []:=by
 have f:=yK x hx 351 (by kernel_rfl) iO Kt
 refine aP Go.Proofs.Tryz.func317 aFg ?_
 generalize jT iO true x=R at f ⊢
 simp at f
 simp[aMc,aNW]
 refine ai f ?_
 simp
theorem OA (x:Stmt) (hx:x.tot≤4000000):Says prog 312 [.agg (Cs x.d)] (.osl 0 9 (jT iO false x).length (Ows ((jT iO false x).flatMap bG))) []:=by
 have ht:=x.tot_eq
 have fV:=nH x.Body (by omega)
 have hl:(varsOf x.Body).length≤4000000:=by have:=pR x.Body;have:=wJ 1 x.Body;omega
 have fK:=fun n=>Em x n hx
 refine aP Go.Proofs.Tryz.func312 aFl ?_
 unfold jT Qo
 generalize varsOf x.Body=V at fV hl ⊢
 simp at fV fK
 simp[aMg,aN0]
 refine ai fV ?_
 simp
 refine aZ (l:=TU) (b:=VO) rfl [6,7,8] (fun i=>[(3,.osl 0 9 ((V.take i).filter (fun n=>iO (lQ x n))).length (Ows (((V.take i).filter (fun n=>iO (lQ x n))).flatMap bG))),(5,.int .i64 i)]) (fun i=>True) V.length trivial (by simp) ?_ ?_
 ·intro i hi hI q hn hx' hr
  obtain⟨n,hn0⟩:=ax hi
  have hrow:=row_drop bG 1 (fun _=>by simp) hn0
  rw[Nat.mul_one] at hrow
  have hw1:=wrap_succ (i:=i) (by omega)
  have hle:=List.length_filter_le (fun n=>iO (lQ x n)) (V.take i)
  rw[List.length_take] at hle
  rw[List.take_add_one,hn0,List.filter_append] at hn
  generalize (V.take i).filter (fun n=>iO (lQ x n))=L at hn hle ⊢
  have hb:L.length+1≤bnd:=by unfold bnd;omega
  have fI:=iU (lQ x n) 2 4
  have ek:(decide (2≤lQ x n)&&decide (lQ x n≤4))=iO (lQ x n):=rfl
  rw[ek] at fI
  have hL:(Ows (V.flatMap bG)).length=V.length:=by rw[bD,kT]
  have hi1:i+1≤V.length:=hi
  have hne:Ows (V.flatMap bG)≠[]:=fun h=>by rw[h] at hL;simp at hL;omega
  simp[hi,hL,hi1,ig hne,-bD,kz,hrow,splice]
  refine ay (fK n) ?_
  simp
  refine ai fI ?_
  cases c:iO (lQ x n)
  ·simp[hw1]
   refine hn _ ?_ trivial
   simp[c]
  ·simp[hi,hL,hi1,ig hne,-bD,kz,hrow,hb,hw1]
   refine hn _ ?_ trivial
   simp[c]
 ·intro hI q hx' hr
  rw[List.take_length]
  simp
  refine hx' _ _ ?_
  simp
theorem JA (x:Stmt) (hx:x.tot≤4000000) (n:Nm):Says prog 344 [.str n,.rp (Cs x.d)] (.bool (decide (jy x n=6))) []:=by
 have f:=En x n hx
 refine aP Go.Proofs.Tryz.func344 aEX ?_
 generalize jy x n=k at f ⊢
 simp at f
 simp[aL2,aNM]
 refine ai f ?_
 simp
 by_cases c:k=6<;>simp[c]
theorem G8 (x:Stmt) (hx:x.tot≤4000000) (V:List Nm) (hl:V.length≤4000000):∃ k:Int,(V.any (fun n=>decide (jy x n=6))=decide (0≤k))∧Says prog 299 [.rsl V.length (Cs (V.flatMap bG)),.fn 344 [.rp (Cs x.d)]] (.int .i64 k) []:=by
 have fT:=JA x hx
 have pl:aY prog 344=true:=by kernel_rfl
 refine⟨match V.findIdx? (fun n=>decide (jy x n=6)) with|some k=>(k:Int)|none=>-1,?_,?_⟩
 ·cases h:V.findIdx? (fun n=>decide (jy x n=6)) with
  | none =>
   rw[List.findIdx?_eq_none_iff] at h
   have e0:V.any (fun n=>decide (jy x n=6))=false:=List.any_eq_false.2 fun n hn=>by simpa using h n hn
   rw[e0];rfl
  | some k =>
   have h2:=List.findIdx?_eq_some_iff_getElem.1 h
   obtain⟨h3,h4,_⟩:=h2
   have:V.any (fun n=>decide (jy x n=6))=true:=List.any_eq_true.2 ⟨V[k],List.getElem_mem h3,h4⟩
   rw[this];symm;exact decide_eq_true (by simp)
 refine aP Go.Proofs.Tryz.func299 aFx ?_
 generalize hR:(match V.findIdx? (fun n=>decide (jy x n=6)) with|some k=>(k:Int)|none=>-1)=R0
 simp[aMq,aOa]
 refine aZ (l:=Ua) (b:=VU) rfl [5,6,7] (fun i=>[(4,.int .i64 i)]) (fun i=>(match (V.drop i).findIdx? (fun n=>decide (jy x n=6)) with|some k=>((i+k:Nat):Int)|none=>-1)=R0) V.length (by simpa using hR) (by simp) ?_ ?_
 ·intro i hi hI q hn hx' hr
  obtain⟨n,hn0⟩:=ax hi
  have hrow:=row_drop bG 1 (fun _=>by simp) hn0
  rw[Nat.mul_one] at hrow
  have hw1:=wrap_succ (i:=i) (by omega)
  have f:=fT n
  simp at f
  rw[drop_cons hn0,List.findIdx?_cons] at hI
  simp[hi,aj,hrow,splice]
  refine Lp pl f ?_
  by_cases c:jy x n=6
  ·simp[c] at hI
   simp[c]
   refine hr _ ?_
   simp[←hI]
  ·have c2:decide (jy x n=6)=false:=by simpa using c
   rw[c2] at hI
   simp[c,hw1]
   refine hn _ (by simp) ?_
   rw[←hI]
   cases (V.drop (i+1)).findIdx? (fun n=>decide (jy x n=6)) with
   | none=>rfl
   | some k=>show ((i+1+k:Nat):Int)=((i+(k+1):Nat):Int);congr 1;omega
 ·intro hI q hx' hr
  rw[List.drop_length] at hI
  simp at hI
  simp
  refine hx' _ _ ?_
  simp[←hI]
theorem Oq (x:Stmt) (hx:x.tot≤4000000):Says prog 313 [.agg (Cs x.d)] (.bool (tied true x)) []:=by
 have ht:=x.tot_eq
 have fV:=nI x.Body (by omega)
 have hl:(varsOf x.Body).length≤4000000:=by have:=pR x.Body;have:=wJ 1 x.Body;omega
 obtain⟨k,e,fI⟩:=G8 x hx (varsOf x.Body) hl
 have fC:Says prog 238 [.rsl (varsOf x.Body).length (Cs ((varsOf x.Body).flatMap bG)),.fn 344 [.rp (Cs x.d)]] (.bool (tied true x)) []:=by
  have e2:tied true x=decide (0≤k):=e
  rw[e2]
  refine aP Go.Proofs.Tryz.func238 aF5 ?_
  generalize varsOf x.Body=V at fI ⊢
  simp at fI
  simp[aML,aOv]
  refine ai fI ?_
  simp
 refine aP Go.Proofs.Tryz.func313 aFk ?_
 generalize varsOf x.Body=V at fV fC
 generalize tied true x=t at fC ⊢
 simp at fV fC
 simp[aMf,aNZ]
 refine ai fV ?_
 simp
 refine ai fC ?_
 simp
theorem Oo (x:Stmt) (hx:x.tot≤4000000):Says prog 310 [.agg (Cs x.d)] (.bool (tied false x)) []:=by
 have ht:=x.tot_eq
 have fV:=nH x.Body (by omega)
 have hl:(varsOf x.Body).length≤4000000:=by have:=pR x.Body;have:=wJ 1 x.Body;omega
 have fK:=fun n=>Em x n hx
 refine aP Go.Proofs.Tryz.func310 aFn ?_
 unfold tied Qo
 generalize varsOf x.Body=V at fV hl ⊢
 generalize hR:(V.any fun n=>decide ((if false=true then jy x n else lQ x n)=6))=R0
 simp at hR
 simp at fV fK
 simp[aMh,aN1]
 refine ai fV ?_
 simp
 refine aZ (l:=TV) (b:=VP) rfl [5,6] (fun i=>[(4,.int .i64 i)]) (fun i=>((V.drop i).any fun n=>decide (lQ x n=6))=R0) V.length (by simpa using hR) (by simp) ?_ ?_
 ·intro i hi hI q hn hx' hr
  obtain⟨n,hn0⟩:=ax hi
  have hrow:=row_drop bG 1 (fun _=>by simp) hn0
  rw[Nat.mul_one] at hrow
  have hw1:=wrap_succ (i:=i) (by omega)
  rw[drop_cons hn0,List.any_cons] at hI
  have hL:(Ows (V.flatMap bG)).length=V.length:=by rw[bD,kT]
  have hi1:i+1≤V.length:=hi
  have hne:Ows (V.flatMap bG)≠[]:=fun h=>by rw[h] at hL;simp at hL;omega
  simp[hi,hL,hi1,ig hne,-bD,kz,hrow,splice]
  refine ay (fK n) ?_
  by_cases c:lQ x n=6
  ·simp[c] at hI
   simp[c]
   refine hr _ ?_
   simp[hI]
  ·simp[c] at hI
   simp[c,hw1]
   refine hn _ (by simp) ?_
   simpa using hI
 ·intro hI q hx' hr
  rw[List.drop_length,List.any_nil] at hI
  simp
  refine hx' _ _ ?_
  simp[←hI]
end Go.AmC
