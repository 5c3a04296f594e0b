import Derived.Test.YtafglhcclmbnbaaGreatAmBridge
import Derived.Below
import Derived.Sort.Grow
import Derived.Deep.Draws
import Derived.Lib.Join
import Derived.Shelf.GgSortFunc.InsertionK
import Derived.Shelf.Spec.SlicesGrow
set_option linter.unusedSimpArgs false
set_option linter.unusedVariables false
namespace Go.AM
open Go
def jG (n:Int):List D:=[.I .i64 n]
def aG5 (b:Bool):List D:=[.B b]
def bG (s:List UInt8):List D:=[.S s]
@[simp] theorem aPm {n:Int}:jG n=[.I .i64 n]:=rfl
@[simp] theorem aDM {b:Bool}:aG5 b=[.B b]:=rfl
@[simp] theorem aPl {s:List UInt8}:bG s=[.S s]:=rfl
def aTD (n:Int):Prop:=-9223372036854775808≤n∧n≤9223372036854775807
theorem aPi {n:Int} (h:(Lit.int .i64 n).wf=true):aTD n:=by
 simp[Lit.wf,IntKind.min,IntKind.max,IntKind.signed,IntKind.bits] at h
 exact h
def szR (t:Nat) (l:Int):Int:=if (t:Int)≤l then l-t else -1
section
variable {α : Type}
theorem dV (f:α→List D) (k:Nat) (hl:∀ x,(f x).length=k) (xs:List α):(xs.flatMap f).length=xs.length*k:=by
 induction xs with
 | nil=>simp
 | cons x xs ih=>simp[ih,hl,Nat.add_mul,Nat.add_comm]
theorem row_drop (f:α→List D) (k:Nat) (hl:∀ x,(f x).length=k):∀ {xs:List α} {i:Nat} {x:α},xs[i]?=some x→(xs.flatMap f).drop (i*k)=f x++(xs.drop (i+1)).flatMap f
 | [],i,x,h=>by simp at h
 | y::ys,0,x,h=>by simp at h;subst h;simp
 | y::ys,i+1,x,h=>by
  have:=row_drop f k hl (xs:=ys) (i:=i) (x:=x) (by simpa using h)
  rw[List.flatMap_cons,Nat.add_mul,Nat.one_mul,List.drop_append,List.drop_eq_nil_of_le (by rw[hl];omega),hl]
  simpa using this
theorem xR (f:α→List D) {xs:List α} {i:Nat} {x:α} (h:xs[i]?=some x):(xs.take (i+1)).flatMap f=(xs.take i).flatMap f++f x:=by
 rw[List.take_add_one,h];simp
theorem bQ (t:α→Nat) {xs:List α} {i:Nat} {x:α} (h:xs[i]?=some x):((xs.take (i+1)).map t).sum=((xs.take i).map t).sum+t x:=by
 rw[List.take_add_one,h];simp
theorem sum_take_le (t:α→Nat) (xs:List α) (i:Nat):((xs.take i).map t).sum≤(xs.map t).sum:=by
 have h:(xs.map t).sum=((xs.take i).map t).sum+((xs.drop i).map t).sum:=by
  rw[←List.sum_append,←List.map_append,List.take_append_drop]
 omega
theorem az (t:α→Nat) {xs:List α} {x:α} (h:x∈xs):t x≤(xs.map t).sum:=by
 induction xs with
 | nil=>simp at h
 | cons y ys ih =>
  rcases List.mem_cons.1 h with rfl|h
  ·simp
  ·have:=ih h;simp;omega
theorem Bh (t:α→Nat) (xs:List α):((xs.take xs.length).map t).sum=(xs.map t).sum:=by simp
end
theorem wrap64 {n:Int} (h:-9223372036854775808≤n) (h':n≤9223372036854775807):IntKind.i64.wrap n=n:=by rw[aA]<;>omega
mutual
theorem NF:∀ (d:D),jE (Ow d)=true
 | .I k n=>by simp[jE]
 | .B b=>by simp[jE]
 | .S s=>by simp[jE]
 | .L e n cs=>by simp[jE,l7 cs]
theorem l7:∀ (ds:List D),fD (Ows ds)=true
 | []=>by simp[fD]
 | d::ds=>by simp[fD,NF d,l7 ds]
end
mutual
theorem af9:∀ (d:D),hr (Ow d)=false
 | .I k n=>by simp[hr]
 | .B b=>by simp[hr]
 | .S s=>by simp[hr]
 | .L e n cs=>by simp[hr,Gg cs]
theorem Gg:∀ (ds:List D),hrs (Ows ds)=false
 | []=>by simp[hrs]
 | d::ds=>by simp[hrs,af9 d,Gg ds]
end
attribute [simp] NF l7 af9 Gg
theorem drop_cons {α:Type} {xs:List α} {i:Nat} {x:α} (h:xs[i]?=some x):xs.drop i=x::xs.drop (i+1):=by
 have hi:=(List.getElem?_eq_some_iff.1 h).1
 rw[List.drop_eq_getElem_cons hi,(List.getElem?_eq_some_iff.1 h).2]
def Aq (n:Nat):List UInt8:=if n=0 then [] else Aq (n / 10)++[UInt8.ofNat (48+n%10)]
theorem BR {n:Nat} (h:n≠0):Aq n=Aq (n / 10)++[UInt8.ofNat (48+n%10)]:=by rw[Aq,if_neg h]
theorem Jc (n:Nat):(Aq n).length≤n:=by
 induction n using Nat.strongRecOn with
 | _ n ih =>
  by_cases h:n=0
  ·subst h;rw[Aq];simp
  ·rw[BR h]
   have:=ih (n / 10) (by omega)
   simp;omega
def mtx (k:Int):List UInt8:=109::Aq k.toNat
section
variable {α : Type}
def ak (f:α→Int→α × Int) (xs:List α) (k:Int):List α × Int:=xs.foldl (fun p x=>(p.1++[(f x p.2).1],(f x p.2).2)) ([],k)
theorem iQ (f:α→Int→α × Int) {xs:List α} {i:Nat} {x:α} (k:Int) (h:xs[i]?=some x) :
  ak f (xs.take (i+1)) k=((ak f (xs.take i) k).1++[(f x (ak f (xs.take i) k).2).1],(f x (ak f (xs.take i) k).2).2):=by
 rw[List.take_add_one,h];simp[ak]
theorem uU (f:α→Int→α × Int):∀ (xs:List α) (a:List α) (k:Int),xs.foldl (fun p x=>(p.1++[(f x p.2).1],(f x p.2).2)) (a,k)=(a++(ak f xs k).1,(ak f xs k).2)
 | [],a,k=>by simp[ak]
 | x::xs,a,k=>by
  rw[List.foldl_cons,uU f xs]
  have h2:ak f (x::xs) k=([]++[(f x k).1]++(ak f xs (f x k).2).1,(ak f xs (f x k).2).2):=by unfold ak;rw[List.foldl_cons];exact uU f xs _ _
  rw[h2];simp
theorem kN (f:α→Int→α × Int) (xs ys:List α) (k:Int):ak f (xs++ys) k=((ak f xs k).1++(ak f ys (ak f xs k).2).1,(ak f ys (ak f xs k).2).2):=by
 conv=>lhs;unfold ak
 rw[List.foldl_append]
 exact uU f ys _ _
theorem aX (f:α→Int→α × Int):∀ (xs:List α) (k:Int),(ak f xs k).1.length=xs.length
 | [],k=>rfl
 | x::xs,k=>by
  have:=kN f [x] xs k
  rw[List.singleton_append] at this
  rw[this,List.length_append,aX f xs]
  simp[ak];omega
theorem uT (f:α→Int→α × Int) {xs:List α} {i:Nat} {x:α} (k:Int) (h:xs[i]?=some x):(ak f xs k).1[i]?=some (f x (ak f (xs.take i) k).2).1:=by
 have hi:i<xs.length:=(List.getElem?_eq_some_iff.1 h).1
 have:=kN f (xs.take (i+1)) (xs.drop (i+1)) k
 rw[List.take_append_drop] at this
 rw[this,iQ f k h]
 have hl:=aX f (xs.take i) k
 rw[List.length_take,Nat.min_eq_left (by omega)] at hl
 simp only
 rw[List.getElem?_append_left (by simp[hl]),List.getElem?_append_right (by omega)]
 simp[hl]
theorem aW (f:α→Int→α × Int) (t:α→Nat):∀ {xs:List α} {k:Int},(∀ x∈xs,∀ k,k≤(f x k).2∧(f x k).2≤k+20*(1+t x:Nat))→k≤(ak f xs k).2∧(ak f xs k).2≤k+20*(xs.length+(xs.map t).sum:Nat)
 | [],k,_=>by simp[ak]
 | x::xs,k,h=>by
  have:=kN f [x] xs k
  rw[List.singleton_append] at this
  rw[this]
  have h1:=h x (by simp) k
  have h2:=aW f t (xs:=xs) (k:=(f x k).2) (fun y hy=>h y (by simp[hy]))
  simp only[ak,List.foldl_cons,List.foldl_nil] at h2 ⊢
  simp only[List.length_cons,List.map_cons,List.sum_cons]
  omega
theorem J7 (g:Int→α):∀ (xs:List α) (k:Int),(ak (fun _ k=>(g k,k+1)) xs k).2=k+xs.length
 | [],k=>by simp[ak]
 | x::xs,k=>by
  have:=kN (fun _ k=>(g k,k+1)) [x] xs k
  rw[List.singleton_append] at this
  rw[this]
  simp only[ak,List.foldl_cons,List.foldl_nil]
  have:=J7 g xs (k+1)
  simp only[ak] at this
  rw[this];simp;omega
end
section
variable {A X : List AV} {n : Nat}
theorem eu (h:A.length=n) (k:Nat):(A++X).drop (n+k)=X.drop k:=by rw[List.drop_append,List.drop_eq_nil_of_le (by omega),List.nil_append];congr 1;omega
theorem dM (h:A.length=n):(A++X).drop n=X:=by simpa using eu (X:=X) h 0
theorem gX (h:A.length=n) (k:Nat):(A++X)[n+k]?=X[k]?:=by rw[List.getElem?_append_right (by omega)];congr 1;omega
theorem fQ (h:A.length=n):(A++X)[n]?=X[0]?:=by simpa using gX (X:=X) h 0
theorem gV (h:A.length=n) (k:Nat) (v:AV):(A++X).set (n+k) v=A++X.set k v:=by rw[List.set_append_right _ _ (by omega)];congr 2;omega
theorem fM (h:A.length=n) (v:AV):(A++X).set n v=A++X.set 0 v:=by simpa using gV (X:=X) h 0 v
def spl (cs:List AV) (off:Nat) (xs:List AV):List AV:=cs.take off++xs++cs.drop (off+xs.length)
theorem dw (h:A.length=n) (k:Nat) (vs:List AV):splice (A++X) (n+k) vs=A++spl X k vs:=by
 unfold splice spl
 rw[List.take_append,List.take_of_length_le (by omega),List.append_assoc,List.append_assoc,List.drop_append,List.drop_eq_nil_of_le (by omega),List.nil_append]
 rw[show n+k-A.length=k by omega,show n+k+vs.length-A.length=k+vs.length by omega,List.append_assoc]
theorem bV (h:A.length=n) (vs:List AV):splice (A++X) n vs=A++spl X 0 vs:=by simpa using dw (X:=X) h 0 vs
end
end Go.AM
namespace Go.AM
open Go
theorem vP {a b:List AV}:fD (a++b)=(fD a&&fD b):=by
 induction a with
 | nil=>simp[fD]
 | cons x a ih=>simp[fD,ih,Bool.and_assoc]
theorem CU {a b:List AV}:ik (a++b)=(ik a&&ik b):=by
 induction a with
 | nil=>simp[ik]
 | cons x a ih=>simp[ik,ih,Bool.and_assoc]
attribute [simp] vP CU
@[simp] theorem Xu {ds:List D} {cs:List AV}:jg (Ows ds++cs)=(jg cs).map (Cs ds++·):=by
 induction ds with
 | nil=>cases h:jg cs<;>simp[h]
 | cons d ds ih=>simp only[Cm,List.cons_append,jg,Gi,ih];cases h:jg cs<;>simp
theorem OX {n:Nat} {cs:List AV}:gy (.rsl n cs)=cs.isEmpty:=by cases cs<;>simp[gy]
attribute [simp ↓] OX
theorem zN {n:Nat} {res:AV} {outs:List AV}:zO n false res outs=((outs.length==n)&&jE res&&outs.all Gf):=by
 unfold zO
 cases ((outs.length==n)&&jE res&&outs.all Gf)<;>rfl
structure Still (w w':World):Prop where
 os:w'.os=w.os
 tape:w'.tape=w.tape
 output:w'.output=w.output
 size:w.heap.size≤w'.heap.size
 block:∀ k,k<w.heap.size→w'.heap[k]?=w.heap[k]?
theorem Still.refl (w:World):Still w w:=⟨rfl,rfl,rfl,Nat.le_refl _,fun _ _=>rfl⟩
theorem Still.of_below {w w':World} (h:RowKit.Below w.heap.size w w'):Still w w':=⟨h.os,h.tape,h.output,h.size,h.block⟩
theorem Still.of_grow (w:World) (k:Nat) (os:Array Obj):Still w (Go.Sort.grow (w.drewN k) os):=by
 refine⟨rfl,rfl,rfl,?_,fun b hb=>?_⟩
 ·show w.heap.size≤(w.heap++os).size
  simp
 ·show (w.heap++os)[b]?=_
  rw[Array.getElem?_append_left hb]
theorem Still.ext {w w':World} (h:Still w w') (f:Cnt):Ext w w' f:=⟨h.os,h.tape,h.output,h.size,fun b hb _=>h.block b hb⟩
theorem Still.inv {P:Program} {w w':World} {Φ:Nat→Prop} {f:Cnt} (h:Still w w') (hi:Inv P w Φ f):Inv P w' Φ f :=
 ⟨hi.sep,fun b hb=>Nat.lt_of_lt_of_le (hi.lt b hb) h.size,fun b hb=>Nat.lt_of_lt_of_le (hi.fz b hb) h.size,hi.apart,fZ hi.tab (fun b hb=>h.block b (hi.fz b hb)) (fun _ h=>h)⟩
theorem aDO {P:Program} {g:Nat} {args:List AV} {res:AV} (hres:dJ res=true)
  (h:∀ (w:World) (Φ:Nat→Prop) (σ:Nat→Value) (cargs:Array Value) (fa:Cnt),CR P w Φ σ [] args cargs.toList fa→Inv P w Φ fa →
   Calls P g cargs w fun en w'=>∃ cv,en=.returned cv∧Still w w'∧∀ w',VR P w' Φ σ [] res cv (fun _=>0)):Says P g args res []:=by
 intro w Φ σ cargs fa hcr _ hinv
 refine (h w Φ σ cargs fa hcr hinv).mono ?_
 rintro en w' ⟨cv,rfl,hst,hv⟩
 have hr0:hr res=false:=by cases res<;>simp[dJ] at hres<;>rfl
 refine⟨cv,Φ,fun _=>0,fun _=>0,rfl,hst.ext _,fun _ h=>h,fun _ h=>.inl h,hv w',hr0,?_,rfl,?_,fun b hb=>by simp at hb⟩
 ·simpa using CR_nil
 ·have:=hst.inv hinv
  exact⟨fun b=>by simp,fun b hb=>by simp at hb,this.fz,fun b _=>by simp,this.tab⟩
theorem bC {P:Program} {g e n:Nat} {cs rest:List AV} {res:AV} (h:Says P g (.osl 0 e n cs::rest) res []):Says P g (.osl 1 e n cs::rest) res (num 1 [.gone]):=by
 intro w Φ σ cargs fa hcr hh hinv
 have hcr0:CR P w Φ σ [] (.osl 0 e n cs::rest) cargs.toList fa:=by
  simp only[CR] at hcr ⊢
  obtain⟨v,vs',f1,f2,e1,hv,hr,hf⟩:=hcr
  refine⟨v,vs',f1,f2,e1,?_,hr,hf⟩
  simp only[VR] at hv ⊢
  exact⟨fun h=>absurd rfl h,hv.2⟩
 refine (h w Φ σ cargs fa hcr0 (by simpa [hrs,hr] using hh) hinv).mono ?_
 rintro en w' ⟨cv,Φ',f1,f2,he,hext,h1,h2,h3,h4,h5,h6,h7,h8⟩
 simp only[List.map_nil,CR] at h5
 refine⟨cv,Φ',f1,f2,he,hext,h1,h2,h3,h4,?_,rfl,h7,h8⟩
 exact eP (v:=.gone) (by simp only[VR];exact h5.2)
theorem aNg {P:Program} {w:World} {Φ:Nat→Prop} {f:Cnt} (h:Inv P w Φ f) {g:Nat} (hg:P.globalNamed "internal/strconv.uint64pow10" = some g):Lib.TabIs P w "internal/strconv.uint64pow10" .u64 Lib.pow10Tab :=
 (h.tab ("internal/strconv.uint64pow10",(Lib.pow10Tab.map fun z=>Value.int .u64 z).toArray) (by simp[zn]) g hg).2
theorem aQc {P:Program} {w:World} {Φ:Nat→Prop} {σ:Nat→Value} {k:IntKind} {n:Int} {vs:List Value} {f:Cnt} (h:CR P w Φ σ [] [.int k n] vs f):vs=[.int k n]:=by
 simp only[CR,VR] at h
 obtain⟨v,vs',f1,f2,rfl,⟨rfl,_⟩,⟨rfl,_⟩,_⟩:=h
 rfl
def dv:D→Value
 | .I k n=>.int k n
 | .B b=>.bool b
 | .S s=>.string ⟨s.toArray⟩
 | .L _ _ _=>.nilFunc
section
variable {P : Program} {w : World} {Φ : Nat → Prop} {σ : Nat → Value} {ρ : List Value}
theorem aLy {d:D} {v:Value} {f:Cnt} (hd:isL d=false) (h:VR P w Φ σ ρ (Ow d) v f):v=dv d∧∀ b,f b=0:=by
 cases d with
 | I k n=>simp only[aTP,VR] at h;exact h
 | B b=>simp only[aTQ,VR] at h;exact h
 | S s=>simp only[aTO,VR] at h;exact h
 | L e n cs=>simp[isL] at hd
theorem aB4 {d:D} (hd:isL d=false):VR P w Φ σ ρ (Ow d) (dv d) (fun _=>0):=by
 cases d with
 | I k n=>simp[VR,dv]
 | B b=>simp[VR,dv]
 | S s=>simp[VR,dv]
 | L e n cs=>simp[isL] at hd
theorem LP:∀ {ds:List D} {vs:List Value} {f:Cnt},(∀ d∈ds,isL d=false)→CR P w Φ σ ρ (Ows ds) vs f→vs=ds.map dv∧∀ b,f b=0
 | [],vs,f,_,h=>by simp only[afe,CR] at h;simpa using h
 | d::ds,vs,f,hd,h=>by
  simp only[Cm,CR] at h
  obtain⟨v,vs',f1,f2,rfl,h1,h2,hf⟩:=h
  obtain⟨rfl,z1⟩:=aLy (hd d (by simp)) h1
  obtain⟨rfl,z2⟩:=LP (fun x hx=>hd x (by simp[hx])) h2
  exact⟨by simp,fun b=>by rw[hf b,z1 b,z2 b]⟩
theorem MW:∀ {ds:List D},(∀ d∈ds,isL d=false)→CR P w Φ σ ρ (Ows ds) (ds.map dv) (fun _=>0)
 | [],_=>by simp[CR]
 | d::ds,hd=>by
  have:=CR_cons (aB4 (P:=P) (w:=w) (Φ:=Φ) (σ:=σ) (ρ:=ρ) (hd d (by simp))) (MW (ds:=ds) (fun x hx=>hd x (by simp[hx])))
  simpa using this
end
theorem aCd {P:Program} {g e:Nat} (hcell:P.cellsOf e=1) (xs:List (List UInt8)) (sep:List UInt8)
  (hsome:∀ (w:World) (blk cap:Nat),(∀ j x,xs[j]?=some x→w.cell? ⟨blk,j,none⟩=some (.string ⟨x.toArray⟩))→blk<w.heap.size→xs.length≤cap →
   Calls P g #[.slice (some ⟨blk,0,none⟩) xs.length cap,.string ⟨sep.toArray⟩] w fun en w'=>en=.returned (.string ⟨(Lib.join xs sep).toArray⟩)∧Still w w')
  (hnone:∀ (w:World),Calls P g #[.slice none 0 0,.string ⟨sep.toArray⟩] w fun en w'=>en=.returned (.string ⟨#[]⟩)∧w'=w) :
  Says P g [.osl 1 e xs.length (Ows (xs.flatMap bG)),.str sep] (.str (Lib.join xs sep)) [(1,.osl 1 e xs.length (Ows (xs.flatMap bG)))]:=by
 intro w Φ σ cargs fa hcr hh hinv
 simp only[CR] at hcr
 obtain⟨v,vs',f1,f2,hca,hv,⟨u,vs2,f3,f4,hvs,hu,⟨rfl,hz4⟩,hf2⟩,hfa⟩:=hcr
 simp only[VR] at hu
 obtain⟨rfl,hz3⟩:=hu
 subst hvs
 have hsc:∀ d∈xs.flatMap bG,isL d=false:=fun d hd=>by
  obtain⟨x,_,hx⟩:=List.mem_flatMap.1 hd
  simp at hx;subst hx;rfl
 simp only[VR] at hv
 obtain⟨hst,hx,cs,f5,ho,hc,hb⟩:=hv
 obtain⟨rfl,hz5⟩:=LP hsc hc
 have hcargs:cargs=#[v,.string ⟨sep.toArray⟩]:=by
  apply Array.toList_inj.1;rw[hca]
 have hs1:σ 1=v:=hst (by simp)
 have hfv:∀ b,fa b=iD v b:=fun b=>by rw[hfa b,hf2 b,hz3 b,hz4 b,hb b,hz5 b];omega
 -- what is handed back
 have back:∀ (w':World) (s:List UInt8),Still w w'→∃ (cv:Value) (Φ':Nat→Prop) (f1 f2:Cnt),Ending.returned (.string ⟨s.toArray⟩)=.returned cv∧Ext w w' fa∧(∀ b,Φ b→Φ' b)∧(∀ b,Φ' b→Φ b∨1≤fa b∨w.heap.size≤b) ∧
   VR P w' Φ' σ [] (.str s) cv f1∧hr (.str s)=false∧CR P w' Φ' σ [] ([(1,AV.osl 1 e xs.length (Ows (xs.flatMap bG)))].map (·.2)) ([(1,AV.osl 1 e xs.length (Ows (xs.flatMap bG)))].map fun p=>σ p.1) f2∧hrs ([(1,AV.osl 1 e xs.length (Ows (xs.flatMap bG)))].map (·.2))=false ∧
   Inv P w' Φ' (fun b=>f1 b+f2 b)∧(∀ b,1≤f1 b+f2 b→1≤fa b∨w.heap.size≤b):=by
  intro w' s hstl
  refine⟨_,Φ,fun _=>0,fa,rfl,hstl.ext _,fun _ h=>h,fun _ h=>.inl h,by simp[VR],rfl,?_,by simp[hrs,hr],?_,fun b h=>.inl (by simpa using h)⟩
  ·refine eP ?_
   simp only[VR]
   refine⟨by simp,hx,(xs.flatMap bG).map dv,fun _=>0,?_,MW hsc,fun b=>by rw[hfv b,hs1];rfl⟩
   show w'.ownsRow 0 e (P.cellsOf e) (σ 1) xs.length _
   rw[hs1]
   refine⟨ho.1,?_⟩
   rcases ho.2 with hn|⟨gb,cap,cur,e1,h0,hg,rest⟩
   ·exact .inl hn
   ·refine .inr ⟨gb,cap,cur,e1,h0,?_,rest⟩
    rw[hstl.block gb (Array.getElem?_eq_some_iff.1 hg).1]
    exact hg
  ·have e0:(fun b=>(fun _=>0) b+fa b)=fa:=funext fun b=>by simp
   rw[e0];exact hstl.inv hinv
 rw[hcargs]
 rcases ho.2 with ⟨rfl,h0⟩|⟨gb,cap,cur,rfl,_,hg,hn,hm,hs,ht⟩
 ·have hxs:xs=[]:=List.eq_nil_of_length_eq_zero h0
  subst hxs
  refine (hnone w).mono ?_
  rintro en w' ⟨rfl,rfl⟩
  exact back w' [] (Still.refl _)
 ·refine (hsome w gb cap (fun j x hj=>?_) (Array.getElem?_eq_some_iff.1 hg).1 hn).mono ?_
  ·have hj1:((xs.flatMap bG).map dv)[j]?=some (.string ⟨x.toArray⟩):=by
    have:=row_drop bG 1 (fun _=>by simp) hj
    rw[Nat.mul_one] at this
    have h2:(xs.flatMap bG)[j]?=some (.S x):=by
     have h3:=congrArg (·[0]?) this
     simpa using h3
    rw[List.getElem?_map,h2];rfl
   have:=ho.cells (g:=gb) rfl j _ hj1
   simpa [add_lit] using this
  ·rintro en w' ⟨rfl,hstl⟩
   exact back w' _ hstl
end Go.AM
namespace Go.AM
open Go Go.Sort Go.Proofs
section
variable {α : Type} [Inhabited α]
theorem Ai (enc:α→List Value) (k:Nat) (hk:∀ x,(enc x).length=k) (xs:List α):(flatK enc k xs.toArray).toList=xs.flatMap enc:=by
 have hl:(xs.flatMap enc).length=xs.length*k:=by
  induction xs with
  | nil=>simp
  | cons x xs ih=>simp[ih,hk,Nat.add_mul,Nat.add_comm]
 apply List.ext_getElem?
 intro t
 by_cases ht:t<xs.length*k
 ·have k0:0<k:=by
   rcases Nat.eq_zero_or_pos k with h|h
   ·subst h;simp at ht
   ·exact h
  have h1:(flatK enc k xs.toArray)[t]! = (enc xs.toArray[t / k]!)[t%k]!:=get_flatK enc k xs.toArray t (by simpa using ht)
  have hs:t<(flatK enc k xs.toArray).size:=by simpa using ht
  have e1:(flatK enc k xs.toArray).toList[t]?=some (enc xs.toArray[t / k]!)[t%k]!:=by
   rw[←h1,Array.getElem?_toList,Array.getElem?_eq_getElem hs,getElem!_pos _ t hs]
  rw[e1]
  have hq:t / k<xs.length:=Nat.div_lt_of_lt_mul (by rw[Nat.mul_comm];exact ht)
  obtain⟨x,hx⟩:∃ x,xs[t / k]?=some x:=⟨_,List.getElem?_eq_getElem hq⟩
  have hx! : xs.toArray[t / k]! = x:=by
   rw[getElem!_pos xs.toArray _ (by simpa using hq)]
   simpa using (List.getElem?_eq_some_iff.1 hx).2
  rw[hx!]
  have hm:t%k<(enc x).length:=by rw[hk];exact Nat.mod_lt _ k0
  have key:∀ (ys:List α) (i r:Nat) (y:α),ys[i]?=some y→r<k→(ys.flatMap enc)[i*k+r]?=(enc y)[r]?:=by
   intro ys
   induction ys with
   | nil=>intro i r y h;simp at h
   | cons z zs ih =>
    intro i r y h hr
    cases i with
    | zero =>
     simp at h;subst h
     rw[List.flatMap_cons,Nat.zero_mul,Nat.zero_add,List.getElem?_append_left (by rw[hk];exact hr)]
    | succ i =>
     rw[List.flatMap_cons,List.getElem?_append_right (by rw[hk,Nat.add_mul];omega),hk]
     rw[show (i+1)*k+r-k=i*k+r by rw[Nat.add_mul];omega]
     exact ih i r y (by simpa using h) hr
  have:=key xs (t / k) (t%k) x hx (Nat.mod_lt _ k0)
  rw[show t / k*k+t%k=t by rw[Nat.mul_comm];exact Nat.div_add_mod t k] at this
  rw[this,List.getElem?_eq_getElem hm,getElem!_pos (enc x) (t%k) hm]
 ·rw[List.getElem?_eq_none (by simp;omega),List.getElem?_eq_none (by omega)]
theorem Yh {P:Program} (w:World) (Φ:Nat→Prop) (σ:Nat→Value) (vs:List Value) (fa:Cnt) (h:CR P w Φ σ [] [] vs fa):vs=[]∧∀ b,fa b=0:=by
 simpa only[CR] using h
theorem ag2 {P:Program} (g:Nat) (w:World) (Φ:Nat→Prop) (σ:Nat→Value) (vs:List Value) (fa:Cnt) (h:CR P w Φ σ [] [.fn g []] vs fa):vs=[.func (.func g) #[] #[]]∧∀ b,fa b=0:=by
 simp only[CR,VR] at h
 obtain⟨v,vs',f1,f2,rfl,⟨us,rfl,_,hu,z1⟩,⟨rfl,z2⟩,hf⟩:=h
 have:us=#[]:=Array.toList_inj.1 (by rw[hu])
 subst this
 exact⟨rfl,fun b=>by rw[hf b,z1 b,z2 b]⟩
theorem DZ {P:Program} (f:α→List D) (k e g:Nat) (hk:∀ x,(f x).length=k) (hsc:∀ x,∀ d∈f x,isL d=false) (hcell:P.cellsOf e=k) (xs ys:List α) (hlen:ys.length=xs.length) (ex:List AV) (exv:List Value)
  (hex:∀ (w:World) (Φ:Nat→Prop) (σ:Nat→Value) (vs:List Value) (fa:Cnt),CR P w Φ σ [] ex vs fa→vs=exv∧∀ b,fa b=0)
  (hsome:∀ (w:World) (blk cap:Nat),HoldsK (fun x=>(f x).map dv) k w blk 0 xs.toArray→blk<w.heap.size→xs.length≤maxLen→Calls P g (#[.slice (some ⟨blk,0,none⟩) xs.length cap]++exv.toArray) w fun en w'=>en=.returned (.tuple #[])∧∃ n os,w'=sortWorldK (fun x=>(f x).map dv) k w blk 0 n ys.toArray os)
  (hnone:∀ (w:World),xs=[]→Calls P g (#[.slice none 0 0]++exv.toArray) w fun en w'=>en=.returned (.tuple #[])∧w'=w) :
  Says P g (.osl 1 e xs.length (Ows (xs.flatMap f))::ex) (.tup [] []) [(1,.osl 1 e xs.length (Ows (ys.flatMap f)))]:=by
 intro w Φ σ cargs fa hcr hh hinv
 simp only[CR] at hcr
 obtain⟨v,vs',f1,f2,hca,hv,he,hfa⟩:=hcr
 obtain⟨rfl,hz2⟩:=hex w Φ σ vs' f2 he
 have hsc2:∀ zs:List α,∀ d∈zs.flatMap f,isL d=false:=fun zs d hd=>by
  obtain⟨x,_,hx⟩:=List.mem_flatMap.1 hd
  exact hsc x d hx
 simp only[VR] at hv
 obtain⟨hst,hx,cs,f3,ho,hc,hb⟩:=hv
 obtain⟨rfl,hz3⟩:=LP (hsc2 xs) hc
 have hcargs:cargs=#[v]++vs'.toArray:=by
  apply Array.toList_inj.1;rw[hca];simp
 have hs1:σ 1=v:=hst (by simp)
 have hfv:∀ b,fa b=iD v b:=fun b=>by rw[hfa b,hz2 b,hb b,hz3 b];omega
 rcases ho.2 with ⟨rfl,h0⟩|⟨gb,cap,cur,rfl,_,hg,hn,hm,hs,ht⟩
 ·have hxs:xs=[]:=List.eq_nil_of_length_eq_zero h0
  subst hxs
  have hys:ys=[]:=List.eq_nil_of_length_eq_zero (by simpa using hlen)
  subst hys
  rw[hcargs]
  refine (hnone w rfl).mono ?_
  rintro en w' ⟨rfl,rfl⟩
  refine⟨_,Φ,fun _=>0,fa,rfl,Ext.refl _ _,fun _ h=>h,fun _ h=>.inl h,?_,rfl,?_,?_,?_,fun b h=>.inl (by simpa using h)⟩
  ·simp[VR,CR,kY]
  ·refine eP ?_
   simp only[VR]
   exact⟨by simp,by simp[hrs],[],fun _=>0,by rw[hs1];exact ho,by simp[CR],fun b=>by rw[hfv b,hs1];rfl⟩
  ·simp[hrs,hr]
  ·have e0:(fun b=>(fun _=>0) b+fa b)=fa:=funext fun b=>by simp
   rw[e0];exact hinv
 ·have hg0:gb<w.heap.size:=by
   rw[Array.getElem?_eq_some_iff] at hg;exact hg.1
  have hflat:(flatK (fun x=>(f x).map dv) k xs.toArray).toList=(xs.flatMap f).map dv:=by
   rw[Ai _ k (fun x=>by simp[hk]),List.map_flatMap]
  have hflat2:(flatK (fun x=>(f x).map dv) k ys.toArray).toList=(ys.flatMap f).map dv:=by
   rw[Ai _ k (fun x=>by simp[hk]),List.map_flatMap]
  have hH:HoldsK (fun x=>(f x).map dv) k w gb 0 xs.toArray:=by
   intro j hj
   have hj':j<xs.length*k:=by simpa using hj
   refine⟨?_,?_⟩
   ·rw[Nat.zero_add,cell_of_row w gb j cur e (0,0) hg]
    have h1:(cur.toList.take (xs.length*P.cellsOf e))[j]?=cur[j]?:=by
     rw[List.getElem?_take,if_pos (by rw[hcell];exact hj'),Array.getElem?_toList]
    rw[←h1,ht,←hflat,Array.getElem?_toList,Array.getElem?_eq_getElem hj]
    show _=some (id _)
    rw[getElem!_pos _ j hj];rfl
   ·simp[World.frozen?,hg]
  rw[hcargs]
  refine (hsome w gb cap hH hg0 (by omega)).mono ?_
  rintro en w' ⟨rfl,n,os,rfl⟩
  have hheap:(sortWorldK (fun x=>(f x).map dv) k w gb 0 n ys.toArray os).heap=w.heap.modify gb (onCells (putCells id 0 (flatK (fun x=>(f x).map dv) k ys.toArray)))++os:=rfl
  have hother:∀ b,b<w.heap.size→b≠gb→(sortWorldK (fun x=>(f x).map dv) k w gb 0 n ys.toArray os).heap[b]?=w.heap[b]?:=by
   intro b hb1 hb2
   rw[hheap,Array.getElem?_append_left (by simpa using hb1),Array.getElem?_modify,if_neg (Ne.symm hb2)]
  have hcur:(sortWorldK (fun x=>(f x).map dv) k w gb 0 n ys.toArray os).heap[gb]?=some (.cells (putCells id 0 (flatK (fun x=>(f x).map dv) k ys.toArray) cur) e (0,0)):=by
   rw[hheap,Array.getElem?_append_left (by simpa using hg0),Array.getElem?_modify,if_pos rfl,hg]
   rfl
  have hsz:w.heap.size≤(sortWorldK (fun x=>(f x).map dv) k w gb 0 n ys.toArray os).heap.size:=by rw[hheap];simp
  have hown:∀ b,iD (.slice (some ⟨gb,0,none⟩) xs.length cap) b=if b=gb then 1 else 0:=fun b=>by
   simp[iD,Value.ownBlock,eq_comm]
  refine⟨_,Φ,fun _=>0,fa,rfl,⟨rfl,rfl,rfl,hsz,fun b hb1 hb2=>hother b hb1 fun e1=>?_⟩,fun _ h=>h,fun _ h=>.inl h,?_,rfl,?_,?_,?_,fun b h=>.inl (by simpa using h)⟩
  ·have:=hfv b;rw[hown b,if_pos e1] at this;omega
  ·simp[VR,CR,kY]
  ·refine eP ?_
   simp only[VR]
   have h2:(hrs (Ows (ys.flatMap f)))=false:=by simp
   refine⟨by simp,h2,(ys.flatMap f).map dv,fun _=>0,?_,MW (hsc2 ys),fun b=>by rw[hfv b,hs1];rfl⟩
   rw[hs1]
   have hll:((ys.flatMap f).map dv).length=xs.length*k:=by rw[List.length_map,dV f k hk,hlen]
   refine⟨by rw[hll,hcell],.inr ⟨gb,cap,_,rfl,Nat.zero_le _,hcur,hn,hm,by simpa [putCells] using hs,?_⟩⟩
   apply List.ext_getElem?
   intro t
   rw[List.getElem?_take,hcell]
   by_cases htt:t<xs.length*k
   ·rw[if_pos htt,Array.getElem?_toList]
    have hct:t<cur.size:=by rw[hs,hcell];exact Nat.lt_of_lt_of_le htt (Nat.mul_le_mul_right k hn)
    have hfs:t<(flatK (fun x=>(f x).map dv) k ys.toArray).size:=by simpa [hlen] using htt
    rw[putCells,Array.getElem?_mapIdx,Array.getElem?_eq_getElem hct,Option.map_some,if_pos ⟨Nat.zero_le _,by omega⟩,←hflat2,Array.getElem?_toList,Array.getElem?_eq_getElem hfs,Nat.sub_zero,getElem!_pos _ t hfs]
    rfl
   ·rw[if_neg htt,List.getElem?_eq_none (by omega)]
  ·simp[hrs,hr]
  ·have e0:(fun b=>(fun _=>0) b+fa b)=fa:=funext fun b=>by simp
   rw[e0]
   exact⟨hinv.sep,fun b hb1=>Nat.lt_of_lt_of_le (hinv.lt b hb1) hsz,fun b hb1=>Nat.lt_of_lt_of_le (hinv.fz b hb1) hsz,hinv.apart,fZ hinv.tab (fun b hb1=>hother b (hinv.fz b hb1) fun e1=>by
    have h1:=hinv.apart b hb1;have:=hfv b;rw[hown b,if_pos e1] at this;omega) (fun _ h=>h)⟩
end
end Go.AM
namespace Go.AM
open Go Go.Proofs Go.Shelf
theorem Eu {P:Program} {ρ:Ren} (L:Lays8.n4 P ρ) {z:Value} {size bytes:Nat} (hI:(P.info? (ρ.t 25)).map (fun i=>(i.zero,i.size,i.bytes))=some (some z,size,bytes)) (hs0:0<size) (hzs:z.cells.size=size) (hc:P.cellsOf (ρ.t 25)=size)
  (n:Nat) (hn:n*bytes≤140737488355328) (hn2:n≤4611686018427387904):Says P (ρ.f 4) [.nsl true,.int .i64 n] (.osl 0 (ρ.t 25) 0 []) []:=by
 obtain⟨i0,hi0,hz0,rfl,rfl⟩:=Go.info_parts hI
 intro w Φ σ cargs fa hcr _ hinv
 simp only[CR,VR] at hcr
 obtain⟨v,vs',f1,f2,hca,⟨⟨a,c,rfl,ha,hac⟩,hz1⟩,⟨v2,vs2,f3,f4,rfl,⟨rfl,hz3⟩,⟨rfl,hz4⟩,hf2⟩,hfa⟩:=hcr
 have ha0:a=none:=by cases a<;>simp at ha ⊢
 subst ha0
 have hc0:=hac rfl
 subst hc0
 have hcargs:cargs=#[.slice none 0 0,.int .i64 n]:=by
  apply Array.toList_inj.1;rw[hca]
 subst hcargs
 have hfa0:∀ b,fa b=0:=fun b=>by rw[hfa b,hz1 b,hf2 b,hz3 b,hz4 b]
 by_cases k:n=0
 ·subst k
  refine (Any8.slices_Grow_room L none 0 0 0 w (Nat.le_refl _) (by omega) (by omega) (by omega)).mono ?_
  rintro en w' ⟨rfl,rfl⟩
  refine⟨_,Φ,fun _=>0,fun _=>0,rfl,Ext.refl _ _,fun _ h=>h,fun _ h=>.inl h,?_,rfl,by simpa using CR_nil,rfl,⟨fun b=>by simp,fun b hb=>by simp at hb,hinv.fz,fun b _=>by simp,hinv.tab⟩,fun b hb=>by simp at hb⟩
  simp only[VR]
  exact⟨fun h=>absurd rfl h,rfl,[],fun _=>0,World.ownsRow_nil _ _ _ _,CR_nil,fun b=>by simp[iD,Value.ownBlock]⟩
 ·refine (Any8.slices_Grow_grow L i0 z hi0 hz0 hs0 none 0 0 n [] w (Nat.le_refl _) (by omega) (by simpa using hn) (by omega) (by simp) (fun _=>rfl) (fun a h=>nomatch h)).mono ?_
  rintro en w' ⟨rfl,rfl⟩
  have hge:=grownCap_ge w (0+n) 0 (ρ.t 25)
  have hle:=grownCap_le_maxLen w (0+n) 0 (ρ.t 25) (by unfold maxLen;omega)
  generalize grownCap w (0+n) 0 (ρ.t 25)=cap at hge hle ⊢
  generalize hC:([].toArray++Builtin.zeroCells z.cells (0+n-0)++Builtin.zeroCells z.cells (cap-(0+n)):Array Value)=C
  have hCs:C.size=cap*i0.size:=by
   rw[←hC]
   simp only[Array.size_append,Go.size_zeroCells,hzs]
   simp
   rw[←Nat.add_mul]
   congr 1
   omega
  have hheap:(w.drew.alloc (.cells C (ρ.t 25))).heap=w.heap.push (.cells C (ρ.t 25)):=rfl
  have hsz:(w.drew.alloc (.cells C (ρ.t 25))).heap.size=w.heap.size+1:=by rw[hheap,Array.size_push]
  have hst:Still w (w.drew.alloc (.cells C (ρ.t 25))):=by
   refine⟨rfl,rfl,rfl,by omega,fun k hk=>?_⟩
   rw[hheap,Array.getElem?_push,if_neg (Nat.ne_of_lt hk)]
  have hgot:(w.drew.alloc (.cells C (ρ.t 25))).heap[w.heap.size]?=some (.cells C (ρ.t 25)):=by rw[hheap,Array.getElem?_push,if_pos rfl]
  have hown:∀ b,iD (.slice (some ⟨w.heap.size,0,none⟩) 0 cap) b=if b=w.heap.size then 1 else 0:=fun b=>by
   simp[iD,Value.ownBlock,eq_comm]
  refine⟨_,Φ,iD (.slice (some ⟨w.heap.size,0,none⟩) 0 cap),fun _=>0,rfl,hst.ext _,fun _ h=>h,fun _ h=>.inl h,?_,rfl,by simpa using CR_nil,rfl,?_,?_⟩
  ·simp only[VR]
   refine⟨fun h=>absurd rfl h,rfl,[],fun _=>0,⟨by simp,.inr ⟨w.heap.size,cap,C,rfl,Nat.zero_le _,?_,Nat.zero_le _,hle,by rw[hc];exact hCs,by simp⟩⟩,CR_nil,fun b=>by simp⟩
   exact hgot
  ·have hi:=hst.inv (f:=fun _=>0) ⟨fun b=>by simp,fun b hb=>by simp at hb,hinv.fz,fun b _=>by simp,hinv.tab⟩
   refine⟨fun b=>?_,fun b hb=>?_,hi.fz,fun b hb=>?_,hi.tab⟩
   ·simp only[hown,Nat.add_zero];split<;>omega
   ·simp only[hown,Nat.add_zero] at hb
    have:b=w.heap.size:=Classical.byContradiction fun e=>by rw[if_neg e] at hb;omega
    omega
   ·have:=hinv.fz b hb
    simp only[hown,Nat.add_zero]
    rw[if_neg (by omega)]
  ·intro b hb
   simp only[hown,Nat.add_zero] at hb
   have:b=w.heap.size:=Classical.byContradiction fun e=>by rw[if_neg e] at hb;omega
   omega
end Go.AM
