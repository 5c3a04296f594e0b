import Derived.Test.YtafglhcclmbnbaaGreatSwapAllMay
import Derived.Test.YtafglhcclmbnbaaGreatSwapAllOrdS
import Derived.Test.YtafglhcclmbnbaaGreatAmGrow
import Derived.Test.YtafglhcclmbnbaaGreatSwapAllSize
set_option linter.unusedSimpArgs false
set_option linter.unusedVariables false
set_option maxRecDepth 20000
set_option maxHeartbeats 4000000
namespace Go.AmC
open Go Go.AM
open Go.Proofs.Tryz (prog)
structure Dep where
 A:Int
 B:Int
 Far:Bool
 W:Int
def Dep.d (x:Dep):List D:=[.I .i64 x.A,.I .i64 x.B,.B x.Far,.I .i64 x.W]
theorem Dep.d_len (x:Dep):x.d.length=4:=rfl
def lH (a b:Acc):Bool:=decide (a.Name=b.Name)&&(a.Puts||b.Puts)
def J8 (n:Nm) (i k:Nat) (a b:Acc):Dep:=match nU a.F b.F n with
 | some q=>if q=0 then ⟨i,k,false,0⟩ else ⟨i,k,true,q.natAbs⟩
 | none=>⟨i,k,false,0⟩
def Oa (n:Nm) (box:List Rng) (l:List Acc) (i:Nat) (a:Acc) (k:Nat):Option Dep:=match l[k]? with
 | some b=>if lH a b&&jM a.F b.F n box then some (J8 n i k a b) else none
 | none=>none
def mW (n:Nm) (box:List Rng) (l:List Acc) (i:Nat) (a:Acc) (j:Nat):List Dep:=(List.range j).filterMap fun k=>Oa n box l i a (i+k)
def jo (n:Nm) (box:List Rng) (l:List Acc) (m:Nat):List Dep:=(List.range m).flatMap fun i=>match l[i]? with
 | some a=>mW n box l i a (l.length-i)
 | none=>[]
theorem Ap (n:Nm) (box:List Rng) (l:List Acc) (i:Nat) (a:Acc) (j:Nat):mW n box l i a (j+1)=mW n box l i a j++(Oa n box l i a (i+j)).toList:=by
 unfold mW
 rw[List.range_succ,List.filterMap_append]
 cases h:Oa n box l i a (i+j)<;>simp[h]
theorem rF (n:Nm) (box:List Rng) {l:List Acc} {i:Nat} {a:Acc} (h:l[i]?=some a):jo n box l (i+1)=jo n box l i++mW n box l i a (l.length-i):=by
 unfold jo
 rw[List.range_succ,List.flatMap_append]
 simp[h]
theorem xX (n:Nm) (box:List Rng) (l:List Acc) (i:Nat) (a:Acc) (j:Nat):(mW n box l i a j).length≤j:=by
 have:=List.length_filterMap_le (fun k=>Oa n box l i a (i+k)) (List.range j)
 simpa [mW] using this
theorem ql (n:Nm) (box:List Rng) (l:List Acc):∀ m,(jo n box l m).length≤m*l.length
 | 0=>by simp[jo]
 | m+1=>by
  have ih:=ql n box l m
  cases h:l[m]? with
  | none =>
   have:jo n box l (m+1)=jo n box l m:=by unfold jo;rw[List.range_succ,List.flatMap_append];simp[h]
   rw[this,Nat.add_mul];omega
  | some a =>
   have:=xX n box l m a (l.length-m)
   rw[rF n box h,List.length_append,Nat.add_mul];omega
def nV (st:Bool) (x:Stmt):Option (List Dep):=match dH st x with
 | none=>none
 | some r=>some (jo x.S r.2 r.1 r.1.length)
theorem G7 (a b:Acc):Says prog 173 [.agg (Cs a.d),.agg (Cs b.d)] (.bool (lH a b)) []:=by
 refine aP Go.Proofs.Tryz.func173 aGy ?_
 unfold lH
 by_cases c:a.Name=b.Name<;>cases h1:a.Puts<;>cases h2:b.Puts<;>simp[v173,aOU,Acc.d,c,h1,h2]
theorem Va (f g:Aff) (n:Nm) (hf:AOk f) (hg:AOk g) (q:Int) (h:nU f g n=some q):-200000≤q∧q≤200000:=by
 have cf:=bJ hf.c
 have cg:=bJ hg.c
 unfold nU at h
 repeat' split at h
 all_goals first|(cases h;done)|(cases h;exact LU _ _ (by omega))
theorem aNj {i n:Nat} (hi:i<n) (hn:n≤60000):i*n+n≤3600000000:=by
 have:(i+1)*n≤60000*60000:=Nat.mul_le_mul (by omega) (by omega)
 rw[Nat.add_mul] at this;omega
def tq (v:Option (List Dep)):AV:=match v with
 | none=>.tup [none,none] [.osl 0 330 0 [],.bool false]
 | some l=>.tup [none,none] [.osl 0 330 l.length (Ows (l.flatMap Dep.d)),.bool true]
theorem H6 (x:Stmt) (hx:x.tot≤5000000) (hL:∀ r,dH true x=some r→r.1.length≤60000):Says prog 346 [.agg (Cs x.d)] (tq (nV true x)) []:=by
 have f:=yJ x hx
 have hok:=xe true x hx
 refine aP Go.Proofs.Tryz.func346 aEV ?_
 unfold nV
 generalize dH true x=o at f hok hL ⊢
 cases o with
 | none =>
  simp[Nr] at f
  simp[aCq,aCW,tq]
  refine gQ f ?_
  simp
 | some r =>
  obtain⟨l,box⟩:=r
  obtain⟨h1,h2,h3,h4,h5⟩:=hok _ rfl
  have hl:=hL _ rfl
  simp only at h1 h2 h3 h4 h5 hl
  simp[Nr] at f
  simp[aCq,aCW,tq]
  refine gQ f ?_
  simp[C9]
  refine aZ (l:=TF) (b:=VC) rfl [12,13,14,15,16,17,18,19,20,21,22] (fun i=>[(8,.osl 0 330 (jo x.S box l i).length (Ows ((jo x.S box l i).flatMap Dep.d))),(11,.int .i64 i)]) (fun i=>True) l.length trivial (by simp[jo]) ?_ ?_
  ·intro i hi hI q hn hx' hr
   obtain⟨a,ha0⟩:=ax hi
   have hrow:=row_drop Acc.d 5 Acc.d_len ha0
   have hw:=wrap_succ (i:=i) (by omega)
   have haF:=h1 a (List.mem_of_getElem? ha0)
   have hsq:=aNj hi hl
   have hol:=ql x.S box l i
   rw[rF x.S box ha0] at hn
   generalize jo x.S box l i=O at hn hol ⊢
   simp[hi,aj,hrow,splice,Acc.d]
   refine aZ (l:=TG) (b:=VD) rfl [16,17,18,19,20,21,22] (fun j=>[(8,.osl 0 330 (O++mW x.S box l i a j).length (Ows ((O++mW x.S box l i a j).flatMap Dep.d))),(15,.int .i64 ((i+j:Nat):Int))]) (fun j=>True) (l.length-i) trivial (by simp[mW]) ?_ ?_
   ·intro j hj hJ q2 hn2 hx2 hr2
    have hk:i+j<l.length:=by omega
    obtain⟨b,hb0⟩:=ax hk
    have hrowb:=row_drop Acc.d 5 Acc.d_len hb0
    have hw2:IntKind.i64.wrap (((i+j:Nat):Int)+1)=((i+(j+1):Nat):Int):=by rw[wrap64]<;>omega
    have hbF:=h1 b (List.mem_of_getElem? hb0)
    have f1:=G7 a b
    have f2:=FD a.F b.F x.S box (by have:=haF.2;omega) (by have:=hbF.2;omega) (by omega) (fun y hy=>by have:=h5 y hy;omega)
    have f3:=PQ a.F b.F x.S haF.1 hbF.1 (by have:=haF.2;omega) (by have:=hbF.2;omega)
    have hdb:=Va a.F b.F x.S haF.1 hbF.1
    have hil:=xX x.S box l i a j
    have hb1:(O++mW x.S box l i a j).length+1≤bnd:=by rw[List.length_append];unfold bnd;omega
    have ec:Oa x.S box l i a (i+j)=if lH a b&&jM a.F b.F x.S box then some (J8 x.S i (i+j) a b) else none:=by unfold Oa;rw[hb0]
    rw[Ap,ec,←List.append_assoc] at hn2
    have eik:((i+j:Nat):Int)<l.length:=by omega
    generalize O++mW x.S box l i a j=O2 at hn2 hb1 ⊢
    generalize hy:((i+j:Nat):Int)=y at *
    have y0:0≤y:=by omega
    have yn:y.toNat=i+j:=by omega
    simp[Acc.d] at f1
    simp at f2 f3
    simp[eik,y0,yn,aj,hrowb,splice,Acc.d]
    refine ai f1 ?_
    cases c1:lH a b
    ·simp[hw2]
     first|refine hn2 _ ?_ trivial|refine hn2 _ ?_
     simp[c1]
    ·simp
     refine ai f2 ?_
     cases c2:jM a.F b.F x.S box
     ·simp[hw2]
      first|refine hn2 _ ?_ trivial|refine hn2 _ ?_
      simp[c1,c2]
     ·simp[c1,c2,J8] at hn2
      simp[splice]
      refine ai f3 ?_
      cases c3:nU a.F b.F x.S with
      | none =>
       simp[c3] at hn2
       simp[resD,splice,hb1,hw2]
       first|refine hn2 _ ?_ trivial|refine hn2 _ ?_
       simp[Dep.d,hy];omega
      | some v =>
       obtain⟨v1,v2⟩:=hdb v c3
       have f4:=Cf v (by omega) (by omega)
       simp only[c3] at hn2
       by_cases c4:v=0
       ·simp[c4] at hn2
        simp[resD,c4,splice,hb1,hw2]
        first|refine hn2 _ ?_ trivial|refine hn2 _ ?_
        simp[Dep.d,hy];omega
       ·simp[c4] at hn2
        simp[resD,c4,splice]
        refine ai f4 ?_
        simp[splice,hb1,hw2]
        first|refine hn2 _ ?_ trivial|refine hn2 _ ?_
        simp[Dep.d,hy];omega
   ·intro hJ q2 hx2 hr2
    have e:((i+(l.length-i):Nat):Int)=(l.length:Int):=by omega
    rw[e]
    simp
    refine hx2 _ _ ?_
    simp[hw]
    refine hn _ ?_ trivial
    simp
  ·intro hI q hx' hr
   simp
   refine hx' _ _ ?_
   simp
theorem H5 (x:Stmt) (hx:x.tot≤5000000) (hL:∀ r,dH false x=some r→r.1.length≤60000):Says prog 342 [.agg (Cs x.d)] (tq (nV false x)) []:=by
 have f:=yI x hx
 have fB:=qw x hx
 have hok:=xe false x hx
 refine aP Go.Proofs.Tryz.func342 aEZ ?_
 unfold nV
 generalize dH false x=o at f hok hL ⊢
 cases o with
 | none =>
  simp[JU] at f
  generalize jA x=ob at fB
  simp[qB,oI] at fB
  simp[aCs,aCY,tq]
  refine gQ f ?_
  simp
  refine gQ fB ?_
  simp
 | some r =>
  obtain⟨l,box⟩:=r
  obtain⟨h1,h2,h3,h4,h5⟩:=hok _ rfl
  have hl:=hL _ rfl
  simp only at h1 h2 h3 h4 h5 hl
  simp[JU] at f
  rw[h3] at fB
  simp[qB,oI] at fB
  simp[aCs,aCY,tq]
  refine gQ f ?_
  simp[C9]
  refine gQ fB ?_
  simp
  refine aZ (l:=TJ) (b:=VF) rfl [10,11,12,13,14,15,16] (fun i=>[(4,.osl 0 330 (jo x.S box l i).length (Ows ((jo x.S box l i).flatMap Dep.d))),(9,.int .i64 i)]) (fun i=>True) l.length trivial (by simp[jo]) ?_ ?_
  ·intro i hi hI q hn hx' hr
   obtain⟨a,ha0⟩:=ax hi
   have hrow:=row_drop Acc.d 5 Acc.d_len ha0
   have hw:=wrap_succ (i:=i) (by omega)
   have haF:=h1 a (List.mem_of_getElem? ha0)
   have hsq:=aNj hi hl
   have hol:=ql x.S box l i
   rw[rF x.S box ha0] at hn
   generalize jo x.S box l i=O at hn hol ⊢
   simp[hi]
   refine aZ (l:=TK) (b:=VG) rfl [12,13,14,15,16] (fun j=>[(4,.osl 0 330 (O++mW x.S box l i a j).length (Ows ((O++mW x.S box l i a j).flatMap Dep.d))),(11,.int .i64 ((i+j:Nat):Int))]) (fun j=>True) (l.length-i) trivial (by simp[mW]) ?_ ?_
   ·intro j hj hJ q2 hn2 hx2 hr2
    have hk:i+j<l.length:=by omega
    obtain⟨b,hb0⟩:=ax hk
    have hrowb:=row_drop Acc.d 5 Acc.d_len hb0
    have hw2:IntKind.i64.wrap (((i+j:Nat):Int)+1)=((i+(j+1):Nat):Int):=by rw[wrap64]<;>omega
    have hbF:=h1 b (List.mem_of_getElem? hb0)
    have f2:=FB a.F b.F x.S box (by have:=haF.2;omega) (by have:=hbF.2;omega) (by omega) (fun y hy=>by have:=h5 y hy;omega)
    have f3:=PO a.F b.F x.S haF.1 hbF.1 (by have:=haF.2;omega) (by have:=hbF.2;omega)
    have hdb:=Va a.F b.F x.S haF.1 hbF.1
    have hil:=xX x.S box l i a j
    have hb1:(O++mW x.S box l i a j).length+1≤bnd:=by rw[List.length_append];unfold bnd;omega
    have ec:Oa x.S box l i a (i+j)=if lH a b&&jM a.F b.F x.S box then some (J8 x.S i (i+j) a b) else none:=by unfold Oa;rw[hb0]
    rw[Ap,ec,←List.append_assoc] at hn2
    have eik:((i+j:Nat):Int)<l.length:=by omega
    generalize O++mW x.S box l i a j=O2 at hn2 hb1 ⊢
    generalize hy:((i+j:Nat):Int)=y at *
    have y0:0≤y:=by omega
    have yn:y.toNat=i+j:=by omega
    have y1:¬(y<0):=by omega
    have i0:¬((i:Int)<0):=by omega
    simp at f2 f3
    have key:lH a b=true→(jM a.F b.F x.S box=true→True):=fun _ _=>trivial
    by_cases c0:¬(a.Name=b.Name)
    ·have c1:lH a b=false:=by simp[lH,c0]
     simp[c1] at hn2
     simp[hi,eik,y0,y1,yn,aj,hrow,hrowb,splice,Acc.d,c0,hw2]
     first|refine hn2 _ ?_ trivial|refine hn2 _ ?_
     simp
    have c0:=Classical.not_not.1 c0
    cases c5:a.Puts<;>cases c6:b.Puts
    ·have c1:lH a b=false:=by simp[lH,c5,c6]
     simp[c1] at hn2
     simp[hi,eik,y0,y1,yn,aj,hrow,hrowb,splice,Acc.d,c0,c5,c6,hw2]
     first|refine hn2 _ ?_ trivial|refine hn2 _ ?_
     simp
    all_goals
     have c1:lH a b=true:=by simp[lH,c0,c5,c6]
     simp[c1] at hn2
     simp[hi,eik,y0,y1,yn,aj,hrow,hrowb,splice,Acc.d,c0,c5,c6]
     refine ay f2 ?_
     cases c2:jM a.F b.F x.S box
     ·simp[hw2]
      first|refine hn2 _ ?_ trivial|refine hn2 _ ?_
      simp[c2]
     ·simp[c2,J8] at hn2
      simp[hi,eik,y0,y1,yn,aj,hrow,hrowb,splice,Acc.d]
      refine ay f3 ?_
      cases c3:nU a.F b.F x.S with
      | none =>
       have f4:=wK 0 (by omega) (by omega)
       simp[c3] at hn2
       simp at f4
       simp[resD,splice]
       refine ai f4 ?_
       simp[splice,hb1,hw2]
       first|refine hn2 _ ?_ trivial|refine hn2 _ ?_
       simp[Dep.d,hy];omega
      | some v =>
       obtain⟨v1,v2⟩:=hdb v c3
       have f4:=wK v (by omega) (by omega)
       simp only[c3] at hn2
       by_cases c4:v=0
       ·subst c4
        simp at hn2 f4
        simp[resD,splice]
        refine ai f4 ?_
        simp[splice,hb1,hw2]
        first|refine hn2 _ ?_ trivial|refine hn2 _ ?_
        simp[Dep.d,hy];omega
       ·simp[c4] at hn2
        simp[resD,c4,splice]
        refine ai f4 ?_
        simp[splice,hb1,hw2]
        first|refine hn2 _ ?_ trivial|refine hn2 _ ?_
        simp[Dep.d,hy];omega
   ·intro hJ q2 hx2 hr2
    have e:((i+(l.length-i):Nat):Int)=(l.length:Int):=by omega
    rw[e]
    simp
    refine hx2 _ _ ?_
    simp[hw]
    refine hn _ ?_ trivial
    simp
  ·intro hI q hx' hr
   simp
   refine hx' _ _ ?_
   simp
end Go.AmC
set_option linter.unusedSimpArgs false
set_option linter.unusedVariables false
set_option maxRecDepth 20000
set_option maxHeartbeats 4000000
namespace Go.AmC
open Go Go.AM Go.Sort Go.Proofs
open Go.Proofs.Tryz (prog)
theorem o7 (x:Int):(jG x).length=1:=rfl
theorem U4:flatK (fun x:Int=>(jG x).map dv) 1=fun d=>d.map encI:=by
 funext d
 apply Array.ext
 ·simp
 ·intro i h1 h2
  have h3:i<d.size:=by simpa using h2
  have:=get_flatK (fun x:Int=>(jG x).map dv) 1 d i (by simpa using h3)
  rw[getElem!_pos _ i h1] at this
  rw[this,Nat.div_one,Nat.mod_one]
  simp[jG,dv,encI,getElem!_pos d i h3]
theorem aS3 (w:World) (blk:Nat) (d:Array Int):putRow id w blk 0 (d.map encI)=putRow encI w blk 0 d:=by
 unfold putRow
 congr 1
 funext c
 unfold putCells
 congr 1
 funext k x
 by_cases h:0≤k∧k<0+d.size
 ·rw[if_pos h,if_pos (by simpa using h)]
  have h2:k-0<d.size:=by omega
  rw[getElem!_pos (d.map encI) _ (by simpa using h2),getElem!_pos d _ h2]
  simp
 ·rw[if_neg h,if_neg (by simpa using h)]
theorem ag1 {w:World} {blk:Nat} {d:Array Int} (h:HoldsK (fun x:Int=>(jG x).map dv) 1 w blk 0 d):Holds encI w blk 0 d:=by
 intro j hj
 have h1:=h j (by simpa using hj)
 rw[U4] at h1
 simp only[id] at h1
 rw[getElem!_pos (d.map encI) j (by simpa using hj)] at h1
 rw[getElem!_pos d j hj]
 simpa using h1
theorem Xk:∀ l:List Int,l.flatMap jG=l.map (D.I .i64)
 | []=>rfl
 | x::l=>by simp[jG,Xk l]
theorem EJ (d:Array Int):∀ m,(Lib.compactUpTo d m).length≤m
 | 0=>by simp[Lib.compactUpTo]
 | m+1=>by
  have:=EJ d m
  rw[Lib.compactUpTo_succ,List.length_append]
  split<;>simp<;>omega
def sortI (zs:List Int):List Int:=zs.mergeSort fun x y=>decide (x≤y)
theorem xn (zs:List Int):(sortI zs).length=zs.length:=List.length_mergeSort zs
theorem JI (zs:List Int) (hz:zs.length≤4294967296):Says prog 347 [.osl 1 3 zs.length (Ows (zs.flatMap jG))] (.tup [] []) (num 1 [.osl 1 3 zs.length (Ows ((sortI zs).flatMap jG))]):=by
 refine DZ jG 1 3 _ o7 (fun x d hd=>by simp[jG] at hd;subst hd;rfl) (by kernel_rfl) zs (sortI zs) (xn zs) [] [] Yh (fun w blk cap hH hb hm=>?_) (fun w h0=>?_)
 ·refine (Any.slices_Sort_int Go.Proofs.Tryz.sortI blk 0 cap zs w (ag1 hH) hb (by omega)).mono ?_
  rintro e w' ⟨rfl,n,os,rfl⟩
  refine⟨rfl,n,os,?_⟩
  show _=grow (putRow id (Sort.ahead w n) blk 0 (flatK (fun x:Int=>(jG x).map dv) 1 (sortI zs).toArray)) os
  rw[U4,aS3];rfl
 ·subst h0
  exact Any.slices_Sort_int_none Go.Proofs.Tryz.sortI none 0 w
theorem Ld (zs:List Int) (hz:zs.length≤4294967296):Says prog 349 [.osl 1 3 zs.length (Ows (zs.flatMap jG))] (.rsl (Lib.compact zs).length (Cs ((Lib.compact zs).flatMap jG))) (num 1 [.gone]):=by
 intro w Φ σ cargs fa hcr hh hinv
 simp only[CR] at hcr
 obtain⟨v,vs',f1,f2,hca,hv,⟨rfl,hz2⟩,hfa⟩:=hcr
 have hsc:∀ d∈zs.flatMap jG,isL d=false:=fun d hd=>by
  obtain⟨x,_,hx⟩:=List.mem_flatMap.1 hd
  simp[jG] at hx;subst hx;rfl
 simp only[VR] at hv
 obtain⟨hst,hx,cs,f5,ho,hc,hb⟩:=hv
 obtain⟨rfl,hz5⟩:=LP hsc hc
 have hcell:prog.cellsOf 3=1:=by kernel_rfl
 have hcargs:cargs=#[v]:=by
  apply Array.toList_inj.1;rw[hca]
 have hfv:∀ b,fa b=iD v b:=fun b=>by rw[hfa b,hz2 b,hb b,hz5 b];omega
 have hcl:(Lib.compact zs).length≤zs.length:=by
  have:=EJ zs.toArray zs.length
  simpa [Lib.compact] using this
 rw[hcargs]
 rcases ho.2 with ⟨rfl,h0⟩|⟨gb,cap,cur,rfl,_,hg,hn,hm,hs,ht⟩
 ·have hxs:zs=[]:=List.eq_nil_of_length_eq_zero h0
  subst hxs
  refine (Any.slices_Compact_int_empty Go.Proofs.Tryz.compI none 0 w).mono ?_
  rintro en w' ⟨rfl,rfl⟩
  refine⟨_,Φ,fun _=>0,fun _=>0,rfl,Ext.refl _ _,fun _ h=>h,fun _ h=>.inl h,?_,rfl,?_,rfl,?_,fun b h=>by simp at h⟩
  ·simp only[VR]
   exact⟨⟨none,0,rfl,Nat.le_refl _,fun _=>⟨rfl,rfl⟩,by simp[Lib.compact,Lib.compactUpTo,FC]⟩,fun _=>trivial⟩
  ·exact eP (v:=.gone) (by simp only[VR];intro b;trivial)
  ·exact⟨fun b=>by simp,fun b hb=>by simp at hb,hinv.fz,fun b _=>by simp,hinv.tab⟩
 ·have hg0:gb<w.heap.size:=(Array.getElem?_eq_some_iff.1 hg).1
  have hH:Holds encI w gb 0 zs.toArray:=by
   intro j hj
   have hj':j<zs.length:=by simpa using hj
   refine⟨?_,by simp[World.frozen?,hg]⟩
   have h1:((zs.flatMap jG).map dv)[j]?=some (encI zs[j]):=by
    rw[Xk,List.getElem?_map,List.getElem?_map,List.getElem?_eq_getElem hj'];rfl
   have:=ho.cells (g:=gb) rfl j _ h1
   rw[getElem!_pos _ j hj]
   simpa [add_lit] using this
  refine (Any.slices_Compact_int Go.Proofs.Tryz.compI gb 0 cap zs w hH (by omega) hn).mono ?_
  rintro en w' ⟨rfl,q,rfl⟩
  generalize hds:(Lib.compact zs++List.replicate (zs.length-(Lib.compact zs).length) 0)=ds
  have hdl:ds.length=zs.length:=by rw[←hds];simp;omega
  have hheap:(putRow (Value.int .i64) (Sort.ahead w q) gb 0 ds.toArray).heap=w.heap.modify gb (onCells (putCells encI 0 ds.toArray)):=rfl
  have hother:∀ b,b≠gb→(putRow (Value.int .i64) (Sort.ahead w q) gb 0 ds.toArray).heap[b]?=w.heap[b]?:=by
   intro b hb2
   rw[hheap,Array.getElem?_modify,if_neg (Ne.symm hb2)]
  have hsz:(putRow (Value.int .i64) (Sort.ahead w q) gb 0 ds.toArray).heap.size=w.heap.size:=by rw[hheap];simp
  have hown:∀ b,iD (.slice (some ⟨gb,0,none⟩) zs.length cap) b=if b=gb then 1 else 0:=fun b=>by
   simp[iD,Value.ownBlock,eq_comm]
  have hne:∀ b,Φ b→b≠gb:=fun b hb1 e1=>by
   have h1:=hinv.apart b hb1;have:=hfv b;rw[hown b,if_pos e1] at this;omega
  have hcellR:∀ j x,(Lib.compact zs)[j]?=some x→(putRow (Value.int .i64) (Sort.ahead w q) gb 0 ds.toArray).cell? ⟨gb,j,none⟩=some (encI x):=by
   intro j x hj
   have hj1:j<(Lib.compact zs).length:=(List.getElem?_eq_some_iff.1 hj).1
   have hj2:j<ds.toArray.size:=by simp;omega
   have:=cell?_putRow encI (Sort.ahead w q) gb 0 zs.toArray ds.toArray (holds_ahead _ _ _ _ _ _ hH) (by simp[hdl]) j hj2
   rw[Nat.zero_add] at this
   have e:ds[j]?=some x:=by rw[←hds,List.getElem?_append_left hj1,hj]
   have e2:=(List.getElem?_eq_some_iff.1 e).2
   have e3:ds.toArray[j]! = x:=by rw[getElem!_pos _ j hj2];simpa using e2
   rw[e3] at this
   exact this
  refine⟨_,fun b=>Φ b∨b=gb,fun _=>0,fun _=>0,rfl,⟨rfl,rfl,rfl,by rw[hsz];exact Nat.le_refl _,fun b hb1 hb2=>hother b fun e1=>?_⟩,fun _ h=>.inl h,fun b h=>?_,?_,rfl,?_,rfl,?_,fun b h=>by simp at h⟩
  ·have:=hfv b;rw[hown b,if_pos e1] at this;omega
  ·rcases h with h|h
   ·exact .inl h
   ·exact .inr (.inl (by rw[hfv b,hown b,if_pos h];exact Nat.le_refl _))
  ·simp only[VR]
   refine⟨⟨_,_,rfl,by omega,(fun h=>nomatch h),DC _ _ _ fun i c hi=>?_⟩,fun _=>trivial⟩
   rw[Xk,vZ,List.map_map,List.getElem?_map] at hi
   cases hx1:(Lib.compact zs)[i]? with
   | none=>rw[hx1] at hi;cases hi
   | some x =>
    rw[hx1] at hi
    obtain rfl:=Option.some.inj hi
    refine⟨⟨gb,0,none⟩,encI x,rfl,.inr rfl,?_,by simp[dN],fun f hf=>?_⟩
    ·have:=hcellR i x hx1
     simpa [add_lit] using this
    ·simp only[Function.comp,C_I,VR]
     exact⟨trivial,hf⟩
  ·exact eP (v:=.gone) (by simp only[VR];intro b;trivial)
  ·refine⟨fun b=>by simp,fun b hb=>by simp at hb,fun b hb=>?_,fun b _=>by simp,fZ hinv.tab (fun b hb=>hother b (hne b hb)) (fun _ h=>.inl h)⟩
   rw[hsz]
   rcases hb with hb|rfl
   ·exact hinv.fz b hb
   ·exact hg0
theorem Ib (a:Option Addr) (n cap:Nat) (w:World) (hn:n≤cap) (h0:a=none→cap=0):Calls prog 348 #[.slice a n cap] w fun e w'=>e=.returned (.slice a n n)∧w'=w:=by
 go_enter Go.Proofs.Tryz.func348,Go.Proofs.Tryz.ntmps348
 go_wp2
 go_ret
 exact⟨rfl,rfl⟩
theorem aG9 (n:Nat) (ds:List D):Says prog 348 [.rsl n (Cs ds)] (.rsl n (Cs ds)) []:=by
 intro w Φ σ cargs fa hcr hh hinv
 simp only[CR,VR] at hcr
 obtain⟨v,vs',f1,f2,hca,⟨⟨a,c,rfl,hn,h0,hF⟩,hz1⟩,⟨rfl,hz2⟩,hfa⟩:=hcr
 have hcargs:cargs=#[.slice a n c]:=by apply Array.toList_inj.1;rw[hca]
 rw[hcargs]
 refine (Ib a n c w hn (fun h=>(h0 h).2)).mono ?_
 rintro en w' ⟨rfl,rfl⟩
 refine⟨_,Φ,fun _=>0,fun _=>0,rfl,Ext.refl _ _,fun _ h=>h,fun _ h=>.inl h,?_,rfl,CR_nil,rfl,⟨fun b=>by simp,fun b hb=>by simp at hb,hinv.fz,fun b _=>by simp,hinv.tab⟩,fun b h=>by simp at h⟩
 simp only[VR]
 exact⟨⟨a,n,rfl,Nat.le_refl _,fun h=>⟨(h0 h).1,(h0 h).1⟩,hF⟩,fun _=>trivial⟩
end Go.AmC
