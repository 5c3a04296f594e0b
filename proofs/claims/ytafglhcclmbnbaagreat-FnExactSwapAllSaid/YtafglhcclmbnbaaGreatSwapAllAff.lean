import Derived.Test.YtafglhcclmbnbaaGreatSwapAllOkS
import Derived.Test.YtafglhcclmbnbaaGreatSwapAllSize
import Derived.Test.YtafglhcclmbnbaaGreatAmGrow
import Derived.Shelf.SlSortCmp.WholeK
import Derived.Shelf.SlSortCmp.NoneTotal
import Derived.Sort.Walk0
import Derived.Laws.Cover1
import Derived.Test.YtafglhcclmbnbaaGreatSwapAllOrdS
import Derived.Test.YtafglhcclmbnbaaGreatSwapAllHead
set_option linter.unusedSimpArgs false
set_option linter.unusedVariables false
set_option maxRecDepth 20000
set_option maxHeartbeats 8000000
namespace Go.AmC
open Go Go.AM
open Go.Proofs.Tryz (prog)
def ng (p:Prog) (l:List Nm):Bool:=l.any fun n=>decide (n∈aO p.Arrs)
def yZ (p:Prog):Bool:=apartB (cu p.Body) (varsOf p.Body)&&(jI p (mP p.Body)&&(jI p (lM p.Body)&&(!ng p (varsOf p.Body++(cu p.Body++iE p.Body))&&(decide ((varsOf p.Body).length≤6)&&ku [] p.Body))))
theorem PV {f:Nm→Bool} {l:List Nm} {i:Nat} {y:Nm} (hI:(l.take i).all f=true) (hy:l[i]?=some y) (hf:f y=true):(l.take (i+1)).all f=true:=by
 rw[List.take_add_one,hy];simp[hf];simpa using hI
theorem RJ {f:Nm→Bool} {l:List Nm} {i:Nat} {y:Nm} (hy:l[i]?=some y) (hf:f y=false):l.all f=false:=by
 rw[List.all_eq_false];exact⟨y,List.mem_of_getElem? hy,by simp[hf]⟩
theorem Fv (p:Prog) (hp:p.tot≤5000000):Says prog 126 [.agg (Cs p.d)] (.bool (yZ p)) []:=by
 have ht:=p.tot_eq
 have hB:p.Body.length+(p.Body.map Stmt.tot).sum≤5000000:=by omega
 have fV:=nI p.Body hB
 have fL:=CX p.Body hB
 have fG:=qi p.Body hB 3
 have fP:=pF p.Body hB 2
 change Says prog _ _ (.rsl (mP p.Body).length (Cs ((mP p.Body).flatMap bG))) _ at fG
 change Says prog _ _ (.rsl (lM p.Body).length (Cs ((lM p.Body).flatMap bG))) _ at fP
 have fA:=LD p.Body hB
 have fN:=OZ p.Body hB
 have lV:=oZ 1 p.Body
 have lL:=oZ 3 p.Body
 have lP:=oZ 2 p.Body
 have lG:=sK 3 p.Body
 have lA:=sK 2 p.Body
 change (varsOf p.Body).length≤_ at lV
 change (cu p.Body).length≤_ at lL
 change (lM p.Body).length≤_ at lP
 change (mP p.Body).length≤_ at lG
 change (iE p.Body).length≤_ at lA
 have gP:=pM p (lM p.Body) (by omega) (by omega)
 have gG:=pM p (mP p.Body) (by omega) (by omega)
 have gO:=pM p (varsOf p.Body++(cu p.Body++iE p.Body)) (by omega) (by simp only[List.length_append];omega)
 have fC:=Yr (varsOf p.Body) (cu p.Body) (iE p.Body) (by omega)
 refine aP Go.Proofs.Tryz.func126 aGL ?_
 generalize hR:yZ p=R0
 unfold yZ at hR
 change Says prog _ _ (.tup _ [.bool (jI p (lM p.Body)),.bool (ng p (lM p.Body))]) _ at gP
 change Says prog _ _ (.tup _ [.bool (jI p (mP p.Body)),.bool (ng p (mP p.Body))]) _ at gG
 change Says prog _ _ (.tup _ [.bool (jI p _),.bool (ng p (varsOf p.Body++(cu p.Body++iE p.Body)))]) _ at gO
 generalize jI p (lM p.Body)=b1 at hR gP
 generalize jI p (mP p.Body)=b2 at hR gG
 generalize ng p (lM p.Body)=c1 at hR gP
 generalize ng p (mP p.Body)=c2 at hR gG
 generalize jI p (varsOf p.Body++(cu p.Body++iE p.Body))=c3 at hR gO
 generalize ng p (varsOf p.Body++(cu p.Body++iE p.Body))=b3 at hR gO
 generalize hb6:apartB (cu p.Body) (varsOf p.Body)=b6 at hR
 generalize ku [] p.Body=b7 at hR fN
 rw[List.length_append,List.length_append,List.flatMap_append,List.flatMap_append] at gO
 rw[List.flatMap_append,List.flatMap_append] at fC
 generalize lM p.Body=xP at *
 generalize mP p.Body=xG at *
 generalize iE p.Body=xA at *
 generalize cu p.Body=xL at *
 generalize varsOf p.Body=xV at *
 simp at fV fL fP fG fA fN gP gG gO fC
 simp[aM4,aO2,splice]
 refine ay fV ?_
 simp[splice]
 refine ay fL ?_
 simp
 refine aZ (l:=UR) (b:=WP) rfl [8,9,10] (fun i=>[(7,.int .i64 i)]) (fun i=>(xL.take i).all (fun n=>!decide (n∈xV))=true) xL.length (by simp) (by simp) ?_ ?_
 ·intro i hi hI q hn hx hr
  obtain⟨y,hy0⟩:=ax hi
  have hrow:=row_drop bG 1 (fun _=>by simp) hy0
  rw[Nat.mul_one] at hrow
  have hw:=wrap_succ (i:=i) (by omega)
  have f:=BJ xV y (by omega)
  cases c:decide (y∈xV)
  ·rw[c] at f
   simp[hi,aj,hrow]
   refine ai f ?_
   simp[hw]
   exact hn _ (by simp) (PV hI hy0 (by rw[c];rfl))
  ·rw[c] at f
   have h2:b6=false:=by rw[←hb6];exact RJ hy0 (by rw[c];rfl)
   rw[h2] at hR
   simp at hR
   subst hR
   simp[hi,aj,hrow]
   refine ai f ?_
   simp
   refine hr _ ?_
   simp
 ·intro hI q hx hr
  rw[List.take_length] at hI
  have h2:b6=true:=by rw[←hb6];exact hI
  subst h2
  simp
  refine hx _ _ ?_
  simp[splice]
  refine ay fG ?_
  simp[splice]
  refine ay gG ?_
  simp[splice]
  refine ay fP ?_
  simp[splice]
  refine ay gP ?_
  simp[splice]
  refine ay fA ?_
  simp[splice]
  refine ay fC ?_
  simp[splice]
  refine ay gO ?_
  cases b2
  ·simp at hR
   subst hR
   simp
  cases b1
  ·simp at hR
   subst hR
   simp
  cases b3
  ·by_cases c6:xV.length≤6
   ·have c6':(xV.length:Int)≤6:=by omega
    simp[c6] at hR
    subst hR
    simp[c6',splice]
    refine ai fN ?_
    simp
   ·have c6':¬(xV.length:Int)≤6:=by omega
    simp[c6] at hR
    subst hR
    simp[c6']
  ·simp at hR
   subst hR
   simp
def okI (p:Prog):Bool:=GR p.Arrs&&(decide (p.Body.length≤12)&&(decide ((p.Body.map szS).sum≤40)&&(p.Body.all pX&&yZ p)))
theorem X8 (p:Prog) (hp:p.tot≤5000000):Says prog 58 [.agg (Cs p.d)] (.bool (okI p)) []:=by
 have ht:=p.tot_eq
 have fA:=PT p.Arrs (by omega)
 have fS:=DY p.Body (by omega)
 have fN:=Fv p hp
 refine aP Go.Proofs.Tryz.func58 aTk ?_
 generalize hR:okI p=R0
 unfold okI at hR
 generalize GR p.Arrs=b1 at hR fA
 generalize hz:(p.Body.map szS).sum=z at hR fS
 generalize hb4:p.Body.all pX=b4 at hR
 generalize yZ p=b5 at hR fN
 simp at fA fS fN
 simp[v58,r58,splice]
 refine ai fA ?_
 cases b1
 ·simp at hR
  subst hR
  simp
 by_cases c1:p.Body.length≤12
 ·have c1':¬12<(p.Body.length:Int):=by omega
  have c1b:(p.Body.length:Int)≤12:=by omega
  simp[c1'] at hR ⊢
  refine ai fS ?_
  by_cases c2:z≤40
  ·have c2':¬40<(z:Int):=by omega
   simp[c1,c2] at hR
   simp[c2',splice]
   refine aZ (l:=afX) (b:=agr) rfl [7,8,9] (fun i=>[(6,.int .i64 i)]) (fun i=>(p.Body.take i).all pX=true) p.Body.length (by simp) (by simp) ?_ ?_
   ·intro i hi hI q hn hx hr
    obtain⟨y,hy0⟩:=ax hi
    have hrow:=row_drop Stmt.d 19 Stmt.d_len hy0
    have hw:=wrap_succ (i:=i) (by omega)
    have f:=OJ y (by have:=az Stmt.tot (List.mem_of_getElem? hy0);omega)
    simp at f
    cases c:pX y
    ·rw[c] at f
     have h2:b4=false:=by rw[←hb4];exact kF hy0 c
     rw[h2] at hR
     simp at hR
     subst hR
     simp[hi,aj,hrow,splice]
     refine ai f ?_
     simp
     refine hr _ ?_
     simp
    ·rw[c] at f
     simp[hi,aj,hrow,splice]
     refine ai f ?_
     simp[hw]
     exact hn _ (by simp) (je hI hy0 c)
   ·intro hI q hx hr
    rw[List.take_length] at hI
    have h2:b4=true:=by rw[←hb4];exact hI
    rw[h2] at hR
    simp at hR
    subst hR
    simp
    refine hx _ _ ?_
    simp[splice]
    refine ai fN ?_
    simp
  ·have c2':40<(z:Int):=by omega
   simp[c2] at hR
   subst hR
   simp[c2']
 ·have c1':12<(p.Body.length:Int):=by omega
  simp[c1] at hR
  subst hR
  simp[c1']
set_option maxHeartbeats 4000000
theorem AZ (a b:List Nm):apartB a b=apartB b a:=by
 rw[Bool.eq_iff_iff]
 simp only[apartB,List.all_eq_true,Bool.not_eq_true',decide_eq_false_iff_not]
 exact⟨fun h n h1 h2=>h n h2 h1,fun h n h1 h2=>h n h2 h1⟩
theorem ET (a b c:List Nm):apartB a (b++c)=(apartB a b&&apartB a c):=by
 rw[Bool.eq_iff_iff]
 simp only[apartB,List.all_eq_true,Bool.not_eq_true',decide_eq_false_iff_not,Bool.and_eq_true,List.mem_append,not_or]
 exact⟨fun h=>⟨fun n h1=>(h n h1).1,fun n h1=>(h n h1).2⟩,fun h n h1=>⟨h.1 n h1,h.2 n h1⟩⟩
theorem PU (p:Prog) (l:List Nm):(!ng p l)=apartB (aO p.Arrs) l:=by
 rw[AZ,Bool.eq_iff_iff]
 simp only[ng,apartB,Bool.not_eq_true',List.any_eq_false,List.all_eq_true,decide_eq_true_eq,decide_eq_false_iff_not]
theorem ok_eq (p:Prog):okI p=okP p:=by
 unfold okI okP yZ headB GR
 rw[PU,ET,ET,AZ (cu p.Body)]
 generalize oz none p.Arrs=a1
 generalize decide (p.Arrs.length≤4)=a2
 generalize decide (p.Body.length≤12)=a3
 generalize decide ((p.Body.map szS).sum≤40)=a4
 generalize p.Body.all pX=a5
 generalize jI p _=a6
 generalize jI p _=a7
 generalize apartB _ _=a8
 generalize apartB _ _=a9
 generalize apartB _ _=a10
 generalize apartB _ _=a11
 generalize ku _ _=a12
 generalize decide ((varsOf p.Body).length≤6)=a13
 ac_rfl
theorem BC (p:Prog) (hp:p.tot≤5000000):Says prog 58 [.agg (Cs p.d)] (.bool (okP p)) []:=by
 rw[←ok_eq];exact X8 p hp
end Go.AmC
set_option linter.unusedSimpArgs false
set_option linter.unusedVariables false
set_option maxRecDepth 20000
set_option maxHeartbeats 4000000
namespace Go.AmC
open Go Go.AM Go.Sort Go.Proofs Go.Shelf Go.RowKit Go.Lib
open Go.Proofs.Tryz (prog)
def Vd (x y:List UInt8):Int:=if x<y then -1 else if y<x then 1 else 0
def tV (t:Term):List Value:=[.string ⟨t.Name.toArray⟩,.int .i64 t.N]
instance:Inhabited Term:=⟨⟨[],0⟩⟩
theorem Hw (x:ByteArray) (w:World):Calls prog 391 #[.string x] w fun e w'=>e=.returned (.bool false)∧w'=w:=by
 go_enter Go.Proofs.Tryz.func391,Go.Proofs.Tryz.ntmps391
 go_wp2
 go_ret
 exact⟨by simp,rfl⟩
set_option maxHeartbeats 1000000 in
theorem Dh (x y:ByteArray) (w:World):Calls prog 416 #[.string x,.string y] w fun e w'=>e=.returned (.int .i64 (Vd x.toList y.toList))∧w'=w:=by
 go_enter Go.Proofs.Tryz.func416,Go.Proofs.Tryz.ntmps416
 go_wp2_with (go_at_call 391;refine (Hw _ _).mono ?_;rintro e w' ⟨rfl,rfl⟩)
 all_goals (go_ret;refine⟨?_,rfl⟩;unfold Vd)
 all_goals simp only[bytesLess_eq,decide_eq_true_eq,decide_eq_false_iff_not,Bool.not_eq_true',Bool.or_eq_true,Bool.or_eq_false_iff,Bool.not_eq_false',beq_iff_eq] at *
 ·rw[if_pos (by assumption)];rfl
 ·rename_i h1 h2
  rw[beq_eq_false_iff_ne] at h2
  have h3:y.toList<x.toList:=by
   rcases List.le_total x.toList y.toList with h|h
   ·exact absurd (List.le_antisymm h (List.not_lt.1 h1)) h2
   ·exact List.not_le.1 fun h'=>h2 (List.le_antisymm h' h)
  rw[if_neg h1,if_pos h3];rfl
 ·rename_i h1 h2
  rw[if_neg h1,if_neg (by rw[h2];exact List.lt_irrefl _)];rfl
theorem Dj (x y:Term) (W:World):Calls prog 415 #[.agg (tV x).toArray,.agg (tV y).toArray] W fun e w'=>e=.returned (.int .i64 (Vd x.Name y.Name))∧∃ q os',w'=grow (W.drewN q) os':=by
 have hcon:=fun W'=>Dh ⟨x.Name.toArray⟩ ⟨y.Name.toArray⟩ W'
 simp only[Lib.toList_data] at hcon
 generalize Vd x.Name y.Name=r at hcon ⊢
 unfold tV
 go_enter Go.Proofs.Tryz.func415,Go.Proofs.Tryz.ntmps415
 go_wp2_with (go_at_call 416;refine (hcon _).mono ?_;rintro e w' ⟨rfl,rfl⟩)
 go_ret
 exact⟨rfl,0,_,by rw[alloc_eq_grow,alloc_eq_grow,grow_grow];rfl⟩
def cf (x y:Term):Int:=Vd x.Name y.Name
theorem zZ (x y:Term):ltOf cf x y=decide (x.Name<y.Name):=by
 unfold ltOf cf Vd
 by_cases h1:x.Name<y.Name
 ·simp[h1]
 ·by_cases h2:y.Name<x.Name<;>simp[h1,h2]
theorem SA:SWO (ltOf cf) where
 irrefl x:=by rw[zZ];simp[List.lt_irrefl]
 trans x y z h1 h2:=by rw[zZ] at *;simp only[decide_eq_true_eq] at *;exact List.lt_trans h1 h2
 ntrans x y z h1 h2:=by rw[zZ] at *;simp only[decide_eq_false_iff_not,List.not_lt] at *;exact List.le_trans h2 h1
def sortT (ts:List Term):List Term:=(pdq (ltOf cf) ts.toArray 0 ts.toArray.size (Lib.bitLen ts.toArray.size) true true).toList
theorem nK (ts:List Term):(sortT ts).Perm ts∧(sortT ts).Pairwise fun x y=>¬y.Name<x.Name:=by
 have h:=pdq_sorts (ltOf cf) SA ts.toArray 0 ts.toArray.size (Lib.bitLen ts.toArray.size) true true (Nat.zero_le _) (Nat.le_refl _) (Or.inl rfl)
 unfold sortT
 generalize pdq (ltOf cf) ts.toArray 0 ts.toArray.size (Lib.bitLen ts.toArray.size) true true=R at h ⊢
 obtain⟨⟨hs,_,hp⟩,hso⟩:=h
 have e1:R.extract 0 ts.toArray.size=R:=by rw[←hs];simp
 rw[e1] at hp
 refine⟨by simpa using hp,?_⟩
 rw[List.pairwise_iff_getElem]
 intro i j hi hj hij
 have hi':i<R.size:=by simpa using hi
 have hj':j<R.size:=by simpa using hj
 have:=hso i j (Nat.zero_le _) hij (by omega)
 rw[zZ,decide_eq_false_iff_not,getElem!_pos R i hi',getElem!_pos R j hj'] at this
 simpa using this
theorem oG (ts:List Term):(sortT ts).length=ts.length:=(nK ts).1.length_eq
theorem JJ (ts:List Term) (hl:ts.length≤4294967296):Says prog 414 [.osl 1 320 ts.length (Ows (ts.flatMap Term.d)),.fn 415 []] (.tup [] []) [(1,.osl 1 320 (sortT ts).length (Ows ((sortT ts).flatMap Term.d)))]:=by
 rw[oG ts]
 have hT:(fun t:Term=>(Term.d t).map dv)=tV:=by funext t;simp[tV,dv]
 have eg:∀ args w,(callFunc 415 args).run prog w=.ok (.enter 415 args) w:=enters_of Go.Proofs.Tryz.func415 (by kernel_rfl) rfl
 refine DZ Term.d 2 320 414 Term.d_len (fun x d hd=>by simp at hd;rcases hd with rfl|rfl<;>rfl) (by kernel_rfl) ts (sortT ts) (oG ts) [.fn 415 []] [.func (.func 415) #[] #[]] (ag2 _) ?_ ?_
 ·intro w blk cap hH hb hm
  have hsz:ts.toArray.size<4611686018427387904:=by
   simp only[List.size_toArray];omega
  rw[hT] at hH ⊢
  exact AnyQ.slices_SortFunc_eq Go.Proofs.Tryz.sortT 2 Go.Proofs.Tryz.isAgg320 Go.Proofs.Tryz.sizeOf320 tV (fun _=>rfl) (fun x v hv=>by simp[tV] at hv;rcases hv with rfl|rfl<;>rfl) cf SA 415 #[] blk 0 cap ts.toArray w eg (fun m os dk _ x y=>Dj x y _) hH hb hsz
 ·intro w _
  exact AnyF.slices_SortFunc_none Go.Proofs.Tryz.sortT none 0 _ w
end Go.AmC
set_option linter.unusedSimpArgs false
set_option linter.unusedVariables false
set_option maxRecDepth 20000
set_option maxHeartbeats 4000000
namespace Go.AmC
open Go Go.AM
open Go.Proofs (bytesLess_eq)
open Go.Proofs.Tryz (prog)
def gu (n:Int):Bool:=decide (-100000≤n)&&decide (n≤100000)
def dD:List Term→List UInt8→Int
 | [],_=>0
 | t::ts,n=>if t.Name=n then t.N else dD ts n
def okT (p:Option (List UInt8)):List Term→Bool
 | []=>true
 | t::ts=>bZ t.Name&&!decide (t.N=0)&&gu t.N&&ltO p t.Name&&okT (some t.Name) ts
theorem BD {p:Option (List UInt8)} {t:Term} {ts:List Term}:okT p (t::ts)=(bZ t.Name&&!decide (t.N=0)&&gu t.N&&ltO p t.Name&&okT (some t.Name) ts):=by rw[okT]
def iy (a:Aff):Bool:=okT none a.T&&gu a.C
theorem vU (n:Int):Says prog 331 [.int .i64 n] (.bool (gu n)) []:=by
 have f:=iU n (-100000) 100000
 refine aP Go.Proofs.Tryz.func331 aE8 ?_
 simp[aL6,aNQ]
 refine ai f ?_
 simp[gu]
theorem pK (n:Int):Says prog 337 [.int .i64 n] (.bool (gu n)) []:=by
 have f:=iq n (-100000) 100000
 refine aP Go.Proofs.Tryz.func337 aE3 ?_
 simp[aL5,aNP]
 refine ai f ?_
 simp[gu]
theorem kU (a:Aff) (n:List UInt8) (hl:a.T.length≤4294967296):Says prog 396 [.agg (Cs a.d),.str n] (.int .i64 (dD a.T n)) []:=by
 refine aP Go.Proofs.Tryz.func396 aEw ?_
 generalize hR:dD a.T n=R0
 simp[aLK,aNu]
 refine aZ (l:=Tj) (b:=Vp) rfl [] (fun i=>[(4,.int .i64 i)]) (fun i=>dD (a.T.drop i) n=R0) a.T.length (by simpa using hR) (by simp) ?_ ?_
 ·intro i hi hI q hn hx hr
  obtain⟨x,hx0⟩:=ax hi
  have hrow:=row_drop Term.d 2 Term.d_len hx0
  have hw:=wrap_succ (i:=i) (by omega)
  rw[drop_cons hx0,dD] at hI
  by_cases c:x.Name=n
  ·simp[hi,aj,hrow,c]
   refine hr _ ?_
   rw[if_pos c] at hI
   simp[hI]
  ·simp[hi,aj,hrow,c,hw]
   rw[if_neg c] at hI
   exact hn _ (by simp) hI
 ·intro hI q hx hr
  simp[dD] at hI
  simp
  refine hx _ _ ?_
  simp[hI]
theorem mi (a:Aff) (n:List UInt8) (hl:a.T.length≤4294967296):Says prog 339 [.agg (Cs a.d),.str n] (.int .i64 (dD a.T n)) []:=by
 refine aP Go.Proofs.Tryz.func339 aE2 ?_
 generalize hR:dD a.T n=R0
 simp[aL4,aNO]
 refine aZ (l:=TN) (b:=VI) rfl [8] (fun i=>[(6,.int .i64 i)]) (fun i=>dD (a.T.drop i) n=R0) a.T.length (by simpa using hR) (by simp) ?_ ?_
 ·intro i hi hI q hn hx hr
  obtain⟨x,hx0⟩:=ax hi
  have hrow:=row_drop Term.d 2 Term.d_len hx0
  have hw:=wrap_succ (i:=i) (by omega)
  rw[drop_cons hx0,dD] at hI
  by_cases c:x.Name=n
  ·simp[hi,aj,hrow,c,splice]
   refine hr _ ?_
   rw[if_pos c] at hI
   simp[hI]
  ·simp[hi,aj,hrow,c,hw,splice]
   rw[if_neg c] at hI
   exact hn _ (by simp) hI
 ·intro hI q hx hr
  simp[dD] at hI
  simp
  refine hx _ _ ?_
  simp[hI]
def uK (ts:List Term) (i:Nat):Option (List UInt8):=if i=0 then none else (ts[i-1]?).map (·.Name)
theorem uJ {ts:List Term} {i:Nat} {t:Term} (h:ts[i]?=some t):uK ts (i+1)=some t.Name:=by simp[uK,h]
theorem IC {ts:List Term} {i:Nat} {t:Term} (h:ts[i]?=some t) {b:Bool} (hI:okT (uK ts i) (ts.drop i)=b) :
  (bZ t.Name&&!decide (t.N=0)&&gu t.N&&ltO (uK ts i) t.Name&&okT (uK ts (i+1)) (ts.drop (i+1)))=b:=by
 rw[drop_cons h,BD] at hI
 rw[uJ h];exact hI
theorem eY (a:Aff) (hl:a.tot≤4294967296):Says prog 293 [.agg (Cs a.d)] (.bool (iy a)) []:=by
 have ht:=a.tot_eq
 have fC:=vU a.C
 refine aP Go.Proofs.Tryz.func293 aFC ?_
 generalize hR:iy a=R0
 unfold iy at hR
 generalize hR2:okT none a.T=R2 at hR
 simp[aMu,aOe]
 refine aZ (l:=Ue) (b:=VY) rfl [] (fun i=>[(3,.int .i64 i)]) (fun i=>okT (uK a.T i) (a.T.drop i)=R2) a.T.length (by simpa [uK] using hR2) (by simp) ?_ ?_
 ·intro i hi hI q hn hx hr
  obtain⟨x,hx0⟩:=ax hi
  have hrow:=row_drop Term.d 2 Term.d_len hx0
  have hw:=wrap_succ (i:=i) (by omega)
  have hI2:=IC hx0 hI
  have fN:=tK x.Name (by have:=az Term.tot (List.mem_of_getElem? hx0);rw[Term.tot_eq] at this;omega)
  have fK:=vU x.N
  have bad:R2=false→R0=false:=fun h=>by rw[←hR,h];rfl
  cases c1:bZ x.Name
  ·rw[c1] at fN hI2
   simp[hi,aj,hrow,splice]
   refine ay fN ?_
   simp
   refine hr _ ?_
   simp at hI2
   simp[bad hI2]
  by_cases c2:x.N=0
  ·rw[c1] at fN hI2
   simp[c2] at hI2
   simp[hi,aj,hrow,splice]
   refine ay fN ?_
   simp[hi,aj,hrow,c2]
   refine hr _ ?_
   simp[bad hI2]
  cases c3:gu x.N
  ·rw[c1] at fN hI2
   rw[c3] at fK hI2
   simp[c2] at hI2
   simp[hi,aj,hrow,splice]
   refine ay fN ?_
   simp[hi,aj,hrow,c2]
   refine ay fK ?_
   simp[c2]
   refine hr _ ?_
   simp[bad hI2]
  rw[c1] at fN hI2
  rw[c3] at fK hI2
  simp[hi,aj,hrow,splice]
  refine ay fN ?_
  simp[hi,aj,hrow,c2]
  refine ay fK ?_
  cases i with
  | zero =>
   have hw1:IntKind.i64.wrap 1=1:=by decide
   simp[hw1,c2]
   exact hn _ (by simp) (by simpa [c2,uK,ltO] using hI2)
  | succ j =>
   obtain⟨y,hy0⟩:=ax (xs:=a.T) (i:=j) (by omega)
   have hrow2:=row_drop Term.d 2 Term.d_len hy0
   have hwj:IntKind.i64.wrap ((j:Int)+1-1)=(j:Int):=by rw[aA]<;>omega
   have hwj2:IntKind.i64.wrap (j:Int)=(j:Int):=by rw[aA]<;>omega
   have hj:(0:Int)<(j:Int)+1:=by omega
   have hj2:j<a.T.length:=by omega
   have hj3:(0:Int)≤(j:Int)+1:=by omega
   have hj4:(j:Int)+1<(a.T.length:Int):=by omega
   have hw3:IntKind.i64.wrap ((j:Int)+1+1)=(j:Int)+1+1:=by rw[aA]<;>omega
   rw[uJ hy0] at hI2
   by_cases c4:y.Name<x.Name
   ·simp[c2,hi,hj,hj2,hj3,hj4,hwj,hwj2,aj,hrow,hrow2,ut,uq,c4,hw3]
    exact hn _ (by simp) (by simpa [c2,c4,ltO] using hI2)
   ·simp[c2,hi,hj,hj2,hj3,hj4,hwj,hwj2,aj,hrow,hrow2,ut,uq,c4,hw3]
    refine hr _ ?_
    simp[c2,c4,ltO] at hI2
    simp[bad hI2]
 ·intro hI q hx hr
  simp[okT] at hI
  simp
  refine hx _ _ ?_
  simp
  refine ai fC ?_
  simp[←hR,←hI]
theorem qx (a:Aff) (hl:a.tot≤4294967296):Says prog 306 [.agg (Cs a.d)] (.bool (iy a)) []:=by
 have ht:=a.tot_eq
 have fC:=pK a.C
 refine aP Go.Proofs.Tryz.func306 aFq ?_
 generalize hR:iy a=R0
 unfold iy at hR
 generalize hR2:okT none a.T=R2 at hR
 simp[aMk,aN4]
 refine aZ (l:=TW) (b:=VQ) rfl [7,8] (fun i=>[(5,.int .i64 i)]) (fun i=>okT (uK a.T i) (a.T.drop i)=R2) a.T.length (by simpa [uK] using hR2) (by simp) ?_ ?_
 ·intro i hi hI q hn hx hr
  obtain⟨x,hx0⟩:=ax hi
  have hrow:=row_drop Term.d 2 Term.d_len hx0
  have hw:=wrap_succ (i:=i) (by omega)
  have hI2:=IC hx0 hI
  have fN:=qF x.Name (by have:=az Term.tot (List.mem_of_getElem? hx0);rw[Term.tot_eq] at this;omega)
  have fK:=pK x.N
  have bad:R2=false→R0=false:=fun h=>by rw[←hR,h];rfl
  cases c1:bZ x.Name
  ·rw[c1] at fN hI2
   simp[hi,aj,hrow,splice]
   refine ay fN ?_
   simp
   refine hr _ ?_
   simp at hI2
   simp[bad hI2]
  by_cases c2:x.N=0
  ·rw[c1] at fN hI2
   simp[c2] at hI2
   simp[hi,aj,hrow,splice]
   refine ay fN ?_
   simp[hi,aj,hrow,c2]
   refine hr _ ?_
   simp[bad hI2]
  cases c3:gu x.N
  ·rw[c1] at fN hI2
   rw[c3] at fK hI2
   simp[c2] at hI2
   simp[hi,aj,hrow,splice]
   refine ay fN ?_
   simp[hi,aj,hrow,c2]
   refine ay fK ?_
   simp[c2]
   refine hr _ ?_
   simp[bad hI2]
  rw[c1] at fN hI2
  rw[c3] at fK hI2
  simp[hi,aj,hrow,splice]
  refine ay fN ?_
  simp[hi,aj,hrow,c2]
  refine ay fK ?_
  cases i with
  | zero =>
   have hw1:IntKind.i64.wrap 1=1:=by decide
   simp[hw1,c2]
   exact hn _ (by simp) (by simpa [c2,uK,ltO] using hI2)
  | succ j =>
   obtain⟨y,hy0⟩:=ax (xs:=a.T) (i:=j) (by omega)
   have hrow2:=row_drop Term.d 2 Term.d_len hy0
   have hwj:IntKind.i64.wrap ((j:Int)+1-1)=(j:Int):=by rw[aA]<;>omega
   have hwj2:IntKind.i64.wrap (j:Int)=(j:Int):=by rw[aA]<;>omega
   have hj:(0:Int)<(j:Int)+1:=by omega
   have hj2:j<a.T.length:=by omega
   have hj3:(0:Int)≤(j:Int)+1:=by omega
   have hj4:(j:Int)+1<(a.T.length:Int):=by omega
   have hw3:IntKind.i64.wrap ((j:Int)+1+1)=(j:Int)+1+1:=by rw[aA]<;>omega
   rw[uJ hy0] at hI2
   by_cases c4:y.Name<x.Name
   ·simp[c2,hi,hj,hj2,hj3,hj4,hwj,hwj2,aj,hrow,hrow2,ut,uq,c4,hw3]
    exact hn _ (by simp) (by simpa [c2,c4,ltO] using hI2)
   ·simp[c2,hi,hj,hj2,hj3,hj4,hwj,hwj2,aj,hrow,hrow2,ut,uq,c4,hw3]
    refine hr _ ?_
    simp[c2,c4,ltO] at hI2
    simp[bad hI2]
 ·intro hI q hx hr
  simp[okT] at hI
  simp
  refine hx _ _ ?_
  simp
  refine ai fC ?_
  simp[←hR,←hI]
end Go.AmC
