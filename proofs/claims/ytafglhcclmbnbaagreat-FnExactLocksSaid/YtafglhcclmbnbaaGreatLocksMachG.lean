import Derived.Test.YtafglhcclmbnbaaGreatLocksArrI
import Derived.Test.YtafglhcclmbnbaaGreatLocksOk
import Derived.Test.YtafglhcclmbnbaaGreatLocksMachI
set_option linter.unusedSimpArgs false
set_option linter.unusedVariables false
set_option maxRecDepth 20000
set_option maxHeartbeats 8000000
namespace Go.AmC
open Go Go.AM
open Go.Proofs.Tryz (prog)
theorem Uw (a b:List Nm) (h:a.length+b.length≤900000000) :
  Says prog 197 [.rsl 2 [.rsl a.length (Cs (a.flatMap ed)),.rsl b.length (Cs (b.flatMap ed))]]
   (.osl 0 9 (a.length+b.length) (Ows ((a++b).flatMap ed))) []:=by
 have f:=Aa (a.length+b.length) (by omega)
 have w1:IntKind.i64.wrap ((a.length:Int))=(a.length:Int):=by rw[bJ]<;>omega
 have w2:IntKind.i64.wrap ((a.length:Int)+b.length)=((a.length+b.length:Nat):Int):=by rw[bJ]<;>omega
 have la:=lQ a
 have lb:=lQ b
 have sa:=jH a
 have sb:=jH b
 have hb1:a.length≤bnd:=by unfold bnd;omega
 have hb2:a.length+b.length≤bnd:=by unfold bnd;omega
 rw[List.flatMap_append]
 generalize List.flatMap ed a=A at la sa ⊢
 generalize List.flatMap ed b=B at lb sb ⊢
 generalize a.length=x at *
 generalize b.length=y at *
 simp at f
 have p0:0≤(x:Int)+y:=by omega
 refine dD Go.Proofs.Tryz.func197 abG ?_
 simp[atv,atQ]
 refine eY (l:=IK) (b:=IQ) rfl [6,7,8] (fun i=>[(2,.int .i64 (if i=0 then 0 else if i=1 then (x:Int) else ((x+y:Nat):Int))),(5,.int .i64 i)]) (fun i=>True) 2 trivial (by simp) ?_ ?_
 ·intro i hi hI q hn hx hr
  have hw:=wrap_succ (i:=i) (by omega)
  have hq:i=0∨i=1:=by omega
  rcases hq with rfl|rfl
  all_goals
   simp at hw
   simp[w1,w2,hw,p0]
   refine hn _ ?_ trivial
   simp
 ·intro hI q hx hr
  simp
  refine hx _ _ ?_
  simp
  refine aX f ?_
  simp
  refine eY (l:=IL) (b:=IR) rfl [13,14] (fun i=>[(9,if i=0 then .osl 0 9 0 [] else if i=1 then .osl 0 9 x (Ows A) else .osl 0 9 (x+y) (Ows (A++B))),(12,.int .i64 i)]) (fun i=>True) 2 trivial (by simp) ?_ ?_
  ·intro i hi hI q hn hx hr
   have hw:=wrap_succ (i:=i) (by omega)
   have hq:i=0∨i=1:=by omega
   rcases hq with rfl|rfl
   all_goals
    simp at hw
    simp[hw,ry,la,lb,hb1,hb2]
    refine hn _ ?_ trivial
    simp[sa,sb,Nat.add_assoc]
  ·intro hI q hx hr
   simp
   refine hx _ _ ?_
   simp
def gm (l:List Arr):Int:=(l.map Arr.Size).sum
def lZ (p:Prog):List Nm:=nrm (dG p.Body++varsOf p.Body)
theorem zJ:∀ {l:List Arr} {q:Option (List UInt8)},oL q l=true→∀ a∈l,1≤a.Size∧a.Size≤16
 | [],q,h,a,ha=>by simp at ha
 | b::l,q,h,a,ha=>by
  rw[FX] at h
  simp only[Bool.and_eq_true,decide_eq_true_eq] at h
  rcases List.mem_cons.1 ha with rfl|ha
  ·exact h.2.1
  ·exact zJ h.2.2.2 a ha
theorem yK {l:List Arr} (h:∀ a∈l,1≤a.Size∧a.Size≤16):0≤gm l∧gm l≤16*l.length:=by
 unfold gm
 induction l with
 | nil=>simp
 | cons a l ih =>
  have h1:=h a (by simp)
  have h2:=ih fun b hb=>h b (by simp[hb])
  simp only[List.map_cons,List.sum_cons,List.length_cons]
  omega
theorem oP {l:List Arr} {i:Nat} {a:Arr} (h:l[i]?=some a):gm (l.take (i+1))=gm (l.take i)+a.Size:=by
 unfold gm
 rw[List.take_add_one,h]
 simp
theorem oD {p:Prog} (h:okP p=true):(∀ a∈p.Arrs,1≤a.Size∧a.Size≤16)∧p.Arrs.length≤4∧(varsOf p.Body).length≤6:=by
 unfold okP headB at h
 simp only[Bool.and_eq_true,decide_eq_true_eq] at h
 exact⟨zJ h.1.1,h.1.2.2.1,h.2.2.2.2.2.2.2.2⟩
theorem vZ {l:List Arr} (h:∀ a∈l,1≤a.Size∧a.Size≤16) (hl:l.length≤4) (i:Nat):0≤gm (l.take i)∧gm (l.take i)≤64:=by
 have:=yK (l:=l.take i) fun a ha=>h a (List.mem_of_mem_take ha)
 have h2:(l.take i).length≤4:=by simp;omega
 omega
theorem AO (p:Prog) (hp:p.tot≤5000000):(varsOf p.Body).length≤5000000∧(dG p.Body).length≤5000000:=by
 have ht:=p.tot_eq
 exact⟨by have:=mD 1 p.Body;unfold varsOf;omega,by have:=mD 3 p.Body;unfold dG;omega⟩
theorem wu (p:Prog) (hp:p.tot≤5000000):(lZ p).length≤10000000:=by
 have h1:=uh (dG p.Body++varsOf p.Body)
 have h2:=AO p hp
 unfold lZ
 simp only[List.length_append] at h1
 omega
def Jy (p:Prog):List AV:=vk (.rsl p.Arrs.length (Cs (p.Arrs.flatMap Arr.d))) (.rsl p.Body.length (Cs (p.Body.flatMap Stmt.d))) (.rsl (varsOf p.Body).length (Cs ((varsOf p.Body).flatMap ed))) (.rsl (lZ p).length (Cs ((lZ p).flatMap ed))) (gm p.Arrs)
theorem vg (p:Prog) (hp:p.tot≤5000000) (hok:okP p=true):Says prog 153 [.agg (Cs p.d)] (.bx 0 240 (Jy p)) []:=by
 have ht:=p.tot_eq
 obtain⟨hz,h4,h6⟩:=oD hok
 obtain⟨l1,l2⟩:=AO p hp
 have l3:=wu p hp
 have fV:=xQ p.Body (by omega)
 have fL:=ut p.Body (by omega)
 have fC:=Uw (dG p.Body) (varsOf p.Body) (by omega)
 have fO:=ql (dG p.Body++varsOf p.Body) (by simp;omega)
 rw[show nrm (dG p.Body++varsOf p.Body)=lZ p from rfl] at fO
 unfold Jy
 rw[←List.length_append] at fC
 generalize lZ p=R at fO ⊢
 generalize dG p.Body++varsOf p.Body=LV at fC fO
 generalize varsOf p.Body=V at fV fC h6 ⊢
 generalize dG p.Body=L at fL fC
 refine uH (IE [] [] Go.Proofs.Tryz.func153 awy (by simp) (by simp[vk]) ?_)
 obtain⟨arrs,body⟩:=p
 simp only at hz h4 fV fL ⊢
 simp at fO
 simp[aEg,aFC,vk,splice]
 refine bZ fV ?_
 simp[splice]
 refine bZ fL ?_
 simp[splice]
 refine bZ fC ?_
 simp[splice]
 refine eQ [.gone 0] Rq (ik fO (by simp)) ?_
 simp[splice]
 refine eY (l:=PQ) (b:=QS) rfl [7,8] (fun i=>[(3,.bx 0 240 [.rsl arrs.length (Cs (arrs.flatMap Arr.d)),.rsl body.length (Cs (body.flatMap Stmt.d)),.rsl V.length (Cs (V.flatMap ed)),.rsl R.length (Cs (R.flatMap ed)),.int .i64 (gm (arrs.take i))]),(6,.int .i64 i)]) (fun i=>True) arrs.length trivial (by simp[gm]) ?_ ?_
 ·intro i hi hI q hn hx hr
  have hw:=wrap_succ (i:=i) (by omega)
  obtain⟨a,ha⟩:=cu hi
  have hrow:=row_drop Arr.d 2 Arr.d_len ha
  have hs:=vZ hz h4 i
  have hs1:=vZ hz h4 (i+1)
  rw[oP ha] at hs1
  have w1:IntKind.i64.wrap (gm (arrs.take i)+a.Size)=gm (arrs.take i)+a.Size:=by rw[bJ]<;>omega
  obtain⟨nm,sz⟩:=a
  simp only at w1
  simp[hi,hw,aT,hrow,w1]
  refine hn _ ?_ trivial
  simp[hw,oP ha,splice]
 ·intro hI q hx hr
  simp
  refine hx _ _ ?_
  simp
def iD (p:Prog):Nat:=if okP p=true then (gm p.Arrs).toNat+(varsOf p.Body).length+32 else 0
def nC (p:Prog):Nat:=if okP p=true then (lZ p).length+3 else 0
theorem qp (p:Prog) (hp:p.tot≤5000000):Says prog 151 [.agg (Cs p.d)] (.int .i64 (iD p)) []:=by
 have f:=FV p hp
 unfold iD
 refine dD Go.Proofs.Tryz.func151 awC ?_
 cases c:okP p with
 | false =>
  rw[c] at f
  simp at f
  simp[atx,atU]
  refine aX f ?_
  simp
 | true =>
  rw[c] at f
  obtain⟨hz,h4,h6⟩:=oD c
  have hs:=yK hz
  have fL:=vg p hp c
  have fm:=NM (.rsl p.Arrs.length (Cs (p.Arrs.flatMap Arr.d))) (.rsl p.Body.length (Cs (p.Body.flatMap Stmt.d))) (varsOf p.Body).length (lZ p).length (Cs ((varsOf p.Body).flatMap ed)) (Cs ((lZ p).flatMap ed)) (gm p.Arrs) (by omega) (by omega)
  have e:gm p.Arrs+(varsOf p.Body).length+32=(((gm p.Arrs).toNat+(varsOf p.Body).length+32:Nat):Int):=by omega
  rw[e] at fm
  simp only[if_true]
  generalize (gm p.Arrs).toNat+(varsOf p.Body).length+32=N at fm ⊢
  unfold Jy at fL
  simp[vk] at fL fm
  simp at f
  simp[atx,atU]
  refine aX f ?_
  simp
  refine aX fL ?_
  simp
  refine aX fm ?_
  simp
theorem xn (p:Prog) (hp:p.tot≤5000000):Says prog 152 [.agg (Cs p.d)] (.int .i64 (nC p)) []:=by
 have f:=FV p hp
 have l3:=wu p hp
 have w1:IntKind.i64.wrap (((lZ p).length:Int)+3)=((lZ p).length:Int)+3:=by rw[bJ]<;>omega
 unfold nC
 refine dD Go.Proofs.Tryz.func152 awz ?_
 cases c:okP p with
 | false =>
  rw[c] at f
  simp at f
  simp[v152,atT]
  refine aX f ?_
  simp
 | true =>
  rw[c] at f
  have fL:=vg p hp c
  unfold Jy at fL
  simp[vk] at fL
  simp at f
  simp[v152,atT]
  refine aX f ?_
  simp
  refine aX fL ?_
  simp[w1]
theorem EU (p:Prog) (hp:p.tot≤5000000):Says prog 278 [.agg (Cs p.d)] (.int .i64 (if okP p=true then gm p.Arrs else -1)) []:=by
 have f:=Eg p hp
 refine dD Go.Proofs.Tryz.func278 avn ?_
 cases c:okP p with
 | false =>
  rw[c] at f
  simp at f
  simp[ati,atD]
  refine aX f ?_
  simp
 | true =>
  rw[c] at f
  obtain⟨hz,h4,h6⟩:=oD c
  obtain⟨arrs,body⟩:=p
  simp only at hz h4
  simp at f
  simp[ati,atD]
  refine aX f ?_
  simp
  refine eY (l:=O6) (b:=Qn) rfl [6] (fun i=>[(4,.int .i64 (gm (arrs.take i))),(5,.int .i64 i)]) (fun i=>True) arrs.length trivial (by simp[gm]) ?_ ?_
  ·intro i hi hI q hn hx hr
   have hw:=wrap_succ (i:=i) (by omega)
   obtain⟨a,ha⟩:=cu hi
   have hrow:=row_drop Arr.d 2 Arr.d_len ha
   have hs:=vZ hz h4 i
   have hs1:=vZ hz h4 (i+1)
   rw[oP ha] at hs1
   have w1:IntKind.i64.wrap (gm (arrs.take i)+a.Size)=gm (arrs.take i)+a.Size:=by rw[bJ]<;>omega
   obtain⟨nm,sz⟩:=a
   simp only at w1
   simp[hi,hw,aT,hrow,w1]
   refine hn _ ?_ trivial
   simp[hw,oP ha]
  ·intro hI q hx hr
   simp
   refine hx _ _ ?_
   simp
theorem Ea (p:Prog) (hp:p.tot≤5000000):Says prog 210 [.agg (Cs p.d)] (.int .i64 (if okP p=true then gm p.Arrs+(varsOf p.Body).length else -1)) []:=by
 have f:=EU p hp
 have ht:=p.tot_eq
 have fV:=rV p.Body (by omega)
 refine dD Go.Proofs.Tryz.func210 av3 ?_
 cases c:okP p with
 | false =>
  rw[c] at f
  simp at f
  simp[v210,atN]
  refine aX f ?_
  simp
 | true =>
  rw[c] at f
  obtain⟨hz,h4,h6⟩:=oD c
  have hs:=yK hz
  have w1:IntKind.i64.wrap (gm p.Arrs+(varsOf p.Body).length)=gm p.Arrs+(varsOf p.Body).length:=by rw[bJ]<;>omega
  have n0:¬gm p.Arrs<0:=by omega
  simp at f
  simp[v210,atN]
  refine aX f ?_
  simp[n0]
  refine aX fV ?_
  simp[w1]
theorem vJ (p:Prog) (hp:p.tot≤5000000):Says prog 139 [.agg (Cs p.d)] (.int .i64 (iD p)) []:=by
 have f:=Ea p hp
 unfold iD
 refine dD Go.Proofs.Tryz.func139 awJ ?_
 cases c:okP p with
 | false =>
  rw[c] at f
  simp at f
  simp[v139,atY]
  refine aX f ?_
  simp
 | true =>
  rw[c] at f
  obtain⟨hz,h4,h6⟩:=oD c
  have hs:=yK hz
  have n0:¬gm p.Arrs+(varsOf p.Body).length<0:=by omega
  have w1:IntKind.i64.wrap (gm p.Arrs+(varsOf p.Body).length+32)=(((gm p.Arrs).toNat+(varsOf p.Body).length+32:Nat):Int):=by rw[bJ]<;>omega
  simp only[if_true] at f ⊢
  generalize (gm p.Arrs).toNat+(varsOf p.Body).length+32=N at w1 ⊢
  simp at f
  simp[v139,atY]
  refine aX f ?_
  simp[n0,w1]
theorem Nv (p:Prog):bC (varsOf p.Body) (dG p.Body)=lZ p:=by
 have h:=sS (r:=dG p.Body) (l:=varsOf p.Body) (BB _)
 refine IG h.1 (BB _) fun x=>?_
 rw[h.2 x]
 unfold lZ
 rw[zU,List.mem_append]
 exact Or.comm
theorem Jd:∀ l:List Nm,(l.map fun _=>1).sum=l.length
 | []=>rfl
 | a::l=>by simp[Jd l];omega
theorem Tc {l:List Nm} {i:Nat} (h:i<l.length):¬Ows (l.flatMap ed)=[]:=by
 cases l with
 | nil=>simp at h
 | cons a l=>simp[ed]
theorem D5 (p:Prog) (hp:p.tot≤5000000):Says prog 211 [.agg (Cs p.d)] (.osl 0 9 (lZ p).length (Ows ((lZ p).flatMap ed))) []:=by
 have ht:=p.tot_eq
 obtain⟨l1,l2⟩:=AO p hp
 have fV:=rV p.Body (by omega)
 have fL:=uq p.Body (by omega)
 have e:=Nv p
 generalize lZ p=R at e ⊢
 generalize varsOf p.Body=V at *
 generalize dG p.Body=L at *
 refine dD Go.Proofs.Tryz.func211 av2 ?_
 obtain⟨arrs,body⟩:=p
 simp only at fV fL
 simp[aD4,aFg]
 refine aX fV ?_
 simp
 refine aX fL ?_
 simp
 refine eY (l:=Pm) (b:=Qx) rfl [6] (fun i=>[(3,.osl 0 9 (bC V (L.take i)).length (Ows ((bC V (L.take i)).flatMap ed))),(5,.int .i64 i)]) (fun i=>True) L.length trivial (by simp[bC]) ?_ ?_
 ·intro i hi hI q hn hx hr
  have hw:=wrap_succ (i:=i) (by omega)
  obtain⟨a,ha⟩:=cu hi
  have hrow:=row_drop ed 1 (fun _=>rfl) ha
  rw[Nat.mul_one] at hrow
  have hl:=eP (L.take i) V
  have fp:=wz (bC V (L.take i)) a (by simp at hl;omega)
  have e2:bC V (L.take (i+1))=put (bC V (L.take i)) a:=by
   rw[List.take_add_one,ha];simp[bC]
  rw[←e2] at fp
  generalize bC V (L.take (i+1))=Y at fp hn
  generalize bC V (L.take i)=X at fp
  have hq:i+1≤(L.map fun _=>1).sum:=by rw[Jd];exact hi
  simp[hi,hw,Bj,hrow,Tc hi,hq]
  refine aX fp ?_
  simp[hw]
  refine hn _ ?_ trivial
  simp[hw]
 ·intro hI q hx hr
  rw[List.take_length,e]
  simp
  refine hx _ _ ?_
  simp
theorem CP (p:Prog) (hp:p.tot≤5000000):Says prog 140 [.agg (Cs p.d)] (.int .i64 (nC p)) []:=by
 have f:=Eg p hp
 have l3:=wu p hp
 have w1:IntKind.i64.wrap (((lZ p).length:Int)+3)=((lZ p).length:Int)+3:=by rw[bJ]<;>omega
 have fN:=D5 p hp
 unfold nC
 refine dD Go.Proofs.Tryz.func140 awI ?_
 cases c:okP p with
 | false =>
  rw[c] at f
  simp at f
  simp[atz,atX]
  refine aX f ?_
  simp
 | true =>
  rw[c] at f
  simp at f
  simp[atz,atX]
  refine aX f ?_
  simp at fN
  simp
  refine aX fN ?_
  simp[w1]
def Rx (l:List Ins):Bool:=match l.getLast? with
 | some i=>decide (i.Op=19)
 | none=>false
def qU (l:List Ins) (mem regs:Int):Bool:=bet l.length 1 4000&&(Rx l&&l.all fun i=>Ej i l.length mem regs)
theorem F7 {l:List Ins} (h:1≤l.length):∃ x,l[l.length-1]?=some x∧Rx l=decide (x.Op=19):=by
 have hx:l[l.length-1]?=some (l[l.length-1]'(by omega)):=List.getElem?_eq_getElem (by omega)
 refine⟨_,hx,?_⟩
 unfold Rx
 rw[List.getLast?_eq_getElem?,hx]
theorem Dx (l:List Ins) (mem regs:Int) (hl:l.length≤10000000) (hm:0≤mem∧mem≤100000000) (hr:0≤regs∧regs≤100000000):Says prog 150 [.rsl l.length (Cs (l.flatMap Ins.d)),.int .i64 mem,.int .i64 regs] (.bool (qU l mem regs)) []:=by
 have f1:=iE l.length 1 4000
 change Says prog _ _ (.bool (bet l.length 1 4000)) [] at f1
 have fi:=fun (i:Ins)=>NW i l.length mem regs (by omega) hm hr
 refine dD Go.Proofs.Tryz.func150 awD ?_
 generalize hR:qU l mem regs=R0
 unfold qU at hR
 cases c:bet l.length 1 4000 with
 | false =>
  rw[c] at f1 hR
  simp at hR
  simp[-List.length_flatMap,abg,aby]
  refine aX f1 ?_
  simp[hR]
 | true =>
  rw[c] at f1 hR
  simp only[bet,Bool.and_eq_true,decide_eq_true_eq] at c
  obtain⟨x,hx,hh⟩:=F7 (l:=l) (by omega)
  rw[hh] at hR
  have hrow:=row_drop Ins.d 3 Ins.d_len hx
  have w1:IntKind.i64.wrap ((l.length:Int)-1)=((l.length-1:Nat):Int):=by rw[bJ]<;>omega
  have i1:((l.length-1:Nat):Int)<l.length:=by omega
  have i0:(0:Int)≤((l.length-1:Nat):Int):=Int.natCast_nonneg _
  have i3:((l.length-1:Nat):Int).toNat=l.length-1:=Int.toNat_natCast _
  generalize hN:l.length-1=N at *
  obtain⟨xo,xa,xb⟩:=x
  by_cases d:xo=19
  ·subst d
   simp only[decide_true,Bool.true_and] at hR
   simp[-List.length_flatMap,abg,aby]
   refine aX f1 ?_
   simp[-List.length_flatMap,w1,i0,i1,i3,aT,hrow]
   refine eY (l:=PR) (b:=QT) rfl [8,9,10] (fun i=>[(7,.int .i64 i)]) (fun i=>((l.take i).all fun i=>Ej i l.length mem regs)=true) l.length (by simp) (by simp) ?_ ?_
   ·intro i hi hI q hn hx2 hr2
    have hw:=wrap_succ (i:=i) (by omega)
    obtain⟨⟨vo,va,vb⟩,hv⟩:=cu hi
    have hrow2:=row_drop Ins.d 3 Ins.d_len hv
    have f:=fi ⟨vo,va,vb⟩
    cases e:Ej ⟨vo,va,vb⟩ l.length mem regs with
    | false =>
     rw[e] at f
     simp[-List.length_flatMap] at f
     simp[-List.length_flatMap,hi,hw,aT,hrow2]
     refine aX f ?_
     simp
     refine hr2 _ ?_
     rw[nP hv e] at hR
     simp at hR;simp[hR]
    | true =>
     rw[e] at f
     simp[-List.length_flatMap] at f
     simp[-List.length_flatMap,hi,hw,aT,hrow2]
     refine aX f ?_
     simp
     refine hn _ ?_ (ni hI hv e)
     simp[hw]
   ·intro hI q hx2 hr2
    rw[List.take_length] at hI
    rw[hI] at hR
    simp
    refine hx2 _ _ ?_
    simp at hR
    simp[hR]
  ·simp[d] at hR
   simp[-List.length_flatMap,abg,aby]
   refine aX f1 ?_
   simp[-List.length_flatMap,w1,i0,i1,i3,aT,hrow,d,hR]
theorem Lc (l:List Ins) (mem regs:Int) (hl:l.length≤10000000) (hm:0≤mem∧mem≤100000000) (hr:0≤regs∧regs≤100000000):Says prog 138 [.rsl l.length (Cs (l.flatMap Ins.d)),.int .i64 mem,.int .i64 regs] (.bool (qU l mem regs)) []:=by
 have f1:=iy l.length 1 4000
 change Says prog _ _ (.bool (bet l.length 1 4000)) [] at f1
 have fi:=fun (i:Ins)=>NV i l.length mem regs (by omega) hm hr
 refine dD Go.Proofs.Tryz.func138 awK ?_
 generalize hR:qU l mem regs=R0
 unfold qU at hR
 simp[-List.length_flatMap,v138,aFE]
 refine eY (l:=PT) (b:=QV) rfl [5,6] (fun i=>[(4,.int .i64 i)]) (fun i=>((l.take i).all fun i=>Ej i l.length mem regs)=true) l.length (by simp) (by simp) ?_ ?_
 ·intro i hi hI q hn hx2 hr2
  have hw:=wrap_succ (i:=i) (by omega)
  obtain⟨⟨vo,va,vb⟩,hv⟩:=cu hi
  have hrow2:=row_drop Ins.d 3 Ins.d_len hv
  have f:=fi ⟨vo,va,vb⟩
  cases e:Ej ⟨vo,va,vb⟩ l.length mem regs with
  | false =>
   rw[e] at f
   simp[-List.length_flatMap] at f
   simp[-List.length_flatMap,hi,hw,aT,hrow2]
   refine aX f ?_
   simp
   refine hr2 _ ?_
   rw[nP hv e] at hR
   simp at hR;simp[hR]
  | true =>
   rw[e] at f
   simp[-List.length_flatMap] at f
   simp[-List.length_flatMap,hi,hw,aT,hrow2]
   refine aX f ?_
   simp
   refine hn _ ?_ (ni hI hv e)
   simp[hw]
 ·intro hI q hx2 hr2
  rw[List.take_length] at hI
  rw[hI] at hR
  simp
  refine hx2 _ _ ?_
  simp[-List.length_flatMap]
  refine aX f1 ?_
  cases c:bet l.length 1 4000 with
  | false =>
   rw[c] at hR
   simp at hR
   simp[hR]
  | true =>
   rw[c] at hR
   simp only[bet,Bool.and_eq_true,decide_eq_true_eq] at c
   obtain⟨x,hx,hh⟩:=F7 (l:=l) (by omega)
   rw[hh] at hR
   have hrow:=row_drop Ins.d 3 Ins.d_len hx
   have w1:IntKind.i64.wrap ((l.length:Int)-1)=((l.length-1:Nat):Int):=by rw[bJ]<;>omega
   have i1:((l.length-1:Nat):Int)<l.length:=by omega
   have i0:(0:Int)≤((l.length-1:Nat):Int):=Int.natCast_nonneg _
   have i3:((l.length-1:Nat):Int).toNat=l.length-1:=Int.toNat_natCast _
   generalize hN:l.length-1=N at *
   obtain⟨xo,xa,xb⟩:=x
   by_cases d:xo=19
   ·simp[d] at hR
    simp[-List.length_flatMap,w1,i0,i1,i3,aT,hrow,d,hR]
   ·simp[d] at hR
    simp[-List.length_flatMap,w1,i0,i1,i3,aT,hrow,d,hR]
def uZ (p:Prog) (m:Mach):Bool:=okP p&&(bet m.Hands.length 1 4&&(decide (m.Mem.length=iD p)&&(m.Hands.all (tq (iD p) (nC p))&&(m.Mem.all jb&&m.Out.all jb))))
theorem qc (p:Prog) (hp:p.tot≤5000000):iD p≤102∧nC p≤10000003∧(okP p=true→32≤iD p):=by
 unfold iD nC
 cases c:okP p with
 | false=>simp
 | true =>
  obtain⟨hz,h4,h6⟩:=oD c
  have hs:=yK hz
  have hr:=wu p hp
  simp only[if_true]
  omega
theorem wI {m:Mach} {h:Hand} (hm:m.tot≤5000000) (hh:h∈m.Hands):h.Stack.length≤1000000000∧h.Regs.length≤1000000000∧h.Shelf.length≤1000000000:=by
 have h1:=m.tot_eq
 have h2:=h.tot_eq
 have h3:h.tot≤(m.Hands.map Hand.tot).sum:=by
  clear h1 hm h2
  revert hh
  generalize m.Hands=l
  induction l with
  | nil=>simp
  | cons a l ih =>
   intro hh
   rcases List.mem_cons.1 hh with rfl|hh
   ·simp
   ·have:=ih hh
    simp;omega
 omega
theorem Df (p:Prog) (m:Mach) (hp:p.tot≤5000000) (hm:m.tot≤5000000):Says prog 149 [.agg (Cs p.d),.agg (Cs m.d)] (.bool (uZ p m)) []:=by
 have hmt:=m.tot_eq
 obtain⟨b1,b2,b3⟩:=qc p hp
 have f1:=qp p hp
 have f2:=xn p hp
 have f3:=iE m.Hands.length 1 4
 change Says prog _ _ (.bool (bet m.Hands.length 1 4)) [] at f3
 have f4:=qE m.Mem (by omega)
 have f5:=qE m.Out (by omega)
 have fh:=fun (h:Hand) (hh:h∈m.Hands)=>KI h (iD p) (nC p) (by omega) (wI hm hh)
 refine dD Go.Proofs.Tryz.func149 awE ?_
 generalize hR:uZ p m=R0
 unfold uZ at hR
 have z:okP p=false→iD p=0:=fun h=>by unfold iD;rw[h];rfl
 have z2:okP p=true→¬iD p=0:=fun h=>by have:=b3 h;omega
 obtain⟨arrs,body⟩:=p
 obtain⟨mem,hands,out,trap⟩:=m
 simp only at f3 f4 f5 fh hR hmt
 generalize iD ⟨arrs,body⟩=ms at *
 generalize nC ⟨arrs,body⟩=rs at *
 simp[-List.length_flatMap] at f1 f2
 simp[-List.length_flatMap,aEh,aFD]
 refine bZ f1 ?_
 simp[-List.length_flatMap]
 refine bZ f2 ?_
 simp[-List.length_flatMap]
 refine aX f3 ?_
 cases c1:bet hands.length 1 4 with
 | false=>rw[c1] at hR;simp at hR;simp[hR]
 | true =>
  by_cases c2:ms=0
  ·have:okP ⟨arrs,body⟩=false:=by cases e:okP ⟨arrs,body⟩ with|false=>rfl|true=>exact absurd c2 (z2 e)
   rw[this] at hR
   simp at hR
   simp[-List.length_flatMap,c2,hR]
  ·have c2':¬(ms:Int)=0:=by omega
   have:okP ⟨arrs,body⟩=true:=by cases e:okP ⟨arrs,body⟩ with|true=>rfl|false=>exact absurd (z e) c2
   rw[this,c1] at hR
   by_cases c3:mem.length=ms
   ·have c3':(mem.length:Int)=ms:=by omega
    simp only[c3,decide_true,Bool.true_and] at hR
    simp[-List.length_flatMap,c2,c2',c3']
    subst c3
    refine aX f4 ?_
    cases c4:mem.all jb with
    | false=>rw[c4] at hR;simp at hR;simp[hR]
    | true =>
     simp[-List.length_flatMap]
     refine aX f5 ?_
     cases c5:out.all jb with
     | false=>rw[c5] at hR;simp at hR;simp[hR]
     | true =>
      rw[c4,c5] at hR
      simp only[Bool.and_true] at hR
      simp[-List.length_flatMap]
      refine eY (l:=PS) (b:=QU) rfl [11,12,13] (fun i=>[(10,.int .i64 i)]) (fun i=>((hands.take i).all (tq mem.length rs))=true) hands.length (by simp) (by simp) ?_ ?_
      ·intro i hi hI q hn hx2 hr2
       have hw:=wrap_succ (i:=i) (by omega)
       obtain⟨h,hv⟩:=cu hi
       have hrow2:=row_drop Hand.d 6 Hand.d_len hv
       have f:=fh h (List.mem_of_getElem? hv)
       obtain⟨pc,st,rg,sh,he,dn⟩:=h
       simp only[Hand.d_eq,jL,nS,C_I,C_L,C_B] at f
       cases e:tq mem.length rs ⟨pc,st,rg,sh,he,dn⟩ with
       | false =>
        rw[e] at f
        simp[-List.length_flatMap,hi,hw,aT,hrow2]
        refine aX f ?_
        simp
        refine hr2 _ ?_
        rw[nP hv e] at hR
        simp at hR;simp[hR]
       | true =>
        rw[e] at f
        simp[-List.length_flatMap,hi,hw,aT,hrow2]
        refine aX f ?_
        simp
        refine hn _ ?_ (ni hI hv e)
        simp[hw]
      ·intro hI q hx2 hr2
       rw[List.take_length] at hI
       rw[hI] at hR
       simp
       refine hx2 _ _ ?_
       simp at hR
       simp[hR]
   ·have c3':¬(mem.length:Int)=ms:=by omega
    simp[c3] at hR
    simp[-List.length_flatMap,c2,c2',c3,c3',hR]
theorem Ku (p:Prog) (m:Mach) (hp:p.tot≤5000000) (hm:m.tot≤5000000):Says prog 137 [.agg (Cs p.d),.agg (Cs m.d)] (.bool (uZ p m)) []:=by
 have hmt:=m.tot_eq
 obtain⟨b1,b2,b3⟩:=qc p hp
 have f0:=Eg p hp
 have f1:=vJ p hp
 have f2:=CP p hp
 have f3:=iy m.Hands.length 1 4
 change Says prog _ _ (.bool (bet m.Hands.length 1 4)) [] at f3
 have f4:=qC m.Mem (by omega)
 have f5:=qC m.Out (by omega)
 have fh:=fun (h:Hand) (hh:h∈m.Hands)=>KH h (iD p) (nC p) (by omega) (wI hm hh)
 refine dD Go.Proofs.Tryz.func137 awL ?_
 generalize hR:uZ p m=R0
 unfold uZ at hR
 obtain⟨arrs,body⟩:=p
 obtain⟨mem,hands,out,trap⟩:=m
 simp only at f3 f4 f5 fh hR hmt
 generalize iD ⟨arrs,body⟩=ms at *
 generalize nC ⟨arrs,body⟩=rs at *
 generalize okP ⟨arrs,body⟩=b0 at *
 simp[-List.length_flatMap] at f0 f1 f2
 simp[-List.length_flatMap,aEi,aFF]
 refine bZ f0 ?_
 cases b0 with
 | false=>simp at hR;simp[hR]
 | true =>
  simp[-List.length_flatMap]
  refine bZ f3 ?_
  cases c1:bet hands.length 1 4 with
  | false=>rw[c1] at hR;simp at hR;simp[hR]
  | true =>
   simp[-List.length_flatMap]
   refine bZ f1 ?_
   rw[c1] at hR
   by_cases c3:mem.length=ms
   ·have c3':(mem.length:Int)=ms:=by omega
    simp only[c3,decide_true,Bool.true_and] at hR
    simp[-List.length_flatMap,c3']
    subst c3
    refine eY (l:=PU) (b:=QW) rfl [7,8] (fun i=>[(6,.int .i64 i)]) (fun i=>((hands.take i).all (tq mem.length rs))=true) hands.length (by simp) (by simp) ?_ ?_
    ·intro i hi hI q hn hx2 hr2
     have hw:=wrap_succ (i:=i) (by omega)
     obtain⟨h,hv⟩:=cu hi
     have hrow2:=row_drop Hand.d 6 Hand.d_len hv
     have f:=fh h (List.mem_of_getElem? hv)
     obtain⟨pc,st,rg,sh,he,dn⟩:=h
     simp only[Hand.d_eq,jL,nS,C_I,C_L,C_B] at f
     cases e:tq mem.length rs ⟨pc,st,rg,sh,he,dn⟩ with
     | false =>
      rw[e] at f
      simp[-List.length_flatMap,hi,hw,aT,hrow2]
      refine bZ f2 ?_
      simp[-List.length_flatMap,hi,hw,aT,hrow2]
      refine bZ f ?_
      simp
      refine hr2 _ ?_
      rw[nP hv e] at hR
      simp at hR;simp[hR]
     | true =>
      rw[e] at f
      simp[-List.length_flatMap,hi,hw,aT,hrow2]
      refine bZ f2 ?_
      simp[-List.length_flatMap,hi,hw,aT,hrow2]
      refine bZ f ?_
      simp
      refine hn _ ?_ (ni hI hv e)
      simp[hw]
    ·intro hI q hx2 hr2
     rw[List.take_length] at hI
     rw[hI] at hR
     simp
     refine hx2 _ _ ?_
     simp[-List.length_flatMap]
     refine aX f4 ?_
     cases c4:mem.all jb with
     | false=>rw[c4] at hR;simp at hR;simp[hR]
     | true =>
      simp[-List.length_flatMap]
      refine aX f5 ?_
      rw[c4] at hR
      simp at hR
      simp[hR]
   ·have c3':¬(mem.length:Int)=ms:=by omega
    simp[c3] at hR
    simp[-List.length_flatMap,c3,c3',hR]
end Go.AmC
