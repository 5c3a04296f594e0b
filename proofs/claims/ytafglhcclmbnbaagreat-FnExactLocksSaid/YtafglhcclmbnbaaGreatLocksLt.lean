import Derived.Test.YtafglhcclmbnbaaGreatLocksField
import Derived.Test.YtafglhcclmbnbaaGreatLocksMachD
import Derived.Sort.Walk0
set_option linter.unusedSimpArgs false
set_option linter.unusedVariables false
set_option maxRecDepth 20000
set_option maxHeartbeats 8000000
namespace Go.AmC
open Go Go.AM
open Go.Proofs.Tryz (prog)
def ig (e:Exp) (b:Bool):Bool:=if b then tu e else vU e
def ownB (x:Stmt):Bool :=
 (decide (1≤x.K)&&decide (x.K≤4))&&(ig x.At (decide (x.K=2))&&(ig x.E (decide (x.K≠3))&&(ig x.Lo (decide (x.K=3))&&(ig x.Hi (decide (x.K=3))&&(if x.K=4 then decide (x.S=[]) else ja x.S)))))
mutual
def jV (f:Int):Stmt→Bool
 | ⟨K,S,At,E,Lo,Hi,B⟩=>ownB ⟨K,S,At,E,Lo,Hi,B⟩&&(if K=3 then decide (f<3)&&((decide (1≤B.length)&&decide (B.length≤6))&&yL (f+1) B) else decide (B.length=0))
def yL (f:Int):List Stmt→Bool
 | []=>true
 | x::l=>jV f x&&yL f l
end
theorem xm (f:Int) (x:Stmt):jV f x=(ownB x&&(if x.K=3 then decide (f<3)&&((decide (1≤x.Body.length)&&decide (x.Body.length≤6))&&yL (f+1) x.Body) else decide (x.Body.length=0))):=by cases x;rw[jV]
def zW (f:Int) (x:Stmt):Bool:=decide (x.K=3)&&(ownB x&&(decide (f<3)&&(decide (1≤x.Body.length)&&decide (x.Body.length≤6))))
theorem EZ (x:Stmt) (hx:x.tot≤5000000) (f:Int) (g0:0≤f) (g1:f≤3) (hno:zW f x=false):Says prog 175 [.agg (Cs x.d),.int .i64 f] (.bool (jV f x)) []:=by
 have ht:=x.tot_eq
 have f1:=iE x.K 1 4
 have f2:=yj x.K
 have f3:=jJ x.At (decide (x.K=2)) (by omega)
 have f4:=jJ x.E (decide (x.K≠3)) (by omega)
 have f5:=jJ x.Lo (decide (x.K=3)) (by omega)
 have f6:=jJ x.Hi (decide (x.K=3)) (by omega)
 have f7:=zN x.S (by omega)
 refine dD Go.Proofs.Tryz.func175 abI ?_
 rw[xm]
 by_cases c0:1≤x.K∧x.K≤4
 ·have c00:(decide (1≤x.K)&&decide (x.K≤4))=true:=by simpa using c0
  rw[c00] at f1
  have hown:ownB x=(ig x.At (decide (x.K=2))&&(ig x.E (decide (x.K≠3))&&(ig x.Lo (decide (x.K=3))&&(ig x.Hi (decide (x.K=3))&&(if x.K=4 then decide (x.S=[]) else ja x.S))))):=by unfold ownB;rw[c00,Bool.true_and]
  unfold zW at hno
  rw[hown] at hno ⊢
  change Says _ _ _ (.bool (ig x.At _)) _ at f3
  change Says _ _ _ (.bool (ig x.E _)) _ at f4
  change Says _ _ _ (.bool (ig x.Lo _)) _ at f5
  change Says _ _ _ (.bool (ig x.Hi _)) _ at f6
  generalize ig x.At (decide (x.K=2))=b3 at f3 hno ⊢
  generalize ig x.E (decide (x.K≠3))=b4 at f4 hno ⊢
  generalize ig x.Lo (decide (x.K=3))=b5 at f5 hno ⊢
  generalize ig x.Hi (decide (x.K=3))=b6 at f6 hno ⊢
  generalize ja x.S=b7 at f7 hno ⊢
  have hK:x.K=1∨x.K=2∨x.K=4∨x.K=3:=by omega
  have h0:((x.Body.length:Int)==0)=decide (x.Body.length=0):=by rw[Bool.eq_iff_iff];simp
  rcases hK with k|k|k|k
  ·simp[k] at f1 f2 f3 f4 f5 f6 f7
   cases b3
   ·simp[v175,oJ,k]
    repeat' (first|refine aX (by assumption) ?_|refine bZ (by assumption) ?_|simp[k])
   cases b4
   ·simp[v175,oJ,k]
    repeat' (first|refine aX (by assumption) ?_|refine bZ (by assumption) ?_|simp[k])
   cases b5
   ·simp[v175,oJ,k]
    repeat' (first|refine aX (by assumption) ?_|refine bZ (by assumption) ?_|simp[k])
   cases b6
   ·simp[v175,oJ,k]
    repeat' (first|refine aX (by assumption) ?_|refine bZ (by assumption) ?_|simp[k])
   cases b7
   ·simp[v175,oJ,k]
    repeat' (first|refine aX (by assumption) ?_|refine bZ (by assumption) ?_|simp[k])
   simp[v175,oJ,k]
   repeat' (first|refine aX (by assumption) ?_|refine bZ (by assumption) ?_|simp[k,h0])
  ·simp[k] at f1 f2 f3 f4 f5 f6 f7
   cases b3
   ·simp[v175,oJ,k]
    repeat' (first|refine aX (by assumption) ?_|refine bZ (by assumption) ?_|simp[k])
   cases b4
   ·simp[v175,oJ,k]
    repeat' (first|refine aX (by assumption) ?_|refine bZ (by assumption) ?_|simp[k])
   cases b5
   ·simp[v175,oJ,k]
    repeat' (first|refine aX (by assumption) ?_|refine bZ (by assumption) ?_|simp[k])
   cases b6
   ·simp[v175,oJ,k]
    repeat' (first|refine aX (by assumption) ?_|refine bZ (by assumption) ?_|simp[k])
   cases b7
   ·simp[v175,oJ,k]
    repeat' (first|refine aX (by assumption) ?_|refine bZ (by assumption) ?_|simp[k])
   simp[v175,oJ,k]
   repeat' (first|refine aX (by assumption) ?_|refine bZ (by assumption) ?_|simp[k,h0])
  ·simp[k] at f1 f2 f3 f4 f5 f6
   cases b3
   ·simp[v175,oJ,k]
    repeat' (first|refine aX (by assumption) ?_|refine bZ (by assumption) ?_|simp[k])
   cases b4
   ·simp[v175,oJ,k]
    repeat' (first|refine aX (by assumption) ?_|refine bZ (by assumption) ?_|simp[k])
   cases b5
   ·simp[v175,oJ,k]
    repeat' (first|refine aX (by assumption) ?_|refine bZ (by assumption) ?_|simp[k])
   cases b6
   ·simp[v175,oJ,k]
    repeat' (first|refine aX (by assumption) ?_|refine bZ (by assumption) ?_|simp[k])
   by_cases c7:x.S=[]
   ·simp[v175,oJ,k]
    repeat' (first|refine aX (by assumption) ?_|refine bZ (by assumption) ?_|simp[k,h0,c7])
   ·simp[v175,oJ,k]
    repeat' (first|refine aX (by assumption) ?_|refine bZ (by assumption) ?_|simp[k,h0,c7])
  ·simp[k] at f1 f2 f3 f4 f5 f6 f7
   cases b3
   ·simp[v175,oJ,k]
    repeat' (first|refine aX (by assumption) ?_|refine bZ (by assumption) ?_|simp[k])
   cases b4
   ·simp[v175,oJ,k]
    repeat' (first|refine aX (by assumption) ?_|refine bZ (by assumption) ?_|simp[k])
   cases b5
   ·simp[v175,oJ,k]
    repeat' (first|refine aX (by assumption) ?_|refine bZ (by assumption) ?_|simp[k])
   cases b6
   ·simp[v175,oJ,k]
    repeat' (first|refine aX (by assumption) ?_|refine bZ (by assumption) ?_|simp[k])
   cases b7
   ·simp[v175,oJ,k]
    repeat' (first|refine aX (by assumption) ?_|refine bZ (by assumption) ?_|simp[k])
   have g8:=iE (x.Body.length:Int) 1 6
   have e1:decide ((1:Int)≤(x.Body.length:Int))=decide (1≤x.Body.length):=decide_eq_decide.2 (by omega)
   have e2:decide ((x.Body.length:Int)≤6)=decide (x.Body.length≤6):=decide_eq_decide.2 (by omega)
   rw[e1,e2] at g8
   by_cases c8:f=3
   ·subst c8
    simp[v175,oJ,k]
    repeat' (first|refine aX (by assumption) ?_|refine bZ (by assumption) ?_|simp[k])
   have c8':f<3:=by omega
   cases hb:(decide (1≤x.Body.length)&&decide (x.Body.length≤6))
   ·rw[hb] at g8
    simp[v175,oJ,k,c8,c8']
    repeat' (first|refine aX (by assumption) ?_|refine bZ (by assumption) ?_|simp[k,c8,c8'])
   rw[hb] at hno
   simp[k,c8'] at hno
 ·have c00:(decide (1≤x.K)&&decide (x.K≤4))=false:=by simpa using c0
  rw[c00] at f1
  have hown:ownB x=false:=by unfold ownB;rw[c00,Bool.false_and]
  try simp at f1
  simp[v175,oJ,hown]
  refine aX f1 ?_
  simp
theorem xk (f:Int):∀ l:List Stmt,yL f l=l.all (jV f)
 | []=>by simp[yL]
 | x::l=>by simp[yL,xk f l]
theorem Hq:∀ x:Stmt,x.tot≤5000000→∀ f:Int,0≤f→f≤3→Says prog 175 [.agg (Cs x.d),.int .i64 f] (.bool (jV f x)) []:=Stmt.ind fun x ih hx f g0 g1=>by
 cases hl:zW f x
 ·exact EZ x hx f g0 g1 hl
 have ht:=x.tot_eq
 unfold zW at hl
 simp only[Bool.and_eq_true,decide_eq_true_eq] at hl
 obtain⟨k,ho,c8,n1,n6⟩:=hl
 have hR:jV f x=x.Body.all (jV (f+1)):=by
  rw[xm,ho,if_pos k,xk]
  simp[c8,n1,n6]
 have ho2:=ho
 unfold ownB at ho2
 simp only[Bool.and_eq_true] at ho2
 obtain⟨c00,b3,b4,b5,b6,b7⟩:=ho2
 have f1:=iE x.K 1 4
 have f2:=yj x.K
 have f3:=jJ x.At (decide (x.K=2)) (by omega)
 have f4:=jJ x.E (decide (x.K≠3)) (by omega)
 have f5:=jJ x.Lo (decide (x.K=3)) (by omega)
 have f6:=jJ x.Hi (decide (x.K=3)) (by omega)
 have f7:=zN x.S (by omega)
 have g8:=iE (x.Body.length:Int) 1 6
 have e1:decide ((1:Int)≤(x.Body.length:Int))=true:=decide_eq_true (by omega)
 have e2:decide ((x.Body.length:Int)≤6)=true:=decide_eq_true (by omega)
 rw[e1,e2] at g8
 change Says _ _ _ (.bool (ig x.At _)) _ at f3
 change Says _ _ _ (.bool (ig x.E _)) _ at f4
 change Says _ _ _ (.bool (ig x.Lo _)) _ at f5
 change Says _ _ _ (.bool (ig x.Hi _)) _ at f6
 rw[b3] at f3
 rw[b4] at f4
 rw[b5] at f5
 rw[b6] at f6
 rw[if_neg (by omega)] at b7
 rw[b7] at f7
 simp[k] at f1 f2 f3 f4 f5 f6 f7 g8
 have c8':¬f=3:=by omega
 have hw3:IntKind.i64.wrap (f+1)=f+1:=wrap64 (by omega) (by omega)
 refine dD Go.Proofs.Tryz.func175 abI ?_
 rw[hR]
 generalize hRR:x.Body.all (jV (f+1))=R
 simp[v175,oJ,k,c8',n1,n6]
 iterate 16 (first|refine aX (by assumption) ?_|(simp[k,c8',n1,n6];done)|simp[k,c8',n1,n6])
 refine eY (l:=PM) (b:=QN) rfl [17,18] (fun i=>[(15,.int .i64 i)]) (fun i=>(x.Body.take i).all (jV (f+1))=true) x.Body.length (by simp) (by simp) ?_ ?_
 ·intro i hi hI q hn hx2 hr
  obtain⟨y,hy0⟩:=cu hi
  have hrow:=row_drop Stmt.d 19 Stmt.d_len hy0
  have hw:=wrap_succ (i:=i) (by omega)
  have hym:=List.mem_of_getElem? hy0
  have fy:=ih y hym (by have:=dV Stmt.tot hym;omega) (f+1) (by omega) (by omega)
  simp at fy
  cases hb:jV (f+1) y
  ·rw[hb] at fy
   simp[hi,aT,hrow,splice,hw3]
   refine aX fy ?_
   simp
   refine hr _ ?_
   simp[←hRR,kZ hy0 hb]
  ·rw[hb] at fy
   simp[hi,aT,hrow,splice,hw3]
   refine aX fy ?_
   simp[hw]
   exact hn _ (by simp) (jR hI hy0 hb)
 ·intro hI q hx2 hr
  rw[List.take_length] at hI
  simp
  refine hx2 _ _ ?_
  simp[←hRR,hI]
mutual
def cnS (d:Int):Stmt→Nat
 | ⟨K,S,At,E,Lo,Hi,B⟩=>if ownB ⟨K,S,At,E,Lo,Hi,B⟩=true then (if K=3 then (if d<3∧1≤B.length∧B.length≤6 then wV (d+1) 1 B else 100) else (if B.length=0 then 1 else 100)) else 100
def wV (d:Int) (n:Nat):List Stmt→Nat
 | []=>n
 | x::l=>if n≤40 then wV d (n+cnS d x) l else n
end
theorem EL (d:Int) (x:Stmt):cnS d x=if ownB x=true then (if x.K=3 then (if d<3∧1≤x.Body.length∧x.Body.length≤6 then wV (d+1) 1 x.Body else 100) else (if x.Body.length=0 then 1 else 100)) else 100:=by cases x;rw[cnS]
theorem JL {d:Int}:∀ {l:List Stmt} {n:Nat},n≤wV d n l
 | [],n=>by simp[wV]
 | x::l,n=>by
  rw[wV]
  split
  ·have:=JL (d:=d) (l:=l) (n:=n+cnS d x);omega
  ·omega
def AB (v:Nat) (r:Bool) (s:Nat):Prop:=(v≤40→r=true∧v=s)∧(r=true→s≤40→v=s)
theorem Jw {d:Int}:∀ {l:List Stmt} {n:Nat},(∀ x∈l,AB (cnS d x) (jV d x) (szS x))→AB (wV d n l) (l.all (jV d)) (n+(l.map szS).sum)
 | [],n,_=>by simp[AB,wV]
 | x::l,n,h=>by
  have h0:=h x (by simp)
  rw[wV]
  by_cases hn:n≤40
  ·rw[if_pos hn]
   have ih:=Jw (l:=l) (n:=n+cnS d x) fun y hy=>h y (by simp[hy])
   have hge:=JL (d:=d) (l:=l) (n:=n+cnS d x)
   refine⟨fun hh=>?_,fun hr hs=>?_⟩
   ·obtain⟨r1,r2⟩:=ih.1 hh
    obtain⟨q1,q2⟩:=h0.1 (by omega)
    refine⟨by simp[q1,r1],?_⟩
    simp only[List.map_cons,List.sum_cons];omega
   ·simp only[List.map_cons,List.sum_cons] at hs ⊢
    simp only[List.all_cons,Bool.and_eq_true] at hr
    have q:=h0.2 hr.1 (by omega)
    rw[ih.2 hr.2 (by omega)];omega
  ·rw[if_neg hn]
   exact⟨fun hh=>absurd hh hn,fun _ hs=>absurd hs (by omega)⟩
theorem aw6:∀ (x:Stmt) (d:Int),AB (cnS d x) (jV d x) (szS x):=Stmt.ind fun x ih d=>by
 rw[EL,xm,EC]
 cases ho:ownB x
 ·simp[AB]
 simp only[if_true,Bool.true_and]
 by_cases k:x.K=3
 ·rw[if_pos k,if_pos k,xk]
  by_cases c:d<3∧1≤x.Body.length∧x.Body.length≤6
  ·rw[if_pos c]
   have:=Jw (d:=d+1) (l:=x.Body) (n:=1) fun y hy=>ih y hy (d+1)
   simpa [c] using this
  ·rw[if_neg c]
   have:(decide (d<3)&&((decide (1≤x.Body.length)&&decide (x.Body.length≤6))&&x.Body.all (jV (d+1))))=false:=by
    rw[Bool.eq_false_iff]
    intro h
    simp only[Bool.and_eq_true,decide_eq_true_eq] at h
    exact c ⟨h.1,h.2.1.1,h.2.1.2⟩
   rw[this]
   simp[AB]
 ·rw[if_neg k,if_neg k]
  by_cases c:x.Body.length=0
  ·have:x.Body=[]:=List.eq_nil_of_length_eq_zero c
   simp[this,AB]
  ·rw[if_neg c]
   have:decide (x.Body.length=0)=false:=by simpa using c
   rw[this]
   simp[AB]
theorem JK {d:Int} {B:Nat}:∀ {l:List Stmt} {n:Nat},(∀ x∈l,cnS d x≤B)→wV d n l≤max n (40+B)
 | [],n,_=>by simp only[wV];omega
 | x::l,n,h=>by
  rw[wV]
  split
  ·have h1:=h x (by simp)
   have:=JK (l:=l) (n:=n+cnS d x) (fun y hy=>h y (by simp[hy]))
   omega
  ·omega
theorem adU:∀ (x:Stmt) (d:Int),cnS d x≤100+40*(4-d).toNat:=Stmt.ind fun x ih d=>by
 rw[EL]
 split
 ·split
  ·split
   ·rename_i h
    have:=JK (l:=x.Body) (n:=1) (B:=100+40*(4-(d+1)).toNat) (fun y hy=>ih y hy (d+1))
    have h2:(4-d).toNat=(4-(d+1)).toNat+1:=by omega
    omega
   ·omega
  ·split<;>omega
 ·omega
def Bz (x:Stmt):Bool:=jV 0 x&&decide (szS x≤40)
theorem Tj (x:Stmt):decide (((cnS 0 x:Nat):Int)≤40)=Bz x:=by
 have h:=aw6 x 0
 unfold Bz
 rw[Bool.eq_iff_iff]
 simp only[decide_eq_true_eq,Bool.and_eq_true]
 constructor
 ·intro hc
  have:=h.1 (by omega)
  exact⟨this.1,by omega⟩
 ·rintro⟨h1,h2⟩
  have:=h.2 h1 h2
  omega
theorem J3 (x:Stmt) (hx:x.tot≤5000000):Says prog 97 [.agg (Cs x.d)] (.bool (Bz x)) []:=by
 have f1:=Hq x hx 0 (by omega) (by omega)
 have f2:=CE [x] (by simp;omega)
 have hs:(([x]:List Stmt).map szS).sum=szS x:=by simp
 rw[hs] at f2
 refine dD Go.Proofs.Tryz.func97 aJd ?_
 unfold Bz
 simp at f1 f2
 cases hb:jV 0 x
 ·rw[hb] at f1
  simp[v97,r97]
  refine aX f1 ?_
  simp
 ·rw[hb] at f1
  generalize szS x=z at f2 ⊢
  have e:decide ((z:Int)≤40)=decide (z≤40):=decide_eq_decide.2 (by omega)
  simp[v97,r97]
  refine aX f1 ?_
  simp[splice]
  refine aX f2 ?_
  simp[e]
theorem G5 (x:Stmt) (hx:x.tot≤5000000) (d:Int) (g0:0≤d) (g1:d≤3) (hno:zW d x=false):Says prog 165 [.agg (Cs x.d),.int .i64 d] (.int .i64 (cnS d x:Nat)) []:=by
 have ht:=x.tot_eq
 have f1:=iy x.K 1 4
 have zA:=kK x.At
 have zE:=kK x.E
 have zL:=kK x.Lo
 have zH:=kK x.Hi
 have eA:=kG x.At (by omega)
 have eE:=kG x.E (by omega)
 have eL:=kG x.Lo (by omega)
 have eH:=kG x.Hi (by omega)
 have f7:=zM x.S (by omega)
 refine dD Go.Proofs.Tryz.func165 abJ ?_
 rw[EL]
 have h0:((x.Body.length:Int)==0)=decide (x.Body.length=0):=by rw[Bool.eq_iff_iff];simp
 simp at zA zE zL zH eA eE eL eH f7
 generalize hzA:vU x.At=bzA at zA
 generalize hzE:vU x.E=bzE at zE
 generalize hzL:vU x.Lo=bzL at zL
 generalize hzH:vU x.Hi=bzH at zH
 generalize heA:tu x.At=beA at eA
 generalize heE:tu x.E=beE at eE
 generalize heL:tu x.Lo=beL at eL
 generalize heH:tu x.Hi=beH at eH
 generalize hnm:ja x.S=bnm at f7
 have hown0:ownB x=((decide (1≤x.K)&&decide (x.K≤4))&&(ig x.At (decide (x.K=2))&&(ig x.E (decide (x.K≠3))&&(ig x.Lo (decide (x.K=3))&&(ig x.Hi (decide (x.K=3))&&(if x.K=4 then decide (x.S=[]) else ja x.S)))))):=rfl
 by_cases c0:1≤x.K∧x.K≤4
 ·have c00:(decide (1≤x.K)&&decide (x.K≤4))=true:=by simpa using c0
  rw[c00] at f1
  have hK:x.K=1∨x.K=2∨x.K=4∨x.K=3:=by omega
  rcases hK with k|k|k|k
  ·have hown:ownB x=(bzA&&(beE&&(bzL&&(bzH&&(bnm))))):=by rw[hown0];simp[k,ig,hzA,hzE,hzL,hzH,heA,heE,heL,heH,hnm]
   rw[hown]
   simp only[k] at f1
   try simp at f1
   cases bzA
   ·simp[kS,kT,k]
    repeat' (first|refine aX (by assumption) ?_|refine bZ (by assumption) ?_|simp[k])
   cases beE
   ·simp[kS,kT,k]
    repeat' (first|refine aX (by assumption) ?_|refine bZ (by assumption) ?_|simp[k])
   cases bzL
   ·simp[kS,kT,k]
    repeat' (first|refine aX (by assumption) ?_|refine bZ (by assumption) ?_|simp[k])
   cases bzH
   ·simp[kS,kT,k]
    repeat' (first|refine aX (by assumption) ?_|refine bZ (by assumption) ?_|simp[k])
   cases bnm
   ·simp[kS,kT,k]
    repeat' (first|refine aX (by assumption) ?_|refine bZ (by assumption) ?_|simp[k])
   by_cases cB:x.Body.length=0
   ·have cB':x.Body=[]:=List.eq_nil_of_length_eq_zero cB
    simp[kS,kT,k]
    repeat' (first|refine aX (by assumption) ?_|refine bZ (by assumption) ?_|simp[k,cB'])
   ·have cB':0<x.Body.length:=by omega
    have cB2:¬x.Body=[]:=fun h=>cB (by rw[h];rfl)
    simp[kS,kT,k]
    repeat' (first|refine aX (by assumption) ?_|refine bZ (by assumption) ?_|simp[k,cB',cB2])
  ·have hown:ownB x=(beA&&(beE&&(bzL&&(bzH&&(bnm))))):=by rw[hown0];simp[k,ig,hzA,hzE,hzL,hzH,heA,heE,heL,heH,hnm]
   rw[hown]
   simp only[k] at f1
   try simp at f1
   cases beA
   ·simp[kS,kT,k]
    repeat' (first|refine aX (by assumption) ?_|refine bZ (by assumption) ?_|simp[k])
   cases beE
   ·simp[kS,kT,k]
    repeat' (first|refine aX (by assumption) ?_|refine bZ (by assumption) ?_|simp[k])
   cases bzL
   ·simp[kS,kT,k]
    repeat' (first|refine aX (by assumption) ?_|refine bZ (by assumption) ?_|simp[k])
   cases bzH
   ·simp[kS,kT,k]
    repeat' (first|refine aX (by assumption) ?_|refine bZ (by assumption) ?_|simp[k])
   cases bnm
   ·simp[kS,kT,k]
    repeat' (first|refine aX (by assumption) ?_|refine bZ (by assumption) ?_|simp[k])
   by_cases cB:x.Body.length=0
   ·have cB':x.Body=[]:=List.eq_nil_of_length_eq_zero cB
    simp[kS,kT,k]
    repeat' (first|refine aX (by assumption) ?_|refine bZ (by assumption) ?_|simp[k,cB'])
   ·have cB':0<x.Body.length:=by omega
    have cB2:¬x.Body=[]:=fun h=>cB (by rw[h];rfl)
    simp[kS,kT,k]
    repeat' (first|refine aX (by assumption) ?_|refine bZ (by assumption) ?_|simp[k,cB',cB2])
  ·have hown:ownB x=(bzA&&(beE&&(bzL&&(bzH&&(decide (x.S=[])))))):=by rw[hown0];simp[k,ig,hzA,hzE,hzL,hzH,heA,heE,heL,heH,hnm]
   rw[hown]
   simp only[k] at f1
   try simp at f1
   cases bzA
   ·simp[kS,kT,k]
    repeat' (first|refine aX (by assumption) ?_|refine bZ (by assumption) ?_|simp[k])
   cases beE
   ·simp[kS,kT,k]
    repeat' (first|refine aX (by assumption) ?_|refine bZ (by assumption) ?_|simp[k])
   cases bzL
   ·simp[kS,kT,k]
    repeat' (first|refine aX (by assumption) ?_|refine bZ (by assumption) ?_|simp[k])
   cases bzH
   ·simp[kS,kT,k]
    repeat' (first|refine aX (by assumption) ?_|refine bZ (by assumption) ?_|simp[k])
   by_cases cS:x.S=[]
   rotate_left
   ·simp[kS,kT,k]
    repeat' (first|refine aX (by assumption) ?_|refine bZ (by assumption) ?_|simp[k,cS])
   simp only[cS] at f7
   by_cases cB:x.Body.length=0
   ·have cB':x.Body=[]:=List.eq_nil_of_length_eq_zero cB
    simp[kS,kT,k]
    repeat' (first|refine aX (by assumption) ?_|refine bZ (by assumption) ?_|simp[k,cB',cS])
   ·have cB':0<x.Body.length:=by omega
    have cB2:¬x.Body=[]:=fun h=>cB (by rw[h];rfl)
    simp[kS,kT,k]
    repeat' (first|refine aX (by assumption) ?_|refine bZ (by assumption) ?_|simp[k,cB',cB2,cS])
  ·have hown:ownB x=(bzA&&(bzE&&(beL&&(beH&&(bnm))))):=by rw[hown0];simp[k,ig,hzA,hzE,hzL,hzH,heA,heE,heL,heH,hnm]
   rw[hown]
   simp only[k] at f1
   try simp at f1
   cases bzA
   ·simp[kS,kT,k]
    repeat' (first|refine aX (by assumption) ?_|refine bZ (by assumption) ?_|simp[k])
   cases bzE
   ·simp[kS,kT,k]
    repeat' (first|refine aX (by assumption) ?_|refine bZ (by assumption) ?_|simp[k])
   cases beL
   ·simp[kS,kT,k]
    repeat' (first|refine aX (by assumption) ?_|refine bZ (by assumption) ?_|simp[k])
   cases beH
   ·simp[kS,kT,k]
    repeat' (first|refine aX (by assumption) ?_|refine bZ (by assumption) ?_|simp[k])
   cases bnm
   ·simp[kS,kT,k]
    repeat' (first|refine aX (by assumption) ?_|refine bZ (by assumption) ?_|simp[k])
   have g8:=iy (x.Body.length:Int) 1 6
   have e1:decide ((1:Int)≤(x.Body.length:Int))=decide (1≤x.Body.length):=decide_eq_decide.2 (by omega)
   have e2:decide ((x.Body.length:Int)≤6)=decide (x.Body.length≤6):=decide_eq_decide.2 (by omega)
   rw[e1,e2] at g8
   unfold zW at hno
   rw[hown] at hno
   by_cases c8:d=3
   ·subst c8
    simp[kS,kT,k]
    repeat' (first|refine aX (by assumption) ?_|refine bZ (by assumption) ?_|simp[k])
   have c8':d<3:=by omega
   have c8n:¬3≤d:=by omega
   have hb:(decide (1≤x.Body.length)&&decide (x.Body.length≤6))=false:=by simpa [k,c8'] using hno
   rw[hb] at g8
   have hb2:¬(d<3∧1≤x.Body.length∧x.Body.length≤6):=by simp at hb;omega
   rw[if_neg hb2]
   simp[kS,kT,k,c8n]
   repeat' (first|refine aX (by assumption) ?_|refine bZ (by assumption) ?_|simp[k,c8n])
 ·have c00:(decide (1≤x.K)&&decide (x.K≤4))=false:=by simpa using c0
  rw[c00] at f1
  have hown:ownB x=false:=by rw[hown0,c00,Bool.false_and]
  rw[hown]
  have k2:¬x.K=2:=by omega
  have k3:¬x.K=3:=by omega
  have k4:¬x.K=4:=by omega
  try simp at f1
  cases bzA
  ·simp[kS,kT,k2,k3,k4]
   repeat' (first|refine aX (by assumption) ?_|refine bZ (by assumption) ?_|simp[k2,k3,k4])
  cases beE
  ·simp[kS,kT,k2,k3,k4]
   repeat' (first|refine aX (by assumption) ?_|refine bZ (by assumption) ?_|simp[k2,k3,k4])
  cases bzL
  ·simp[kS,kT,k2,k3,k4]
   repeat' (first|refine aX (by assumption) ?_|refine bZ (by assumption) ?_|simp[k2,k3,k4])
  cases bzH
  ·simp[kS,kT,k2,k3,k4]
   repeat' (first|refine aX (by assumption) ?_|refine bZ (by assumption) ?_|simp[k2,k3,k4])
  cases bnm
  ·simp[kS,kT,k2,k3,k4]
   repeat' (first|refine aX (by assumption) ?_|refine bZ (by assumption) ?_|simp[k2,k3,k4])
  simp[kS,kT,k2,k3,k4]
  repeat' (first|refine aX (by assumption) ?_|refine bZ (by assumption) ?_|simp[k2,k3,k4])
def JO (d:Int) (L:List Stmt) (i:Nat):Nat:=1+((L.take i).map (cnS d)).sum
theorem Lm {d:Int} {L:List Stmt} {i:Nat} {y:Stmt} (hy:L[i]?=some y):JO d L (i+1)=JO d L i+cnS d y:=by
 unfold JO
 rw[List.take_add_one,hy]
 simp;omega
theorem JX:∀ x:Stmt,x.tot≤5000000→∀ d:Int,0≤d→d≤3→Says prog 165 [.agg (Cs x.d),.int .i64 d] (.int .i64 (cnS d x:Nat)) []:=Stmt.ind fun x ih hx d g0 g1=>by
 cases hl:zW d x
 ·exact G5 x hx d g0 g1 hl
 have ht:=x.tot_eq
 unfold zW at hl
 simp only[Bool.and_eq_true,decide_eq_true_eq] at hl
 obtain⟨k,ho,c8,n1,n6⟩:=hl
 have hR:cnS d x=wV (d+1) 1 x.Body:=by
  rw[EL,if_pos ho,if_pos k,if_pos ⟨c8,n1,n6⟩]
 have ho2:=ho
 unfold ownB at ho2
 simp only[Bool.and_eq_true,k] at ho2
 obtain⟨c00,b3,b4,b5,b6,b7⟩:=ho2
 simp[ig] at b3 b4 b5 b6
 rw[if_neg (by omega)] at b7
 have f1:=iy x.K 1 4
 have zA:=kK x.At
 have zE:=kK x.E
 have zL:=kK x.Lo
 have zH:=kK x.Hi
 have eE:=kG x.E (by omega)
 have eL:=kG x.Lo (by omega)
 have eH:=kG x.Hi (by omega)
 have f7:=zM x.S (by omega)
 have g8:=iy (x.Body.length:Int) 1 6
 have e1:decide ((1:Int)≤(x.Body.length:Int))=true:=decide_eq_true (by omega)
 have e2:decide ((x.Body.length:Int)≤6)=true:=decide_eq_true (by omega)
 rw[e1,e2] at g8
 rw[b3] at zA
 rw[b4] at zE
 rw[b5] at eL
 rw[b6] at eH
 rw[b7] at f7
 simp[k] at f1 zA zE zL zH eE eL eH f7 g8
 have c8':¬3≤d:=by omega
 have hw3:IntKind.i64.wrap (d+1)=d+1:=wrap64 (by omega) (by omega)
 refine dD Go.Proofs.Tryz.func165 abJ ?_
 rw[hR]
 generalize hRR:wV (d+1) 1 x.Body=R
 simp[kS,kT,k,c8',n1,n6]
 iterate 20 (first|refine aX (by assumption) ?_|simp[k,c8',n1,n6])
 refine eY (l:=PO) (b:=QP) rfl [19] (fun i=>[(17,.int .i64 (JO (d+1) x.Body i:Nat)),(18,.int .i64 i)]) (fun i=>wV (d+1) (JO (d+1) x.Body i) (x.Body.drop i)=R) x.Body.length (by simpa [JO] using hRR) (by simp[JO]) ?_ ?_
 ·intro i hi hI q hn hx2 hr
  obtain⟨y,hy0⟩:=cu hi
  have hrow:=row_drop Stmt.d 19 Stmt.d_len hy0
  have hwi:=wrap_succ (i:=i) (by omega)
  have hym:=List.mem_of_getElem? hy0
  have fy:=ih y hym (by have:=dV Stmt.tot hym;omega) (d+1) (by omega) (by omega)
  have hle:=adU y (d+1)
  have hs:=Lm (d:=d+1) hy0
  rw[drop_cons hy0,wV] at hI
  rw[hs] at hn
  simp at fy
  generalize JO (d+1) x.Body i=A at hn hI ⊢
  generalize cnS (d+1) y=z at fy hn hI hle
  by_cases hA:A≤40
  ·rw[if_pos hA] at hI
   have hA':(A:Int)≤40:=by omega
   have hwa:IntKind.i64.wrap ((A:Int)+(z:Int))=((A+z:Nat):Int):=by rw[bJ]<;>omega
   simp[hi,aT,hrow,hw3,hA']
   refine aX fy ?_
   simp at hwa
   simp[hwa,hwi]
   refine hn _ ?_ hI
   simp
  ·rw[if_neg hA] at hI
   have hA':¬(A:Int)≤40:=by omega
   simp[hi,hA']
   refine hx2 _ _ ?_
   simp[←hI]
 ·intro hI q hx2 hr
  simp[wV] at hI
  simp
  refine hx2 _ _ ?_
  simp[←hI]
theorem JZ (x:Stmt) (hx:x.tot≤5000000):Says prog 92 [.agg (Cs x.d)] (.bool (Bz x)) []:=by
 have f1:=JX x hx 0 (by omega) (by omega)
 have hv:=Tj x
 simp at f1
 refine dD Go.Proofs.Tryz.func92 aJf ?_
 simp[v92,r92]
 refine aX f1 ?_
 try simp at hv
 simp[hv]
end Go.AmC
set_option linter.unusedSimpArgs false
set_option linter.unusedVariables false
set_option maxRecDepth 20000
set_option maxHeartbeats 4000000
namespace Go.AmC
open Go Go.AM
open Go.Proofs (bytesLess_eq)
open Go.Proofs.Tryz (prog)
def ltO:Option (List UInt8)→List UInt8→Bool
 | none,_=>true
 | some q,n=>decide (q<n)
theorem EN (p n:List UInt8):(!Op.bytesLess p n)=!decide (p<n):=by rw[bytesLess_eq]
theorem EM (n p:List UInt8):(Op.bytesLess n p||n==p)=!decide (p<n):=by
 rw[bytesLess_eq]
 by_cases h1:p<n
 ·have h2:¬n<p:=fun h=>List.lt_irrefl _ (List.lt_trans h h1)
  have h3:¬n=p:=fun h=>List.lt_irrefl _ (h▸h1)
  simp[h1,h2,h3]
 ·by_cases h2:n<p
  ·simp[h1,h2]
  ·have:n=p:=List.le_antisymm (List.not_lt.1 h1) (List.not_lt.1 h2)
   simp[h1,this]
end Go.AmC
