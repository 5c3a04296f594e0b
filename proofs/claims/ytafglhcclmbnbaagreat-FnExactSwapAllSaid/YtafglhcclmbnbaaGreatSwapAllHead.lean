import Derived.Test.YtafglhcclmbnbaaGreatSwapAllStI
import Derived.Test.YtafglhcclmbnbaaGreatSwapAllSize
import Derived.Sort.Walk0
set_option linter.unusedSimpArgs false
set_option linter.unusedVariables false
set_option maxRecDepth 20000
set_option maxHeartbeats 8000000
namespace Go.AmC
open Go Go.AM
open Go.Proofs.Tryz (prog)
theorem xu (f:Int):∀ l:List Stmt,sZ f l=l.all (gK f)
 | []=>by simp[sZ]
 | x::l=>by simp[sZ,xu f l]
theorem JS:∀ x:Stmt,x.tot≤5000000→∀ f:Int,0≤f→f≤3→Says prog 175 [.agg (Cs x.d),.int .i64 f] (.bool (gK f x)) []:=Stmt.ind fun x ih hx f g0 g1=>by
 cases hl:Aa f x
 ·exact Hf x hx f g0 g1 hl
 have ht:=x.tot_eq
 unfold Aa at hl
 simp only[Bool.and_eq_true,decide_eq_true_eq] at hl
 obtain⟨k,ho,c8,n1,n6⟩:=hl
 have hR:gK f x=x.Body.all (gK (f+1)):=by
  rw[rY,ho,if_pos k,xu]
  simp[c8,n1,n6]
 have ho2:=ho
 unfold ownB at ho2
 simp only[Bool.and_eq_true] at ho2
 obtain⟨c00,b3,b4,b5,b6,b7⟩:=ho2
 have f1:=iq x.K 1 4
 have f2:=yC x.K
 have f3:=iW x.At (decide (x.K=2)) (by omega)
 have f4:=iW x.E (decide (x.K≠3)) (by omega)
 have f5:=iW x.Lo (decide (x.K=3)) (by omega)
 have f6:=iW x.Hi (decide (x.K=3)) (by omega)
 have f7:=qF x.S (by omega)
 have g8:=iq (x.Body.length:Int) 1 6
 have e1:decide ((1:Int)≤(x.Body.length:Int))=true:=decide_eq_true (by omega)
 have e2:decide ((x.Body.length:Int)≤6)=true:=decide_eq_true (by omega)
 rw[e1,e2] at g8
 change Says _ _ _ (.bool (cZ x.At _)) _ at f3
 change Says _ _ _ (.bool (cZ x.E _)) _ at f4
 change Says _ _ _ (.bool (cZ x.Lo _)) _ at f5
 change Says _ _ _ (.bool (cZ x.Hi _)) _ at f6
 rw[b3] at f3
 rw[b4] at f4
 rw[b5] at f5
 rw[b6] at f6
 rw[if_neg (by omega)] at b7
 rw[b7] at f7
 simp[k] at f1 f2 f3 f4 f5 f6 f7 g8
 have c8':¬f=3:=by omega
 have hw3:IntKind.i64.wrap (f+1)=f+1:=wrap64 (by omega) (by omega)
 refine aP Go.Proofs.Tryz.func175 afK ?_
 rw[hR]
 generalize hRR:x.Body.all (gK (f+1))=R
 simp[v175,nD,k,c8',n1,n6]
 iterate 16 (first|refine ai (by assumption) ?_|(simp[k,c8',n1,n6];done)|simp[k,c8',n1,n6])
 refine aZ (l:=UD) (b:=WA) rfl [17,18] (fun i=>[(15,.int .i64 i)]) (fun i=>(x.Body.take i).all (gK (f+1))=true) x.Body.length (by simp) (by simp) ?_ ?_
 ·intro i hi hI q hn hx2 hr
  obtain⟨y,hy0⟩:=ax hi
  have hrow:=row_drop Stmt.d 19 Stmt.d_len hy0
  have hw:=wrap_succ (i:=i) (by omega)
  have hym:=List.mem_of_getElem? hy0
  have fy:=ih y hym (by have:=az Stmt.tot hym;omega) (f+1) (by omega) (by omega)
  simp at fy
  cases hb:gK (f+1) y
  ·rw[hb] at fy
   simp[hi,aj,hrow,splice,hw3]
   refine ai fy ?_
   simp
   refine hr _ ?_
   simp[←hRR,kF hy0 hb]
  ·rw[hb] at fy
   simp[hi,aj,hrow,splice,hw3]
   refine ai fy ?_
   simp[hw]
   exact hn _ (by simp) (je hI hy0 hb)
 ·intro hI q hx2 hr
  rw[List.take_length] at hI
  simp
  refine hx2 _ _ ?_
  simp[←hRR,hI]
mutual
def cnS (d:Int):Stmt→Nat
 | ⟨K,S,At,E,Lo,Hi,B⟩=>if ownB ⟨K,S,At,E,Lo,Hi,B⟩=true then (if K=3 then (if d<3∧1≤B.length∧B.length≤6 then wX (d+1) 1 B else 100) else (if B.length=0 then 1 else 100)) else 100
def wX (d:Int) (n:Nat):List Stmt→Nat
 | []=>n
 | x::l=>if n≤40 then wX d (n+cnS d x) l else n
end
theorem GL (d:Int) (x:Stmt):cnS d x=if ownB x=true then (if x.K=3 then (if d<3∧1≤x.Body.length∧x.Body.length≤6 then wX (d+1) 1 x.Body else 100) else (if x.Body.length=0 then 1 else 100)) else 100:=by cases x;rw[cnS]
theorem N9 {d:Int}:∀ {l:List Stmt} {n:Nat},n≤wX d n l
 | [],n=>by simp[wX]
 | x::l,n=>by
  rw[wX]
  split
  ·have:=N9 (d:=d) (l:=l) (n:=n+cnS d x);omega
  ·omega
def Be (v:Nat) (r:Bool) (s:Nat):Prop:=(v≤40→r=true∧v=s)∧(r=true→s≤40→v=s)
theorem NJ {d:Int}:∀ {l:List Stmt} {n:Nat},(∀ x∈l,Be (cnS d x) (gK d x) (szS x))→Be (wX d n l) (l.all (gK d)) (n+(l.map szS).sum)
 | [],n,_=>by simp[Be,wX]
 | x::l,n,h=>by
  have h0:=h x (by simp)
  rw[wX]
  by_cases hn:n≤40
  ·rw[if_pos hn]
   have ih:=NJ (l:=l) (n:=n+cnS d x) fun y hy=>h y (by simp[hy])
   have hge:=N9 (d:=d) (l:=l) (n:=n+cnS d x)
   refine⟨fun hh=>?_,fun hr hs=>?_⟩
   ·obtain⟨r1,r2⟩:=ih.1 hh
    obtain⟨q1,q2⟩:=h0.1 (by omega)
    refine⟨by simp[q1,r1],?_⟩
    simp only[List.map_cons,List.sum_cons];omega
   ·simp only[List.map_cons,List.sum_cons] at hs ⊢
    simp only[List.all_cons,Bool.and_eq_true] at hr
    have q:=h0.2 hr.1 (by omega)
    rw[ih.2 hr.2 (by omega)];omega
  ·rw[if_neg hn]
   exact⟨fun hh=>absurd hh hn,fun _ hs=>absurd hs (by omega)⟩
theorem aG0:∀ (x:Stmt) (d:Int),Be (cnS d x) (gK d x) (szS x):=Stmt.ind fun x ih d=>by
 rw[GL,rY,yX]
 cases ho:ownB x
 ·simp[Be]
 simp only[if_true,Bool.true_and]
 by_cases k:x.K=3
 ·rw[if_pos k,if_pos k,xu]
  by_cases c:d<3∧1≤x.Body.length∧x.Body.length≤6
  ·rw[if_pos c]
   have:=NJ (d:=d+1) (l:=x.Body) (n:=1) fun y hy=>ih y hy (d+1)
   simpa [c] using this
  ·rw[if_neg c]
   have:(decide (d<3)&&((decide (1≤x.Body.length)&&decide (x.Body.length≤6))&&x.Body.all (gK (d+1))))=false:=by
    rw[Bool.eq_false_iff]
    intro h
    simp only[Bool.and_eq_true,decide_eq_true_eq] at h
    exact c ⟨h.1,h.2.1.1,h.2.1.2⟩
   rw[this]
   simp[Be]
 ·rw[if_neg k,if_neg k]
  by_cases c:x.Body.length=0
  ·have:x.Body=[]:=List.eq_nil_of_length_eq_zero c
   simp[this,Be]
  ·rw[if_neg c]
   have:decide (x.Body.length=0)=false:=by simpa using c
   rw[this]
   simp[Be]
theorem N8 {d:Int} {B:Nat}:∀ {l:List Stmt} {n:Nat},(∀ x∈l,cnS d x≤B)→wX d n l≤max n (40+B)
 | [],n,_=>by simp only[wX];omega
 | x::l,n,h=>by
  rw[wX]
  split
  ·have h1:=h x (by simp)
   have:=N8 (l:=l) (n:=n+cnS d x) (fun y hy=>h y (by simp[hy]))
   omega
  ·omega
theorem ahd:∀ (x:Stmt) (d:Int),cnS d x≤100+40*(4-d).toNat:=Stmt.ind fun x ih d=>by
 rw[GL]
 split
 ·split
  ·split
   ·rename_i h
    have:=N8 (l:=x.Body) (n:=1) (B:=100+40*(4-(d+1)).toNat) (fun y hy=>ih y hy (d+1))
    have h2:(4-d).toNat=(4-(d+1)).toNat+1:=by omega
    omega
   ·omega
  ·split<;>omega
 ·omega
def pX (x:Stmt):Bool:=gK 0 x&&decide (szS x≤40)
theorem XL (x:Stmt):decide (((cnS 0 x:Nat):Int)≤40)=pX x:=by
 have h:=aG0 x 0
 unfold pX
 rw[Bool.eq_iff_iff]
 simp only[decide_eq_true_eq,Bool.and_eq_true]
 constructor
 ·intro hc
  have:=h.1 (by omega)
  exact⟨this.1,by omega⟩
 ·rintro⟨h1,h2⟩
  have:=h.2 h1 h2
  omega
theorem OJ (x:Stmt) (hx:x.tot≤5000000):Says prog 97 [.agg (Cs x.d)] (.bool (pX x)) []:=by
 have f1:=JS x hx 0 (by omega) (by omega)
 have f2:=DY [x] (by simp;omega)
 have hs:(([x]:List Stmt).map szS).sum=szS x:=by simp
 rw[hs] at f2
 refine aP Go.Proofs.Tryz.func97 aS7 ?_
 unfold pX
 simp at f1 f2
 cases hb:gK 0 x
 ·rw[hb] at f1
  simp[v97,r97]
  refine ai f1 ?_
  simp
 ·rw[hb] at f1
  generalize szS x=z at f2 ⊢
  have e:decide ((z:Int)≤40)=decide (z≤40):=decide_eq_decide.2 (by omega)
  simp[v97,r97]
  refine ai f1 ?_
  simp[splice]
  refine ai f2 ?_
  simp[e]
theorem JE (x:Stmt) (hx:x.tot≤5000000) (d:Int) (g0:0≤d) (g1:d≤3) (hno:Aa d x=false):Says prog 165 [.agg (Cs x.d),.int .i64 d] (.int .i64 (cnS d x:Nat)) []:=by
 have ht:=x.tot_eq
 have f1:=iU x.K 1 4
 have zA:=jJ x.At
 have zE:=jJ x.E
 have zL:=jJ x.Lo
 have zH:=jJ x.Hi
 have eA:=jF x.At (by omega)
 have eE:=jF x.E (by omega)
 have eL:=jF x.Lo (by omega)
 have eH:=jF x.Hi (by omega)
 have f7:=tK x.S (by omega)
 refine aP Go.Proofs.Tryz.func165 afL ?_
 rw[GL]
 have h0:((x.Body.length:Int)==0)=decide (x.Body.length=0):=by rw[Bool.eq_iff_iff];simp
 simp at zA zE zL zH eA eE eL eH f7
 generalize hzA:qP x.At=bzA at zA
 generalize hzE:qP x.E=bzE at zE
 generalize hzL:qP x.Lo=bzL at zL
 generalize hzH:qP x.Hi=bzH at zH
 generalize heA:qV x.At=beA at eA
 generalize heE:qV x.E=beE at eE
 generalize heL:qV x.Lo=beL at eL
 generalize heH:qV x.Hi=beH at eH
 generalize hnm:bZ x.S=bnm at f7
 have hown0:ownB x=((decide (1≤x.K)&&decide (x.K≤4))&&(cZ x.At (decide (x.K=2))&&(cZ x.E (decide (x.K≠3))&&(cZ x.Lo (decide (x.K=3))&&(cZ x.Hi (decide (x.K=3))&&(if x.K=4 then decide (x.S=[]) else bZ x.S)))))):=rfl
 by_cases c0:1≤x.K∧x.K≤4
 ·have c00:(decide (1≤x.K)&&decide (x.K≤4))=true:=by simpa using c0
  rw[c00] at f1
  have hK:x.K=1∨x.K=2∨x.K=4∨x.K=3:=by omega
  rcases hK with k|k|k|k
  ·have hown:ownB x=(bzA&&(beE&&(bzL&&(bzH&&(bnm))))):=by rw[hown0];simp[k,cZ,hzA,hzE,hzL,hzH,heA,heE,heL,heH,hnm]
   rw[hown]
   simp only[k] at f1
   try simp at f1
   cases bzA
   ·simp[jV,jX,k]
    repeat' (first|refine ai (by assumption) ?_|refine ay (by assumption) ?_|simp[k])
   cases beE
   ·simp[jV,jX,k]
    repeat' (first|refine ai (by assumption) ?_|refine ay (by assumption) ?_|simp[k])
   cases bzL
   ·simp[jV,jX,k]
    repeat' (first|refine ai (by assumption) ?_|refine ay (by assumption) ?_|simp[k])
   cases bzH
   ·simp[jV,jX,k]
    repeat' (first|refine ai (by assumption) ?_|refine ay (by assumption) ?_|simp[k])
   cases bnm
   ·simp[jV,jX,k]
    repeat' (first|refine ai (by assumption) ?_|refine ay (by assumption) ?_|simp[k])
   by_cases cB:x.Body.length=0
   ·have cB':x.Body=[]:=List.eq_nil_of_length_eq_zero cB
    simp[jV,jX,k]
    repeat' (first|refine ai (by assumption) ?_|refine ay (by assumption) ?_|simp[k,cB'])
   ·have cB':0<x.Body.length:=by omega
    have cB2:¬x.Body=[]:=fun h=>cB (by rw[h];rfl)
    simp[jV,jX,k]
    repeat' (first|refine ai (by assumption) ?_|refine ay (by assumption) ?_|simp[k,cB',cB2])
  ·have hown:ownB x=(beA&&(beE&&(bzL&&(bzH&&(bnm))))):=by rw[hown0];simp[k,cZ,hzA,hzE,hzL,hzH,heA,heE,heL,heH,hnm]
   rw[hown]
   simp only[k] at f1
   try simp at f1
   cases beA
   ·simp[jV,jX,k]
    repeat' (first|refine ai (by assumption) ?_|refine ay (by assumption) ?_|simp[k])
   cases beE
   ·simp[jV,jX,k]
    repeat' (first|refine ai (by assumption) ?_|refine ay (by assumption) ?_|simp[k])
   cases bzL
   ·simp[jV,jX,k]
    repeat' (first|refine ai (by assumption) ?_|refine ay (by assumption) ?_|simp[k])
   cases bzH
   ·simp[jV,jX,k]
    repeat' (first|refine ai (by assumption) ?_|refine ay (by assumption) ?_|simp[k])
   cases bnm
   ·simp[jV,jX,k]
    repeat' (first|refine ai (by assumption) ?_|refine ay (by assumption) ?_|simp[k])
   by_cases cB:x.Body.length=0
   ·have cB':x.Body=[]:=List.eq_nil_of_length_eq_zero cB
    simp[jV,jX,k]
    repeat' (first|refine ai (by assumption) ?_|refine ay (by assumption) ?_|simp[k,cB'])
   ·have cB':0<x.Body.length:=by omega
    have cB2:¬x.Body=[]:=fun h=>cB (by rw[h];rfl)
    simp[jV,jX,k]
    repeat' (first|refine ai (by assumption) ?_|refine ay (by assumption) ?_|simp[k,cB',cB2])
  ·have hown:ownB x=(bzA&&(beE&&(bzL&&(bzH&&(decide (x.S=[])))))):=by rw[hown0];simp[k,cZ,hzA,hzE,hzL,hzH,heA,heE,heL,heH,hnm]
   rw[hown]
   simp only[k] at f1
   try simp at f1
   cases bzA
   ·simp[jV,jX,k]
    repeat' (first|refine ai (by assumption) ?_|refine ay (by assumption) ?_|simp[k])
   cases beE
   ·simp[jV,jX,k]
    repeat' (first|refine ai (by assumption) ?_|refine ay (by assumption) ?_|simp[k])
   cases bzL
   ·simp[jV,jX,k]
    repeat' (first|refine ai (by assumption) ?_|refine ay (by assumption) ?_|simp[k])
   cases bzH
   ·simp[jV,jX,k]
    repeat' (first|refine ai (by assumption) ?_|refine ay (by assumption) ?_|simp[k])
   by_cases cS:x.S=[]
   rotate_left
   ·simp[jV,jX,k]
    repeat' (first|refine ai (by assumption) ?_|refine ay (by assumption) ?_|simp[k,cS])
   simp only[cS] at f7
   by_cases cB:x.Body.length=0
   ·have cB':x.Body=[]:=List.eq_nil_of_length_eq_zero cB
    simp[jV,jX,k]
    repeat' (first|refine ai (by assumption) ?_|refine ay (by assumption) ?_|simp[k,cB',cS])
   ·have cB':0<x.Body.length:=by omega
    have cB2:¬x.Body=[]:=fun h=>cB (by rw[h];rfl)
    simp[jV,jX,k]
    repeat' (first|refine ai (by assumption) ?_|refine ay (by assumption) ?_|simp[k,cB',cB2,cS])
  ·have hown:ownB x=(bzA&&(bzE&&(beL&&(beH&&(bnm))))):=by rw[hown0];simp[k,cZ,hzA,hzE,hzL,hzH,heA,heE,heL,heH,hnm]
   rw[hown]
   simp only[k] at f1
   try simp at f1
   cases bzA
   ·simp[jV,jX,k]
    repeat' (first|refine ai (by assumption) ?_|refine ay (by assumption) ?_|simp[k])
   cases bzE
   ·simp[jV,jX,k]
    repeat' (first|refine ai (by assumption) ?_|refine ay (by assumption) ?_|simp[k])
   cases beL
   ·simp[jV,jX,k]
    repeat' (first|refine ai (by assumption) ?_|refine ay (by assumption) ?_|simp[k])
   cases beH
   ·simp[jV,jX,k]
    repeat' (first|refine ai (by assumption) ?_|refine ay (by assumption) ?_|simp[k])
   cases bnm
   ·simp[jV,jX,k]
    repeat' (first|refine ai (by assumption) ?_|refine ay (by assumption) ?_|simp[k])
   have g8:=iU (x.Body.length:Int) 1 6
   have e1:decide ((1:Int)≤(x.Body.length:Int))=decide (1≤x.Body.length):=decide_eq_decide.2 (by omega)
   have e2:decide ((x.Body.length:Int)≤6)=decide (x.Body.length≤6):=decide_eq_decide.2 (by omega)
   rw[e1,e2] at g8
   unfold Aa at hno
   rw[hown] at hno
   by_cases c8:d=3
   ·subst c8
    simp[jV,jX,k]
    repeat' (first|refine ai (by assumption) ?_|refine ay (by assumption) ?_|simp[k])
   have c8':d<3:=by omega
   have c8n:¬3≤d:=by omega
   have hb:(decide (1≤x.Body.length)&&decide (x.Body.length≤6))=false:=by simpa [k,c8'] using hno
   rw[hb] at g8
   have hb2:¬(d<3∧1≤x.Body.length∧x.Body.length≤6):=by simp at hb;omega
   rw[if_neg hb2]
   simp[jV,jX,k,c8n]
   repeat' (first|refine ai (by assumption) ?_|refine ay (by assumption) ?_|simp[k,c8n])
 ·have c00:(decide (1≤x.K)&&decide (x.K≤4))=false:=by simpa using c0
  rw[c00] at f1
  have hown:ownB x=false:=by rw[hown0,c00,Bool.false_and]
  rw[hown]
  have k2:¬x.K=2:=by omega
  have k3:¬x.K=3:=by omega
  have k4:¬x.K=4:=by omega
  try simp at f1
  cases bzA
  ·simp[jV,jX,k2,k3,k4]
   repeat' (first|refine ai (by assumption) ?_|refine ay (by assumption) ?_|simp[k2,k3,k4])
  cases beE
  ·simp[jV,jX,k2,k3,k4]
   repeat' (first|refine ai (by assumption) ?_|refine ay (by assumption) ?_|simp[k2,k3,k4])
  cases bzL
  ·simp[jV,jX,k2,k3,k4]
   repeat' (first|refine ai (by assumption) ?_|refine ay (by assumption) ?_|simp[k2,k3,k4])
  cases bzH
  ·simp[jV,jX,k2,k3,k4]
   repeat' (first|refine ai (by assumption) ?_|refine ay (by assumption) ?_|simp[k2,k3,k4])
  cases bnm
  ·simp[jV,jX,k2,k3,k4]
   repeat' (first|refine ai (by assumption) ?_|refine ay (by assumption) ?_|simp[k2,k3,k4])
  simp[jV,jX,k2,k3,k4]
  repeat' (first|refine ai (by assumption) ?_|refine ay (by assumption) ?_|simp[k2,k3,k4])
def Oe (d:Int) (L:List Stmt) (i:Nat):Nat:=1+((L.take i).map (cnS d)).sum
theorem PW {d:Int} {L:List Stmt} {i:Nat} {y:Stmt} (hy:L[i]?=some y):Oe d L (i+1)=Oe d L i+cnS d y:=by
 unfold Oe
 rw[List.take_add_one,hy]
 simp;omega
theorem OD:∀ x:Stmt,x.tot≤5000000→∀ d:Int,0≤d→d≤3→Says prog 165 [.agg (Cs x.d),.int .i64 d] (.int .i64 (cnS d x:Nat)) []:=Stmt.ind fun x ih hx d g0 g1=>by
 cases hl:Aa d x
 ·exact JE x hx d g0 g1 hl
 have ht:=x.tot_eq
 unfold Aa at hl
 simp only[Bool.and_eq_true,decide_eq_true_eq] at hl
 obtain⟨k,ho,c8,n1,n6⟩:=hl
 have hR:cnS d x=wX (d+1) 1 x.Body:=by
  rw[GL,if_pos ho,if_pos k,if_pos ⟨c8,n1,n6⟩]
 have ho2:=ho
 unfold ownB at ho2
 simp only[Bool.and_eq_true,k] at ho2
 obtain⟨c00,b3,b4,b5,b6,b7⟩:=ho2
 simp[cZ] at b3 b4 b5 b6
 rw[if_neg (by omega)] at b7
 have f1:=iU x.K 1 4
 have zA:=jJ x.At
 have zE:=jJ x.E
 have zL:=jJ x.Lo
 have zH:=jJ x.Hi
 have eE:=jF x.E (by omega)
 have eL:=jF x.Lo (by omega)
 have eH:=jF x.Hi (by omega)
 have f7:=tK x.S (by omega)
 have g8:=iU (x.Body.length:Int) 1 6
 have e1:decide ((1:Int)≤(x.Body.length:Int))=true:=decide_eq_true (by omega)
 have e2:decide ((x.Body.length:Int)≤6)=true:=decide_eq_true (by omega)
 rw[e1,e2] at g8
 rw[b3] at zA
 rw[b4] at zE
 rw[b5] at eL
 rw[b6] at eH
 rw[b7] at f7
 simp[k] at f1 zA zE zL zH eE eL eH f7 g8
 have c8':¬3≤d:=by omega
 have hw3:IntKind.i64.wrap (d+1)=d+1:=wrap64 (by omega) (by omega)
 refine aP Go.Proofs.Tryz.func165 afL ?_
 rw[hR]
 generalize hRR:wX (d+1) 1 x.Body=R
 simp[jV,jX,k,c8',n1,n6]
 iterate 20 (first|refine ai (by assumption) ?_|simp[k,c8',n1,n6])
 refine aZ (l:=UJ) (b:=WH) rfl [19] (fun i=>[(17,.int .i64 (Oe (d+1) x.Body i:Nat)),(18,.int .i64 i)]) (fun i=>wX (d+1) (Oe (d+1) x.Body i) (x.Body.drop i)=R) x.Body.length (by simpa [Oe] using hRR) (by simp[Oe]) ?_ ?_
 ·intro i hi hI q hn hx2 hr
  obtain⟨y,hy0⟩:=ax hi
  have hrow:=row_drop Stmt.d 19 Stmt.d_len hy0
  have hwi:=wrap_succ (i:=i) (by omega)
  have hym:=List.mem_of_getElem? hy0
  have fy:=ih y hym (by have:=az Stmt.tot hym;omega) (d+1) (by omega) (by omega)
  have hle:=ahd y (d+1)
  have hs:=PW (d:=d+1) hy0
  rw[drop_cons hy0,wX] at hI
  rw[hs] at hn
  simp at fy
  generalize Oe (d+1) x.Body i=A at hn hI ⊢
  generalize cnS (d+1) y=z at fy hn hI hle
  by_cases hA:A≤40
  ·rw[if_pos hA] at hI
   have hA':(A:Int)≤40:=by omega
   have hwa:IntKind.i64.wrap ((A:Int)+(z:Int))=((A+z:Nat):Int):=by rw[aA]<;>omega
   simp[hi,aj,hrow,hw3,hA']
   refine ai fy ?_
   simp at hwa
   simp[hwa,hwi]
   refine hn _ ?_ hI
   simp
  ·rw[if_neg hA] at hI
   have hA':¬(A:Int)≤40:=by omega
   simp[hi,hA']
   refine hx2 _ _ ?_
   simp[←hI]
 ·intro hI q hx2 hr
  simp[wX] at hI
  simp
  refine hx2 _ _ ?_
  simp[←hI]
theorem OI (x:Stmt) (hx:x.tot≤5000000):Says prog 92 [.agg (Cs x.d)] (.bool (pX x)) []:=by
 have f1:=OD x hx 0 (by omega) (by omega)
 have hv:=XL x
 simp at f1
 refine aP Go.Proofs.Tryz.func92 aTb ?_
 simp[v92,r92]
 refine ai f1 ?_
 try simp at hv
 simp[hv]
end Go.AmC
set_option linter.unusedSimpArgs false
set_option linter.unusedVariables false
set_option maxRecDepth 20000
set_option maxHeartbeats 4000000
namespace Go.AmC
open Go Go.AM
open Go.Proofs (bytesLess_eq)
open Go.Proofs.Tryz (prog)
def ltO:Option (List UInt8)→List UInt8→Bool
 | none,_=>true
 | some q,n=>decide (q<n)
theorem ut (p n:List UInt8):(!Op.bytesLess p n)=!decide (p<n):=by rw[bytesLess_eq]
theorem uq (n p:List UInt8):(Op.bytesLess n p||n==p)=!decide (p<n):=by
 rw[bytesLess_eq]
 by_cases h1:p<n
 ·have h2:¬n<p:=fun h=>List.lt_irrefl _ (List.lt_trans h h1)
  have h3:¬n=p:=fun h=>List.lt_irrefl _ (h▸h1)
  simp[h1,h2,h3]
 ·by_cases h2:n<p
  ·simp[h1,h2]
  ·have:n=p:=List.le_antisymm (List.not_lt.1 h1) (List.not_lt.1 h2)
   simp[h1,this]
end Go.AmC
set_option linter.unusedSimpArgs false
set_option linter.unusedVariables false
set_option maxRecDepth 20000
set_option maxHeartbeats 8000000
namespace Go.AmC
open Go Go.AM
open Go.Proofs.Tryz (prog)
def oz (p:Option (List UInt8)):List Arr→Bool
 | []=>true
 | a::l=>bZ a.Name&&((decide (1≤a.Size)&&decide (a.Size≤16))&&(ltO p a.Name&&oz (some a.Name) l))
theorem QV {p:Option (List UInt8)} {a:Arr} {l:List Arr}:oz p (a::l)=(bZ a.Name&&((decide (1≤a.Size)&&decide (a.Size≤16))&&(ltO p a.Name&&oz (some a.Name) l))):=by rw[oz]
def uN (l:List Arr) (i:Nat):Option (List UInt8):=if i=0 then none else (l[i-1]?).map (·.Name)
theorem uM {l:List Arr} {i:Nat} {a:Arr} (h:l[i]?=some a):uN l (i+1)=some a.Name:=by simp[uN,h]
theorem IG {l:List Arr} {i:Nat} {a:Arr} (h:l[i]?=some a) {b:Bool} (hI:oz (uN l i) (l.drop i)=b) :
  (bZ a.Name&&((decide (1≤a.Size)&&decide (a.Size≤16))&&(ltO (uN l i) a.Name&&oz (uN l (i+1)) (l.drop (i+1)))))=b:=by
 rw[drop_cons h,QV] at hI
 rw[uM h];exact hI
def GR (l:List Arr):Bool:=oz none l&&decide (l.length≤4)
theorem PT (l:List Arr) (hl:l.length+(l.map Arr.tot).sum≤5000000):Says prog 124 [.rsl l.length (Cs (l.flatMap Arr.d))] (.bool (GR l)) []:=by
 refine aP Go.Proofs.Tryz.func124 aGN ?_
 generalize hR:GR l=R0
 unfold GR at hR
 generalize hR2:oz none l=R2 at hR
 simp[v124,aO4]
 refine aZ (l:=UU) (b:=WR) rfl [6,7,8] (fun i=>[(4,.int .i64 i)]) (fun i=>oz (uN l i) (l.drop i)=R2) l.length (by simpa [uN] using hR2) (by simp) ?_ ?_
 ·intro i hi hI q hn hx hr
  obtain⟨y,hy0⟩:=ax hi
  have hrow:=row_drop Arr.d 2 Arr.d_len hy0
  have hw:=wrap_succ (i:=i) (by omega)
  have hI2:=IG hy0 hI
  have fN:=qF y.Name (by have:=az Arr.tot (List.mem_of_getElem? hy0);rw[Arr.tot_eq] at this;omega)
  have fK:=iq y.Size 1 16
  have bad:R2=false→R0=false:=fun h=>by rw[←hR,h];rfl
  cases c1:bZ y.Name
  ·rw[c1] at fN hI2
   simp[hi,aj,hrow,splice]
   refine ay fN ?_
   simp
   refine hr _ ?_
   simp at hI2
   simp[bad hI2]
  rw[c1] at fN hI2
  cases c3:(decide (1≤y.Size)&&decide (y.Size≤16))
  ·rw[c3] at fK hI2
   simp at hI2
   simp[hi,aj,hrow,splice]
   refine ay fN ?_
   simp
   refine ay fK ?_
   simp
   refine hr _ ?_
   simp[bad hI2]
  rw[c3] at fK hI2
  simp only[Bool.true_and] at hI2
  simp[hi,aj,hrow,splice]
  refine ay fN ?_
  simp
  refine ay fK ?_
  cases i with
  | zero =>
   have hw1:IntKind.i64.wrap 1=1:=by decide
   simp[hw1]
   exact hn _ (by simp) (by simpa [uN,ltO] using hI2)
  | succ j =>
   obtain⟨z,hz0⟩:=ax (xs:=l) (i:=j) (by omega)
   have hrow2:=row_drop Arr.d 2 Arr.d_len hz0
   have hwj:IntKind.i64.wrap ((j:Int)+1-1)=(j:Int):=by rw[aA]<;>omega
   have hwj2:IntKind.i64.wrap (j:Int)=(j:Int):=by rw[aA]<;>omega
   have hj:(0:Int)<(j:Int)+1:=by omega
   have hj2:j<l.length:=by omega
   have hw3:IntKind.i64.wrap ((j:Int)+1+1)=(j:Int)+1+1:=by rw[aA]<;>omega
   rw[uM hz0] at hI2
   by_cases c4:z.Name<y.Name
   ·simp[hi,hj,hj2,hwj,hwj2,aj,hrow,hrow2,ut,uq,c4,hw3]
    exact hn _ (by simp) (by simpa [c4,ltO] using hI2)
   ·simp[hi,hj,hj2,hwj,hwj2,aj,hrow,hrow2,ut,uq,c4,hw3]
    refine hr _ ?_
    simp[c4,ltO] at hI2
    simp[bad hI2]
 ·intro hI q hx hr
  simp[oz] at hI
  simp
  refine hx _ _ ?_
  have e:decide ((l.length:Int)≤4)=decide (l.length≤4):=decide_eq_decide.2 (by omega)
  simp[←hR,←hI,e]
end Go.AmC
