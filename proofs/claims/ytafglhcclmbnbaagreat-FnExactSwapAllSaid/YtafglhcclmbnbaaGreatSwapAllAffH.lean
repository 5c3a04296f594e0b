import Derived.Test.YtafglhcclmbnbaaGreatSwapAllAffO
set_option linter.unusedSimpArgs false
set_option linter.unusedVariables false
set_option maxRecDepth 20000
set_option maxHeartbeats 4000000
namespace Go.AmC
open Go Go.AM
open Go.Proofs.Tryz (prog)
theorem RP (a b:Aff) (ha:AOk a) (hb:AOk b) (hl:a.T.length+b.T.length≤100000000):Says prog 365 [.agg (Cs a.d),.agg (Cs b.d)] (dh (okA (kD a b 1))) []:=by
 have f:=Io a b 1 ha hb (by omega) hl (NG ha hb)
 rw[Nc _ ha hb] at f
 refine aP Go.Proofs.Tryz.func365 aES ?_
 generalize okA (kD a b 1)=o at f ⊢
 simp[dh] at f
 simp[aLZ,aNJ]
 refine ai f ?_
 simp[dh,splice]
theorem QA (a b:Aff) (ha:AOk a) (hb:AOk b) (hl:a.T.length+b.T.length≤100000000):Says prog 366 [.agg (Cs a.d),.agg (Cs b.d)] (dh (okA (kD a b (-1)))) []:=by
 have f:=Io a b (-1) ha hb (by omega) hl (NG ha hb)
 rw[Nc _ ha hb] at f
 refine aP Go.Proofs.Tryz.func366 aER ?_
 generalize okA (kD a b (-1))=o at f ⊢
 simp[dh] at f
 simp[aLY,aNI]
 refine ai f ?_
 simp[dh,splice]
theorem zi (a:Aff) (n:Int) (ha:AOk a) (hn:-100000≤n∧n≤100000) (hl:a.T.length≤100000000):Says prog 367 [.agg (Cs a.d),.int .i64 n] (dh (okA (kD noA a n))) []:=by
 rw[←xk n ha]
 have fO:=eY (lW a n) (by
  rw[Aff.tot_eq]
  have h1:(lW a n).T.length≤a.T.length:=by unfold lW;simp only;split<;>simp
  have:=Sr (lW a n).T fun t ht=>by
   unfold lW at ht;simp only at ht
   split at ht
   ·simp at ht
   ·obtain⟨u,hu,rfl⟩:=List.mem_map.1 ht
    exact nm6 (ha.t.each u hu).1
  omega)
 refine aP Go.Proofs.Tryz.func367 aEQ ?_
 have hC:=Qn (bJ ha.c) hn
 obtain⟨c,hc⟩:∃ c,a.C*n=c:=⟨_,rfl⟩
 have hw1:IntKind.i64.wrap (a.C*n)=c:=by rw[hc];exact wrap64 (by omega) (by omega)
 generalize hR:dh (okA (lW a n))=R0
 have fin:∀ Z,lW a n=⟨c,Z⟩→Says prog 293 [.agg [.int .i64 c,.rsl Z.length (Cs (Z.flatMap Term.d))]] (.bool (iy ⟨c,Z⟩)) []∧dh (okA ⟨c,Z⟩)=R0:=by
  intro Z hZ
  rw[hZ] at hR fO
  exact⟨by simpa using fO,hR⟩
 clear hR fO
 by_cases h0:n=0
 ·obtain⟨fO,hR⟩:=fin [] (by unfold lW;rw[if_pos h0,hc])
  simp at fO
  simp[aCp,aCV,hw1,splice]
  refine aZ (l:=LZ) (b:=MI) rfl [] (fun i=>[(6,.int .i64 0)]) (fun _=>True) 0 trivial (by simp) (fun i hi=>absurd hi (Nat.not_lt_zero i)) ?_
  intro _ q hx hr
  by_cases hl0:0<a.T.length
  ·simp[hl0,h0]
   refine hx _ _ ?_
   simp
   refine ai fO ?_
   cases hz:iy ⟨c,[]⟩
   ·simp[splice,←hR,okA,hz,dh]
   ·simp[splice,←hR,okA,hz,dh]
  ·simp[hl0,h0]
   refine hx _ _ ?_
   simp
   refine ai fO ?_
   cases hz:iy ⟨c,[]⟩
   ·simp[splice,←hR,okA,hz,dh]
   ·simp[splice,←hR,okA,hz,dh]
 ·obtain⟨fO,hR⟩:=fin (a.T.map fun t=>⟨t.Name,t.N*n⟩) (by unfold lW;rw[if_neg h0,hc])
  simp[aCp,aCV,hw1,splice]
  refine aZ (l:=LZ) (b:=MI) rfl [] (fun i=>[(5,.bx 0 201 [.int .i64 c,.osl 0 320 i (Ows (((a.T.take i).map fun t=>(⟨t.Name,t.N*n⟩:Term)).flatMap Term.d))]),(6,.int .i64 i)]) (fun _=>True) a.T.length trivial (by simp) ?_ ?_
  ·intro i hi _ q hn' hx hr
   obtain⟨x,hx0⟩:=ax hi
   have hrow:=row_drop Term.d 2 Term.d_len hx0
   have hw:=wrap_succ (i:=i) (by omega)
   have hbd:i+1≤bnd:=by unfold bnd;omega
   have hm:=Qn (bJ (ha.t.each x (List.mem_of_getElem? hx0)).2.2) hn
   obtain⟨y,hy⟩:∃ y,x.N*n=y:=⟨_,rfl⟩
   have hw3:IntKind.i64.wrap (x.N*n)=y:=by rw[hy];exact wrap64 (by omega) (by omega)
   rw[List.take_add_one,hx0,List.map_append] at hn'
   simp only[Option.toList_some,List.map_cons,List.map_nil,hy] at hn'
   generalize (a.T.take i).map (fun t=>(⟨t.Name,t.N*n⟩:Term))=A at hn' ⊢
   simp[hi,aj,hrow,splice,h0,hw3,hw,hbd]
   refine hn' _ ?_ trivial
   simp
  intro _ q hx hr
  rw[List.take_length]
  have hzl:(a.T.map fun t=>(⟨t.Name,t.N*n⟩:Term)).length=a.T.length:=by simp
  generalize (a.T.map fun t=>(⟨t.Name,t.N*n⟩:Term))=Z at fO hR hzl ⊢
  rw[hzl] at fO
  simp
  refine hx _ _ ?_
  simp
  refine ai fO ?_
  cases hz:iy ⟨c,Z⟩
  ·simp[splice,←hR,okA,hz,dh]
  ·simp[splice,←hR,okA,hz,dh,hzl]
def two (K:Int) (x y:Aff):Option Aff :=
 if K=4 then okA (kD x y 1) else if K=5 then okA (kD x y (-1)) else if K=6 then (if x.T=[] then okA (kD noA y x.C) else if y.T=[] then okA (kD noA x y.C) else none) else none
def dZ (ns:List Nm):Exp→Option Aff
 | ⟨K,N,S,[]⟩=>if K=1 then (if gu N=true then some ⟨N,[]⟩ else none) else if K=2 then (if S∈ns∧bZ S=true then some ⟨0,[⟨S,1⟩]⟩ else none) else none
 | ⟨K,_,_,[a,b]⟩=>match dZ ns a,dZ ns b with
  | some x,some y=>two K x y
  | _,_=>none
 | _=>none
theorem Qu {K:Int} {x y r:Aff} (h:two K x y=some r):AOk r∧r.T.length≤x.T.length+y.T.length:=by
 unfold two at h
 have k:∀ a b k,okA (kD a b k)=some r→a.T.length+b.T.length≤x.T.length+y.T.length→AOk r∧r.T.length≤x.T.length+y.T.length:=by
  intro a b k h hl
  obtain⟨rfl,h2⟩:=QU h
  exact⟨h2,Nat.le_trans (QX a b k) hl⟩
 split at h
 ·exact k _ _ _ h (Nat.le_refl _)
 split at h
 ·exact k _ _ _ h (Nat.le_refl _)
 split at h
 ·split at h
  ·exact k _ _ _ h (by simp[noA])
  split at h
  ·exact k _ _ _ h (by simp[noA])
  ·cases h
 ·cases h
theorem nm1 {n:Nm} (h:bZ n=true):1≤n.length:=by
 unfold bZ at h
 simp only[Bool.and_eq_true,decide_eq_true_eq] at h
 exact h.1.2.1
theorem mr (ns:List Nm):∀ (e:Exp) (a:Aff),dZ ns e=some a→AOk a∧a.T.length≤e.tot:=Exp.ind fun e ih a h=>by
 obtain⟨K,N,S,L⟩:=e
 match L,ih,h with
 | [],_,h =>
  rw[dZ] at h
  rw[Exp.tot_eq]
  split at h
  ·split at h
   ·rename_i h1;cases h;exact⟨⟨⟨by simp,by simp,by simp⟩,h1⟩,by simp⟩
   ·cases h
  ·split at h
   ·split at h
    ·rename_i h1;cases h
     have:=nm1 h1.2
     exact⟨⟨⟨by simp[h1.2,gu],by simp,by simp⟩,by simp[gu]⟩,by simp;omega⟩
    ·cases h
   ·cases h
 | [x],_,h=>simp[dZ] at h
 | [x,y],ih,h =>
  rw[dZ] at h
  cases hx:dZ ns x with
  | none=>simp[hx] at h
  | some p =>
   cases hy:dZ ns y with
   | none=>simp[hx,hy] at h
   | some q =>
    simp only[hx,hy] at h
    obtain⟨h1,h2⟩:=Qu h
    have h3:=(ih x (by simp) p hx).2
    have h4:=(ih y (by simp) q hy).2
    rw[Exp.tot_eq]
    simp
    exact⟨h1,by omega⟩
 | x::y::z::l,_,h=>simp[dZ] at h
theorem Kr (k:Int):Says prog 369 [.int .i64 k] (.bool (decide (4≤k)&&decide (k≤8))) []:=by
 have f:=iq k 4 8
 refine aP Go.Proofs.Tryz.func369 afE ?_
 simp[aCn,aCT]
 refine ai f ?_
 simp
theorem Qv (K:Int) (x y:Aff) (hx:AOk x) (hy:AOk y) (hl:x.T.length+y.T.length≤100000000):Says prog 370 [.int .i64 K,.agg (Cs x.d),.agg (Cs y.d)] (dh (two K x y)) []:=by
 refine aP Go.Proofs.Tryz.func370 aEO ?_
 have nl:∀ z:Aff,z.T=[]↔(z.T.length:Int)=0:=fun z=>by rw[←List.length_eq_zero_iff];omega
 by_cases c4:K=4
 ·have f:=wF x y 1 hx hy (by omega) hl
  have e:two K x y=okA (kD x y 1):=by unfold two;rw[if_pos c4]
  rw[e]
  generalize okA (kD x y 1)=o at f ⊢
  simp[dh] at f
  simp[Qh,Ql,c4]
  refine ai f ?_
  simp[dh,splice]
 by_cases c5:K=5
 ·have f:=wF x y (-1) hx hy (by omega) hl
  have e:two K x y=okA (kD x y (-1)):=by unfold two;rw[if_neg c4,if_pos c5]
  rw[e]
  generalize okA (kD x y (-1))=o at f ⊢
  simp[dh] at f
  simp[Qh,Ql,c5]
  refine ai f ?_
  simp[dh,splice]
 by_cases c6:K=6
 ·by_cases c7:x.T=[]
  ·have f:=wF noA y x.C CV hy (bJ hx.c) (by simp[noA];omega)
   have e:two K x y=okA (kD noA y x.C):=by unfold two;rw[if_neg c4,if_neg c5,if_pos c6,if_pos c7]
   rw[e]
   generalize okA (kD noA y x.C)=o at f ⊢
   simp[dh,noA] at f
   simp[Qh,Ql,c6,c7]
   refine ai f ?_
   simp[dh,splice]
  ·have c7':¬(x.T.length:Int)=0:=fun h=>c7 ((nl x).2 h)
   by_cases c8:y.T=[]
   ·have f:=wF noA x y.C CV hx (bJ hy.c) (by simp[noA];omega)
    have e:two K x y=okA (kD noA x y.C):=by unfold two;rw[if_neg c4,if_neg c5,if_pos c6,if_neg c7,if_pos c8]
    rw[e]
    generalize okA (kD noA x y.C)=o at f ⊢
    simp[dh,noA] at f
    simp[Qh,Ql,c6,c7,c7',c8]
    refine ai f ?_
    simp[dh,splice]
   ·have c8':¬(y.T.length:Int)=0:=fun h=>c8 ((nl y).2 h)
    have e:two K x y=none:=by unfold two;rw[if_neg c4,if_neg c5,if_pos c6,if_neg c7,if_neg c8]
    rw[e]
    simp[Qh,Ql,c6,c7,c7',c8,c8',dh,splice]
 ·have e:two K x y=none:=by unfold two;rw[if_neg c4,if_neg c5,if_neg c6]
  rw[e]
  simp[Qh,Ql,c4,c5,c6,dh,splice]
theorem aBZ {ns:List Nm} {K N:Int} {S:Nm} {L:List Exp} (h0:L≠[]) (hK:(decide (4≤K)&&decide (K≤8))=false):dZ ns ⟨K,N,S,L⟩=none:=by
 match L,h0 with
 | [x],_=>rw[dZ];all_goals simp
 | [x,y],_ =>
  rw[dZ]
  have h:∀ p q,two K p q=none:=fun p q=>by
   unfold two
   rw[if_neg (by rintro rfl;simp at hK),if_neg (by rintro rfl;simp at hK),if_neg (by rintro rfl;simp at hK)]
  cases dZ ns x with
  | none=>rfl
  | some p=>cases dZ ns y with
   | none=>rfl
   | some q=>exact h p q
 | x::y::z::l,_=>rw[dZ];all_goals simp
theorem WY {ns:List Nm} {K N:Int} {S:Nm} {L:List Exp} (h0:L≠[]) (h2:L.length≠2):dZ ns ⟨K,N,S,L⟩=none:=by
 match L,h0,h2 with
 | [x],_,_=>rw[dZ];all_goals simp
 | [x,y],_,h=>simp at h
 | x::y::z::l,_,_=>rw[dZ];all_goals simp
theorem Jn (ns:List Nm) (hns:ns.length≤1048576):∀ (e:Exp),e.tot≤10000000→Says prog 336 [.agg (Cs e.d),.rsl ns.length (Cs (ns.flatMap bG))] (dh (dZ ns e)) []:=Exp.ind fun e ih ht=>by
 obtain⟨K,N,S,L⟩:=e
 have htt:=Exp.tot_eq ⟨K,N,S,L⟩
 simp only at htt
 have fI:=pK N
 have fT:=Kr K
 have fH:=BJ ns S (by omega)
 have fN:=qF S (by omega)
 refine aP Go.Proofs.Tryz.func336 aE4 ?_
 by_cases hL:L=[]
 ·subst hL
  by_cases c1:K=1
  ·cases c2:gu N
   ·rw[c2] at fI
    have e:dZ ns ⟨K,N,S,[]⟩=none:=by rw[dZ,if_pos c1,c2];simp
    rw[e]
    have fT2:Says prog 369 [.int .i64 1] (.bool false) []:=by simpa [c1] using fT
    simp[x8,yj,c1]
    refine ai fI ?_
    simp
    refine ai fT2 ?_
    simp[dh,splice]
   ·rw[c2] at fI
    have e:dZ ns ⟨K,N,S,[]⟩=some ⟨N,[]⟩:=by rw[dZ,if_pos c1,c2];simp
    rw[e]
    simp[x8,yj,c1]
    refine ai fI ?_
    simp[dh,splice]
  by_cases c2:K=2
  ·by_cases c3:S∈ns
   ·cases c4:bZ S
    ·rw[c4] at fN
     have e:dZ ns ⟨K,N,S,[]⟩=none:=by rw[dZ,if_neg c1,if_pos c2,c4];simp
     rw[e]
     have fT2:Says prog 369 [.int .i64 2] (.bool false) []:=by simpa [c2] using fT
     simp[c3] at fH
     simp[x8,yj,c2]
     refine ai fH ?_
     simp
     refine ai fN ?_
     simp
     refine ai fT2 ?_
     simp[dh,splice]
    ·rw[c4] at fN
     have e:dZ ns ⟨K,N,S,[]⟩=some ⟨0,[⟨S,1⟩]⟩:=by rw[dZ,if_neg c1,if_pos c2,c4,if_pos ⟨c3,rfl⟩]
     rw[e]
     simp[c3] at fH
     simp[x8,yj,c2]
     refine ai fH ?_
     simp
     refine ai fN ?_
     simp[dh,splice]
   ·have e:dZ ns ⟨K,N,S,[]⟩=none:=by rw[dZ,if_neg c1,if_pos c2];simp[c3]
    rw[e]
    have fT2:Says prog 369 [.int .i64 2] (.bool false) []:=by simpa [c2] using fT
    simp[c3] at fH
    simp[x8,yj,c2]
    refine ai fH ?_
    simp
    refine ai fT2 ?_
    simp[dh,splice]
  ·have e:dZ ns ⟨K,N,S,[]⟩=none:=by rw[dZ,if_neg c1,if_neg c2]
   rw[e]
   cases hz:(decide (4≤K)&&decide (K≤8))
   ·rw[hz] at fT
    simp[x8,yj,c1,c2]
    refine ai fT ?_
    simp[dh,splice]
   ·rw[hz] at fT
    simp[x8,yj,c1,c2]
    refine ai fT ?_
    simp[dh,splice]
 have hn0:¬(L.length:Int)=0:=fun h=>hL (List.length_eq_zero_iff.1 (by omega))
 cases hz:(decide (4≤K)&&decide (K≤8))
 ·rw[aBZ hL hz]
  rw[hz] at fT
  by_cases c1:K=1
  ·subst c1
   cases c2:gu N
   ·rw[c2] at fI
    simp[x8,yj]
    refine ai fI ?_
    simp
    refine ai fT ?_
    simp[dh,splice]
   ·rw[c2] at fI
    simp[x8,yj,hn0,hL]
    refine ai fI ?_
    simp[hn0,hL]
    refine ai fT ?_
    simp[dh,splice]
  by_cases c2:K=2
  ·subst c2
   simp[x8,yj,hn0,hL]
   refine ai fT ?_
   simp[dh,splice]
  ·simp[x8,yj,c1,c2]
   refine ai fT ?_
   simp[dh,splice]
 rw[hz] at fT
 have c1:¬K=1:=by rintro rfl;simp at hz
 have c2:¬K=2:=by rintro rfl;simp at hz
 by_cases h2:L.length=2
 ·match L,ih,htt,h2 with
  | [x,y],ih,htt,_ =>
  simp only[List.map_cons,List.map_nil,List.sum_cons,List.sum_nil,List.length_cons,List.length_nil] at htt
  have fx:=ih x (by simp) (by omega)
  have fy:=ih y (by simp) (by omega)
  have e:dZ ns ⟨K,N,S,[x,y]⟩=match dZ ns x,dZ ns y with
    | some p,some q=>two K p q
    | _,_=>none:=by rw[dZ]<;>rfl
  rw[e]
  simp only at ih
  clear ih
  simp at fx fy
  cases hx:dZ ns x with
  | none =>
   rw[hx] at fx
   simp[dh] at fx
   simp[x8,yj,c1,c2]
   refine ai fT ?_
   simp
   refine ai fx ?_
   simp[dh,splice]
  | some p =>
   rw[hx] at fx
   obtain⟨ap,lp⟩:=mr ns x p hx
   simp[dh] at fx
   cases hy:dZ ns y with
   | none =>
    rw[hy] at fy
    simp[dh] at fy
    simp[x8,yj,c1,c2]
    refine ai fT ?_
    simp
    refine ai fx ?_
    simp[splice]
    refine ai fy ?_
    simp[dh,splice]
   | some q' =>
    rw[hy] at fy
    obtain⟨aq,lq⟩:=mr ns y q' hy
    simp[dh] at fy
    have f2:=Qv K p q' ap aq (by omega)
    simp only
    generalize two K p q'=o at f2 ⊢
    simp[dh] at f2
    simp[x8,yj,c1,c2]
    refine ai fT ?_
    simp
    refine ai fx ?_
    simp[splice]
    refine ai fy ?_
    simp[splice]
    refine ai f2 ?_
    simp[dh,splice]
 ·rw[WY hL h2]
  have h2':¬(L.length:Int)=2:=by omega
  simp[x8,yj,c1,c2]
  refine ai fT ?_
  simp[h2']
  simp[dh,splice]
theorem aB0 {ns:List Nm} {K N:Int} {S:Nm} (h1:¬K=1) (h2:¬K=2):dZ ns ⟨K,N,S,[]⟩=none:=by rw[dZ,if_neg h1,if_neg h2]
theorem Jm (ns:List Nm) (hns:ns.length≤1048576):∀ (e:Exp),e.tot≤10000000→Says prog 330 [.agg (Cs e.d),.rsl ns.length (Cs (ns.flatMap bG))] (dh (dZ ns e)) []:=Exp.ind fun e ih ht=>by
 obtain⟨K,N,S,L⟩:=e
 have htt:=Exp.tot_eq ⟨K,N,S,L⟩
 simp only at htt
 have fH:=wH ns S (by omega)
 refine aP Go.Proofs.Tryz.func330 aE9 ?_
 by_cases hL:L=[]
 ·subst hL
  by_cases c1:K=1
  ·have fA:=eY ⟨N,[]⟩ (by rw[Aff.tot_eq];simp)
   have hz:iy ⟨N,[]⟩=gu N:=by simp[iy,okT]
   rw[hz] at fA
   simp at fA
   cases c2:gu N
   ·rw[c2] at fA
    have e:dZ ns ⟨K,N,S,[]⟩=none:=by rw[dZ,if_pos c1,c2];simp
    rw[e]
    simp[uz,uH,c1,splice]
    refine ai fA ?_
    simp[dh,splice]
   ·rw[c2] at fA
    have e:dZ ns ⟨K,N,S,[]⟩=some ⟨N,[]⟩:=by rw[dZ,if_pos c1,c2];simp
    rw[e]
    simp[uz,uH,c1,splice]
    refine ai fA ?_
    simp[dh,splice]
  by_cases c2:K=2
  ·by_cases c3:S∈ns
   ·have fA:=eY ⟨0,[⟨S,1⟩]⟩ (by rw[Aff.tot_eq];simp[Term.tot_eq];omega)
    have hz:iy ⟨0,[⟨S,1⟩]⟩=bZ S:=by
     have h1:gu 1=true:=by decide
     have h0:gu 0=true:=by decide
     simp[iy,BD,okT,ltO,h1,h0]
    rw[hz] at fA
    simp at fA
    simp[c3] at fH
    cases c4:bZ S
    ·rw[c4] at fA
     have e:dZ ns ⟨K,N,S,[]⟩=none:=by rw[dZ,if_neg c1,if_pos c2,c4];simp
     rw[e]
     simp[uz,uH,c2,splice]
     refine ai fH ?_
     simp
     refine ai fA ?_
     simp[dh,splice]
    ·rw[c4] at fA
     have e:dZ ns ⟨K,N,S,[]⟩=some ⟨0,[⟨S,1⟩]⟩:=by rw[dZ,if_neg c1,if_pos c2,c4,if_pos ⟨c3,rfl⟩]
     rw[e]
     simp[uz,uH,c2,splice]
     refine ai fH ?_
     simp
     refine ai fA ?_
     simp[dh,splice]
   ·have e:dZ ns ⟨K,N,S,[]⟩=none:=by rw[dZ,if_neg c1,if_pos c2];simp[c3]
    rw[e]
    simp[c3] at fH
    simp[uz,uH,c2,splice]
    refine ai fH ?_
    simp[dh,splice]
  ·rw[aB0 c1 c2]
   simp[uz,uH,c1,c2,dh,splice]
 have hn0:¬(L.length:Int)=0:=fun h=>hL (List.length_eq_zero_iff.1 (by omega))
 have g1:∀ b:Bool,(b&&decide (L.length=0))=false:=by
  intro b
  have:¬L.length=0:=by omega
  simp[this]
 by_cases h2:L.length=2
 ·match L,ih,htt,h2 with
  | [x,y],ih,htt,_ =>
  simp only[List.map_cons,List.map_nil,List.sum_cons,List.sum_nil,List.length_cons,List.length_nil] at htt
  have fx:=ih x (by simp) (by omega)
  have fy:=ih y (by simp) (by omega)
  have e:dZ ns ⟨K,N,S,[x,y]⟩=match dZ ns x,dZ ns y with
    | some p,some q=>two K p q
    | _,_=>none:=by rw[dZ]<;>rfl
  rw[e]
  simp only at ih
  clear ih
  simp at fx fy
  cases hx:dZ ns x with
  | none =>
   rw[hx] at fx
   simp[dh] at fx
   cases hy:dZ ns y with
   | none =>
    rw[hy] at fy
    simp[dh] at fy
    by_cases c1:K=1<;>by_cases c2:K=2<;>(try (exfalso;omega))<;>simp[uz,uH,c1,c2,splice]<;>refine ai fx ?_<;>simp[splice]<;>refine ai fy ?_<;>simp[dh,splice]
   | some q' =>
    rw[hy] at fy
    simp[dh] at fy
    by_cases c1:K=1<;>by_cases c2:K=2<;>(try (exfalso;omega))<;>simp[uz,uH,c1,c2,splice]<;>refine ai fx ?_<;>simp[splice]<;>refine ai fy ?_<;>simp[dh,splice]
  | some p =>
   rw[hx] at fx
   obtain⟨ap,lp⟩:=mr ns x p hx
   simp[dh] at fx
   cases hy:dZ ns y with
   | none =>
    rw[hy] at fy
    simp[dh] at fy
    by_cases c1:K=1<;>by_cases c2:K=2<;>(try (exfalso;omega))<;>simp[uz,uH,c1,c2,splice]<;>refine ai fx ?_<;>simp[splice]<;>refine ai fy ?_<;>simp[dh,splice]
   | some q' =>
    rw[hy] at fy
    obtain⟨aq,lq⟩:=mr ns y q' hy
    simp[dh] at fy
    simp only
    have nl:∀ z:Aff,z.T=[]↔(z.T.length:Int)=0:=fun z=>by rw[←List.length_eq_zero_iff];omega
    by_cases c4:K=4
    ·have f:=RP p q' ap aq (by omega)
     have e:two K p q'=okA (kD p q' 1):=by unfold two;rw[if_pos c4]
     rw[e]
     generalize okA (kD p q' 1)=o at f ⊢
     simp[dh] at f
     simp[uz,uH,c4,splice]
     refine ai fx ?_
     simp[splice]
     refine ai fy ?_
     simp[splice]
     refine ai f ?_
     simp[dh,splice]
    by_cases c5:K=5
    ·have f:=QA p q' ap aq (by omega)
     have e:two K p q'=okA (kD p q' (-1)):=by unfold two;rw[if_neg c4,if_pos c5]
     rw[e]
     generalize okA (kD p q' (-1))=o at f ⊢
     simp[dh] at f
     simp[uz,uH,c5,splice]
     refine ai fx ?_
     simp[splice]
     refine ai fy ?_
     simp[splice]
     refine ai f ?_
     simp[dh,splice]
    by_cases c6:K=6
    ·by_cases c8:q'.T=[]
     ·have f:=zi p q'.C ap (bJ aq.c) (by omega)
      have e:two K p q'=okA (kD noA p q'.C):=by
       unfold two;rw[if_neg c4,if_neg c5,if_pos c6]
       split
       ·rename_i c7
        rw[←xk _ ap,←xk _ aq]
        unfold lW
        rw[c7,c8,Int.mul_comm];simp
       ·rfl
      rw[e]
      generalize okA (kD noA p q'.C)=o at f ⊢
      simp[dh] at f
      simp[uz,uH,c6,c8,splice]
      refine ai fx ?_
      simp[splice]
      refine ai fy ?_
      simp[splice,c8]
      refine ai f ?_
      simp[dh,splice]
     ·have c8':¬(q'.T.length:Int)=0:=fun h=>c8 ((nl q').2 h)
      by_cases c7:p.T=[]
      ·have f:=zi q' p.C aq (bJ ap.c) (by omega)
       have e:two K p q'=okA (kD noA q' p.C):=by unfold two;rw[if_neg c4,if_neg c5,if_pos c6,if_pos c7]
       rw[e]
       generalize okA (kD noA q' p.C)=o at f ⊢
       simp[dh] at f
       simp[uz,uH,c6,c7,c8,c8',splice]
       refine ai fx ?_
       simp[splice]
       refine ai fy ?_
       simp[splice,c7,c8,c8']
       refine ai f ?_
       simp[dh,splice]
      ·have c7':¬(p.T.length:Int)=0:=fun h=>c7 ((nl p).2 h)
       have e:two K p q'=none:=by unfold two;rw[if_neg c4,if_neg c5,if_pos c6,if_neg c7,if_neg c8]
       rw[e]
       simp[uz,uH,c6,c7,c7',c8,c8',splice]
       refine ai fx ?_
       simp[splice]
       refine ai fy ?_
       simp[splice,c7,c8,c7',c8',dh]
    ·have e:two K p q'=none:=by unfold two;rw[if_neg c4,if_neg c5,if_neg c6]
     rw[e]
     by_cases c1:K=1<;>by_cases c2:K=2<;>(try (exfalso;omega))<;>simp[uz,uH,c1,c2,c4,c5,c6,splice]<;>refine ai fx ?_<;>simp[splice]<;>refine ai fy ?_<;>simp[c4,c5,c6,dh,splice]
 ·rw[WY hL h2]
  have h2':¬(L.length:Int)=2:=by omega
  by_cases c1:K=1
  ·simp[uz,uH,c1,hL,hn0,h2,h2',dh,splice]
  by_cases c2:K=2
  ·simp[uz,uH,c2,hL,hn0,h2,h2',dh,splice]
  simp[uz,uH,c1,c2,hL,hn0,h2,h2',dh,splice]
end Go.AmC
