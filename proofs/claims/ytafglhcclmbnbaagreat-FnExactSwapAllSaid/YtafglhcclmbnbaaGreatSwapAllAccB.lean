import Derived.Test.YtafglhcclmbnbaaGreatSwapAllMeet
import Derived.Test.YtafglhcclmbnbaaGreatAmGrow
import Derived.Test.YtafglhcclmbnbaaGreatSwapAllSize
import Derived.Test.YtafglhcclmbnbaaGreatSwapAllAsked
set_option linter.unusedSimpArgs false
set_option linter.unusedVariables false
set_option maxRecDepth 20000
set_option maxHeartbeats 4000000
namespace Go.AmC
open Go Go.AM
open Go.Proofs.Tryz (prog)
theorem KE (n:Nat) (hn:n≤1000000000):Says prog 426 [.nsl true,.int .i64 n] (.osl 0 320 0 []) [] :=
 Eu Go.Proofs.Tryz.growT (z:=.agg #[.string ⟨#[]⟩,.int .i64 0]) (size:=2) (bytes:=24) (by kernel_rfl) (by decide) (by decide) (by kernel_rfl) n (by omega) (by omega)
theorem Yq (a b:List Term) (h:a.length+b.length≤900000000) :
  Says prog 419 [.rsl 2 [.rsl a.length (Cs (a.flatMap Term.d)),.rsl b.length (Cs (b.flatMap Term.d))]]
   (.osl 0 320 (a.length+b.length) (Ows ((a++b).flatMap Term.d))) []:=by
 have f:=KE (a.length+b.length) (by omega)
 have w1:IntKind.i64.wrap ((a.length:Int))=(a.length:Int):=by rw[aA]<;>omega
 have w2:IntKind.i64.wrap ((a.length:Int)+b.length)=((a.length+b.length:Nat):Int):=by rw[aA]<;>omega
 have la:=rV a
 have lb:=rV b
 have sa:=uA a
 have sb:=uA b
 have hb1:a.length≤bnd:=by unfold bnd;omega
 have hb2:a.length+b.length≤bnd:=by unfold bnd;omega
 rw[List.flatMap_append]
 generalize List.flatMap Term.d a=A at la sa ⊢
 generalize List.flatMap Term.d b=B at lb sb ⊢
 generalize a.length=x at *
 generalize b.length=y at *
 simp at f
 have p0:0≤(x:Int)+y:=by omega
 refine aP Go.Proofs.Tryz.func419 aEm ?_
 simp[aLC,aNm]
 refine aZ (l:=SV) (b:=Vf) rfl [6,7,8] (fun i=>[(2,.int .i64 (if i=0 then 0 else if i=1 then (x:Int) else ((x+y:Nat):Int))),(5,.int .i64 i)]) (fun i=>True) 2 trivial (by simp) ?_ ?_
 ·intro i hi hI q hn hx hr
  have hw:=wrap_succ (i:=i) (by omega)
  have hq:i=0∨i=1:=by omega
  rcases hq with rfl|rfl
  all_goals
   simp at hw
   simp[w1,w2,hw,p0]
   refine hn _ ?_ trivial
   simp
 ·intro hI q hx hr
  simp
  refine hx _ _ ?_
  simp
  refine ai f ?_
  simp
  refine aZ (l:=SX) (b:=Vg) rfl [13,14] (fun i=>[(9,if i=0 then .osl 0 320 0 [] else if i=1 then .osl 0 320 x (Ows A) else .osl 0 320 (x+y) (Ows (A++B))),(12,.int .i64 i)]) (fun i=>True) 2 trivial (by simp) ?_ ?_
  ·intro i hi hI q hn hx hr
   have hw:=wrap_succ (i:=i) (by omega)
   have hq:i=0∨i=1:=by omega
   rcases hq with rfl|rfl
   all_goals
    simp at hw
    simp[hw,nZ,la,lb,hb1,hb2]
    refine hn _ ?_ trivial
    simp[sa,sb,Nat.add_assoc]
  ·intro hI q hx hr
   simp
   refine hx _ _ ?_
   simp
theorem FM (f g:Aff) (hf:f.tot≤400000000) (hg:g.tot≤400000000):Says prog 400 [.agg (Cs f.d),.agg (Cs g.d)] (.bool (iI f g)) []:=by
 have htf:=f.tot_eq
 have htg:=g.tot_eq
 have fA:=qx f (by omega)
 have gA:=qx g (by omega)
 have fC:=Yq f.T g.T (by omega)
 refine aP Go.Proofs.Tryz.func400 aEs ?_
 simp at fA gA
 simp[aLG,aNq,splice]
 refine ai fA ?_
 cases c1:iy f
 ·simp[iI,c1]
 simp[splice]
 refine ai gA ?_
 cases c2:iy g
 ·simp[iI,c1,c2]
 have cf:=bJ ((dX f).1 c1).c
 have cg:=bJ ((dX g).1 c2).c
 have hw:IntKind.i64.wrap (f.C-g.C)=f.C-g.C:=wrap64 (by omega) (by omega)
 generalize hR:iI f g=R0
 simp[iI,c1,c2] at hR
 have hlT:f.T.length+g.T.length=(f.T++g.T).length:=by simp
 rw[hlT] at fC
 have hlb:(f.T++g.T).length≤900000000:=by simp;omega
 have hN:=MG (f.T++g.T) 0 (by omega)
 generalize hn:qJ 0 (f.T++g.T)=N at hR hN
 generalize f.T++g.T=L at *
 simp[splice]
 refine ai fC ?_
 simp
 have hlen:(Ows (L.flatMap Term.d)).length=L.length*2:=by rw[bD];exact dV Term.d 2 Term.d_len L
 refine aZ (l:=Tf) (b:=Vm) rfl [11] (fun i=>[(6,.int .i64 (qJ 0 (L.take i))),(9,.int .i64 i)]) (fun i=>True) L.length trivial (by simp[qJ]) ?_ ?_
 ·intro i hi hI q hn hx hr
  obtain⟨t,ht0⟩:=ax hi
  have hrow:=row_drop Term.d 2 Term.d_len ht0
  have hw:=wrap_succ (i:=i) (by omega)
  have fG:=Ri (qJ 0 (L.take i)) t.N
  have e:qJ 0 (L.take (i+1))=Ez (qJ 0 (L.take i)) t.N:=by rw[List.take_add_one,ht0,nP];rfl
  have hne:Ows (L.flatMap Term.d)≠[]:=by intro h;rw[h] at hlen;simp at hlen;omega
  have hi1:i*2+2≤L.length*2:=by omega
  simp[hi,hi1,ig hne,hlen,-bD,kz,hrow,splice]
  refine ai fG ?_
  simp[hw]
  refine hn _ ?_ trivial
  simp[e]
 ·intro _ q hx hr
  rw[List.take_length,hn]
  simp
  refine hx _ _ ?_
  by_cases c:N=0
  ·simp[c,hw,←hR]
   rfl
  ·simp[c,hw,←hR]
   rfl
structure Acc where
 Name:Nm
 F:Aff
 Puts:Bool
 At:Int
def Acc.d (a:Acc):List D:=[.S a.Name,.I .i64 a.F.C,.L 320 a.F.T.length (a.F.T.flatMap Term.d),.B a.Puts,.I .i64 a.At]
theorem Acc.d_len (a:Acc):a.d.length=5:=rfl
def Acc.c (a:Acc):List AV:=[.str a.Name,.int .i64 a.F.C,.rsl a.F.T.length (Cs (a.F.T.flatMap Term.d)),.bool a.Puts,.int .i64 a.At]
theorem bu:∀ l:List Acc,fD (l.flatMap Acc.c)=true
 | []=>by simp
 | a::l=>by
  have:=bu l
  rw[List.flatMap_cons,vP,this]
  simp[Acc.c]
theorem Acc.c_frz (a:Acc):jg a.c=some (Cs a.d):=by simp[Acc.c,Acc.d]
def agz (ns:List Nm) (e:Exp):Aff:=(dZ ns e).getD ⟨0,[]⟩
def acc (ns:List Nm) (i:Int) (puts:Bool) (n:Nm) (e:Exp):Acc:=⟨n,agz ns e,puts,i⟩
abbrev Gat:=List Acc × Bool
def touch (ns:List Nm) (i:Int) (puts:Bool) (n:Nm) (e:Exp) (o:Gat):Gat:=(o.1++[acc ns i puts n e],o.2||(dZ ns e).isNone)
def aQ (st:Bool) (ns:List Nm) (i:Int) (o:Gat) (e:Exp):Gat:=if e.K=3 then match e.L with
  | [x]=>touch ns i false e.S x o
  | _=>(o.1,o.2||st)
 else o
def aU (st:Bool) (ns:List Nm) (i:Int) (o:Gat) (x:Stmt):Gat :=
 let o1:=aB (aQ st ns i) (aB (aQ st ns i) o x.At) x.E
 let o2:=if x.K=2 then touch ns i true x.S x.At o1 else o1
 (o2.1,o2.2||decide (x.K=4))
def gC (ns:List Nm) (i:Int) (o:Gat):List AV:=[.osl 0 9 ns.length (Ows (ns.flatMap bG)),.osl 0 203 o.1.length (o.1.flatMap Acc.c),.int .i64 i,.bool o.2]
def rC (ns:List Nm) (o:Gat):List AV:=[.osl 0 9 ns.length (Ows (ns.flatMap bG)),.osl 0 203 o.1.length (o.1.flatMap Acc.c),.bool o.2]
theorem zJ (ns:List Nm) (i:Int) (o:Gat) (n:Nm) (e:Exp) (puts:Bool) (hns:ns.length≤1048576) (he:e.tot≤10000000) (ho:o.1.length≤1000000000) :
  Says prog 303 [.bx 1 254 (gC ns i o),.str n,.agg (Cs e.d),.bool puts] (.tup [] []) (num 1 [.bx 1 254 (gC ns i (touch ns i puts n e o))]):=by
 have f:=Jn ns hns e he
 have hb:o.1.length+1≤bnd:=by unfold bnd;omega
 refine kP [1] [.bx 1 254 (gC ns i (touch ns i puts n e o))] Go.Proofs.Tryz.func303 aFt (by simp) ?_
 unfold touch acc agz
 generalize dZ ns e=a at f ⊢
 obtain⟨o,b⟩:=o
 simp only at hb
 cases a with
 | none =>
  simp[dh] at f
  simp[aCz,aC5,gC,splice]
  refine GM f ?_
  cases b<;>simp[splice,hb,Acc.c]
 | some a =>
  simp[dh] at f
  simp[aCz,aC5,gC,splice]
  refine GM f ?_
  cases b<;>simp[splice,hb,Acc.c]
theorem zh (ns:List Nm) (i:Int) (o:Gat) (n:Nm) (e:Exp) (puts:Bool) (hns:ns.length≤1048576) (he:e.tot≤10000000) (ho:o.1.length≤1000000000) :
  Says prog 327 [.bx 1 284 (rC ns o),.str n,.agg (Cs e.d),.bool puts,.int .i64 i] (.tup [] []) (num 1 [.bx 1 284 (rC ns (touch ns i puts n e o))]):=by
 have f:=Jm ns hns e he
 have hb:o.1.length+1≤bnd:=by unfold bnd;omega
 refine kP [1] [.bx 1 284 (rC ns (touch ns i puts n e o))] Go.Proofs.Tryz.func327 aFb (by simp) ?_
 unfold touch acc agz
 generalize dZ ns e=a at f ⊢
 obtain⟨o,b⟩:=o
 simp only at hb
 cases a with
 | none =>
  simp[dh] at f
  simp[aCv,aC1,rC,splice]
  refine GM f ?_
  cases b<;>simp[splice,hb,Acc.c]
 | some a =>
  simp[dh] at f
  simp[aCv,aC1,rC,splice]
  refine GM f ?_
  cases b<;>simp[splice,hb,Acc.c]
mutual
theorem aDZ:∀ v:AV,jE v=true→upV v=v
 | .osl s e n cs,h=>by simp only[jE,Bool.and_eq_true,beq_iff_eq] at h;simp only[upV,h.1,if_true,sU cs h.2]
 | .bx s e cs,h=>by simp only[jE,Bool.and_eq_true,beq_iff_eq] at h;simp only[upV,h.1,if_true,sU cs h.2]
 | .agg cs,h=>by simp only[jE] at h;simp only[upV,sU cs h]
 | .tup sh cs,h=>by simp only[jE] at h;simp only[upV,sU cs h]
 | .fn g cs,h=>by simp only[jE] at h;simp only[upV,sU cs h]
 | .int _ _,_=>rfl
 | .bool _,_=>rfl
 | .str _,_=>rfl
 | .rsl _ _,_=>rfl
 | .rp _,_=>rfl
 | .dead,_=>rfl
 | .gone,_=>rfl
 | .ps _ _ _,_=>rfl
 | .pp _ _ _,_=>rfl
 | .pf _ _ _,_=>rfl
 | .pw _ _ _ _ _ _,_=>rfl
 | .nsl _,_=>rfl
 | .nilf,_=>rfl
theorem sU:∀ cs:List AV,fD cs=true→rG cs=cs
 | [],_=>rfl
 | c::cs,h=>by
  simp only[fD,Bool.and_eq_true] at h
  simp only[rG,aDZ c h.1,sU cs h.2]
end
mutual
theorem aG4:∀ v:AV,jE v=true→dnV v=v
 | .osl s e n cs,h=>by simp only[jE,Bool.and_eq_true,beq_iff_eq] at h;simp only[dnV,h.1,Nat.zero_sub,uj cs h.2]
 | .bx s e cs,h=>by simp only[jE,Bool.and_eq_true,beq_iff_eq] at h;simp only[dnV,h.1,Nat.zero_sub,uj cs h.2]
 | .agg cs,h=>by simp only[jE] at h;simp only[dnV,uj cs h]
 | .tup sh cs,h=>by simp only[jE] at h;simp only[dnV,uj cs h]
 | .fn g cs,h=>by simp only[jE] at h;simp only[dnV,uj cs h]
 | .int _ _,_=>rfl
 | .bool _,_=>rfl
 | .str _,_=>rfl
 | .rsl _ _,_=>rfl
 | .rp _,_=>rfl
 | .dead,_=>rfl
 | .gone,_=>rfl
 | .ps _ _ _,_=>rfl
 | .pp _ _ _,_=>rfl
 | .pf _ _ _,_=>rfl
 | .pw _ _ _ _ _ _,_=>rfl
 | .nsl _,_=>rfl
 | .nilf,_=>rfl
theorem uj:∀ cs:List AV,fD cs=true→rP cs=cs
 | [],_=>rfl
 | c::cs,h=>by
  simp only[fD,Bool.and_eq_true] at h
  simp only[rP,aG4 c h.1,uj cs h.2]
end
mutual
theorem XD:∀ v:AV,jE v=true→zf v=true
 | .osl s e n cs,h=>by simp only[jE,Bool.and_eq_true,beq_iff_eq] at h;simp[zf,h.1,kZ cs h.2]
 | .bx s e cs,h=>by simp only[jE,Bool.and_eq_true,beq_iff_eq] at h;simp[zf,h.1,kZ cs h.2]
 | .agg cs,h=>by simp only[jE] at h;simp only[zf,kZ cs h]
 | .tup sh cs,h=>by simp only[jE] at h;simp only[zf,kZ cs h]
 | .fn g cs,h=>by simp only[jE] at h;simp only[zf,kZ cs h]
 | .int _ _,_=>rfl
 | .bool _,_=>rfl
 | .str _,_=>rfl
 | .rsl _ _,_=>rfl
 | .rp _,_=>rfl
 | .dead,_=>rfl
 | .gone,_=>rfl
 | .ps _ _ _,_=>rfl
 | .pp _ _ _,_=>rfl
 | .pf _ _ _,_=>rfl
 | .pw _ _ _ _ _ _,_=>rfl
 | .nsl _,_=>rfl
 | .nilf,_=>rfl
theorem kZ:∀ cs:List AV,fD cs=true→nJ cs=true
 | [],_=>rfl
 | c::cs,h=>by
  simp only[fD,Bool.and_eq_true] at h
  simp only[nJ,XD c h.1,kZ cs h.2,Bool.and_self]
end
theorem Ij (l:List Acc):rG (l.flatMap Acc.c)=l.flatMap Acc.c:=sU _ (bu l)
theorem Ja (l:List Acc):rP (l.flatMap Acc.c)=l.flatMap Acc.c:=uj _ (bu l)
theorem lh (l:List Acc):nJ (l.flatMap Acc.c)=true:=kZ _ (bu l)
theorem oU (l:List D):rG (Ows l)=Ows l:=sU _ (l7 l)
theorem o5 (l:List D):rP (Ows l)=Ows l:=uj _ (l7 l)
theorem iL (l:List D):nJ (Ows l)=true:=kZ _ (l7 l)
theorem uX:∀ l:List Acc,hrs (l.flatMap Acc.c)=false
 | []=>rfl
 | a::l=>by
  have:=uX l
  rw[List.flatMap_cons,eU,this]
  simp[Acc.c]
theorem DL (ns:List Nm) (i:Int) (p:Bool) (n:Nm) (e:Exp) (o:Gat):(touch ns i p n e o).1.length=o.1.length+1:=by simp[touch]
theorem OG (st:Bool) (ns:List Nm) (i:Int) (o:Gat) (e:Exp):(aQ st ns i o e).1.length≤o.1.length+1:=by
 unfold aQ
 split
 ·split
  ·rw[DL];omega
  ·simp
 ·simp
def cpG (ns:List Nm) (i:Int) (m:Nat) (o:Gat):List AV:=[.bx 1 299 [.bx (m+1001) 254 (gC ns i o)]]
theorem aBY (ns:List Nm) (i:Int) (m:Nat) (o:Gat) (e:Exp) (hns:ns.length≤1048576) (he:e.tot≤5000000) (ho:o.1.length≤1000000000) :
  Says prog 335 (.agg (Cs e.d)::cpG ns i m o) (.tup [] []) (num 1 (cpG ns i m (aQ true ns i o e))):=by
 have ht:=e.tot_eq
 have pP:aY prog 303=true:=by kernel_rfl
 have key:num 1 (cpG ns i m (aQ true ns i o e))=[1].zip (cpG ns i m (aQ true ns i o e)):=by simp[cpG]
 rw[key]
 refine kP [1] _ Go.Proofs.Tryz.func335 aE5 (by simp) ?_
 obtain⟨K,N,S,L⟩:=e
 by_cases c:K=3
 ·by_cases c1:L.length=1
  ·match L,c1 with
   | [x],_ =>
    have f:=zJ ns i o S x false hns (by simp at ht;omega) ho
    have h0:aQ true ns i o ⟨K,N,S,[x]⟩=touch ns i false S x o:=by simp[aQ,c]
    rw[h0]
    generalize touch ns i false S x o=R at f ⊢
    simp[gC] at f
    simp[afk,afw,cpG,gC,c,splice,bu,Ij,Ja,lh,oU,o5,iL,uX]
    refine bn [_] pP f ?_
    simp[bu,Ij,Ja,lh,oU,o5,iL,uX]
  ·have c1':¬((L.length:Int)=1):=by omega
   have h0:aQ true ns i o ⟨K,N,S,L⟩=(o.1,true):=by
    unfold aQ
    match L,c1 with
    | [],_=>simp[c]
    | [a],c=>exact absurd rfl c
    | a::b::l,_=>simp[c]
   rw[h0]
   simp[afk,afw,cpG,gC,c,c1,c1',splice]
 ·have h0:aQ true ns i o ⟨K,N,S,L⟩=o:=by simp[aQ,c]
  rw[h0]
  simp[afk,afw,cpG,gC,c]
theorem yS (st:Bool) (ns:List Nm) (i:Int) (e:Exp) (o:Gat):(aB (aQ st ns i) o e).1.length≤o.1.length+(1+e.tot):=og (m:=fun o:Gat=>o.1.length) (fun a e=>OG st ns i a e) e o
theorem Rq (ns:List Nm) (i:Int) (hns:ns.length≤1048576):∀ e:Exp,e.tot≤5000000→∀ (m:Nat) (o:Gat),o.1.length+(1+e.tot)≤1000000000 →
  Says prog 320 [.agg (Cs e.d),.fn 335 (cpG ns i m o)] (.tup [] []) (num 1 (cpG ns i m (aB (aQ true ns i) o e))):=Exp.ind fun e ih he m o ho=>by
 have ht:=e.tot_eq
 have pE:aY prog 320=true:=by kernel_rfl
 have pA:aY prog 335=true:=by kernel_rfl
 have key:num 1 (cpG ns i m (aB (aQ true ns i) o e))=[1].zip (cpG ns i m (aB (aQ true ns i) o e)):=by simp[cpG]
 rw[key]
 refine kP [1] _ Go.Proofs.Tryz.func320 afG (by simp) ?_
 simp[aCw,aC2,cpG,gC,bu,Ij,Ja,lh,oU,o5,iL,uX]
 refine aZ (l:=L8) (b:=MK) rfl [7] (fun i0=>[(1,.fn 335 (cpG ns i m ((e.L.take i0).foldl (aB (aQ true ns i)) o))),(5,.int .i64 i0)]) (fun i0=>((e.L.take i0).foldl (aB (aQ true ns i)) o).1.length≤o.1.length+(i0+((e.L.take i0).map Exp.tot).sum)) e.L.length (by simp) (by simp[cpG,gC]) ?_ ?_
 ·intro i0 hi hI q hn hx hr
  obtain⟨y,hy0⟩:=ax hi
  have hrow:=row_drop Exp.d 4 Exp.d_len hy0
  have hw:=wrap_succ (i:=i0) (by omega)
  have hym:=List.mem_of_getElem? hy0
  have hs:=bQ Exp.tot hy0
  have hle:=AM.sum_take_le Exp.tot e.L (i0+1)
  have hyt:=az Exp.tot hym
  have fy:=ih y hym (by omega) (m+1000) ((e.L.take i0).foldl (aB (aQ true ns i)) o) (by omega)
  have ht1:(e.L.take (i0+1)).foldl (aB (aQ true ns i)) o=aB (aQ true ns i) ((e.L.take i0).foldl (aB (aQ true ns i)) o) y:=by rw[List.take_add_one,hy0];simp
  have hm1:=yS true ns i y ((e.L.take i0).foldl (aB (aQ true ns i)) o)
  rw[ht1] at hn
  rw[hs] at hn hle
  generalize (e.L.take i0).foldl (aB (aQ true ns i)) o=a1 at hn hI fy hm1 ⊢
  generalize aB (aQ true ns i) a1 y=a2 at hn fy hm1
  simp[cpG,gC] at fy
  simp[hi,aj,hrow,splice,cpG,gC,bu,Ij,Ja,lh,oU,o5,iL,uX]
  refine bn [_] pE fy ?_
  simp[hw,bu,Ij,Ja,lh,oU,o5,iL,uX]
  refine hn _ ?_ (by omega)
  simp[cpG,gC]
 ·intro hI q hx hr
  rw[List.take_length] at hI ⊢
  have fy:=aBY ns i (m+1000) (e.L.foldl (aB (aQ true ns i)) o) e hns he (by omega)
  have he2:=dW (aQ true ns i) o e
  rw[←he2] at fy
  clear he2
  generalize e.L.foldl (aB (aQ true ns i)) o=a1 at fy ⊢
  generalize aB (aQ true ns i) o e=a2 at fy hx hr ⊢
  simp[cpG,gC] at fy
  simp[cpG,gC,bu,Ij,Ja,lh,oU,o5,iL,uX]
  refine hx _ _ ?_
  simp[splice,bu,Ij,Ja,lh,oU,o5,iL,uX]
  refine bn [_] pA fy ?_
  simp[bu,Ij,Ja,lh,oU,o5,iL,uX]
def orB (o:Gat) (b:Bool):Gat:=(o.1,o.2||b)
theorem OW (o:Gat):orB o false=o:=by simp[orB]
theorem QC (st:Bool) (ns:List Nm) (i:Int) (o:Gat) (b:Bool) (e:Exp):aQ st ns i (orB o b) e=orB (aQ st ns i o e) b:=by
 unfold aQ
 split
 ·split
  ·simp[touch,orB,Bool.or_right_comm]
  ·simp[orB,Bool.or_right_comm]
 ·rfl
theorem BO (st:Bool) (ns:List Nm) (i:Int) (b:Bool):∀ (e:Exp) (o:Gat),aB (aQ st ns i) (orB o b) e=orB (aB (aQ st ns i) o e) b:=Exp.ind fun e ih o=>by
 have key:∀ (L:List Exp),(∀ y∈L,∀ o,aB (aQ st ns i) (orB o b) y=orB (aB (aQ st ns i) o y) b)→∀ o,L.foldl (aB (aQ st ns i)) (orB o b)=orB (L.foldl (aB (aQ st ns i)) o) b:=by
  intro L
  induction L with
  | nil=>intro _ o;rfl
  | cons y L ihL =>
   intro h o
   rw[List.foldl_cons,List.foldl_cons,h y (by simp),ihL (fun z hz=>h z (by simp[hz]))]
 rw[dW,dW,key e.L ih,QC]
def yR (st:Bool) (ns:List Nm) (i:Int) (o:Gat) (x:Stmt):Gat :=
 let o1:=aB (aQ st ns i) (aB (aQ st ns i) o x.At) x.E
 if x.K=2 then touch ns i true x.S x.At o1 else o1
theorem oK (st:Bool) (ns:List Nm) (i:Int) (o:Gat) (x:Stmt):aU st ns i o x=orB (yR st ns i o x) (decide (x.K=4)):=rfl
theorem aDL (st:Bool) (ns:List Nm) (i:Int) (o:Gat) (b:Bool) (x:Stmt):yR st ns i (orB o b) x=orB (yR st ns i o x) b:=by
 unfold yR
 simp only[BO]
 split
 ·simp[touch,orB,Bool.or_right_comm]
 ·rfl
def gW (x:Stmt):Nat:=3+(x.At.tot+x.E.tot)
theorem BK (st:Bool) (ns:List Nm) (i:Int) (o:Gat) (x:Stmt):(aU st ns i o x).1.length≤o.1.length+gW x:=by
 have h1:=yS st ns i x.At o
 have h2:=yS st ns i x.E (aB (aQ st ns i) o x.At)
 rw[oK]
 unfold yR orB gW
 simp only
 split
 ·rw[DL];omega
 ·omega
theorem Gh (l:List Stmt):(l.map fun x=>3+4*x.tot).sum=3*l.length+4*(l.map Stmt.tot).sum:=by
 induction l with
 | nil=>simp
 | cons y l ih=>simp only[List.map_cons,List.sum_cons,List.length_cons,ih];omega
theorem CZ (x:Stmt):gW x+(x.Body.map fun x=>3+4*x.tot).sum≤3+4*x.tot:=by
 have:=Gh x.Body
 have:=x.tot_eq
 unfold gW
 omega
theorem wV (st:Bool) (ns:List Nm) (i:Int) (x:Stmt) (o:Gat):(aI (aU st ns i) o x).1.length≤o.1.length+(3+4*x.tot):=qK (m:=fun o:Gat=>o.1.length) (w:=gW) (wt:=fun x=>3+4*x.tot) (fun a x=>BK st ns i a x) CZ x o
theorem EQ (ns:List Nm) (i:Int) (o:Gat) (e:Exp) (hns:ns.length≤1048576) (he:e.tot≤5000000) (ho:o.1.length+(1+e.tot)≤1000000000) :
  Says prog 302 [.bx 1 254 (gC ns i o),.agg (Cs e.d)] (.tup [] []) (num 1 [.bx 1 254 (gC ns i (aB (aQ true ns i) o e))]):=by
 have fy:=Rq ns i hns e he 0 o ho
 have pE:aY prog 320=true:=by kernel_rfl
 refine kP [1] [.bx 1 254 (gC ns i (aB (aQ true ns i) o e))] Go.Proofs.Tryz.func302 aFu (by simp) ?_
 generalize aB (aQ true ns i) o e=R at fy ⊢
 simp[cpG,gC] at fy
 simp[aMn,aN7,gC,bu,Ij,Ja,lh,oU,o5,iL,uX]
 refine bn [_] pE fy ?_
 simp[bu,Ij,Ja,lh,oU,o5,iL,uX]
theorem ae9 (ns:List Nm) (i:Int) (hns:ns.length≤1048576):∀ x:Stmt,x.tot≤5000000→∀ o:Gat,o.1.length+(3+4*x.tot)≤500000000 →
  Says prog 241 [.bx 1 254 (gC ns i o),.agg (Cs x.d)] (.tup [] []) (num 1 [.bx 1 254 (gC ns i (aI (aU true ns i) o x))]):=Stmt.ind fun x ih hx o ho=>by
 have ht:=x.tot_eq
 have hWl:=Gh x.Body
 have hg:=BK true ns i o x
 have h1:=yS true ns i x.At (orB o (decide (x.K=4)))
 have pA:aY prog 302=true:=by kernel_rfl
 have pP:aY prog 303=true:=by kernel_rfl
 have pL:aY prog 241=true:=by kernel_rfl
 have f1:=EQ ns i (orB o (decide (x.K=4))) x.At hns (by omega) (by simp[orB];omega)
 have f2:=EQ ns i (aB (aQ true ns i) (orB o (decide (x.K=4))) x.At) x.E hns (by omega) (by simp[orB] at h1 ⊢;omega)
 have e1:aB (aQ true ns i) (aB (aQ true ns i) (orB o (decide (x.K=4))) x.At) x.E=orB (aB (aQ true ns i) (aB (aQ true ns i) o x.At) x.E) (decide (x.K=4)):=by rw[BO,BO]
 have h2:=yS true ns i x.E (aB (aQ true ns i) o x.At)
 have h1':=yS true ns i x.At o
 rw[e1] at f2
 have f3:=zJ ns i (orB (aB (aQ true ns i) (aB (aQ true ns i) o x.At) x.E) (decide (x.K=4))) x.S x.At true hns (by omega) (by simp[orB];omega)
 have e3:touch ns i true x.S x.At (orB (aB (aQ true ns i) (aB (aQ true ns i) o x.At) x.E) (decide (x.K=4)))=orB (touch ns i true x.S x.At (aB (aQ true ns i) (aB (aQ true ns i) o x.At) x.E)) (decide (x.K=4)):=by simp[touch,orB,Bool.or_right_comm]
 rw[e3] at f3
 have e4:aU true ns i o x=if x.K=2 then orB (touch ns i true x.S x.At (aB (aQ true ns i) (aB (aQ true ns i) o x.At) x.E)) (decide (x.K=4)) else orB (aB (aQ true ns i) (aB (aQ true ns i) o x.At) x.E) (decide (x.K=4)):=by
  rw[oK];unfold yR;simp only;split<;>rfl
 refine kP [1] [.bx 1 254 (gC ns i (aI (aU true ns i) o x))] Go.Proofs.Tryz.func241 aF3 (by simp) ?_
 have tail:∀ a:Gat,a=aU true ns i o x→∀ i0 y,x.Body[i0]?=some y→(x.Body.take (i0+1)).foldl (aI (aU true ns i)) a=aI (aU true ns i) ((x.Body.take i0).foldl (aI (aU true ns i)) a) y:=fun a _ i0 y hy=>by rw[List.take_add_one,hy];simp
 rw[eF]
 have e0:orB o (decide (x.K=4))=(o.1,o.2||decide (x.K=4)):=rfl
 generalize hg2:orB (aB (aQ true ns i) (aB (aQ true ns i) o x.At) x.E) (decide (x.K=4))=g2 at *
 generalize hg3:orB (touch ns i true x.S x.At (aB (aQ true ns i) (aB (aQ true ns i) o x.At) x.E)) (decide (x.K=4))=g3 at *
 rw[e0] at f1 f2
 generalize aB (aQ true ns i) (o.1,o.2||decide (x.K=4)) x.At=g1 at *
 simp[gC] at f1 f2 f3
 clear tail
 by_cases c2:x.K=2
 ·rw[if_pos c2] at e4
  have hb:g3.1.length≤o.1.length+gW x:=by rw[e4] at hg;exact hg
  rw[e4]
  obtain⟨ol,ob⟩:=o
  have c4b:(x.K==4)=decide (x.K=4):=rfl
  by_cases c4:x.K=4<;>cases ob
  all_goals try omega
  all_goals
   simp[c4] at f1
   simp[aCI,aDe,gC,c2,c4,c4b,splice,bu]
   refine bn [_] pA f1 ?_
   simp[bu]
   refine bn [_] pA f2 ?_
   simp[c2,bu]
   refine bn [_] pP f3 ?_
   simp[bu]
   refine aZ (l:=Md) (b:=MN) rfl [8] (fun k=>[(0,.bx 1 254 (gC ns i ((x.Body.take k).foldl (aI (aU true ns i)) g3))),(6,.int .i64 k)]) (fun k=>((x.Body.take k).foldl (aI (aU true ns i)) g3).1.length≤g3.1.length+((x.Body.take k).map fun x=>3+4*x.tot).sum) x.Body.length (by simp) (by simp[gC]) ?_ ?_
   ·intro k hk hI q hn hx' hr
    obtain⟨y,hy0⟩:=ax hk
    have hrow:=row_drop Stmt.d 19 Stmt.d_len hy0
    have hw:=wrap_succ (i:=k) (by omega)
    have hym:=List.mem_of_getElem? hy0
    have hs:=bQ (fun x:Stmt=>3+4*x.tot) hy0
    have hle:=AM.sum_take_le (fun x:Stmt=>3+4*x.tot) x.Body (k+1)
    have hyt:=az Stmt.tot hym
    rw[hs] at hle
    have hgw:gW x+(x.Body.map fun x=>3+4*x.tot).sum≤3+4*x.tot:=CZ x
    have fy:=ih y hym (by omega) ((x.Body.take k).foldl (aI (aU true ns i)) g3) (by simp only at ho hb;omega)
    have ht1:(x.Body.take (k+1)).foldl (aI (aU true ns i)) g3=aI (aU true ns i) ((x.Body.take k).foldl (aI (aU true ns i)) g3) y:=by rw[List.take_add_one,hy0];simp
    have hm1:=wV true ns i y ((x.Body.take k).foldl (aI (aU true ns i)) g3)
    rw[ht1,hs] at hn
    generalize (x.Body.take k).foldl (aI (aU true ns i)) g3=a1 at hn hI fy hm1 ⊢
    generalize aI (aU true ns i) a1 y=a2 at hn fy hm1
    simp[gC] at fy
    simp[hk,aj,hrow,gC,bu]
    refine bn [_] pL fy ?_
    simp[hw,bu]
    refine hn _ ?_ (by omega)
    simp[gC]
   ·intro hI q hx' hr
    rw[List.take_length]
    simp[gC]
    refine hx' _ _ ?_
    simp
 ·rw[if_neg c2] at e4
  have hb:g2.1.length≤o.1.length+gW x:=by rw[e4] at hg;exact hg
  rw[e4]
  obtain⟨ol,ob⟩:=o
  have c4b:(x.K==4)=decide (x.K=4):=rfl
  by_cases c4:x.K=4<;>cases ob
  all_goals try omega
  all_goals
   simp[c4] at f1
   simp[aCI,aDe,gC,c2,c4,c4b,splice,bu]
   refine bn [_] pA f1 ?_
   simp[bu]
   refine bn [_] pA f2 ?_
   simp[c2,bu]
   refine aZ (l:=Md) (b:=MN) rfl [8] (fun k=>[(0,.bx 1 254 (gC ns i ((x.Body.take k).foldl (aI (aU true ns i)) g2))),(6,.int .i64 k)]) (fun k=>((x.Body.take k).foldl (aI (aU true ns i)) g2).1.length≤g2.1.length+((x.Body.take k).map fun x=>3+4*x.tot).sum) x.Body.length (by simp) (by simp[gC]) ?_ ?_
   ·intro k hk hI q hn hx' hr
    obtain⟨y,hy0⟩:=ax hk
    have hrow:=row_drop Stmt.d 19 Stmt.d_len hy0
    have hw:=wrap_succ (i:=k) (by omega)
    have hym:=List.mem_of_getElem? hy0
    have hs:=bQ (fun x:Stmt=>3+4*x.tot) hy0
    have hle:=AM.sum_take_le (fun x:Stmt=>3+4*x.tot) x.Body (k+1)
    have hyt:=az Stmt.tot hym
    rw[hs] at hle
    have hgw:gW x+(x.Body.map fun x=>3+4*x.tot).sum≤3+4*x.tot:=CZ x
    have fy:=ih y hym (by omega) ((x.Body.take k).foldl (aI (aU true ns i)) g2) (by simp only at ho hb;omega)
    have ht1:(x.Body.take (k+1)).foldl (aI (aU true ns i)) g2=aI (aU true ns i) ((x.Body.take k).foldl (aI (aU true ns i)) g2) y:=by rw[List.take_add_one,hy0];simp
    have hm1:=wV true ns i y ((x.Body.take k).foldl (aI (aU true ns i)) g2)
    rw[ht1,hs] at hn
    generalize (x.Body.take k).foldl (aI (aU true ns i)) g2=a1 at hn hI fy hm1 ⊢
    generalize aI (aU true ns i) a1 y=a2 at hn fy hm1
    simp[gC] at fy
    simp[hk,aj,hrow,gC,bu]
    refine bn [_] pL fy ?_
    simp[hw,bu]
    refine hn _ ?_ (by omega)
    simp[gC]
   ·intro hI q hx' hr
    rw[List.take_length]
    simp[gC]
    refine hx' _ _ ?_
    simp
end Go.AmC
