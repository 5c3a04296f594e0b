import Derived.Test.YtafglhcclmbnbaaGreatSwapAllAccB
set_option linter.unusedSimpArgs false
set_option linter.unusedVariables false
set_option maxRecDepth 20000
set_option maxHeartbeats 4000000
namespace Go.AmC
open Go Go.AM
open Go.Proofs.Tryz (prog)
theorem NS (ns:List Nm) (i:Int) (hns:ns.length≤1048576):∀ e:Exp,e.tot≤5000000→∀ (o:Gat),o.1.length+(1+e.tot)≤1000000000 →
  Says prog 326 [.bx 1 284 (rC ns o),.agg (Cs e.d),.int .i64 i] (.tup [] []) (num 1 [.bx 1 284 (rC ns (aB (aQ false ns i) o e))]):=Exp.ind fun e ih he o ho=>by
 have ht:=e.tot_eq
 have pE:aY prog 326=true:=by kernel_rfl
 have pT:aY prog 327=true:=by kernel_rfl
 refine kP [1] [.bx 1 284 (rC ns (aB (aQ false ns i) o e))] Go.Proofs.Tryz.func326 aFc (by simp) ?_
 simp[aL8,aNS,rC,bu]
 refine aZ (l:=TQ) (b:=VK) rfl [] (fun i0=>[(0,.bx 1 284 (rC ns ((e.L.take i0).foldl (aB (aQ false ns i)) o))),(4,.int .i64 i0)]) (fun i0=>((e.L.take i0).foldl (aB (aQ false ns i)) o).1.length≤o.1.length+(i0+((e.L.take i0).map Exp.tot).sum)) e.L.length (by simp) (by simp[rC]) ?_ ?_
 ·intro i0 hi hI q hn hx hr
  obtain⟨y,hy0⟩:=ax hi
  have hrow:=row_drop Exp.d 4 Exp.d_len hy0
  have hw:=wrap_succ (i:=i0) (by omega)
  have hym:=List.mem_of_getElem? hy0
  have hs:=bQ Exp.tot hy0
  have hle:=AM.sum_take_le Exp.tot e.L (i0+1)
  have hyt:=az Exp.tot hym
  have fy:=ih y hym (by omega) ((e.L.take i0).foldl (aB (aQ false ns i)) o) (by omega)
  have ht1:(e.L.take (i0+1)).foldl (aB (aQ false ns i)) o=aB (aQ false ns i) ((e.L.take i0).foldl (aB (aQ false ns i)) o) y:=by rw[List.take_add_one,hy0];simp
  have hm1:=yS false ns i y ((e.L.take i0).foldl (aB (aQ false ns i)) o)
  rw[ht1] at hn
  rw[hs] at hn hle
  generalize (e.L.take i0).foldl (aB (aQ false ns i)) o=a1 at hn hI fy hm1 ⊢
  generalize aB (aQ false ns i) a1 y=a2 at hn fy hm1
  simp[rC] at fy
  simp[hi,aj,hrow,rC,bu]
  refine bn [_] pE fy ?_
  simp[hw,bu]
  refine hn _ ?_ (by omega)
  simp[rC]
 ·intro hI q hx hr
  rw[List.take_length] at hI ⊢
  rw[dW] at hx hr
  generalize e.L.foldl (aB (aQ false ns i)) o=a1 at hI hx hr ⊢
  simp[rC]
  refine hx _ _ ?_
  clear hx hr ih
  obtain⟨K,N,S,L⟩:=e
  by_cases c:K=3
  ·by_cases c1:L.length=1
   ·match L,c1 with
    | [x],_ =>
     have f:=zh ns i a1 S x false hns (by simp at ht;omega) (by simp only at hI ht ho ⊢;omega)
     have h0:aQ false ns i a1 ⟨K,N,S,[x]⟩=touch ns i false S x a1:=by simp[aQ,c]
     rw[h0]
     generalize touch ns i false S x a1=R at f ⊢
     simp[rC] at f
     simp[c,bu]
     refine bn [_] pT f ?_
     simp[bu]
   ·have c1':¬((L.length:Int)=1):=by omega
    have h0:aQ false ns i a1 ⟨K,N,S,L⟩=a1:=by
     unfold aQ
     match L,c1 with
     | [],_=>simp[c]
     | [a],c=>exact absurd rfl c
     | a::b::l,_=>simp[c]
    rw[h0]
    simp[c,c1,c1']
  ·have h0:aQ false ns i a1 ⟨K,N,S,L⟩=a1:=by simp[aQ,c]
   rw[h0]
   simp[c]
theorem QB (ns:List Nm) (i:Int) (hns:ns.length≤1048576):∀ x:Stmt,x.tot≤5000000→∀ o:Gat,o.1.length+(3+4*x.tot)≤500000000 →
  Says prog 287 [.bx 1 284 (rC ns o),.agg (Cs x.d),.int .i64 i] (.tup [] []) (num 1 [.bx 1 284 (rC ns (aI (aU false ns i) o x))]):=Stmt.ind fun x ih hx o ho=>by
 have ht:=x.tot_eq
 have hWl:=Gh x.Body
 have hg:=BK false ns i o x
 have pE:aY prog 326=true:=by kernel_rfl
 have pP:aY prog 327=true:=by kernel_rfl
 have pL:aY prog 287=true:=by kernel_rfl
 have h1:=yS false ns i x.At o
 have f1:=NS ns i hns x.At (by omega) o (by omega)
 have f2:=NS ns i hns x.E (by omega) (aB (aQ false ns i) o x.At) (by omega)
 have h2:=yS false ns i x.E (aB (aQ false ns i) o x.At)
 have f3:=zh ns i (aB (aQ false ns i) (aB (aQ false ns i) o x.At) x.E) x.S x.At true hns (by omega) (by omega)
 have e4:aU false ns i o x=if x.K=2 then orB (touch ns i true x.S x.At (aB (aQ false ns i) (aB (aQ false ns i) o x.At) x.E)) (decide (x.K=4)) else orB (aB (aQ false ns i) (aB (aQ false ns i) o x.At) x.E) (decide (x.K=4)):=by
  rw[oK];unfold yR;simp only;split<;>rfl
 refine kP [1] [.bx 1 284 (rC ns (aI (aU false ns i) o x))] Go.Proofs.Tryz.func287 aFI (by simp) ?_
 rw[eF]
 generalize aB (aQ false ns i) (aB (aQ false ns i) o x.At) x.E=g2 at *
 generalize aB (aQ false ns i) o x.At=g1 at *
 generalize touch ns i true x.S x.At g2=g3 at *
 have hb:(aU false ns i o x).1.length≤o.1.length+gW x:=hg
 have hor:∀ (b:Bool) (g:Gat),rC ns (orB g b)=[.osl 0 9 ns.length (Ows (ns.flatMap bG)),.osl 0 203 g.1.length (g.1.flatMap Acc.c),.bool (g.2||b)]:=fun b g=>rfl
 simp[rC] at f1 f2 f3
 have c4b:(x.K==4)=decide (x.K=4):=rfl
 by_cases c2:x.K=2
 ·have c4:¬(x.K=4):=by omega
  rw[if_pos c2,decide_eq_false c4,OW] at e4
  simp[aCA,aC6,rC,bu]
  refine bn [_] pE f1 ?_
  simp[bu]
  refine bn [_] pE f2 ?_
  simp[bu,c2]
  refine bn [_] pP f3 ?_
  generalize aU false ns i o x=b0 at *
  obtain⟨g3l,g3b⟩:=g3
  cases g3b
  all_goals
   simp[bu,c2,splice]
   refine aZ (l:=Mc) (b:=MM) rfl [] (fun k=>[(0,.bx 1 284 (rC ns ((x.Body.take k).foldl (aI (aU false ns i)) b0))),(5,.int .i64 k)]) (fun k=>((x.Body.take k).foldl (aI (aU false ns i)) b0).1.length≤(b0:Gat).1.length+((x.Body.take k).map fun x=>3+4*x.tot).sum) x.Body.length (by simp) (by simp[rC,e4,orB,c4]) ?_ ?_
   ·intro k hk hI q hn hx' hr
    obtain⟨y,hy0⟩:=ax hk
    have hrow:=row_drop Stmt.d 19 Stmt.d_len hy0
    have hw:=wrap_succ (i:=k) (by omega)
    have hym:=List.mem_of_getElem? hy0
    have hs:=bQ (fun x:Stmt=>3+4*x.tot) hy0
    have hle:=AM.sum_take_le (fun x:Stmt=>3+4*x.tot) x.Body (k+1)
    have hyt:=az Stmt.tot hym
    rw[hs] at hle
    have hgw:gW x+(x.Body.map fun x=>3+4*x.tot).sum≤3+4*x.tot:=CZ x
    have fy:=ih y hym (by omega) ((x.Body.take k).foldl (aI (aU false ns i)) b0) (by omega)
    have ht1:(x.Body.take (k+1)).foldl (aI (aU false ns i)) b0=aI (aU false ns i) ((x.Body.take k).foldl (aI (aU false ns i)) b0) y:=by rw[List.take_add_one,hy0];simp
    have hm1:=wV false ns i y ((x.Body.take k).foldl (aI (aU false ns i)) b0)
    rw[ht1,hs] at hn
    generalize (x.Body.take k).foldl (aI (aU false ns i)) b0=a1 at hn hI fy hm1 ⊢
    generalize aI (aU false ns i) a1 y=a2 at hn fy hm1
    simp[rC] at fy
    simp[hk,aj,hrow,rC,bu]
    refine bn [_] pL fy ?_
    simp[hw,bu]
    refine hn _ ?_ (by omega)
    simp[rC]
   ·intro hI q hx' hr
    rw[List.take_length]
    simp[rC]
    refine hx' _ _ ?_
    simp
 ·rw[if_neg c2] at e4
  simp[aCA,aC6,rC,bu]
  refine bn [_] pE f1 ?_
  simp[bu]
  refine bn [_] pE f2 ?_
  generalize aU false ns i o x=b0 at *
  obtain⟨g2l,g2b⟩:=g2
  by_cases c4:x.K=4<;>cases g2b
  all_goals
   simp[bu,c2,c4,c4b,splice]
   refine aZ (l:=Mc) (b:=MM) rfl [] (fun k=>[(0,.bx 1 284 (rC ns ((x.Body.take k).foldl (aI (aU false ns i)) b0))),(5,.int .i64 k)]) (fun k=>((x.Body.take k).foldl (aI (aU false ns i)) b0).1.length≤(b0:Gat).1.length+((x.Body.take k).map fun x=>3+4*x.tot).sum) x.Body.length (by simp) (by simp[rC,e4,orB,c4]) ?_ ?_
   ·intro k hk hI q hn hx' hr
    obtain⟨y,hy0⟩:=ax hk
    have hrow:=row_drop Stmt.d 19 Stmt.d_len hy0
    have hw:=wrap_succ (i:=k) (by omega)
    have hym:=List.mem_of_getElem? hy0
    have hs:=bQ (fun x:Stmt=>3+4*x.tot) hy0
    have hle:=AM.sum_take_le (fun x:Stmt=>3+4*x.tot) x.Body (k+1)
    have hyt:=az Stmt.tot hym
    rw[hs] at hle
    have hgw:gW x+(x.Body.map fun x=>3+4*x.tot).sum≤3+4*x.tot:=CZ x
    have fy:=ih y hym (by omega) ((x.Body.take k).foldl (aI (aU false ns i)) b0) (by omega)
    have ht1:(x.Body.take (k+1)).foldl (aI (aU false ns i)) b0=aI (aU false ns i) ((x.Body.take k).foldl (aI (aU false ns i)) b0) y:=by rw[List.take_add_one,hy0];simp
    have hm1:=wV false ns i y ((x.Body.take k).foldl (aI (aU false ns i)) b0)
    rw[ht1,hs] at hn
    generalize (x.Body.take k).foldl (aI (aU false ns i)) b0=a1 at hn hI fy hm1 ⊢
    generalize aI (aU false ns i) a1 y=a2 at hn fy hm1
    simp[rC] at fy
    simp[hk,aj,hrow,rC,bu]
    refine bn [_] pL fy ?_
    simp[hw,bu]
    refine hn _ ?_ (by omega)
    simp[rC]
   ·intro hI q hx' hr
    rw[List.take_length]
    simp[rC]
    refine hx' _ _ ?_
    simp
def jB (st:Bool) (ns:List Nm):Nat→List Stmt→Gat→Gat
 | _,[],o=>o
 | i,x::l,o=>jB st ns (i+1) l (aI (aU st ns i) o x)
theorem yA (st:Bool) (ns:List Nm):∀ (l:List Stmt) (i:Nat) (o:Gat) (x:Stmt),jB st ns i (l++[x]) o=aI (aU st ns (i+l.length:Nat)) (jB st ns i l o) x
 | [],i,o,x=>by simp[jB]
 | y::l,i,o,x=>by
  rw[List.cons_append,jB,jB,yA st ns l (i+1),List.length_cons,show i+1+l.length=i+(l.length+1) by omega]
theorem EC (st:Bool) (ns:List Nm) {l:List Stmt} {k:Nat} {x:Stmt} (h:l[k]?=some x) (o:Gat):jB st ns 0 (l.take (k+1)) o=aI (aU st ns k) (jB st ns 0 (l.take k) o) x:=by
 have hk:k<l.length:=(List.getElem?_eq_some_iff.1 h).1
 rw[List.take_add_one,h]
 show jB st ns 0 (l.take k++[x]) o=_
 rw[yA,Nat.zero_add,List.length_take,Nat.min_eq_left (by omega)]
theorem OH (st:Bool) (ns:List Nm) (i:Int) (o:Gat) (e:Exp) (h:o.2=true):(aQ st ns i o e).2=true:=by
 unfold aQ
 split
 ·split
  ·simp[touch,h]
  ·simp[h]
 ·exact h
theorem EG (st:Bool) (ns:List Nm) (i:Int):∀ (e:Exp) (o:Gat),o.2=true→(aB (aQ st ns i) o e).2=true:=Exp.ind fun e ih o h=>by
 have key:∀ (L:List Exp),(∀ y∈L,∀ o:Gat,o.2=true→(aB (aQ st ns i) o y).2=true)→∀ o:Gat,o.2=true→(L.foldl (aB (aQ st ns i)) o).2=true:=by
  intro L
  induction L with
  | nil=>intro _ o h;exact h
  | cons y L ihL=>intro hL o h;rw[List.foldl_cons];exact ihL (fun z hz=>hL z (by simp[hz])) _ (hL y (by simp) o h)
 rw[dW];exact OH _ _ _ _ _ (key e.L ih o h)
theorem KG (st:Bool) (ns:List Nm) (i:Int) (o:Gat) (x:Stmt) (h:o.2=true):(aU st ns i o x).2=true:=by
 have h2:=EG st ns i x.E _ (EG st ns i x.At o h)
 rw[oK]
 unfold yR orB
 simp only
 split
 ·simp[touch,h2]
 ·simp[h2]
theorem Pz (st:Bool) (ns:List Nm) (i:Int):∀ (x:Stmt) (o:Gat),o.2=true→(aI (aU st ns i) o x).2=true:=Stmt.ind fun x ih o h=>by
 have key:∀ (L:List Stmt),(∀ y∈L,∀ o:Gat,o.2=true→(aI (aU st ns i) o y).2=true)→∀ o:Gat,o.2=true→(L.foldl (aI (aU st ns i)) o).2=true:=by
  intro L
  induction L with
  | nil=>intro _ o h;exact h
  | cons y L ihL=>intro hL o h;rw[List.foldl_cons];exact ihL (fun z hz=>hL z (by simp[hz])) _ (hL y (by simp) o h)
 rw[eF];exact key x.Body ih _ (KG _ _ _ _ _ h)
theorem I4 (st:Bool) (ns:List Nm):∀ (l:List Stmt) (i:Nat) (o:Gat),o.2=true→(jB st ns i l o).2=true
 | [],i,o,h=>h
 | x::l,i,o,h=>I4 st ns l (i+1) _ (Pz st ns i x o h)
theorem wI (st:Bool) (ns:List Nm):∀ (l:List Stmt) (i:Nat) (o:Gat),(jB st ns i l o).1.length≤o.1.length+(3*l.length+4*(l.map Stmt.tot).sum)
 | [],i,o=>by simp[jB]
 | x::l,i,o=>by
  have h1:=wI st ns l (i+1) (aI (aU st ns i) o x)
  have h2:=wV st ns i x o
  rw[jB,List.length_cons,List.map_cons,List.sum_cons];omega
def dH (st:Bool) (x:Stmt):Option (List Acc × List Rng):=match jA x with
 | none=>none
 | some box=>if (jB st (aF box) 0 x.Body ([],false)).2 then none else some ((jB st (aF box) 0 x.Body ([],false)).1,box)
theorem Gm (x:Stmt) (l:List Rng) (h:jA x=some l):l.length≤8:=by
 unfold jA at h
 split at h
 ·rename_i c
  cases h
  have:=c.2.2
  unfold iV boxOk at this
  simp at this
  exact this.2.2
 ·cases h
theorem C9:∀ l:List Acc,jg (l.flatMap Acc.c)=some (Cs (l.flatMap Acc.d))
 | []=>rfl
 | a::l=>by
  have h:=C9 l
  simp only[List.flatMap_cons,oQ]
  generalize l.flatMap Acc.c=u at h ⊢
  generalize Cs (l.flatMap Acc.d)=v at h ⊢
  simp[Acc.c,Acc.d,h]
def Nr:Option (List Acc × List Rng)→AV
 | none=>.tup [none,none,none] [.osl 0 203 0 [],.osl 0 190 0 [],.bool false]
 | some r=>.tup [none,none,none] [.osl 0 203 r.1.length (r.1.flatMap Acc.c),.rsl r.2.length (Cs (r.2.flatMap Rng.d)),.bool true]
theorem yJ (x:Stmt) (hx:x.tot≤5000000):Says prog 171 [.agg (Cs x.d)] (Nr (dH true x)) []:=by
 have ht:=x.tot_eq
 have f:=AP x hx
 have hbl:=Gm x
 refine aP Go.Proofs.Tryz.func171 aGz ?_
 unfold dH
 generalize jA x=o at f hbl ⊢
 cases o with
 | none =>
  simp[qB,oI] at f
  simp[v171,aDi,Nr]
  refine gQ f ?_
  simp
 | some box =>
  have hb8:=hbl box rfl
  simp[qB,oI] at f
  simp[v171,aDi]
  refine gQ f ?_
  simp
  refine aZ (l:=UE) (b:=WB) rfl [13] (fun k=>[(8,.bx 0 254 (gC (aF (box.take k)) 0 ([],false))),(11,.int .i64 k)]) (fun k=>True) box.length trivial (by simp[gC,aF]) ?_ ?_
  ·intro k hk hI q hn hx' hr
   obtain⟨y,hy0⟩:=ax hk
   have hrow:=row_drop Rng.d 3 Rng.d_len hy0
   have hw:=wrap_succ (i:=k) (by omega)
   have hbb:k+1≤bnd:=by unfold bnd;omega
   have e:aF (box.take (k+1))=aF (box.take k)++[y.Name]:=by rw[List.take_add_one,hy0];simp[aF]
   have el:(aF (box.take k)).length=k:=by simp[aF];omega
   rw[e] at hn
   generalize aF (box.take k)=ns at *
   simp[hk,aj,hrow,gC,splice,el,hbb,hw]
   refine hn _ ?_ trivial
   simp[gC,el]
  ·intro _ q hx' hr
   rw[List.take_length]
   simp[gC]
   refine hx' _ _ ?_
   clear hx' hr
   have pL:aY prog 241=true:=by kernel_rfl
   have hns:(aF box).length≤1048576:=by simp[aF];omega
   simp
   refine aZ (l:=UF) (b:=WC) rfl [18,19] (fun k=>[(8,.bx 0 254 (gC (aF box) ((k-1:Nat):Int) (jB true (aF box) 0 (x.Body.take k) ([],false)))),(16,.int .i64 k)]) (fun k=>True) x.Body.length trivial (by simp[gC,jB]) ?_ ?_
   ·intro k hk hI q hn hx' hr
    obtain⟨y,hy0⟩:=ax hk
    have hrow:=row_drop Stmt.d 19 Stmt.d_len hy0
    have hw:=wrap_succ (i:=k) (by omega)
    have hym:=List.mem_of_getElem? hy0
    have hyt:=az Stmt.tot hym
    have hgl:=wI true (aF box) (x.Body.take k) 0 ([],false)
    have hs:=AM.sum_take_le Stmt.tot x.Body k
    have hlt:(x.Body.take k).length≤x.Body.length:=by rw[List.length_take];omega
    have fy:=ae9 (aF box) k hns y (by omega) (jB true (aF box) 0 (x.Body.take k) ([],false)) (by simp only[List.length_nil] at hgl;omega)
    rw[EC true (aF box) hy0] at hn
    generalize aF box=ns at *
    generalize jB true ns 0 (x.Body.take k) ([],false)=a1 at *
    generalize aI (aU true ns k) a1 y=a2 at *
    simp[gC] at fy
    simp[hk,aj,hrow,gC,splice,bu]
    refine bn [_] pL fy ?_
    simp[hw,bu]
    refine hn _ ?_ trivial
    simp[gC]
   ·intro _ q hx' hr
    rw[List.take_length]
    generalize jB true (aF box) 0 x.Body ([],false)=R at *
    obtain⟨Rl,Rb⟩:=R
    simp[gC]
    refine hx' _ _ ?_
    cases Rb
    ·simp[Nr]
    ·simp[Nr]
theorem Ag (st:Bool) (ns:List Nm):∀ (a b:List Stmt) (i:Nat) (o:Gat),jB st ns i (a++b) o=jB st ns (i+a.length) b (jB st ns i a o)
 | [],b,i,o=>by simp[jB]
 | x::a,b,i,o=>by
  rw[List.cons_append,jB,Ag st ns a b (i+1),jB,List.length_cons,show i+1+a.length=i+(a.length+1) by omega]
theorem Rj (st:Bool) (ns:List Nm) (l:List Stmt) (k:Nat) (o:Gat) (h:(jB st ns 0 (l.take k) o).2=true):(jB st ns 0 l o).2=true:=by
 have e:=Ag st ns (l.take k) (l.drop k) 0 o
 rw[List.take_append_drop] at e
 rw[e];exact I4 _ _ _ _ _ h
def JU:Option (List Acc × List Rng)→AV
 | none=>.tup [none,none] [.osl 0 203 0 [],.bool false]
 | some r=>.tup [none,none] [.osl 0 203 r.1.length (r.1.flatMap Acc.c),.bool true]
theorem yI (x:Stmt) (hx:x.tot≤5000000):Says prog 227 [.agg (Cs x.d)] (JU (dH false x)) []:=by
 have ht:=x.tot_eq
 have f:=qw x hx
 have hbl:=Gm x
 refine aP Go.Proofs.Tryz.func227 aGe ?_
 unfold dH
 generalize jA x=o at f hbl ⊢
 cases o with
 | none =>
  simp[qB,oI] at f
  simp[v227,aDh,JU]
  refine gQ f ?_
  simp[splice]
  refine aZ (l:=Me) (b:=MO) rfl [] (fun k=>[(7,.int .i64 k)]) (fun k=>True) 0 trivial (by simp) (fun k hk=>absurd hk (by omega)) ?_
  intro _ q hx' hr
  simp
  refine hx' _ _ ?_
  simp
  refine aZ (l:=MB) (b:=MP) rfl [] (fun k=>[(9,.int .i64 k)]) (fun k=>True) 0 trivial (by simp) (fun k hk=>absurd hk (by omega)) ?_
  intro _ q hx' hr
  by_cases c:x.Body.length=0
  ·simp[c]
   refine hx' _ _ ?_
   simp
  ·have c':0<x.Body.length:=by omega
   simp[c,c']
   refine hx' _ _ ?_
   simp
 | some box =>
  have hb8:=hbl box rfl
  simp[qB,oI] at f
  simp[v227,aDh]
  refine gQ f ?_
  simp[splice]
  refine aZ (l:=Me) (b:=MO) rfl [] (fun k=>[(6,.bx 0 284 (rC (aF (box.take k)) ([],false))),(7,.int .i64 k)]) (fun k=>True) box.length trivial (by simp[rC,aF]) ?_ ?_
  ·intro k hk hI q hn hx' hr
   obtain⟨y,hy0⟩:=ax hk
   have hrow:=row_drop Rng.d 3 Rng.d_len hy0
   have hw:=wrap_succ (i:=k) (by omega)
   have hbb:k+1≤bnd:=by unfold bnd;omega
   have e:aF (box.take (k+1))=aF (box.take k)++[y.Name]:=by rw[List.take_add_one,hy0];simp[aF]
   have el:(aF (box.take k)).length=k:=by simp[aF];omega
   rw[e] at hn
   generalize aF (box.take k)=ns at *
   simp[hk,aj,hrow,rC,splice,el,hbb,hw]
   refine hn _ ?_ trivial
   simp[rC,el]
  ·intro _ q hx' hr
   rw[List.take_length]
   simp[rC]
   refine hx' _ _ ?_
   clear hx' hr
   have pL:aY prog 287=true:=by kernel_rfl
   have hns:(aF box).length≤1048576:=by simp[aF];omega
   simp
   refine aZ (l:=MB) (b:=MP) rfl [] (fun k=>[(6,.bx 0 284 (rC (aF box) (jB false (aF box) 0 (x.Body.take k) ([],false)))),(9,.int .i64 k)]) (fun k=>True) x.Body.length trivial (by simp[rC,jB]) ?_ ?_
   ·intro k hk hI q hn hx' hr
    obtain⟨y,hy0⟩:=ax hk
    have hrow:=row_drop Stmt.d 19 Stmt.d_len hy0
    have hw:=wrap_succ (i:=k) (by omega)
    have hym:=List.mem_of_getElem? hy0
    have hyt:=az Stmt.tot hym
    have hgl:=wI false (aF box) (x.Body.take k) 0 ([],false)
    have hs:=AM.sum_take_le Stmt.tot x.Body k
    have hlt:(x.Body.take k).length≤x.Body.length:=by rw[List.length_take];omega
    have hpre:=Rj false (aF box) x.Body k ([],false)
    have fy:=QB (aF box) k hns y (by omega) (jB false (aF box) 0 (x.Body.take k) ([],false)) (by simp only[List.length_nil] at hgl;omega)
    rw[EC false (aF box) hy0] at hn
    generalize aF box=ns at *
    generalize jB false ns 0 (x.Body.take k) ([],false)=a1 at *
    generalize aI (aU false ns k) a1 y=a2 at *
    obtain⟨a1l,a1b⟩:=a1
    cases a1b
    ·simp[rC] at fy
     simp[hk,aj,hrow,rC,splice,bu]
     refine bn [_] pL fy ?_
     simp[hw,bu]
     refine hn _ ?_ trivial
     simp[rC]
    ·have hbad:=hpre rfl
     simp[hk,rC]
     refine hx' _ _ ?_
     simp[hbad,JU]
   ·intro _ q hx' hr
    rw[List.take_length]
    generalize jB false (aF box) 0 x.Body ([],false)=R at *
    obtain⟨Rl,Rb⟩:=R
    cases Rb
    ·simp[rC]
     refine hx' _ _ ?_
     simp[JU]
    ·simp[rC]
     refine hx' _ _ ?_
     simp[JU]
end Go.AmC
