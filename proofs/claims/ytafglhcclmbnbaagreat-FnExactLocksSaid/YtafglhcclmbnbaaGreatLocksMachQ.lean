import Derived.Shelf.RegionOpenPlain
import Derived.WalkKit
import Derived.Lib.Walk
import Derived.Lib.SliceRun
import Derived.Lib.SlicesDelete
import Derived.Deep.LoopGhost
import Derived.Deep.RegionLaw
import Derived.Laws.CopyRow
import Derived.Laws.IdiomCopy
import Derived.Test.YtafglhcclmbnbaaGreatAmGrow
import Derived.Test.YtafglhcclmbnbaaGreatLocksLay1
import Derived.Test.YtafglhcclmbnbaaGreatLocksMachD
import Derived.Test.YtafglhcclmbnbaaGreatLocksMachN
set_option linter.unusedSimpArgs false
set_option linter.unusedVariables false
set_option maxRecDepth 100000
set_option maxHeartbeats 4000000
namespace Go.AmC
open Go Go.Proofs Go.RowKit Go.Lib
open Go.Proofs.Tryz (prog)
theorem DX (P:Program) (w:World) (g o:Nat) (t:TypeId) (vs:List Value) (cur:Array Value) (hg:w.heap[g]?=some (.cells cur t (0,0))) (hl:o+vs.length≤cur.size) (h1:∀ v∈vs,v.oneCell'=true) :
  w.setCells g o vs=w.setRow g (cur.toList.take o++vs++cur.toList.drop (o+vs.length)).toArray:=by
 have a:=run_storeCells_cells (P:=P) g o vs 0 w (fun j hj=>by
  simp only[World.cell?,hg]
  rw[Array.getElem?_eq_getElem (by omega)];rfl) (fun j hj=>by simp[World.frozen?,hg]) h1
 have b:=run_storeCells_at P g o t vs 0 cur w hg (by simpa using hl) h1
 rw[a] at b
 simpa using b
def JR (w:World) (g n cap:Nat) (row:List Value) (e:Ending) (w':World):Prop :=
 ∃ cur':Array Value,e=.returned (.slice (some ⟨g,0,none⟩) n cap)∧w'.heap[g]?=some (.cells cur' 176 (0,0))∧cur'.size=cap*2∧cur'.toList.take (n*2)=row ∧
  w'.os=w.os∧w'.tape=w.tape∧w'.output=w.output∧w'.heap.size=w.heap.size∧∀ b,b≠g→w'.heap[b]?=w.heap[b]?
theorem Ik (w:World) (g cap n:Nat) (cur:Array Value) (hn:n+1≤cap) (hm:cap≤maxLen) (hg:w.heap[g]?=some (.cells cur 176 (0,0))) (hs:cur.size=cap*2) (hc1:∀ x∈cur.toList.take ((n+1)*2),x.oneCell'=true) :
  Calls prog 226 #[.slice (some ⟨g,0,none⟩) (n+1) cap,.int .i64 0,.int .i64 1] w (JR w g n cap ((cur.toList.take ((n+1)*2)).drop 2)):=by
 have mixed:prog.follows Departure.mixedOrders=true:=by kernel_rfl
 have hM:maxLen≤9223372036854775807:=by unfold maxLen;omega
 have hu:prog.underlying 156=some (.slice 176):=by kernel_rfl
 obtain⟨i0,hi0,hsz⟩:∃ i0,prog.info? 176=some i0∧i0.size=2:=⟨(prog.info? 176).get (by kernel_rfl),by kernel_rfl,by kernel_rfl⟩
 have hzv:∀ w,(zeroValue 176).run prog w=.ok (.agg #[.int .i64 0,.int .i64 0]) w:=fun w=>by kernel_rfl
 obtain⟨news,hnews⟩:∃ x,x=(cur.toList.take ((n+1)*2)).drop 2:=⟨_,rfl⟩
 have hlen:news.length=n*2:=by rw[hnews];simp;omega
 have hget:∀ j x,news[j]?=some x→cur.toList[2+j]?=some x:=fun j x hj=>by
  rw[hnews,List.getElem?_drop,List.getElem?_take] at hj
  split at hj
  ·exact hj
  ·cases hj
 obtain⟨A0,hA,hsrc⟩:∃ A0:Addr,(if cap=1 then some (⟨g,0,none⟩:Addr) else some ⟨g,2,none⟩)=some A0∧Hid (∀ t u,news[t]?=some u→w.drew.cell? (A0.add t)=some u):=by
  by_cases h:cap=1
  ·refine⟨⟨g,0,none⟩,by simp[h],fun t u hu=>?_⟩
   have h0:news.length=0:=by rw[hlen];omega
   rw[List.length_eq_zero_iff.1 h0] at hu
   simp at hu
  ·refine⟨⟨g,2,none⟩,by simp[h],fun t u hu=>?_⟩
   rw[Addr.add_lit]
   simp only[World.cell?,show w.drew.heap=w.heap from rfl,hg]
   simpa using hget t u hu
 have s1:Hid (news.length=n*2):=hlen
 have s2:Hid (∀ u∈news,u.oneCell'=true):=fun u hu=>hc1 u (by rw[hnews] at hu;exact List.mem_of_mem_drop hu)
 have s3:Hid (∀ t,t<news.length→(w.drew.cell? ⟨g,0+0*2+t,none⟩).isSome=true∧w.drew.frozen? ⟨g,0+0*2+t,none⟩=false):=fun t ht=>by
  rw[hlen] at ht
  simp only[World.cell?,World.frozen?,show w.drew.heap=w.heap from rfl,hg]
  rw[Array.getElem?_eq_getElem (by omega)]
  simp
 obtain⟨row1,hrow1⟩:∃ r,r=(news++cur.toList.drop (n*2)).toArray:=⟨_,rfl⟩
 have hr1s:row1.size=cap*2:=by rw[hrow1];simp;omega
 obtain⟨W1,hW1⟩:∃ W1,W1=w.drew.setCells g (0+0*2) news:=⟨_,rfl⟩
 have hW1':W1=w.drew.setRow g row1:=by
  rw[hW1,DX prog w.drew g (0+0*2) 176 news cur hg (by omega) s2,hrow1]
  simp[hlen]
 have hg1:W1.heap[g]?=some (.cells row1 176 (0,0)):=by rw[hW1'];exact setRow_heap w.drew g cur row1 176 (0,0) hg
 obtain⟨row2,hrow2⟩:∃ r,r=(row1.toList.take (n*2)++[Value.int .i64 0,Value.int .i64 0]++row1.toList.drop (n*2+2)).toArray:=⟨_,rfl⟩
 have hr2s:row2.size=cap*2:=by rw[hrow2];simp;omega
 have hr2t:row2.toList.take (n*2)=news:=by
  rw[hrow2]
  have e1:row1.toList.take (n*2)=news:=by rw[hrow1];exact List.take_left' hlen
  simp only[List.toList_toArray,e1,List.append_assoc]
  exact List.take_left' hlen
 have hcl:∀ ty c,(Builtin.clear_ #[156] ty #[.slice (some ⟨g,n*2,none⟩) 1 c]).run prog W1=.ok (.tuple #[]) (W1.setRow g row2):=fun ty c=>by
  have hst:=run_storeCells_at prog g (n*2) 176 [Value.int .i64 0,Value.int .i64 0] 0 row1 W1 hg1 (by simp[hr1s];omega) (by simp[Value.oneCell'])
  have hzc:(Builtin.zeroCells (Value.cells (.agg #[.int .i64 0,.int .i64 0])) 1).toList=[Value.int .i64 0,Value.int .i64 0]:=by kernel_rfl
  simp only[Nat.add_zero] at hst
  rw[show [Value.int .i64 0,.int .i64 0].length=2 from rfl,←hrow2] at hst
  simp[Builtin.clear_,run_underlying hu,hzv,hzc,hst]
 have hW:Hid (W1=w.drew.setCells g (0+0*2) news):=hW1
 have fin:JR w g n cap news (.returned (.slice (some ⟨g,0,none⟩) n cap)) (W1.setRow g row2):=by
  refine⟨row2,rfl,setRow_heap W1 g row1 row2 176 (0,0) hg1,hr2s,hr2t,?_,?_,?_,?_,fun b hb=>?_⟩
  ·rw[hW1'];rfl
  ·rw[hW1'];rfl
  ·rw[hW1'];rfl
  ·rw[setRow_size,hW1',setRow_size];rfl
  ·rw[setRow_other _ g b _ hb,hW1',setRow_other _ g b _ hb];rfl
 rw[←hnews]
 have q1:¬cap=n:=by omega
 have q2:n≤cap:=by omega
 have q3:(1:Nat)≤cap:=by omega
 have q4:n+1≤cap:=hn
 have q5:(1:Int)≤(n:Int)+1:=by omega
 have q6:((n:Int)+1-1).toNat=n:=by omega
 have q7:((n:Int)+1).toNat=n+1:=by omega
 have w1:IntKind.i64.wrap ((n:Int)+1)=(n:Int)+1:=by rw[IntKind.wrap_i64];unfold maxLen at *;omega
 clear hW1 hW1' hg1 hrow1 hrow2 hr2t hr1s hr2s hget hnews hlen hs hg hc1
 go_enter Go.Proofs.Tryz.func226,Go.Proofs.Tryz.ntmps226
 go_wp2_with fail
 go_region_law_o (refine step_append_room rfl (.tmp 22) (.tmp 25) 156 rfl 176 i0 2 hu hi0 hsz g 0 0 cap (by simp[Act.eval,Act.put]) A0 n (cap-1) news (by simp[Act.eval,Act.put]) s1.out hsrc.out s2.out (by omega) s3.out ?_;rw[←hW.out])
 go_wp2
 go_ret
 exact fin
end Go.AmC
set_option linter.unusedSimpArgs false
set_option linter.unusedVariables false
set_option maxRecDepth 20000
set_option maxHeartbeats 4000000
namespace Go.AmC
open Go Go.AM
open Go.Proofs.Tryz (prog)
theorem Oc (p:Put) (r:List Put):Says prog 226 [.osl 1 176 (r.length+1) (Ows ((p::r).flatMap Put.d)),.int .i64 0,.int .i64 1] (.osl 0 176 r.length (Ows (r.flatMap Put.d))) (num 1 [.gone 0]):=by
 intro w Φ σ cargs fa hcr hh hinv
 have hcell:prog.cellsOf 176=2:=by kernel_rfl
 have hsc:∀ l:List Put,∀ d∈l.flatMap Put.d,isL d=false:=fun l d hd=>by
  obtain⟨x,_,hx⟩:=List.mem_flatMap.1 hd
  obtain⟨a,b⟩:=x
  simp[Put.d] at hx
  rcases hx with rfl|rfl<;>rfl
 simp only[CR] at hcr
 obtain⟨v,_,f1,_,hca,hv,⟨v2,_,f2,_,rfl,hv2,⟨v3,_,f3,_,rfl,hv3,⟨rfl,hz4⟩,hs3⟩,hs2⟩,hs1⟩:=hcr
 simp only[VR] at hv hv2 hv3
 obtain⟨rfl,hz2⟩:=hv2
 obtain⟨rfl,hz3⟩:=hv3
 obtain⟨_,hr1,xs,fx,ho,hx,hfx⟩:=hv
 obtain⟨rfl,hz5⟩:=MK (hsc _) hx
 rw[hcell] at ho
 have hcargs:cargs=#[v,.int .i64 0,.int .i64 1]:=by
  apply Array.toList_inj.1;rw[hca]
 rw[hcargs]
 rcases ho.2 with ⟨rfl,h0⟩|⟨g,cap,cur,rfl,_,hg,hn,hcm,hs,ht⟩
 ·omega
 have hown:∀ (n c b:Nat),jF (.slice (some ⟨g,0,none⟩) n c) b=if b=g then 1 else 0:=fun n c b=>by
  simp[jF,Value.ownBlock,eq_comm]
 have hfa:∀ b,fa b=if b=g then 1 else 0:=fun b=>by
  rw[←hown (r.length+1) cap b,hs1 b,hs2 b,hs3 b,hz2 b,hz3 b,hz4 b,hfx b,hz5 b];omega
 have hgl:g<w.heap.size:=(Array.getElem?_eq_some_iff.1 hg).1
 refine (Ik w g cap r.length cur hn hcm hg hs (fun x hx=>?_)).mono ?_
 ·rw[ht] at hx
  obtain⟨d,hd,rfl⟩:=List.mem_map.1 hx
  have:=hsc _ d hd
  cases d<;>simp[isL] at this<;>rfl
 rintro en w' ⟨cur',rfl,hg',hs',ht',hos,htape,hout,hsize,hblk⟩
 have hrow:cur'.toList.take (r.length*2)=(r.flatMap Put.d).map dv:=by
  rw[ht',ht];simp[Put.d]
 have hΦg:∀ b,Φ b→b≠g:=fun b hb e=>by
  have h1:=hinv.apart b hb;have h2:=hfa b
  rw[if_pos e] at h2;omega
 refine⟨_,Φ,fun b=>if b=g then 1 else 0,fun _=>0,rfl,⟨hos,htape,hout,Nat.le_of_eq hsize.symm,fun b hb1 hb2=>hblk b fun e=>?_⟩,fun _ h=>h,fun _ h=>.inl h,?_,by simp only[hr];exact aQ _,?_,rfl,?_,fun b hb=>?_⟩
 ·have h2:=hfa b;rw[if_pos e] at h2;omega
 ·simp only[VR]
  refine⟨fun h=>absurd rfl h,aQ _,(r.flatMap Put.d).map dv,fun _=>0,⟨?_,.inr ⟨g,cap,cur',rfl,Nat.zero_le _,hg',by omega,hcm,by rw[hcell];exact hs',?_⟩⟩,IZ (hsc _),fun b=>by rw[hown];rfl⟩
  ·rw[hcell,List.length_map,jg Put.d 2 Put.d_len]
  ·rw[hcell];exact hrow
 ·exact iG (v:=.gone 0) (by simp[VR])
 ·refine⟨fun b=>?_,fun b hb=>?_,fun b hb=>?_,fun b hb=>?_,iT hinv.tab (fun b hb=>hblk b (hΦg b hb)) (fun _ h=>h)⟩
  ·show (if b=g then 1 else 0)+0≤1
   split<;>omega
  ·by_cases e:b=g
   ·rw[e,hsize];exact hgl
   ·simp[e] at hb
  ·rw[hsize];exact hinv.fz b hb
  ·show (if b=g then 1 else 0)+0=0
   rw[if_neg (hΦg b hb)]
 ·left
  rw[hfa b]
  simpa using hb
theorem auQ:dZ prog 226=true:=by kernel_rfl
set_option maxHeartbeats 8000000
theorem Ic (s n k:Nat) (mem out:List Int) (A B:List D) (h:Hand) (t:Bool) (hA:A.length=k*6) (hk:k<n) (hn:n≤1000) (hs0:s≠0) (hs:h.Shelf.length≤1000) (hm:mem.length≤100000) :
  Says prog 154 [.bx 1 49 (mF s n mem out A h B t),.int .i64 (k:Int)] (.bool (dP mem h t).2.2) (num 1 [.bx 1 49 (mF s n (dP mem h t).1 out A (dP mem h t).2.1 B t)]):=by
 have hw:IntKind.i64.wrap ((n:Int)-1)=(n:Int)-1:=by rw[bJ]<;>omega
 have hwm:IntKind.i64.wrap ((mem.length:Int)-1)=(mem.length:Int)-1:=by rw[bJ]<;>omega
 have g:=iE (k:Int) 0 ((n:Int)-1)
 have c0:(decide (0≤(k:Int))&&decide ((k:Int)≤(n:Int)-1))=true:=by simp;omega
 rw[c0] at g
 have p3:0<s:=by omega
 obtain⟨pc,st,rg,sh,he,dn⟩:=h
 simp only at hs
 refine kX [1] [_] Go.Proofs.Tryz.func154 awx (by simp) ?_
 cases t with
 | true=>cases sh<;>simp[v154,abx,mF,hRow,hC,hk,md hA,md0 hA,mg hA,mg0 hA,ms hA,ms0 hA,mp hA,mp0 hA,lh hA,spl,sp0,sp1,sp2,sp3,sq0,sq1,aY,bf,-List.length_flatMap,aC,aF,aJ,aI,aH,aO,aj,au,aG,ax,aP,aZ,aU,bg,ak,bF,bD,bi,bn,az,aV,aW,ai,af,ah,ay,aQ,-bz,bK,bu,bY,dh,bU,bV,bI,bQ,bT,cO,df,bG,bW,bP,cZ,dP,hs0]
 | false =>
  cases sh with
  | nil =>
   simp[v154,abx,mF,hRow,hC,hk,md hA,md0 hA,mg hA,mg0 hA,ms hA,ms0 hA,mp hA,mp0 hA,lh hA,spl,sp0,sp1,sp2,sp3,sq0,sq1,aY,bf,-List.length_flatMap,aC,aF,aJ,aI,aH,aO,aj,au,aG,ax,aP,aZ,aU,bg,ak,bF,bD,bi,bn,az,aV,aW,ai,af,ah,ay,aQ,-bz,bK,bu,bY,dh,bU,bV,bI,bQ,bT,cO,df,bG,bW,bP,cZ,dP,hs0,hw]
   refine aX g ?_
   simp[mF,hRow,hC,hk,md hA,md0 hA,mg hA,mg0 hA,ms hA,ms0 hA,mp hA,mp0 hA,lh hA,spl,sp0,sp1,sp2,sp3,sq0,sq1,aY,bf,-List.length_flatMap,aC,aF,aJ,aI,aH,aO,aj,au,aG,ax,aP,aZ,aU,bg,ak,bF,bD,bi,bn,az,aV,aW,ai,af,ah,ay,aQ,-bz,bK,bu,bY,dh,bU,bV,bI,bQ,bT,cO,df,bG,bW,bP,cZ,hs0]
  | cons p r =>
   obtain⟨At,N⟩:=p
   have f:=Oc ⟨At,N⟩ r
   have hs':r.length≤100000:=by simp at hs;omega
   have f2:=iE At 0 ((mem.length:Int)-1)
   simp at f
   simp[v154,abx,mF,hRow,hC,hk,md hA,md0 hA,mg hA,mg0 hA,ms hA,ms0 hA,mp hA,mp0 hA,lh hA,spl,sp0,sp1,sp2,sp3,sq0,sq1,aY,bf,-List.length_flatMap,aC,aF,aJ,aI,aH,aO,aj,au,aG,ax,aP,aZ,aU,bg,ak,bF,bD,bi,bn,az,aV,aW,ai,af,ah,ay,aQ,-bz,bK,bu,bY,dh,bU,bV,bI,bQ,bT,cO,df,bG,bW,bP,cZ,dP,hs0,hw,aY]
   refine aX g ?_
   simp[mF,hRow,hC,hk,md hA,md0 hA,mg hA,mg0 hA,ms hA,ms0 hA,mp hA,mp0 hA,lh hA,spl,sp0,sp1,sp2,sp3,sq0,sq1,aY,bf,-List.length_flatMap,aC,aF,aJ,aI,aH,aO,aj,au,aG,ax,aP,aZ,aU,bg,ak,bF,bD,bi,bn,az,aV,aW,ai,af,ah,ay,aQ,-bz,bK,bu,bY,dh,bU,bV,bI,bQ,bT,cO,df,bG,bW,bP,cZ,hs0,aY]
   refine eQ [_] auQ (ik f (by simp[mF,hRow,hC,hk,md hA,md0 hA,mg hA,mg0 hA,ms hA,ms0 hA,mp hA,mp0 hA,lh hA,spl,sp0,sp1,sp2,sp3,sq0,sq1,aY,bf,-List.length_flatMap,aC,aF,aJ,aI,aH,aO,aj,au,aG,ax,aP,aZ,aU,bg,ak,bF,bD,bi,bn,az,aV,aW,ai,af,ah,ay,aQ,-bz,bK,bu,bY,dh,bU,bV,bI,bQ,bT,cO,df,bG,bW,bP,cZ])) ?_
   simp[mF,hRow,hC,hk,md hA,md0 hA,mg hA,mg0 hA,ms hA,ms0 hA,mp hA,mp0 hA,lh hA,spl,sp0,sp1,sp2,sp3,sq0,sq1,aY,bf,-List.length_flatMap,aC,aF,aJ,aI,aH,aO,aj,au,aG,ax,aP,aZ,aU,bg,ak,bF,bD,bi,bn,az,aV,aW,ai,af,ah,ay,aQ,-bz,bK,bu,bY,dh,bU,bV,bI,bQ,bT,cO,df,bG,bW,bP,cZ,hs0,p3,aY,hwm]
   refine aX f2 ?_
   by_cases c:0≤At∧At<mem.length
   ·obtain⟨i,rfl⟩:=Int.eq_ofNat_of_zero_le c.1
    have hi:i<mem.length:=by have:=c.2;omega
    have c1:(i:Int)≤(mem.length:Int)-1:=by omega
    have hi2:i+1≤mem.length:=hi
    obtain⟨v,hv⟩:=cu hi
    simp[mF,hRow,hC,hk,md hA,md0 hA,mg hA,mg0 hA,ms hA,ms0 hA,mp hA,mp0 hA,lh hA,spl,sp0,sp1,sp2,sp3,sq0,sq1,aY,bf,-List.length_flatMap,aC,aF,aJ,aI,aH,aO,aj,au,aG,ax,aP,aZ,aU,bg,ak,bF,bD,bi,bn,az,aV,aW,ai,af,ah,ay,aQ,-bz,bK,bu,bY,dh,bU,bV,bI,bQ,bT,cO,df,bG,bW,bP,cZ,hs0,p3,BH,aY,hi,hi2,c1,ints_set,iw hi,ints_at hv]
   ·have c1:¬(0≤At∧At≤(mem.length:Int)-1):=by omega
    have c2:(decide (0≤At)&&decide (At≤(mem.length:Int)-1))=false:=by simpa using c1
    rw[c2]
    simp[mF,hRow,hC,hk,md hA,md0 hA,mg hA,mg0 hA,ms hA,ms0 hA,mp hA,mp0 hA,lh hA,spl,sp0,sp1,sp2,sp3,sq0,sq1,aY,bf,-List.length_flatMap,aC,aF,aJ,aI,aH,aO,aj,au,aG,ax,aP,aZ,aU,bg,ak,bF,bD,bi,bn,az,aV,aW,ai,af,ah,ay,aQ,-bz,bK,bu,bY,dh,bU,bV,bI,bQ,bT,cO,df,bG,bW,bP,cZ,hs0,p3,BH,aY,c]
theorem Ee:dZ prog 154=true:=by kernel_rfl
set_option linter.unusedSectionVars false
def pU (mem out:List Int) (h:Hand) (t:Bool) (i:Ins):List Int × List Int × Hand × Bool :=
 if (dB h t).2.2=true then (mem,out,(dB h t).2.1,true)
 else if i.Op=3 then (mem,out,kD { (dB h t).2.1 with Regs:=(dB h t).2.1.Regs.set i.A.toNat (dB h t).1 },false)
 else if i.Op=15 then (mem,out++[(dB h t).1],kD (dB h t).2.1,false)
 else (mem.set i.A.toNat (dB h t).1,out,kD (dB h t).2.1,false)
theorem qH (h:Hand) (t:Bool):(dB h t).2.1.Regs=h.Regs∧(dB h t).2.1.Shelf=h.Shelf:=by
 unfold dB;split<;>simp[gy]
section
variable (s2 s3 n k : Nat) (mem out : List Int) (A B : List D) (h : Hand) (t : Bool) (lc : List AV) (cn : Nat) (cc : List AV) (hA : A.length = k * 6) (hk : k < n) (hs2 : s2 ≠ 0) (hs3 : s3 ≠ 0)
include hA hk hs2 hs3
theorem GV (i:Ins) (hs:h.Stack.length≤1000) (hpc:0≤h.Pc∧h.Pc≤4000) (ho:out.length≤1000000000) (hop:i.Op=3∨i.Op=15∨i.Op=17) (ha1:i.Op=3→0≤i.A∧i.A<h.Regs.length) (ha2:i.Op=17→0≤i.A∧i.A<mem.length) :
  kR prog 275 [.bx 1 182 (sC s2 s3 n mem out A h B t lc cn cc),.pp 0 [0,0,1] (k*6),.agg (Cs i.d)] (.tup [] []) (num 1 [.bx 1 182 (sC s2 s3 n (pU mem out h t i).1 (pU mem out h t i).2.1 A (pU mem out h t i).2.2.1 B (pU mem out h t i).2.2.2 lc cn cc)]):=by
 have p2:0<s2:=by omega
 have p3:0<s3:=by omega
 have f:=nJ (s2+1000) (s3+1000) n k mem out A B h t lc cn cc hA hk (by omega) (by omega) hs
 obtain⟨l1,l2⟩:=lJ h t
 obtain⟨l3,l4⟩:=qH h t
 unfold pU
 rw[←l3] at ha1
 generalize dB h t=F at f l1 l2 l3 l4 ha1 ⊢
 obtain⟨x,⟨pc,st,rg,sh,he,dn⟩,t1⟩:=F
 simp only at l1 l2 l3 l4 ha1
 obtain⟨op,a,ib⟩:=i
 simp only at hop ha1 ha2
 have w4:IntKind.i64.wrap (pc+1)=pc+1:=by rw[bJ]<;>omega
 have hb:out.length+1≤bnd:=by unfold bnd;omega
 have hb0:out.length≤bnd:=by unfold bnd;omega
 simp[sC,mF,hRow,hC] at f
 obtain⟨pc0,st0,rg0,sh0,he0,dn0⟩:=h
 refine vI [1] [_] Go.Proofs.Tryz.func275 avq (by simp) ?_
 simp only at f
 simp[aDL,aEU,sC,mF,hRow,hC,hk,md hA,md0 hA,mg hA,mg0 hA,ms hA,ms0 hA,mp hA,mp0 hA,lh hA,spl,sp0,sp1,sp2,sp3,sq0,sq1,aY,bf,-List.length_flatMap,aC,aF,aJ,aI,aH,aO,aj,au,aG,ax,aP,aZ,aU,bg,ak,bF,bD,bi,bn,az,aV,aW,ai,af,ah,ay,aQ,-bz,bK,bu,bY,dh,bU,bV,bI,bQ,bT,cO,df,bG,bW,bP,cZ,hs2,hs3]
 refine eQ [_] rfl f ?_
 cases t1 with
 | true=>simp[mF,hRow,hC,hk,md hA,md0 hA,mg hA,mg0 hA,ms hA,ms0 hA,mp hA,mp0 hA,lh hA,spl,sp0,sp1,sp2,sp3,sq0,sq1,aY,bf,-List.length_flatMap,aC,aF,aJ,aI,aH,aO,aj,au,aG,ax,aP,aZ,aU,bg,ak,bF,bD,bi,bn,az,aV,aW,ai,af,ah,ay,aQ,-bz,bK,bu,bY,dh,bU,bV,bI,bQ,bT,cO,df,bG,bW,bP,cZ,hs2,hs3,p2,p3]
 | false =>
  rcases hop with rfl|rfl|rfl
  ·obtain⟨q0,q1⟩:=ha1 rfl
   obtain⟨j,rfl⟩:=Int.eq_ofNat_of_zero_le q0
   have hj:j<rg.length:=by omega
   have hj1:j+1≤rg.length:=hj
   have hv:=jP hj
   simp[mF,hRow,hC,hk,md hA,md0 hA,mg hA,mg0 hA,ms hA,ms0 hA,mp hA,mp0 hA,lh hA,spl,sp0,sp1,sp2,sp3,sq0,sq1,aY,bf,-List.length_flatMap,aC,aF,aJ,aI,aH,aO,aj,au,aG,ax,aP,aZ,aU,bg,ak,bF,bD,bi,bn,az,aV,aW,ai,af,ah,ay,aQ,-bz,bK,bu,bY,dh,bU,bV,bI,bQ,bT,cO,df,bG,bW,bP,cZ,hs2,hs3,p2,p3,w4,kD,hj,hj1,ints_at hv,iw hj,ints_set _ hj]
  ·simp[mF,hRow,hC,hk,md hA,md0 hA,mg hA,mg0 hA,ms hA,ms0 hA,mp hA,mp0 hA,lh hA,spl,sp0,sp1,sp2,sp3,sq0,sq1,aY,bf,-List.length_flatMap,aC,aF,aJ,aI,aH,aO,aj,au,aG,ax,aP,aZ,aU,bg,ak,bF,bD,bi,bn,az,aV,aW,ai,af,ah,ay,aQ,-bz,bK,bu,bY,dh,bU,bV,bI,bQ,bT,cO,df,bG,bW,bP,cZ,hs2,hs3,p2,p3,w4,kD,hb,hb0]
   refine asY ?zE ?zA ?zB ?zC
   case zA =>
    simp[Eu,yz,OpW,mF,hRow,hC,hk,md hA,md0 hA,mg hA,mg0 hA,ms hA,ms0 hA,mp hA,mp0 hA,lh hA,spl,sp0,sp1,sp2,sp3,sq0,sq1,aY,bf,-List.length_flatMap,aC,aF,aJ,aI,aH,aO,aj,au,aG,ax,aP,aZ,aU,bg,ak,bF,bD,bi,bn,az,aV,aW,ai,af,ah,ay,aQ,-bz,bK,bu,bY,dh,bU,bV,bI,bQ,bT,cO,df,bG,bW,bP,cZ,hs2,hs3,p2,p3,w4,kD,hb,hb0]
    exact rfl
   case zB=>simp[mF,hRow,hC,hk,md hA,md0 hA,mg hA,mg0 hA,ms hA,ms0 hA,mp hA,mp0 hA,lh hA,spl,sp0,sp1,sp2,sp3,sq0,sq1,aY,bf,-List.length_flatMap,aC,aF,aJ,aI,aH,aO,aj,au,aG,ax,aP,aZ,aU,bg,ak,bF,bD,bi,bn,az,aV,aW,ai,af,ah,ay,aQ,-bz,bK,bu,bY,dh,bU,bV,bI,bQ,bT,cO,df,bG,bW,bP,cZ,hs2,hs3]
   case zC=>simp[mF,hRow,hC,hk,md hA,md0 hA,mg hA,mg0 hA,ms hA,ms0 hA,mp hA,mp0 hA,lh hA,spl,sp0,sp1,sp2,sp3,sq0,sq1,aY,bf,-List.length_flatMap,aC,aF,aJ,aI,aH,aO,aj,au,aG,ax,aP,aZ,aU,bg,ak,bF,bD,bi,bn,az,aV,aW,ai,af,ah,ay,aQ,-bz,bK,bu,bY,dh,bU,bV,bI,bQ,bT,cO,df,bG,bW,bP,cZ,hs2,hs3,p2,p3,w4,kD]
  ·obtain⟨q0,q1⟩:=ha2 rfl
   obtain⟨j,rfl⟩:=Int.eq_ofNat_of_zero_le q0
   have hj:j<mem.length:=by omega
   have hj1:j+1≤mem.length:=hj
   have hv:=jP hj
   simp[mF,hRow,hC,hk,md hA,md0 hA,mg hA,mg0 hA,ms hA,ms0 hA,mp hA,mp0 hA,lh hA,spl,sp0,sp1,sp2,sp3,sq0,sq1,aY,bf,-List.length_flatMap,aC,aF,aJ,aI,aH,aO,aj,au,aG,ax,aP,aZ,aU,bg,ak,bF,bD,bi,bn,az,aV,aW,ai,af,ah,ay,aQ,-bz,bK,bu,bY,dh,bU,bV,bI,bQ,bT,cO,df,bG,bW,bP,cZ,hs2,hs3,p2,p3,w4,kD,hj,hj1,ints_at hv,iw hj,ints_set _ hj]
end
end Go.AmC
