import Derived.Test.YtafglhcclmbnbaaGreatLocksMachD
import Derived.Test.YtafglhcclmbnbaaGreatLocksMachT
import Derived.Test.YtafglhcclmbnbaaGreatAmGrow
set_option linter.unusedSimpArgs false
set_option linter.unusedVariables false
set_option maxRecDepth 20000
set_option maxHeartbeats 4000000
namespace Go.AmC
open Go Go.AM
open Go.Proofs.Tryz (prog)
def w32 (n:Int):Int:=IntKind.i32.wrap n
theorem lI (n:Int):-2147483648≤w32 n∧w32 n≤2147483647:=by
 unfold w32
 simp only[IntKind.wrap,IntKind.bits,IntKind.signed]
 simp
 split<;>omega
theorem acW (n:Int):IntKind.i64.wrap (w32 n)=w32 n:=by have:=lI n;rw[bJ]<;>omega
theorem nR (n:Int):Says prog 321 [.int .i64 n] (.int .i64 (w32 n)) []:=by
 refine dD Go.Proofs.Tryz.func321 avb ?_
 have:=acW n
 unfold w32 at this ⊢
 simp[aDz,aEI,this]
theorem Ol (n:Int):BU .and .i64 n 4294967295=n%4294967296:=by
 have h:((BitVec.ofInt 64 n &&& BitVec.ofInt 64 4294967295).toNat:Int)=n%4294967296:=by
  have h1:(BitVec.ofInt 64 4294967295)=BitVec.ofNat 64 4294967295:=by decide
  rw[h1,BitVec.toNat_and]
  have h2:(BitVec.ofNat 64 4294967295).toNat=2 ^ 32-1:=by decide
  rw[h2,Nat.and_two_pow_sub_one_eq_mod,BitVec.toNat_ofInt]
  simp
  omega
 unfold BU
 show IntKind.i64.wrap ((BitVec.ofInt 64 n &&& BitVec.ofInt 64 4294967295).toNat:Int)=_
 rw[h,bJ]<;>omega
theorem lS (n:Int):Says prog 279 [.int .i64 n] (.int .i64 (w32 n)) []:=by
 refine dD Go.Proofs.Tryz.func279 avm ?_
 have hb:=Ol n
 have hv:w32 n=if 2147483648≤n%4294967296 then n%4294967296-4294967296 else n%4294967296:=by
  unfold w32
  simp only[IntKind.wrap,IntKind.bits,IntKind.signed]
  first|(simp;done)|(simp;split<;>split<;>omega)
 by_cases c:2147483648≤n%4294967296
 ·have hw:IntKind.i64.wrap (n%4294967296-4294967296)=n%4294967296-4294967296:=by rw[bJ]<;>omega
  rw[hv,if_pos c]
  simp[ath,atC,hb,c,hw]
 ·rw[hv,if_neg c]
  simp[ath,atC,hb,c]
def MS (a b:Int):Int:=w32 (w32 a+w32 b)
def S9 (a b:Int):Int:=w32 (w32 a-w32 b)
def TR (a b:Int):Int:=w32 (w32 a*w32 b)
theorem MH (a b:Int):IntKind.i64.wrap (w32 a+w32 b)=w32 a+w32 b:=by have:=lI a;have:=lI b;rw[bJ]<;>omega
theorem L6 (a b:Int):IntKind.i64.wrap (w32 a-w32 b)=w32 a-w32 b:=by have:=lI a;have:=lI b;rw[bJ]<;>omega
theorem Md (a b:Int):IntKind.i64.wrap (w32 a*w32 b)=w32 a*w32 b:=by
 have h1:=lI a;have h2:=lI b
 have:-4611686018427387904≤w32 a*w32 b∧w32 a*w32 b≤4611686018427387904:=by
  have e:(w32 a*w32 b).natAbs=(w32 a).natAbs*(w32 b).natAbs:=Int.natAbs_mul _ _
  have e2:(w32 a).natAbs*(w32 b).natAbs≤2147483648*2147483648:=Nat.mul_le_mul (by omega) (by omega)
  omega
 rw[bJ]<;>omega
theorem DW (a b:Int):Says prog 268 [.int .i64 a,.int .i64 b] (.int .i64 (MS a b)) []:=by
 refine dD Go.Proofs.Tryz.func268 avx ?_
 simp[aDP,aEY]
 repeat' (first|refine aX (nR _) ?_|refine bZ (nR _) ?_|(simp[MH,MS];done)|simp[MH])
theorem Lt (a b:Int):Says prog 352 [.int .i64 a,.int .i64 b] (.int .i64 (S9 a b)) []:=by
 refine dD Go.Proofs.Tryz.func352 au6 ?_
 simp[aDx,aEG]
 repeat' (first|refine aX (nR _) ?_|refine bZ (nR _) ?_|(simp[L6,S9];done)|simp[L6])
theorem LM (a b:Int):Says prog 353 [.int .i64 a,.int .i64 b] (.int .i64 (TR a b)) []:=by
 refine dD Go.Proofs.Tryz.func353 au5 ?_
 simp[aDw,aEF]
 repeat' (first|refine aX (nR _) ?_|refine bZ (nR _) ?_|(simp[Md,TR];done)|simp[Md])
theorem LZ (a b:Int):Says prog 280 [.int .i64 a,.int .i64 b] (.int .i64 (MS a b)) []:=by
 refine dD Go.Proofs.Tryz.func280 avl ?_
 simp[aDI,aER]
 repeat' (first|refine aX (lS _) ?_|refine bZ (lS _) ?_|(simp[MH,MS];done)|simp[MH])
theorem Ls (a b:Int):Says prog 281 [.int .i64 a,.int .i64 b] (.int .i64 (S9 a b)) []:=by
 refine dD Go.Proofs.Tryz.func281 avk ?_
 simp[aDH,aEQ]
 repeat' (first|refine aX (lS _) ?_|refine bZ (lS _) ?_|(simp[L6,S9];done)|simp[L6])
theorem LJ (a b:Int):Says prog 282 [.int .i64 a,.int .i64 b] (.int .i64 (TR a b)) []:=by
 refine dD Go.Proofs.Tryz.func282 avj ?_
 simp[aDG,aEP]
 repeat' (first|refine aX (lS _) ?_|refine bZ (lS _) ?_|(simp[Md,TR];done)|simp[Md])
def opE (k a b:Int):Int:=if k=4 then MS a b else if k=5 then S9 a b else if k=6 then TR a b else if k=7 then (if b<a then b else a) else (if b > a then b else a)
theorem TM (k a b:Int):Says prog 323 [.int .i64 k,.int .i64 a,.int .i64 b] (.int .i64 (opE k a b)) []:=by
 refine dD Go.Proofs.Tryz.func323 au9 ?_
 by_cases c4:k=4
 ·simp[OE,OT,c4,opE]
  refine aX (DW _ _) ?_
  simp
 by_cases c5:k=5
 ·simp[OE,OT,c5,opE]
  refine aX (Lt _ _) ?_
  simp
 by_cases c6:k=6
 ·simp[OE,OT,c6,opE]
  refine aX (LM _ _) ?_
  simp
 by_cases c7:k=7
 ·simp[OE,OT,c7,opE]
 simp[OE,OT,c4,c5,c6,c7,opE]
theorem TK (k a b:Int) (hk:4≤k∧k≤8):Says prog 219 [.int .i64 k,.int .i64 a,.int .i64 b] (.int .i64 (opE k a b)) []:=by
 refine dD Go.Proofs.Tryz.func219 avU ?_
 by_cases c4:k=4
 ·simp[Fz,FT,c4,opE]
  refine aX (LZ _ _) ?_
  simp
 by_cases c5:k=5
 ·simp[Fz,FT,c5,opE]
  refine aX (Ls _ _) ?_
  simp
 by_cases c6:k=6
 ·simp[Fz,FT,c6,opE]
  refine aX (LJ _ _) ?_
  simp
 by_cases c7:k=7
 ·by_cases h:b<a
  ·have h':¬a<b:=by omega
   simp[Fz,FT,c7,opE,h,h']
  ·by_cases h2:a<b
   ·simp[Fz,FT,c7,opE,h,h2]
   ·have:a=b:=by omega
    simp[Fz,FT,c7,opE,this]
 have c8:k=8:=by omega
 by_cases h:a<b
 ·have h':¬b<a:=by omega
  simp[Fz,FT,c8,opE,h,h']
 ·by_cases h2:b<a
  ·simp[Fz,FT,c8,opE,h,h2]
  ·have:a=b:=by omega
   simp[Fz,FT,c8,opE,this]
def lU (mem:List Int) (i:Nat):Int:=mem.getD i 0
def rO (mem:List Int) (n b:Nat) (v:Int):Bool:=(List.range n).all fun j=>decide (v≤lU mem (b+j))
def yw (mem:List Int) (n b k:Nat) (h:Hand):Bool × List Int × Hand :=
 if h.Here=false then (true,mem.set (b+k) (w32 (lU mem (b+k)+1)),{ h with Here:=true })
 else if rO mem n b (lU mem (b+k))=true then (true,mem,{ h with Here:=false,Pc:=h.Pc+1 }) else (false,mem,h)
theorem jP {mem:List Int} {i:Nat} (h:i<mem.length):mem[i]?=some (lU mem i):=by
 unfold lU;rw[List.getD_eq_getElem?_getD,List.getElem?_eq_getElem h];rfl
theorem Om (s n k b:Nat) (mem out:List Int) (A B:List D) (h:Hand) (t:Bool) (hA:A.length=k*6) (hk:k<n) (hn:n≤4) (hm:mem.length≤100000) (hmb:mem.length=b+4)
  (hw:∀ x∈mem,-2147483648≤x∧x≤2147483647) (hpc:0≤h.Pc∧h.Pc≤4000) :
  Says prog 213 [.bx 1 49 (mF s n mem out A h B t),.int .i64 (k:Int)] (.bool (yw mem n b k h).1) (num 1 [.bx 1 49 (mF s n (yw mem n b k h).2.1 out A (yw mem n b k h).2.2 B t)]):=by
 have hi:b+k<mem.length:=by omega
 have hv:=jP hi
 have hr:=hw _ (List.mem_of_getElem? hv)
 have w1:IntKind.i64.wrap ((mem.length:Int)-4)=(b:Int):=by rw[bJ]<;>omega
 have w2:IntKind.i64.wrap ((b:Int)+k)=((b+k:Nat):Int):=by rw[bJ]<;>omega
 have w3:IntKind.i64.wrap (lU mem (b+k)+1)=lU mem (b+k)+1:=by rw[bJ]<;>omega
 have w4:IntKind.i64.wrap (h.Pc+1)=h.Pc+1:=by rw[bJ]<;>omega
 have i1:((b+k:Nat):Int)<mem.length:=by omega
 have i2:b+k+1≤mem.length:=hi
 have i0:(0:Int)≤((b+k:Nat):Int):=Int.natCast_nonneg _
 have i3:((b+k:Nat):Int).toNat=b+k:=Int.toNat_natCast _
 have f:=lS (lU mem (b+k)+1)
 obtain⟨pc,st,rg,sh,he,dn⟩:=h
 simp only at hpc w4
 unfold yw
 generalize lU mem (b+k)=v at *
 refine kX [1] [_] Go.Proofs.Tryz.func213 av1 (by simp) ?_
 have loop:∀ i,i<n→∃ u,mem[b+i]?=some u∧lU mem (b+i)=u∧b+i<mem.length:=fun i hi=>⟨_,jP (by omega),rfl,by omega⟩
 cases he with
 | false =>
  simp[-Int.natCast_add,atr,atL,mF,hRow,hC,hk,md hA,md0 hA,mg hA,mg0 hA,ms hA,ms0 hA,mp hA,mp0 hA,lh hA,spl,sp0,sp1,sp2,sp3,sq0,sq1,aY,bf,-List.length_flatMap,aC,aF,aJ,aI,aH,aO,aj,au,aG,ax,aP,aZ,aU,bg,ak,bF,bD,w1,w2,w3,i0,i1,i2,i3,ints_at hv,iw hi]
  refine bZ f ?_
  simp[-Int.natCast_add,mF,hRow,hC,hk,md hA,md0 hA,mg hA,mg0 hA,ms hA,ms0 hA,mp hA,mp0 hA,lh hA,spl,sp0,sp1,sp2,sp3,sq0,sq1,aY,bf,-List.length_flatMap,aC,aF,aJ,aI,aH,aO,aj,au,aG,ax,aP,aZ,aU,bg,ak,bF,bD,i0,i1,i2,i3,ints_at hv,iw hi,ints_set _ hi]
 | true =>
  have hI:rO mem n b v=true∨∃ i,i<n∧lU mem (b+i)<v:=by
   cases c:rO mem n b v with
   | true=>exact .inl rfl
   | false =>
    unfold rO at c
    rw[List.all_eq_false] at c
    obtain⟨i,h1,h2⟩:=c
    exact .inr ⟨i,List.mem_range.1 h1,by simpa using h2⟩
  have hJ:∀ i,i<n→lU mem (b+i)<v→rO mem n b v=false:=fun i h1 h2=>by
   unfold rO;rw[List.all_eq_false];exact⟨i,List.mem_range.2 h1,by simpa using h2⟩
  simp[-Int.natCast_add,atr,atL,mF,hRow,hC,hk,md hA,md0 hA,mg hA,mg0 hA,ms hA,ms0 hA,mp hA,mp0 hA,lh hA,spl,sp0,sp1,sp2,sp3,sq0,sq1,aY,bf,-List.length_flatMap,aC,aF,aJ,aI,aH,aO,aj,au,aG,ax,aP,aZ,aU,bg,ak,bF,bD,w1,w2,w3,i0,i1,i2,i3,ints_at hv,iw hi]
  refine eY (l:=Pj) (b:=Qw) rfl [8,9] (fun i=>[(7,.int .i64 i)]) (fun i=>∀ j,j<i→¬lU mem (b+j)<v) n (fun j hj=>absurd hj (by omega)) (by simp) ?_ ?_
  ·intro i hin hinv q hn hx hr
   obtain⟨u,hu,hu2,hil⟩:=loop i hin
   have z1:IntKind.i64.wrap ((b:Int)+i)=((b+i:Nat):Int):=by rw[bJ]<;>omega
   have z2:((b+i:Nat):Int)<mem.length:=by omega
   have z3:b+i+1≤mem.length:=hil
   have z4:(0:Int)≤((b+i:Nat):Int):=Int.natCast_nonneg _
   have z5:((b+i:Nat):Int).toNat=b+i:=Int.toNat_natCast _
   have z6:=wrap_succ (i:=i) (by omega)
   by_cases c:u<v
   ·rw[hJ i hin (by omega)] at hr
    simp[-Int.natCast_add,mF,hRow,hC,hk,md hA,md0 hA,mg hA,mg0 hA,ms hA,ms0 hA,mp hA,mp0 hA,lh hA,spl,sp0,sp1,sp2,sp3,sq0,sq1,aY,bf,-List.length_flatMap,aC,aF,aJ,aI,aH,aO,aj,au,aG,ax,aP,aZ,aU,bg,ak,bF,bD,hin,z1,z2,z3,z4,z5,i0,i1,i2,i3,ints_at hv,ints_at hu,iw hi,c]
    refine hr _ ?_
    simp
   ·simp[-Int.natCast_add,mF,hRow,hC,hk,md hA,md0 hA,mg hA,mg0 hA,ms hA,ms0 hA,mp hA,mp0 hA,lh hA,spl,sp0,sp1,sp2,sp3,sq0,sq1,aY,bf,-List.length_flatMap,aC,aF,aJ,aI,aH,aO,aj,au,aG,ax,aP,aZ,aU,bg,ak,bF,bD,hin,z1,z2,z3,z4,z5,z6,i0,i1,i2,i3,ints_at hv,ints_at hu,iw hi,c]
    refine hn _ ?_ ?_
    ·simp
    ·intro j hj
     rcases Nat.lt_or_ge j i with h1|h1
     ·exact hinv j h1
     ·have:j=i:=by omega
      subst this;omega
  ·intro hinv q hx hr
   have e:rO mem n b v=true:=by
    rcases hI with h1|⟨i,h1,h2⟩
    ·exact h1
    ·exact absurd h2 (hinv i h1)
   rw[e] at hx
   simp[-Int.natCast_add,mF,hRow,hC,hk,md hA,md0 hA,mg hA,mg0 hA,ms hA,ms0 hA,mp hA,mp0 hA,lh hA,spl,sp0,sp1,sp2,sp3,sq0,sq1,aY,bf,-List.length_flatMap,aC,aF,aJ,aI,aH,aO,aj,au,aG,ax,aP,aZ,aU,bg,ak,bF,bD]
   refine hx _ _ ?_
   simp[mF,hRow,hC,hk,md hA,md0 hA,mg hA,mg0 hA,ms hA,ms0 hA,mp hA,mp0 hA,lh hA,spl,sp0,sp1,sp2,sp3,sq0,sq1,aY,bf,-List.length_flatMap,aC,aF,aJ,aI,aH,aO,aj,au,aG,ax,aP,aZ,aU,bg,ak,bF,bD,w4]
def kD (h:Hand):Hand:={ h with Pc:=h.Pc+1 }
def mV (mem:List Int) (n b k:Nat) (h:Hand) (i:Ins):Bool × List Int × Hand × Bool :=
 if i.Op≠18∧h.Shelf≠[] then (true,(dP mem h false).1,(dP mem h false).2.1,false)
 else if i.Op=19 then (true,mem,{ h with Done:=true },false)
 else if i.Op=17 then (if h.Stack.isEmpty=true then (true,mem,gy h,true) else (true,mem.set i.A.toNat (iL h),kD (gy h),false))
 else if i.Op=16 then ((yw mem n b k h).1,(yw mem n b k h).2.1,(yw mem n b k h).2.2,false)
 else if h.Stack.isEmpty=true then (true,mem,h,true)
 else if lU mem i.A.toNat<iL h then (false,mem,h,false) else (true,mem,kD (gy h),false)
theorem GN (s n k b:Nat) (mem out:List Int) (A B:List D) (h:Hand) (i:Ins) (hA:A.length=k*6) (hk:k<n) (hn:n≤4) (hs0:s≠0) (hm:mem.length≤100000) (hmb:mem.length=b+4) (hs:h.Stack.length≤1000) (hsh:h.Shelf.length≤1000)
  (hw:∀ x∈mem,-2147483648≤x∧x≤2147483647) (hpc:0≤h.Pc∧h.Pc≤4000) (ha:i.Op=17∨i.Op=18→0≤i.A∧i.A<mem.length) (hop:16≤i.Op∧i.Op≤19) :
  Says prog 141 [.bx 1 49 (mF s n mem out A h B false),.int .i64 (k:Int),.agg (Cs i.d)] (.bool (mV mem n b k h i).1) (num 1 [.bx 1 49 (mF s n (mV mem n b k h i).2.1 out A (mV mem n b k h i).2.2.1 B (mV mem n b k h i).2.2.2)]):=by
 have hs1:¬s+1000=0:=by omega
 have hs2:0<s:=by omega
 have w4:IntKind.i64.wrap (h.Pc+1)=h.Pc+1:=by rw[bJ]<;>omega
 obtain⟨op,a,ib⟩:=i
 simp only at ha hop
 refine kX [1] [_] Go.Proofs.Tryz.func141 awH (by simp) ?_
 unfold mV
 by_cases c0:op≠18∧h.Shelf≠[]
 ·obtain⟨c18,csh⟩:=c0
  have fl:(dP mem h false).2.2=true:=by unfold dP;split<;>simp_all
  have f1:=Ad (s+1000) n k mem out A B h false hA hk hsh hm
  rw[fl] at f1
  simp[mF,hRow,hC] at f1
  obtain⟨pc,st,rg,sh,he,dn⟩:=h
  simp only at csh
  have hl:0<sh.length:=by cases sh<;>simp_all
  simp only[if_pos (And.intro c18 csh)]
  generalize dP mem _ false=F at f1 ⊢
  simp[v141,Hr,mF,hRow,hC,hk,md hA,md0 hA,mg hA,mg0 hA,ms hA,ms0 hA,mp hA,mp0 hA,lh hA,spl,sp0,sp1,sp2,sp3,sq0,sq1,aY,bf,-List.length_flatMap,aC,aF,aJ,aI,aH,aO,aj,au,aG,ax,aP,aZ,aU,bg,ak,bF,bD,bi,bn,az,aV,aW,ai,af,ah,ay,aQ,hs0,hs1,hs2,c18,csh,hl]
  refine eQ [_] rfl (ik f1 (by simp[mF,hRow,hC,hk,md hA,md0 hA,mg hA,mg0 hA,ms hA,ms0 hA,mp hA,mp0 hA,lh hA,spl,sp0,sp1,sp2,sp3,sq0,sq1,aY,bf,-List.length_flatMap,aC,aF,aJ,aI,aH,aO,aj,au,aG,ax,aP,aZ,aU,bg,ak,bF,bD,bi,bn,az,aV,aW,ai,af,ah,ay,aQ])) ?_
  simp[mF,hRow,hC,hk,md hA,md0 hA,mg hA,mg0 hA,ms hA,ms0 hA,mp hA,mp0 hA,lh hA,spl,sp0,sp1,sp2,sp3,sq0,sq1,aY,bf,-List.length_flatMap,aC,aF,aJ,aI,aH,aO,aj,au,aG,ax,aP,aZ,aU,bg,ak,bF,bD,bi,bn,az,aV,aW,ai,af,ah,ay,aQ,hs0,hs1,hs2]
 rw[if_neg c0]
 by_cases c18:op=18
 ·subst c18
  obtain⟨ha0,ha1⟩:=ha (.inr rfl)
  obtain⟨j,rfl⟩:=Int.eq_ofNat_of_zero_le ha0
  have hj:j<mem.length:=by omega
  have hv:=jP hj
  have hj1:j+1≤mem.length:=hj
  have f1:=mr (s+1000) n k mem out A B h false hA hk (by omega) hs
  obtain⟨pc,st,rg,sh,he,dn⟩:=h
  simp only at hpc w4 hs
  rcases uj st with rfl|⟨st',x,rfl⟩
  ·simp[v141,Hr,mF,hRow,hC,hk,md hA,md0 hA,mg hA,mg0 hA,ms hA,ms0 hA,mp hA,mp0 hA,lh hA,spl,sp0,sp1,sp2,sp3,sq0,sq1,aY,bf,-List.length_flatMap,aC,aF,aJ,aI,aH,aO,aj,au,aG,ax,aP,aZ,aU,bg,ak,bF,bD,bi,bn,az,aV,aW,ai,af,ah,ay,aQ,hs0,hs1,hs2]
  ·have hst:st'.length≤100000:=by simp at hs;omega
   have e0:((st'++[x]).isEmpty)=false:=aZ _ _
   simp only[e0] at f1
   simp[mF,hRow,hC,gy,iL] at f1
   obtain⟨v,hvv⟩:∃ v,lU mem j=v:=⟨_,rfl⟩
   rw[hvv] at hv
   by_cases c:v<x
   ·simp[v141,Hr,mF,hRow,hC,hk,md hA,md0 hA,mg hA,mg0 hA,ms hA,ms0 hA,mp hA,mp0 hA,lh hA,spl,sp0,sp1,sp2,sp3,sq0,sq1,aY,bf,-List.length_flatMap,aC,aF,aJ,aI,aH,aO,aj,au,aG,ax,aP,aZ,aU,bg,ak,bF,bD,bi,bn,az,aV,aW,ai,af,ah,ay,aQ,hs0,hs1,hs2,hj,hj1,ints_at hv,iw hj,EE hst,iL,hvv,c]
   ·simp[v141,Hr,mF,hRow,hC,hk,md hA,md0 hA,mg hA,mg0 hA,ms hA,ms0 hA,mp hA,mp0 hA,lh hA,spl,sp0,sp1,sp2,sp3,sq0,sq1,aY,bf,-List.length_flatMap,aC,aF,aJ,aI,aH,aO,aj,au,aG,ax,aP,aZ,aU,bg,ak,bF,bD,bi,bn,az,aV,aW,ai,af,ah,ay,aQ,hs0,hs1,hs2,hj,hj1,ints_at hv,iw hj,EE hst,iL,gy,kD,hvv,c]
    refine eQ [_] rfl (ik f1 (by simp[mF,hRow,hC,hk,md hA,md0 hA,mg hA,mg0 hA,ms hA,ms0 hA,mp hA,mp0 hA,lh hA,spl,sp0,sp1,sp2,sp3,sq0,sq1,aY,bf,-List.length_flatMap,aC,aF,aJ,aI,aH,aO,aj,au,aG,ax,aP,aZ,aU,bg,ak,bF,bD,bi,bn,az,aV,aW,ai,af,ah,ay,aQ])) ?_
    simp[mF,hRow,hC,hk,md hA,md0 hA,mg hA,mg0 hA,ms hA,ms0 hA,mp hA,mp0 hA,lh hA,spl,sp0,sp1,sp2,sp3,sq0,sq1,aY,bf,-List.length_flatMap,aC,aF,aJ,aI,aH,aO,aj,au,aG,ax,aP,aZ,aU,bg,ak,bF,bD,bi,bn,az,aV,aW,ai,af,ah,ay,aQ,hs0,hs1,hs2,w4]
 ·have hsh0:h.Shelf=[]:=by
   cases e:h.Shelf with
   | nil=>rfl
   | cons p r=>exact absurd ⟨c18,by simp[e]⟩ c0
  obtain⟨pc,st,rg,sh,he,dn⟩:=h
  simp only at hsh0 hpc w4 hs
  subst hsh0
  by_cases c19:op=19
  ·simp[v141,Hr,mF,hRow,hC,hk,md hA,md0 hA,mg hA,mg0 hA,ms hA,ms0 hA,mp hA,mp0 hA,lh hA,spl,sp0,sp1,sp2,sp3,sq0,sq1,aY,bf,-List.length_flatMap,aC,aF,aJ,aI,aH,aO,aj,au,aG,ax,aP,aZ,aU,bg,ak,bF,bD,bi,bn,az,aV,aW,ai,af,ah,ay,aQ,hs0,hs1,hs2,c19]
  by_cases c17:op=17
  ·subst c17
   obtain⟨ha0,ha1⟩:=ha (.inl rfl)
   obtain⟨j,rfl⟩:=Int.eq_ofNat_of_zero_le ha0
   have hj:j<mem.length:=by omega
   obtain⟨v,hv⟩:=cu hj
   have hj1:j+1≤mem.length:=hj
   have f1:=mr (s+1000) n k mem out A B ⟨pc,st,rg,[],he,dn⟩ false hA hk (by omega) hs
   rcases uj st with rfl|⟨st',x,rfl⟩
   ·simp[mF,hRow,hC,gy,iL] at f1
    simp[v141,Hr,mF,hRow,hC,hk,md hA,md0 hA,mg hA,mg0 hA,ms hA,ms0 hA,mp hA,mp0 hA,lh hA,spl,sp0,sp1,sp2,sp3,sq0,sq1,aY,bf,-List.length_flatMap,aC,aF,aJ,aI,aH,aO,aj,au,aG,ax,aP,aZ,aU,bg,ak,bF,bD,bi,bn,az,aV,aW,ai,af,ah,ay,aQ,hs0,hs1,hs2]
    refine eQ [_] rfl (ik f1 (by simp[mF,hRow,hC,hk,md hA,md0 hA,mg hA,mg0 hA,ms hA,ms0 hA,mp hA,mp0 hA,lh hA,spl,sp0,sp1,sp2,sp3,sq0,sq1,aY,bf,-List.length_flatMap,aC,aF,aJ,aI,aH,aO,aj,au,aG,ax,aP,aZ,aU,bg,ak,bF,bD,bi,bn,az,aV,aW,ai,af,ah,ay,aQ])) ?_
    simp[mF,hRow,hC,hk,md hA,md0 hA,mg hA,mg0 hA,ms hA,ms0 hA,mp hA,mp0 hA,lh hA,spl,sp0,sp1,sp2,sp3,sq0,sq1,aY,bf,-List.length_flatMap,aC,aF,aJ,aI,aH,aO,aj,au,aG,ax,aP,aZ,aU,bg,ak,bF,bD,bi,bn,az,aV,aW,ai,af,ah,ay,aQ,hs0,hs1,hs2,gy]
   ·have hst:st'.length≤100000:=by simp at hs;omega
    have e0:((st'++[x]).isEmpty)=false:=aZ _ _
    simp only[e0] at f1
    simp[mF,hRow,hC,gy,iL] at f1
    simp[v141,Hr,mF,hRow,hC,hk,md hA,md0 hA,mg hA,mg0 hA,ms hA,ms0 hA,mp hA,mp0 hA,lh hA,spl,sp0,sp1,sp2,sp3,sq0,sq1,aY,bf,-List.length_flatMap,aC,aF,aJ,aI,aH,aO,aj,au,aG,ax,aP,aZ,aU,bg,ak,bF,bD,bi,bn,az,aV,aW,ai,af,ah,ay,aQ,hs0,hs1,hs2,iL,gy,kD]
    refine eQ [_] rfl (ik f1 (by simp[mF,hRow,hC,hk,md hA,md0 hA,mg hA,mg0 hA,ms hA,ms0 hA,mp hA,mp0 hA,lh hA,spl,sp0,sp1,sp2,sp3,sq0,sq1,aY,bf,-List.length_flatMap,aC,aF,aJ,aI,aH,aO,aj,au,aG,ax,aP,aZ,aU,bg,ak,bF,bD,bi,bn,az,aV,aW,ai,af,ah,ay,aQ])) ?_
    simp[mF,hRow,hC,hk,md hA,md0 hA,mg hA,mg0 hA,ms hA,ms0 hA,mp hA,mp0 hA,lh hA,spl,sp0,sp1,sp2,sp3,sq0,sq1,aY,bf,-List.length_flatMap,aC,aF,aJ,aI,aH,aO,aj,au,aG,ax,aP,aZ,aU,bg,ak,bF,bD,bi,bn,az,aV,aW,ai,af,ah,ay,aQ,hs0,hs1,hs2,w4,hj,hj1,ints_at hv,iw hj,ints_set _ hj]
  have c16:op=16:=by omega
  subst c16
  have f1:=Om (s+1000) n k b mem out A B ⟨pc,st,rg,[],he,dn⟩ false hA hk hn hm hmb hw hpc
  simp[mF,hRow,hC] at f1
  simp[v141,Hr,mF,hRow,hC,hk,md hA,md0 hA,mg hA,mg0 hA,ms hA,ms0 hA,mp hA,mp0 hA,lh hA,spl,sp0,sp1,sp2,sp3,sq0,sq1,aY,bf,-List.length_flatMap,aC,aF,aJ,aI,aH,aO,aj,au,aG,ax,aP,aZ,aU,bg,ak,bF,bD,bi,bn,az,aV,aW,ai,af,ah,ay,aQ,hs0,hs1,hs2]
  generalize yw mem n b k _=F at f1 ⊢
  refine eQ [_] rfl (ik f1 (by simp[mF,hRow,hC,hk,md hA,md0 hA,mg hA,mg0 hA,ms hA,ms0 hA,mp hA,mp0 hA,lh hA,spl,sp0,sp1,sp2,sp3,sq0,sq1,aY,bf,-List.length_flatMap,aC,aF,aJ,aI,aH,aO,aj,au,aG,ax,aP,aZ,aU,bg,ak,bF,bD,bi,bn,az,aV,aW,ai,af,ah,ay,aQ])) ?_
  simp[mF,hRow,hC,hk,md hA,md0 hA,mg hA,mg0 hA,ms hA,ms0 hA,mp hA,mp0 hA,lh hA,spl,sp0,sp1,sp2,sp3,sq0,sq1,aY,bf,-List.length_flatMap,aC,aF,aJ,aI,aH,aO,aj,au,aG,ax,aP,aZ,aU,bg,ak,bF,bD,bi,bn,az,aV,aW,ai,af,ah,ay,aQ,hs0,hs1,hs2]
end Go.AmC
