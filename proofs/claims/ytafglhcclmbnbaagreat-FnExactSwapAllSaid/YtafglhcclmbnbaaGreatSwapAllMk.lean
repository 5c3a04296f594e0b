import Derived.Test.YtafglhcclmbnbaaGreatSwapAllSz
import Derived.Test.YtafglhcclmbnbaaGreatSwapAllRd
import Derived.Test.YtafglhcclmbnbaaGreatSwapAllDat
set_option linter.unusedSimpArgs false
set_option linter.unusedVariables false
set_option maxRecDepth 20000
set_option maxHeartbeats 4000000
namespace Go.AmC
open Go Go.AM
open Go.Proofs.Tryz (prog)
theorem dK (k:Int) (h1:1≤k) (h2:k≤4294967295):Says prog 128 [.int .i64 k] (.str (mtx k)) []:=by
 obtain⟨n,rfl⟩:=Int.eq_ofNat_of_zero_le (show 0≤k by omega)
 have hn:n≠0:=by omega
 have c:¬((n:Int)≤0):=by omega
 refine aP Go.Proofs.Tryz.func128 aGJ ?_
 generalize hR:AV.str (mtx (n:Int))=R0
 simp[aM3,aO0,hn,c]
 refine Oh (α:=Nat × List UInt8) (l:=UQ) (b:=WO) rfl [] (fun a=>[.int .i64 (a.1:Int),.str [],.dead,.str a.2,.dead]) (fun a=>a.1) (fun a=>a.1≤n∧Aq n=Aq a.1++a.2)
  (fun ex e=>ex=.exit 0∧e=[.int .i64 0,.str [],.dead,.str (Aq n),.dead]) ?_ (n,[]) (by simp) rfl ?_
 ·rintro⟨m,s⟩ ⟨hm,hs⟩ q hn hx hr
  simp only at hm hs
  by_cases hz:m=0
  ·subst hz
   have h0:Aq 0=[]:=by rw[Aq];rfl
   rw[h0] at hs
   simp at hs
   simp
   exact hx _ _ ⟨rfl,by rw[hs]⟩
  ·have hl:=Jc n
   have hls:s.length+1≤n:=by have:=congrArg List.length hs;rw[BR hz] at this;simp at this;omega
   have hb:¬bnd<1+s.length:=by unfold bnd;omega
   have hb2:1+s.length≤bnd:=by unfold bnd;omega
   have hmod:IntKind.u8.wrap (IntKind.i64.wrap (48+(m:Int).tmod 10))=48+(m:Int).tmod 10:=by
    have:(m:Int).tmod 10=((m%10:Nat):Int):=by simp[Int.tmod]
    rw[this,aA (by omega) (by omega)]
    simp[IntKind.wrap,IntKind.bits,IntKind.signed]
    omega
   have hquo:IntKind.i64.wrap ((m:Int) / 10)=((m / 10:Nat):Int):=by rw[aA]<;>omega
   have hpos:(0:Int)<m:=by omega
   have hpos2:0<m:=by omega
   have htm:UInt8.ofNat (48+(m:Int).tmod 10).toNat=UInt8.ofNat (48+m%10):=by
    have:(m:Int).tmod 10=((m%10:Nat):Int):=by simp[Int.tmod]
    rw[this];congr 1
   simp[hz,hpos,hpos2,hmod,hquo,splice,bytesOf,hb2,htm]
   refine hn _ (m / 10,UInt8.ofNat (48+m%10)::s) ?_ ⟨?_,?_⟩ ?_
   ·simp
   ·simp;omega
   ·rw[hs,BR hz];simp
   ·simp;omega
 ·rintro ex e ⟨rfl,rfl⟩
  have hl:=Jc n
  have hb:¬bnd<1+(Aq n).length:=by unfold bnd;omega
  have hb2:1+(Aq n).length≤bnd:=by unfold bnd;omega
  simp[←hR,mtx,hb2]
def aH:Exp→Int→Exp × Int
 | ⟨aK,aN,aS,aL⟩,k=>(⟨k,k+1,mtx (k+1+1),(aL.foldl (fun p x=>(p.1++[(aH x p.2).1],(aH x p.2).2)) ([],k+1+1+1)).1⟩,(aL.foldl (fun p x=>(p.1++[(aH x p.2).1],(aH x p.2).2)) ([],k+1+1+1)).2)
theorem rM (x:Exp) (k:Int):aH x k=(⟨k,k+1,mtx (k+1+1),(ak aH x.L (k+1+1+1)).1⟩,(ak aH x.L (k+1+1+1)).2):=by cases x;rw[aH]<;>rfl
theorem bU:∀ (x:Exp) (k:Int),k+3≤(aH x k).2∧(aH x k).2≤k+3+20*((Exp.tot x:Nat):Int):=Exp.ind fun x ih k=>by
 rw[rM]
 have ht:=Exp.tot_eq x
 have b0:=aW aH Exp.tot (xs:=x.L) (k:=k+1+1+1) (fun x hx k=>by have b:=ih x hx k;omega)
 simp only
 omega
theorem JZ:aY prog 129=true:=by kernel_rfl
theorem IQ (xs:List Exp) (hm:xs.length≤4194304) (s0:∀ x∈xs,∀ k:Int,1≤k→k+20*((List.length x.L+(List.map Exp.tot x.L).sum):Nat)≤2147483648→Says prog 129 [.osl 1 72 (List.length x.L) (Ows ((List.flatMap Exp.d x.L))),.int .i64 k] (.int .i64 ((ak aH) x.L k).2) [(1,.osl 1 72 (List.length x.L) (Ows (List.flatMap Exp.d ((ak aH) x.L k).1)))]):∀ k:Int,1≤k→k+20*((List.length xs+(List.map Exp.tot xs).sum):Nat)≤2147483648→Says prog 129 [.osl 1 72 (List.length xs) (Ows ((List.flatMap Exp.d xs))),.int .i64 k] (.int .i64 ((ak aH) xs k).2) [(1,.osl 1 72 (List.length xs) (Ows (List.flatMap Exp.d ((ak aH) xs k).1)))]:=by
 intro k k1 kL
 refine kP [1] [.osl 1 72 xs.length (Ows (List.flatMap Exp.d ((ak aH) xs k).1))] Go.Proofs.Tryz.func129 aGI (by simp) ?_
 generalize hR:((ak aH) xs k).2=R0
 simp[aM2,aOZ]
 refine gY (l:=UO) (b:=WN) rfl [] (fun i=>[.osl 1 72 xs.length (Ows (((ak aH) (xs.take i) k).1.flatMap Exp.d)++Ows ((xs.drop i).flatMap Exp.d)),.int .i64 ((ak aH) (xs.take i) k).2,.int .i64 0,.int .i64 (i:Int),.dead]) (fun _=>True) xs.length
  (fun ex en=>ex=.exit 0∧en=[.osl 1 72 xs.length (Ows (List.flatMap Exp.d ((ak aH) xs k).1)),.int .i64 ((ak aH) xs k).2,.int .i64 0,.int .i64 xs.length,.dead]) ?_ ?_ trivial (by simp[ak]) ?_
 ·intro i hi _ q hn hx hr
  obtain⟨x,hx0⟩:∃ x,xs[i]?=some x:=⟨_,List.getElem?_eq_getElem hi⟩
  have hsum:=sum_take_le (Exp.tot) xs (i+1)
  rw[bQ (Exp.tot) hx0] at hsum
  have hbd:=aW aH Exp.tot (xs:=(xs.take i)) (k:=k) (fun x hx k=>by have b:=bU x k;omega)
  have hln:(xs.take i).length=i:=by simp;omega
  have hA:(Ows (((ak aH) (xs.take i) k).1.flatMap Exp.d)).length=i*4:=by rw[bD,dV _ 4 Exp.d_len,aX];simp;omega
  rw[iQ _ k hx0] at hn
  rw[drop_cons hx0]
  generalize (ak aH) (xs.take i) k=P at hn hbd hA ⊢
  obtain⟨pa,κ⟩:=P
  simp only at hn hbd hA ⊢
  have kp:1≤κ:=by omega
  have kq:κ+20*(1+Exp.tot x:Nat)≤2147483648+0:=by omega
  have hwi:IntKind.i64.wrap ((i:Int)+1)=((i+1:Nat):Int):=by rw[aA]<;>omega
  rw[List.flatMap_append,gU] at hn
  generalize hA0:Ows (pa.flatMap Exp.d)=A at hn hA ⊢
  have hA1:A.length=i*4:=hA
  rw[List.flatMap_cons,gU]
  generalize Ows ((xs.drop (i+1)).flatMap Exp.d)=B at hn ⊢
  have offn:∀ a b:Nat,i*4+a+b=i*4+(a+b):=fun a b=>Nat.add_assoc _ _ _
  have hc0:i*4+1≤i*4+(B.length+1+1+1+1):=by omega
  have hc1:i*4+2≤i*4+(B.length+1+1+1+1):=by omega
  have hc2:i*4+3≤i*4+(B.length+1+1+1+1):=by omega
  have hc3:i*4+4≤i*4+(B.length+1+1+1+1):=by omega
  rw[rM] at hn
  have ht:=Exp.tot_eq x
  have w0:IntKind.i64.wrap (κ+1)=κ+1:=by rw[aA]<;>omega
  have w1:IntKind.i64.wrap (κ+1+1)=κ+1+1:=by rw[aA]<;>omega
  have w2:IntKind.i64.wrap (κ+1+1+1)=κ+1+1+1:=by rw[aA]<;>omega
  simp[hi,hwi,offn,eu hA1,dM hA1,gX hA1,fQ hA1,gV hA1,fM hA1,dw hA1,bV hA1,spl,hA1,hc0,hc1,hc2,hc3,w0,w1,w2]
  refine ai (dK (κ+1+1) (by omega) (by omega)) ?_
  simp[hi,hwi,offn,eu hA1,dM hA1,gX hA1,fQ hA1,gV hA1,fM hA1,dw hA1,bV hA1,spl,hA1,hc0,hc1,hc2,hc3,w0,w1,w2]
  have b0:=aW aH Exp.tot (xs:=x.L) (k:=κ+1+1+1) (fun x hx k=>by have b:=bU x k;omega)
  have c0:=s0 x (List.mem_of_getElem? hx0) (κ+1+1+1) (by omega) (by omega)
  try simp at c0
  have le0:=aX aH x.L (κ+1+1+1)
  generalize hq0:ak aH x.L (κ+1+1+1)=q0 at b0 c0 hn le0
  obtain⟨l0,κ0⟩:=q0
  simp only at b0 c0 hn le0
  refine bn [_] JZ c0 ?_
  simp[hi,hwi,offn,eu hA1,dM hA1,gX hA1,fQ hA1,gV hA1,fM hA1,dw hA1,bV hA1,spl,hA1,hc0,hc1,hc2,hc3,w0,w1,w2]
  refine hn _ ?_ trivial
  simp[le0]
 ·intro _ q hx hr
  simp
  exact hx _ _ ⟨rfl,by simp⟩
 ·rintro ex en ⟨rfl,rfl⟩
  simp[←hR]
theorem IX (xs:List Exp) (hm:xs.length≤4194304) (s0:∀ x∈xs,∀ k:Int,1≤k→k+20*((List.length x.L+(List.map Exp.tot x.L).sum):Nat)≤2147483648→Says prog 130 [.rsl (List.length x.L) (Cs (List.flatMap Exp.d ((ak aH) x.L k).1)),.int .i64 k] (.int .i64 ((ak aH) x.L k).2) []):∀ k:Int,1≤k→k+20*((List.length xs+(List.map Exp.tot xs).sum):Nat)≤2147483648→Says prog 130 [.rsl (List.length xs) (Cs (List.flatMap Exp.d ((ak aH) xs k).1)),.int .i64 k] (.int .i64 ((ak aH) xs k).2) []:=by
 intro k k1 kL
 refine aP Go.Proofs.Tryz.func130 aGH ?_
 generalize hR:((ak aH) xs k).2=R0
 have hML:=aX aH xs k
 simp[v130,aOY]
 refine gY (l:=UN) (b:=WM) rfl [] (fun i=>[.rsl xs.length (Cs (((ak aH) xs k).1.flatMap Exp.d)),.int .i64 ((ak aH) (xs.take i) k).2,.int .i64 0,.int .i64 (i:Int),.dead,.dead,.dead,.dead,.dead]) (fun _=>True) xs.length
  (fun ex en=>ex=.exit 0∧en=[.rsl xs.length (Cs (((ak aH) xs k).1.flatMap Exp.d)),.int .i64 ((ak aH) xs k).2,.int .i64 0,.int .i64 xs.length,.dead,.dead,.dead,.dead,.dead]) ?_ ?_ trivial (by simp[ak]) ?_
 ·intro i hi _ q hn hx hr
  obtain⟨x,hx0⟩:∃ x,xs[i]?=some x:=⟨_,List.getElem?_eq_getElem hi⟩
  have hsum:=sum_take_le (Exp.tot) xs (i+1)
  rw[bQ (Exp.tot) hx0] at hsum
  have hbd:=aW aH Exp.tot (xs:=(xs.take i)) (k:=k) (fun x hx k=>by have b:=bU x k;omega)
  have hln:(xs.take i).length=i:=by simp;omega
  have hy:=uT aH k hx0
  have hrow:=row_drop Exp.d 4 Exp.d_len hy
  generalize (ak aH) xs k=M at hrow hn ⊢
  rw[iQ _ k hx0] at hn
  generalize (ak aH) (xs.take i) k=P at hn hbd hrow ⊢
  obtain⟨pa,κ⟩:=P
  simp only at hn hbd hrow ⊢
  have kp:1≤κ:=by omega
  have kq:κ+20*(1+Exp.tot x:Nat)≤2147483648+0:=by omega
  have hwi:IntKind.i64.wrap ((i:Int)+1)=((i+1:Nat):Int):=by rw[aA]<;>omega
  rw[rM] at hn hrow
  have ht:=Exp.tot_eq x
  have w0:IntKind.i64.wrap (κ+1)=κ+1:=by rw[aA]<;>omega
  have w1:IntKind.i64.wrap (κ+1+1)=κ+1+1:=by rw[aA]<;>omega
  have w2:IntKind.i64.wrap (κ+1+1+1)=κ+1+1+1:=by rw[aA]<;>omega
  have b0:=aW aH Exp.tot (xs:=x.L) (k:=κ+1+1+1) (fun x hx k=>by have b:=bU x k;omega)
  have c0:=s0 x (List.mem_of_getElem? hx0) (κ+1+1+1) (by omega) (by omega)
  have le0:=aX aH x.L (κ+1+1+1)
  generalize hq0:ak aH x.L (κ+1+1+1)=q0 at b0 c0 hn hrow le0
  obtain⟨l0,κ0⟩:=q0
  simp only at b0 c0 hn hrow le0
  rw[←le0] at c0
  try simp at c0
  have n0:¬(κ0<0):=by omega
  simp[hi,hwi,aj,hrow,w0,w1,w2,n0]
  refine ay (dK (κ+1+1) (by omega) (by omega)) ?_
  simp[hi,hwi,aj,hrow,w0,w1,w2,n0]
  refine ai c0 ?_
  simp[hi,hwi,aj,hrow,w0,w1,w2,n0]
  refine hn _ ?_ trivial
  simp
 ·intro _ q hx hr
  simp
  exact hx _ _ ⟨rfl,by simp⟩
 ·rintro ex en ⟨rfl,rfl⟩
  simp[←hR]
theorem O3:∀ x:Exp,Exp.tot x≤4194304→∀ k:Int,1≤k→k+20*((List.length x.L+(List.map Exp.tot x.L).sum):Nat)≤2147483648→Says prog 129 [.osl 1 72 (List.length x.L) (Ows ((List.flatMap Exp.d x.L))),.int .i64 k] (.int .i64 ((ak aH) x.L k).2) [(1,.osl 1 72 (List.length x.L) (Ows (List.flatMap Exp.d ((ak aH) x.L k).1)))]:=Exp.ind fun x ih h=>by
 have ht:=Exp.tot_eq x
 exact IQ x.L (by omega) (fun y hy=>ih y hy (by have:=az Exp.tot hy;omega))
theorem jO (xs:List Exp) (h:(List.length xs+(List.map Exp.tot xs).sum)≤4194304):∀ k:Int,1≤k→k+20*((List.length xs+(List.map Exp.tot xs).sum):Nat)≤2147483648→Says prog 129 [.osl 1 72 (List.length xs) (Ows ((List.flatMap Exp.d xs))),.int .i64 k] (.int .i64 ((ak aH) xs k).2) [(1,.osl 1 72 (List.length xs) (Ows (List.flatMap Exp.d ((ak aH) xs k).1)))]:=IQ xs (by omega) (fun y hy=>O3 y (by have:=az Exp.tot hy;omega))
theorem Pn:∀ x:Exp,Exp.tot x≤4194304→∀ k:Int,1≤k→k+20*((List.length x.L+(List.map Exp.tot x.L).sum):Nat)≤2147483648→Says prog 130 [.rsl (List.length x.L) (Cs (List.flatMap Exp.d ((ak aH) x.L k).1)),.int .i64 k] (.int .i64 ((ak aH) x.L k).2) []:=Exp.ind fun x ih h=>by
 have ht:=Exp.tot_eq x
 exact IX x.L (by omega) (fun y hy=>ih y hy (by have:=az Exp.tot hy;omega))
theorem jP (xs:List Exp) (h:(List.length xs+(List.map Exp.tot xs).sum)≤4194304):∀ k:Int,1≤k→k+20*((List.length xs+(List.map Exp.tot xs).sum):Nat)≤2147483648→Says prog 130 [.rsl (List.length xs) (Cs (List.flatMap Exp.d ((ak aH) xs k).1)),.int .i64 k] (.int .i64 ((ak aH) xs k).2) []:=IX xs (by omega) (fun y hy=>Pn y (by have:=az Exp.tot hy;omega))
def bg:Stmt→Int→Stmt × Int
 | ⟨aK,aS,aAt,aE,aLo,aHi,aBody⟩,k=>(⟨k,mtx (k+1),(aH aAt (k+1+1)).1,(aH aE ((aH aAt (k+1+1)).2)).1,(aH aLo ((aH aE ((aH aAt (k+1+1)).2)).2)).1,(aH aHi ((aH aLo ((aH aE ((aH aAt (k+1+1)).2)).2)).2)).1,(aBody.foldl (fun p x=>(p.1++[(bg x p.2).1],(bg x p.2).2)) ([],(aH aHi ((aH aLo ((aH aE ((aH aAt (k+1+1)).2)).2)).2)).2)).1⟩,(aBody.foldl (fun p x=>(p.1++[(bg x p.2).1],(bg x p.2).2)) ([],(aH aHi ((aH aLo ((aH aE ((aH aAt (k+1+1)).2)).2)).2)).2)).2)
theorem xE (x:Stmt) (k:Int):bg x k=(⟨k,mtx (k+1),(aH x.At (k+1+1)).1,(aH x.E ((aH x.At (k+1+1)).2)).1,(aH x.Lo ((aH x.E ((aH x.At (k+1+1)).2)).2)).1,(aH x.Hi ((aH x.Lo ((aH x.E ((aH x.At (k+1+1)).2)).2)).2)).1,(ak bg x.Body ((aH x.Hi ((aH x.Lo ((aH x.E ((aH x.At (k+1+1)).2)).2)).2)).2)).1⟩,(ak bg x.Body ((aH x.Hi ((aH x.Lo ((aH x.E ((aH x.At (k+1+1)).2)).2)).2)).2)).2):=by cases x;rw[bg]<;>rfl
theorem iw:∀ (x:Stmt) (k:Int),k+14≤(bg x k).2∧(bg x k).2≤k+14+20*((Stmt.tot x:Nat):Int):=Stmt.ind fun x ih k=>by
 rw[xE]
 have ht:=Stmt.tot_eq x
 have b0:=bU x.At (k+1+1)
 have b1:=bU x.E ((aH x.At (k+1+1)).2)
 have b2:=bU x.Lo ((aH x.E ((aH x.At (k+1+1)).2)).2)
 have b3:=bU x.Hi ((aH x.Lo ((aH x.E ((aH x.At (k+1+1)).2)).2)).2)
 have b4:=aW bg Stmt.tot (xs:=x.Body) (k:=(aH x.Hi ((aH x.Lo ((aH x.E ((aH x.At (k+1+1)).2)).2)).2)).2) (fun x hx k=>by have b:=ih x hx k;omega)
 simp only
 omega
theorem aPe:aY prog 62=true:=by kernel_rfl
theorem Eh (xs:List Stmt) (hm:xs.length≤4194304) (s0:∀ x∈xs,∀ k:Int,1≤k→k+20*((List.length x.At.L+(List.map Exp.tot x.At.L).sum):Nat)≤2147483648→Says prog 129 [.osl 1 72 (List.length x.At.L) (Ows ((List.flatMap Exp.d x.At.L))),.int .i64 k] (.int .i64 ((ak aH) x.At.L k).2) [(1,.osl 1 72 (List.length x.At.L) (Ows (List.flatMap Exp.d ((ak aH) x.At.L k).1)))]) (s1:∀ x∈xs,∀ k:Int,1≤k→k+20*((List.length x.E.L+(List.map Exp.tot x.E.L).sum):Nat)≤2147483648→Says prog 129 [.osl 1 72 (List.length x.E.L) (Ows ((List.flatMap Exp.d x.E.L))),.int .i64 k] (.int .i64 ((ak aH) x.E.L k).2) [(1,.osl 1 72 (List.length x.E.L) (Ows (List.flatMap Exp.d ((ak aH) x.E.L k).1)))]) (s2:∀ x∈xs,∀ k:Int,1≤k→k+20*((List.length x.Lo.L+(List.map Exp.tot x.Lo.L).sum):Nat)≤2147483648→Says prog 129 [.osl 1 72 (List.length x.Lo.L) (Ows ((List.flatMap Exp.d x.Lo.L))),.int .i64 k] (.int .i64 ((ak aH) x.Lo.L k).2) [(1,.osl 1 72 (List.length x.Lo.L) (Ows (List.flatMap Exp.d ((ak aH) x.Lo.L k).1)))]) (s3:∀ x∈xs,∀ k:Int,1≤k→k+20*((List.length x.Hi.L+(List.map Exp.tot x.Hi.L).sum):Nat)≤2147483648→Says prog 129 [.osl 1 72 (List.length x.Hi.L) (Ows ((List.flatMap Exp.d x.Hi.L))),.int .i64 k] (.int .i64 ((ak aH) x.Hi.L k).2) [(1,.osl 1 72 (List.length x.Hi.L) (Ows (List.flatMap Exp.d ((ak aH) x.Hi.L k).1)))]) (s4:∀ x∈xs,∀ k:Int,1≤k→k+20*((List.length x.Body+(List.map Stmt.tot x.Body).sum):Nat)≤2147483648→Says prog 62 [.osl 1 74 (List.length x.Body) (Ows ((List.flatMap Stmt.d x.Body))),.int .i64 k] (.int .i64 ((ak bg) x.Body k).2) [(1,.osl 1 74 (List.length x.Body) (Ows (List.flatMap Stmt.d ((ak bg) x.Body k).1)))]):∀ k:Int,1≤k→k+20*((List.length xs+(List.map Stmt.tot xs).sum):Nat)≤2147483648→Says prog 62 [.osl 1 74 (List.length xs) (Ows ((List.flatMap Stmt.d xs))),.int .i64 k] (.int .i64 ((ak bg) xs k).2) [(1,.osl 1 74 (List.length xs) (Ows (List.flatMap Stmt.d ((ak bg) xs k).1)))]:=by
 intro k k1 kL
 refine kP [1] [.osl 1 74 xs.length (Ows (List.flatMap Stmt.d ((ak bg) xs k).1))] Go.Proofs.Tryz.func62 aTg (by simp) ?_
 generalize hR:((ak bg) xs k).2=R0
 simp[v62,r62]
 refine gY (l:=afT) (b:=agm) rfl [] (fun i=>[.osl 1 74 xs.length (Ows (((ak bg) (xs.take i) k).1.flatMap Stmt.d)++Ows ((xs.drop i).flatMap Stmt.d)),.int .i64 ((ak bg) (xs.take i) k).2,.int .i64 0,.int .i64 (i:Int),.dead]) (fun _=>True) xs.length
  (fun ex en=>ex=.exit 0∧en=[.osl 1 74 xs.length (Ows (List.flatMap Stmt.d ((ak bg) xs k).1)),.int .i64 ((ak bg) xs k).2,.int .i64 0,.int .i64 xs.length,.dead]) ?_ ?_ trivial (by simp[ak]) ?_
 ·intro i hi _ q hn hx hr
  obtain⟨x,hx0⟩:∃ x,xs[i]?=some x:=⟨_,List.getElem?_eq_getElem hi⟩
  have hsum:=sum_take_le (Stmt.tot) xs (i+1)
  rw[bQ (Stmt.tot) hx0] at hsum
  have hbd:=aW bg Stmt.tot (xs:=(xs.take i)) (k:=k) (fun x hx k=>by have b:=iw x k;omega)
  have hln:(xs.take i).length=i:=by simp;omega
  have hA:(Ows (((ak bg) (xs.take i) k).1.flatMap Stmt.d)).length=i*19:=by rw[bD,dV _ 19 Stmt.d_len,aX];simp;omega
  rw[iQ _ k hx0] at hn
  rw[drop_cons hx0]
  generalize (ak bg) (xs.take i) k=P at hn hbd hA ⊢
  obtain⟨pa,κ⟩:=P
  simp only at hn hbd hA ⊢
  have kp:1≤κ:=by omega
  have kq:κ+20*(1+Stmt.tot x:Nat)≤2147483648+0:=by omega
  have hwi:IntKind.i64.wrap ((i:Int)+1)=((i+1:Nat):Int):=by rw[aA]<;>omega
  rw[List.flatMap_append,gU] at hn
  generalize hA0:Ows (pa.flatMap Stmt.d)=A at hn hA ⊢
  have hA1:A.length=i*19:=hA
  rw[List.flatMap_cons,gU]
  generalize Ows ((xs.drop (i+1)).flatMap Stmt.d)=B at hn ⊢
  have offn:∀ a b:Nat,i*19+a+b=i*19+(a+b):=fun a b=>Nat.add_assoc _ _ _
  have hc0:i*19+1≤i*19+(B.length+1+1+1+1+1+1+1+1+1+1+1+1+1+1+1+1+1+1+1):=by omega
  have hc1:i*19+2≤i*19+(B.length+1+1+1+1+1+1+1+1+1+1+1+1+1+1+1+1+1+1+1):=by omega
  have hc2:i*19+3≤i*19+(B.length+1+1+1+1+1+1+1+1+1+1+1+1+1+1+1+1+1+1+1):=by omega
  have hc3:i*19+4≤i*19+(B.length+1+1+1+1+1+1+1+1+1+1+1+1+1+1+1+1+1+1+1):=by omega
  have hc4:i*19+5≤i*19+(B.length+1+1+1+1+1+1+1+1+1+1+1+1+1+1+1+1+1+1+1):=by omega
  have hc5:i*19+6≤i*19+(B.length+1+1+1+1+1+1+1+1+1+1+1+1+1+1+1+1+1+1+1):=by omega
  have hc6:i*19+7≤i*19+(B.length+1+1+1+1+1+1+1+1+1+1+1+1+1+1+1+1+1+1+1):=by omega
  have hc7:i*19+8≤i*19+(B.length+1+1+1+1+1+1+1+1+1+1+1+1+1+1+1+1+1+1+1):=by omega
  have hc8:i*19+9≤i*19+(B.length+1+1+1+1+1+1+1+1+1+1+1+1+1+1+1+1+1+1+1):=by omega
  have hc9:i*19+10≤i*19+(B.length+1+1+1+1+1+1+1+1+1+1+1+1+1+1+1+1+1+1+1):=by omega
  have hc10:i*19+11≤i*19+(B.length+1+1+1+1+1+1+1+1+1+1+1+1+1+1+1+1+1+1+1):=by omega
  have hc11:i*19+12≤i*19+(B.length+1+1+1+1+1+1+1+1+1+1+1+1+1+1+1+1+1+1+1):=by omega
  have hc12:i*19+13≤i*19+(B.length+1+1+1+1+1+1+1+1+1+1+1+1+1+1+1+1+1+1+1):=by omega
  have hc13:i*19+14≤i*19+(B.length+1+1+1+1+1+1+1+1+1+1+1+1+1+1+1+1+1+1+1):=by omega
  have hc14:i*19+15≤i*19+(B.length+1+1+1+1+1+1+1+1+1+1+1+1+1+1+1+1+1+1+1):=by omega
  have hc15:i*19+16≤i*19+(B.length+1+1+1+1+1+1+1+1+1+1+1+1+1+1+1+1+1+1+1):=by omega
  have hc16:i*19+17≤i*19+(B.length+1+1+1+1+1+1+1+1+1+1+1+1+1+1+1+1+1+1+1):=by omega
  have hc17:i*19+18≤i*19+(B.length+1+1+1+1+1+1+1+1+1+1+1+1+1+1+1+1+1+1+1):=by omega
  have hc18:i*19+19≤i*19+(B.length+1+1+1+1+1+1+1+1+1+1+1+1+1+1+1+1+1+1+1):=by omega
  rw[xE] at hn
  simp only[rM] at hn
  have ht:=Stmt.tot_eq x
  have htxAt:=Exp.tot_eq x.At
  have htxE:=Exp.tot_eq x.E
  have htxLo:=Exp.tot_eq x.Lo
  have htxHi:=Exp.tot_eq x.Hi
  have w0:IntKind.i64.wrap (κ+1)=κ+1:=by rw[aA]<;>omega
  have w1:IntKind.i64.wrap (κ+1+1)=κ+1+1:=by rw[aA]<;>omega
  have w2:IntKind.i64.wrap (κ+1+1+1)=κ+1+1+1:=by rw[aA]<;>omega
  have w3:IntKind.i64.wrap (κ+1+1+1+1)=κ+1+1+1+1:=by rw[aA]<;>omega
  have w4:IntKind.i64.wrap (κ+1+1+1+1+1)=κ+1+1+1+1+1:=by rw[aA]<;>omega
  simp[hi,hwi,offn,eu hA1,dM hA1,gX hA1,fQ hA1,gV hA1,fM hA1,dw hA1,bV hA1,spl,hA1,hc0,hc1,hc2,hc3,hc4,hc5,hc6,hc7,hc8,hc9,hc10,hc11,hc12,hc13,hc14,hc15,hc16,hc17,hc18,w0,w1,w2,w3,w4]
  refine ai (dK (κ+1) (by omega) (by omega)) ?_
  simp[hi,hwi,offn,eu hA1,dM hA1,gX hA1,fQ hA1,gV hA1,fM hA1,dw hA1,bV hA1,spl,hA1,hc0,hc1,hc2,hc3,hc4,hc5,hc6,hc7,hc8,hc9,hc10,hc11,hc12,hc13,hc14,hc15,hc16,hc17,hc18,w0,w1,w2,w3,w4]
  refine ai (dK (κ+1+1+1+1) (by omega) (by omega)) ?_
  simp[hi,hwi,offn,eu hA1,dM hA1,gX hA1,fQ hA1,gV hA1,fM hA1,dw hA1,bV hA1,spl,hA1,hc0,hc1,hc2,hc3,hc4,hc5,hc6,hc7,hc8,hc9,hc10,hc11,hc12,hc13,hc14,hc15,hc16,hc17,hc18,w0,w1,w2,w3,w4]
  have b0:=aW aH Exp.tot (xs:=x.At.L) (k:=κ+1+1+1+1+1) (fun x hx k=>by have b:=bU x k;omega)
  have c0:=s0 x (List.mem_of_getElem? hx0) (κ+1+1+1+1+1) (by omega) (by omega)
  try simp at c0
  have le0:=aX aH x.At.L (κ+1+1+1+1+1)
  generalize hq0:ak aH x.At.L (κ+1+1+1+1+1)=q0 at b0 c0 hn le0
  obtain⟨l0,κ0⟩:=q0
  simp only at b0 c0 hn le0
  refine bn [_] JZ c0 ?_
  have w5:IntKind.i64.wrap (κ0+1)=κ0+1:=by rw[aA]<;>omega
  have w6:IntKind.i64.wrap (κ0+1+1)=κ0+1+1:=by rw[aA]<;>omega
  have w7:IntKind.i64.wrap (κ0+1+1+1)=κ0+1+1+1:=by rw[aA]<;>omega
  simp[hi,hwi,offn,eu hA1,dM hA1,gX hA1,fQ hA1,gV hA1,fM hA1,dw hA1,bV hA1,spl,hA1,hc0,hc1,hc2,hc3,hc4,hc5,hc6,hc7,hc8,hc9,hc10,hc11,hc12,hc13,hc14,hc15,hc16,hc17,hc18,w0,w1,w2,w3,w4,w5,w6,w7]
  refine ai (dK (κ0+1+1) (by omega) (by omega)) ?_
  simp[hi,hwi,offn,eu hA1,dM hA1,gX hA1,fQ hA1,gV hA1,fM hA1,dw hA1,bV hA1,spl,hA1,hc0,hc1,hc2,hc3,hc4,hc5,hc6,hc7,hc8,hc9,hc10,hc11,hc12,hc13,hc14,hc15,hc16,hc17,hc18,w0,w1,w2,w3,w4,w5,w6,w7]
  have b1:=aW aH Exp.tot (xs:=x.E.L) (k:=κ0+1+1+1) (fun x hx k=>by have b:=bU x k;omega)
  have c1:=s1 x (List.mem_of_getElem? hx0) (κ0+1+1+1) (by omega) (by omega)
  try simp at c1
  have le1:=aX aH x.E.L (κ0+1+1+1)
  generalize hq1:ak aH x.E.L (κ0+1+1+1)=q1 at b1 c1 hn le1
  obtain⟨l1,κ1⟩:=q1
  simp only at b1 c1 hn le1
  refine bn [_] JZ c1 ?_
  have w8:IntKind.i64.wrap (κ1+1)=κ1+1:=by rw[aA]<;>omega
  have w9:IntKind.i64.wrap (κ1+1+1)=κ1+1+1:=by rw[aA]<;>omega
  have w10:IntKind.i64.wrap (κ1+1+1+1)=κ1+1+1+1:=by rw[aA]<;>omega
  simp[hi,hwi,offn,eu hA1,dM hA1,gX hA1,fQ hA1,gV hA1,fM hA1,dw hA1,bV hA1,spl,hA1,hc0,hc1,hc2,hc3,hc4,hc5,hc6,hc7,hc8,hc9,hc10,hc11,hc12,hc13,hc14,hc15,hc16,hc17,hc18,w0,w1,w2,w3,w4,w5,w6,w7,w8,w9,w10]
  refine ai (dK (κ1+1+1) (by omega) (by omega)) ?_
  simp[hi,hwi,offn,eu hA1,dM hA1,gX hA1,fQ hA1,gV hA1,fM hA1,dw hA1,bV hA1,spl,hA1,hc0,hc1,hc2,hc3,hc4,hc5,hc6,hc7,hc8,hc9,hc10,hc11,hc12,hc13,hc14,hc15,hc16,hc17,hc18,w0,w1,w2,w3,w4,w5,w6,w7,w8,w9,w10]
  have b2:=aW aH Exp.tot (xs:=x.Lo.L) (k:=κ1+1+1+1) (fun x hx k=>by have b:=bU x k;omega)
  have c2:=s2 x (List.mem_of_getElem? hx0) (κ1+1+1+1) (by omega) (by omega)
  try simp at c2
  have le2:=aX aH x.Lo.L (κ1+1+1+1)
  generalize hq2:ak aH x.Lo.L (κ1+1+1+1)=q2 at b2 c2 hn le2
  obtain⟨l2,κ2⟩:=q2
  simp only at b2 c2 hn le2
  refine bn [_] JZ c2 ?_
  have w11:IntKind.i64.wrap (κ2+1)=κ2+1:=by rw[aA]<;>omega
  have w12:IntKind.i64.wrap (κ2+1+1)=κ2+1+1:=by rw[aA]<;>omega
  have w13:IntKind.i64.wrap (κ2+1+1+1)=κ2+1+1+1:=by rw[aA]<;>omega
  simp[hi,hwi,offn,eu hA1,dM hA1,gX hA1,fQ hA1,gV hA1,fM hA1,dw hA1,bV hA1,spl,hA1,hc0,hc1,hc2,hc3,hc4,hc5,hc6,hc7,hc8,hc9,hc10,hc11,hc12,hc13,hc14,hc15,hc16,hc17,hc18,w0,w1,w2,w3,w4,w5,w6,w7,w8,w9,w10,w11,w12,w13]
  refine ai (dK (κ2+1+1) (by omega) (by omega)) ?_
  simp[hi,hwi,offn,eu hA1,dM hA1,gX hA1,fQ hA1,gV hA1,fM hA1,dw hA1,bV hA1,spl,hA1,hc0,hc1,hc2,hc3,hc4,hc5,hc6,hc7,hc8,hc9,hc10,hc11,hc12,hc13,hc14,hc15,hc16,hc17,hc18,w0,w1,w2,w3,w4,w5,w6,w7,w8,w9,w10,w11,w12,w13]
  have b3:=aW aH Exp.tot (xs:=x.Hi.L) (k:=κ2+1+1+1) (fun x hx k=>by have b:=bU x k;omega)
  have c3:=s3 x (List.mem_of_getElem? hx0) (κ2+1+1+1) (by omega) (by omega)
  try simp at c3
  have le3:=aX aH x.Hi.L (κ2+1+1+1)
  generalize hq3:ak aH x.Hi.L (κ2+1+1+1)=q3 at b3 c3 hn le3
  obtain⟨l3,κ3⟩:=q3
  simp only at b3 c3 hn le3
  refine bn [_] JZ c3 ?_
  simp[hi,hwi,offn,eu hA1,dM hA1,gX hA1,fQ hA1,gV hA1,fM hA1,dw hA1,bV hA1,spl,hA1,hc0,hc1,hc2,hc3,hc4,hc5,hc6,hc7,hc8,hc9,hc10,hc11,hc12,hc13,hc14,hc15,hc16,hc17,hc18,w0,w1,w2,w3,w4,w5,w6,w7,w8,w9,w10,w11,w12,w13]
  have b4:=aW bg Stmt.tot (xs:=x.Body) (k:=κ3) (fun x hx k=>by have b:=iw x k;omega)
  have c4:=s4 x (List.mem_of_getElem? hx0) (κ3) (by omega) (by omega)
  try simp at c4
  have le4:=aX bg x.Body (κ3)
  generalize hq4:ak bg x.Body (κ3)=q4 at b4 c4 hn le4
  obtain⟨l4,κ4⟩:=q4
  simp only at b4 c4 hn le4
  refine bn [_] aPe c4 ?_
  simp[hi,hwi,offn,eu hA1,dM hA1,gX hA1,fQ hA1,gV hA1,fM hA1,dw hA1,bV hA1,spl,hA1,hc0,hc1,hc2,hc3,hc4,hc5,hc6,hc7,hc8,hc9,hc10,hc11,hc12,hc13,hc14,hc15,hc16,hc17,hc18,w0,w1,w2,w3,w4,w5,w6,w7,w8,w9,w10,w11,w12,w13]
  refine hn _ ?_ trivial
  simp[le0,le1,le2,le3,le4]
 ·intro _ q hx hr
  simp
  exact hx _ _ ⟨rfl,by simp⟩
 ·rintro ex en ⟨rfl,rfl⟩
  simp[←hR]
theorem Et (xs:List Stmt) (hm:xs.length≤4194304) (s0:∀ x∈xs,∀ k:Int,1≤k→k+20*((List.length x.At.L+(List.map Exp.tot x.At.L).sum):Nat)≤2147483648→Says prog 130 [.rsl (List.length x.At.L) (Cs (List.flatMap Exp.d ((ak aH) x.At.L k).1)),.int .i64 k] (.int .i64 ((ak aH) x.At.L k).2) []) (s1:∀ x∈xs,∀ k:Int,1≤k→k+20*((List.length x.E.L+(List.map Exp.tot x.E.L).sum):Nat)≤2147483648→Says prog 130 [.rsl (List.length x.E.L) (Cs (List.flatMap Exp.d ((ak aH) x.E.L k).1)),.int .i64 k] (.int .i64 ((ak aH) x.E.L k).2) []) (s2:∀ x∈xs,∀ k:Int,1≤k→k+20*((List.length x.Lo.L+(List.map Exp.tot x.Lo.L).sum):Nat)≤2147483648→Says prog 130 [.rsl (List.length x.Lo.L) (Cs (List.flatMap Exp.d ((ak aH) x.Lo.L k).1)),.int .i64 k] (.int .i64 ((ak aH) x.Lo.L k).2) []) (s3:∀ x∈xs,∀ k:Int,1≤k→k+20*((List.length x.Hi.L+(List.map Exp.tot x.Hi.L).sum):Nat)≤2147483648→Says prog 130 [.rsl (List.length x.Hi.L) (Cs (List.flatMap Exp.d ((ak aH) x.Hi.L k).1)),.int .i64 k] (.int .i64 ((ak aH) x.Hi.L k).2) []) (s4:∀ x∈xs,∀ k:Int,1≤k→k+20*((List.length x.Body+(List.map Stmt.tot x.Body).sum):Nat)≤2147483648→Says prog 64 [.rsl (List.length x.Body) (Cs (List.flatMap Stmt.d ((ak bg) x.Body k).1)),.int .i64 k] (.int .i64 ((ak bg) x.Body k).2) []):∀ k:Int,1≤k→k+20*((List.length xs+(List.map Stmt.tot xs).sum):Nat)≤2147483648→Says prog 64 [.rsl (List.length xs) (Cs (List.flatMap Stmt.d ((ak bg) xs k).1)),.int .i64 k] (.int .i64 ((ak bg) xs k).2) []:=by
 intro k k1 kL
 refine aP Go.Proofs.Tryz.func64 aTe ?_
 generalize hR:((ak bg) xs k).2=R0
 have hML:=aX bg xs k
 simp[v64,r64]
 refine gY (l:=afR) (b:=agk) rfl [] (fun i=>[.rsl xs.length (Cs (((ak bg) xs k).1.flatMap Stmt.d)),.int .i64 ((ak bg) (xs.take i) k).2,.int .i64 0,.int .i64 (i:Int),.dead,.dead,.dead,.dead,.dead,.dead,.dead,.dead,.dead,.dead,.dead,.dead,.dead,.dead,.dead,.dead,.dead,.dead,.dead,.dead]) (fun _=>True) xs.length
  (fun ex en=>ex=.exit 0∧en=[.rsl xs.length (Cs (((ak bg) xs k).1.flatMap Stmt.d)),.int .i64 ((ak bg) xs k).2,.int .i64 0,.int .i64 xs.length,.dead,.dead,.dead,.dead,.dead,.dead,.dead,.dead,.dead,.dead,.dead,.dead,.dead,.dead,.dead,.dead,.dead,.dead,.dead,.dead]) ?_ ?_ trivial (by simp[ak]) ?_
 ·intro i hi _ q hn hx hr
  obtain⟨x,hx0⟩:∃ x,xs[i]?=some x:=⟨_,List.getElem?_eq_getElem hi⟩
  have hsum:=sum_take_le (Stmt.tot) xs (i+1)
  rw[bQ (Stmt.tot) hx0] at hsum
  have hbd:=aW bg Stmt.tot (xs:=(xs.take i)) (k:=k) (fun x hx k=>by have b:=iw x k;omega)
  have hln:(xs.take i).length=i:=by simp;omega
  have hy:=uT bg k hx0
  have hrow:=row_drop Stmt.d 19 Stmt.d_len hy
  generalize (ak bg) xs k=M at hrow hn ⊢
  rw[iQ _ k hx0] at hn
  generalize (ak bg) (xs.take i) k=P at hn hbd hrow ⊢
  obtain⟨pa,κ⟩:=P
  simp only at hn hbd hrow ⊢
  have kp:1≤κ:=by omega
  have kq:κ+20*(1+Stmt.tot x:Nat)≤2147483648+0:=by omega
  have hwi:IntKind.i64.wrap ((i:Int)+1)=((i+1:Nat):Int):=by rw[aA]<;>omega
  rw[xE] at hn hrow
  simp only[rM] at hn hrow
  have ht:=Stmt.tot_eq x
  have htxAt:=Exp.tot_eq x.At
  have htxE:=Exp.tot_eq x.E
  have htxLo:=Exp.tot_eq x.Lo
  have htxHi:=Exp.tot_eq x.Hi
  have w0:IntKind.i64.wrap (κ+1)=κ+1:=by rw[aA]<;>omega
  have w1:IntKind.i64.wrap (κ+1+1)=κ+1+1:=by rw[aA]<;>omega
  have w2:IntKind.i64.wrap (κ+1+1+1)=κ+1+1+1:=by rw[aA]<;>omega
  have w3:IntKind.i64.wrap (κ+1+1+1+1)=κ+1+1+1+1:=by rw[aA]<;>omega
  have w4:IntKind.i64.wrap (κ+1+1+1+1+1)=κ+1+1+1+1+1:=by rw[aA]<;>omega
  have b0:=aW aH Exp.tot (xs:=x.At.L) (k:=κ+1+1+1+1+1) (fun x hx k=>by have b:=bU x k;omega)
  have c0:=s0 x (List.mem_of_getElem? hx0) (κ+1+1+1+1+1) (by omega) (by omega)
  have le0:=aX aH x.At.L (κ+1+1+1+1+1)
  generalize hq0:ak aH x.At.L (κ+1+1+1+1+1)=q0 at b0 c0 hn hrow le0
  obtain⟨l0,κ0⟩:=q0
  simp only at b0 c0 hn hrow le0
  rw[←le0] at c0
  try simp at c0
  have n0:¬(κ0<0):=by omega
  have w5:IntKind.i64.wrap (κ0+1)=κ0+1:=by rw[aA]<;>omega
  have w6:IntKind.i64.wrap (κ0+1+1)=κ0+1+1:=by rw[aA]<;>omega
  have w7:IntKind.i64.wrap (κ0+1+1+1)=κ0+1+1+1:=by rw[aA]<;>omega
  have b1:=aW aH Exp.tot (xs:=x.E.L) (k:=κ0+1+1+1) (fun x hx k=>by have b:=bU x k;omega)
  have c1:=s1 x (List.mem_of_getElem? hx0) (κ0+1+1+1) (by omega) (by omega)
  have le1:=aX aH x.E.L (κ0+1+1+1)
  generalize hq1:ak aH x.E.L (κ0+1+1+1)=q1 at b1 c1 hn hrow le1
  obtain⟨l1,κ1⟩:=q1
  simp only at b1 c1 hn hrow le1
  rw[←le1] at c1
  try simp at c1
  have n1:¬(κ1<0):=by omega
  have w8:IntKind.i64.wrap (κ1+1)=κ1+1:=by rw[aA]<;>omega
  have w9:IntKind.i64.wrap (κ1+1+1)=κ1+1+1:=by rw[aA]<;>omega
  have w10:IntKind.i64.wrap (κ1+1+1+1)=κ1+1+1+1:=by rw[aA]<;>omega
  have b2:=aW aH Exp.tot (xs:=x.Lo.L) (k:=κ1+1+1+1) (fun x hx k=>by have b:=bU x k;omega)
  have c2:=s2 x (List.mem_of_getElem? hx0) (κ1+1+1+1) (by omega) (by omega)
  have le2:=aX aH x.Lo.L (κ1+1+1+1)
  generalize hq2:ak aH x.Lo.L (κ1+1+1+1)=q2 at b2 c2 hn hrow le2
  obtain⟨l2,κ2⟩:=q2
  simp only at b2 c2 hn hrow le2
  rw[←le2] at c2
  try simp at c2
  have n2:¬(κ2<0):=by omega
  have w11:IntKind.i64.wrap (κ2+1)=κ2+1:=by rw[aA]<;>omega
  have w12:IntKind.i64.wrap (κ2+1+1)=κ2+1+1:=by rw[aA]<;>omega
  have w13:IntKind.i64.wrap (κ2+1+1+1)=κ2+1+1+1:=by rw[aA]<;>omega
  have b3:=aW aH Exp.tot (xs:=x.Hi.L) (k:=κ2+1+1+1) (fun x hx k=>by have b:=bU x k;omega)
  have c3:=s3 x (List.mem_of_getElem? hx0) (κ2+1+1+1) (by omega) (by omega)
  have le3:=aX aH x.Hi.L (κ2+1+1+1)
  generalize hq3:ak aH x.Hi.L (κ2+1+1+1)=q3 at b3 c3 hn hrow le3
  obtain⟨l3,κ3⟩:=q3
  simp only at b3 c3 hn hrow le3
  rw[←le3] at c3
  try simp at c3
  have n3:¬(κ3<0):=by omega
  have b4:=aW bg Stmt.tot (xs:=x.Body) (k:=κ3) (fun x hx k=>by have b:=iw x k;omega)
  have c4:=s4 x (List.mem_of_getElem? hx0) (κ3) (by omega) (by omega)
  have le4:=aX bg x.Body (κ3)
  generalize hq4:ak bg x.Body (κ3)=q4 at b4 c4 hn hrow le4
  obtain⟨l4,κ4⟩:=q4
  simp only at b4 c4 hn hrow le4
  rw[←le4] at c4
  try simp at c4
  have n4:¬(κ4<0):=by omega
  simp[hi,hwi,aj,hrow,w0,w1,w2,w3,w4,n0,w5,w6,w7,n1,w8,w9,w10,n2,w11,w12,w13,n3,n4]
  refine ay (dK (κ+1) (by omega) (by omega)) ?_
  simp[hi,hwi,aj,hrow,w0,w1,w2,w3,w4,n0,w5,w6,w7,n1,w8,w9,w10,n2,w11,w12,w13,n3,n4]
  refine ay (dK (κ+1+1+1+1) (by omega) (by omega)) ?_
  simp[hi,hwi,aj,hrow,w0,w1,w2,w3,w4,n0,w5,w6,w7,n1,w8,w9,w10,n2,w11,w12,w13,n3,n4]
  refine ai c0 ?_
  simp[hi,hwi,aj,hrow,w0,w1,w2,w3,w4,n0,w5,w6,w7,n1,w8,w9,w10,n2,w11,w12,w13,n3,n4]
  refine ay (dK (κ0+1+1) (by omega) (by omega)) ?_
  simp[hi,hwi,aj,hrow,w0,w1,w2,w3,w4,n0,w5,w6,w7,n1,w8,w9,w10,n2,w11,w12,w13,n3,n4]
  refine ai c1 ?_
  simp[hi,hwi,aj,hrow,w0,w1,w2,w3,w4,n0,w5,w6,w7,n1,w8,w9,w10,n2,w11,w12,w13,n3,n4]
  refine ay (dK (κ1+1+1) (by omega) (by omega)) ?_
  simp[hi,hwi,aj,hrow,w0,w1,w2,w3,w4,n0,w5,w6,w7,n1,w8,w9,w10,n2,w11,w12,w13,n3,n4]
  refine ai c2 ?_
  simp[hi,hwi,aj,hrow,w0,w1,w2,w3,w4,n0,w5,w6,w7,n1,w8,w9,w10,n2,w11,w12,w13,n3,n4]
  refine ay (dK (κ2+1+1) (by omega) (by omega)) ?_
  simp[hi,hwi,aj,hrow,w0,w1,w2,w3,w4,n0,w5,w6,w7,n1,w8,w9,w10,n2,w11,w12,w13,n3,n4]
  refine ai c3 ?_
  simp[hi,hwi,aj,hrow,w0,w1,w2,w3,w4,n0,w5,w6,w7,n1,w8,w9,w10,n2,w11,w12,w13,n3,n4]
  refine ai c4 ?_
  simp[hi,hwi,aj,hrow,w0,w1,w2,w3,w4,n0,w5,w6,w7,n1,w8,w9,w10,n2,w11,w12,w13,n3,n4]
  refine hn _ ?_ trivial
  simp
 ·intro _ q hx hr
  simp
  exact hx _ _ ⟨rfl,by simp⟩
 ·rintro ex en ⟨rfl,rfl⟩
  simp[←hR]
theorem Ko:∀ x:Stmt,Stmt.tot x≤4194304→∀ k:Int,1≤k→k+20*((List.length x.Body+(List.map Stmt.tot x.Body).sum):Nat)≤2147483648→Says prog 62 [.osl 1 74 (List.length x.Body) (Ows ((List.flatMap Stmt.d x.Body))),.int .i64 k] (.int .i64 ((ak bg) x.Body k).2) [(1,.osl 1 74 (List.length x.Body) (Ows (List.flatMap Stmt.d ((ak bg) x.Body k).1)))]:=Stmt.ind fun x ih h=>by
 have ht:=Stmt.tot_eq x
 exact Eh x.Body (by omega) (fun y hy=>jO y.At.L (by have:=az Stmt.tot hy;have t0:=Stmt.tot_eq y;have t26:=Exp.tot_eq y.At;omega)) (fun y hy=>jO y.E.L (by have:=az Stmt.tot hy;have t0:=Stmt.tot_eq y;have t26:=Exp.tot_eq y.E;omega)) (fun y hy=>jO y.Lo.L (by have:=az Stmt.tot hy;have t0:=Stmt.tot_eq y;have t26:=Exp.tot_eq y.Lo;omega)) (fun y hy=>jO y.Hi.L (by have:=az Stmt.tot hy;have t0:=Stmt.tot_eq y;have t26:=Exp.tot_eq y.Hi;omega)) (fun y hy=>ih y hy (by have:=az Stmt.tot hy;omega))
theorem J9 (xs:List Stmt) (h:(List.length xs+(List.map Stmt.tot xs).sum)≤4194304):∀ k:Int,1≤k→k+20*((List.length xs+(List.map Stmt.tot xs).sum):Nat)≤2147483648→Says prog 62 [.osl 1 74 (List.length xs) (Ows ((List.flatMap Stmt.d xs))),.int .i64 k] (.int .i64 ((ak bg) xs k).2) [(1,.osl 1 74 (List.length xs) (Ows (List.flatMap Stmt.d ((ak bg) xs k).1)))]:=Eh xs (by omega) (fun y hy=>jO y.At.L (by have:=az Stmt.tot hy;have t0:=Stmt.tot_eq y;have t26:=Exp.tot_eq y.At;omega)) (fun y hy=>jO y.E.L (by have:=az Stmt.tot hy;have t0:=Stmt.tot_eq y;have t26:=Exp.tot_eq y.E;omega)) (fun y hy=>jO y.Lo.L (by have:=az Stmt.tot hy;have t0:=Stmt.tot_eq y;have t26:=Exp.tot_eq y.Lo;omega)) (fun y hy=>jO y.Hi.L (by have:=az Stmt.tot hy;have t0:=Stmt.tot_eq y;have t26:=Exp.tot_eq y.Hi;omega)) (fun y hy=>Ko y (by have:=az Stmt.tot hy;omega))
theorem KD:∀ x:Stmt,Stmt.tot x≤4194304→∀ k:Int,1≤k→k+20*((List.length x.Body+(List.map Stmt.tot x.Body).sum):Nat)≤2147483648→Says prog 64 [.rsl (List.length x.Body) (Cs (List.flatMap Stmt.d ((ak bg) x.Body k).1)),.int .i64 k] (.int .i64 ((ak bg) x.Body k).2) []:=Stmt.ind fun x ih h=>by
 have ht:=Stmt.tot_eq x
 exact Et x.Body (by omega) (fun y hy=>jP y.At.L (by have:=az Stmt.tot hy;have t0:=Stmt.tot_eq y;have t26:=Exp.tot_eq y.At;omega)) (fun y hy=>jP y.E.L (by have:=az Stmt.tot hy;have t0:=Stmt.tot_eq y;have t26:=Exp.tot_eq y.E;omega)) (fun y hy=>jP y.Lo.L (by have:=az Stmt.tot hy;have t0:=Stmt.tot_eq y;have t26:=Exp.tot_eq y.Lo;omega)) (fun y hy=>jP y.Hi.L (by have:=az Stmt.tot hy;have t0:=Stmt.tot_eq y;have t26:=Exp.tot_eq y.Hi;omega)) (fun y hy=>ih y hy (by have:=az Stmt.tot hy;omega))
theorem KC (xs:List Stmt) (h:(List.length xs+(List.map Stmt.tot xs).sum)≤4194304):∀ k:Int,1≤k→k+20*((List.length xs+(List.map Stmt.tot xs).sum):Nat)≤2147483648→Says prog 64 [.rsl (List.length xs) (Cs (List.flatMap Stmt.d ((ak bg) xs k).1)),.int .i64 k] (.int .i64 ((ak bg) xs k).2) []:=Et xs (by omega) (fun y hy=>jP y.At.L (by have:=az Stmt.tot hy;have t0:=Stmt.tot_eq y;have t26:=Exp.tot_eq y.At;omega)) (fun y hy=>jP y.E.L (by have:=az Stmt.tot hy;have t0:=Stmt.tot_eq y;have t26:=Exp.tot_eq y.E;omega)) (fun y hy=>jP y.Lo.L (by have:=az Stmt.tot hy;have t0:=Stmt.tot_eq y;have t26:=Exp.tot_eq y.Lo;omega)) (fun y hy=>jP y.Hi.L (by have:=az Stmt.tot hy;have t0:=Stmt.tot_eq y;have t26:=Exp.tot_eq y.Hi;omega)) (fun y hy=>KD y (by have:=az Stmt.tot hy;omega))
def dI:Arr→Int→Arr × Int
 | ⟨aName,aSize⟩,k=>(⟨mtx (k),k+1⟩,k+1+1)
theorem BH (x:Arr) (k:Int):dI x k=(⟨mtx (k),k+1⟩,k+1+1):=by cases x;rw[dI]<;>rfl
theorem kW (x:Arr) (k:Int):k+2≤(dI x k).2∧(dI x k).2≤k+2+20*((Arr.tot x:Nat):Int):=by
 rw[BH]
 have ht:=Arr.tot_eq x
 simp only
 omega
theorem aS4:aY prog 61=true:=by kernel_rfl
theorem Q3 (xs:List Arr) (hm:xs.length≤4194304):∀ k:Int,1≤k→k+20*((List.length xs+(List.map Arr.tot xs).sum):Nat)≤2147483648→Says prog 61 [.osl 1 130 (List.length xs) (Ows ((List.flatMap Arr.d xs))),.int .i64 k] (.int .i64 ((ak dI) xs k).2) [(1,.osl 1 130 (List.length xs) (Ows (List.flatMap Arr.d ((ak dI) xs k).1)))]:=by
 intro k k1 kL
 refine kP [1] [.osl 1 130 xs.length (Ows (List.flatMap Arr.d ((ak dI) xs k).1))] Go.Proofs.Tryz.func61 aTh (by simp) ?_
 generalize hR:((ak dI) xs k).2=R0
 simp[v61,r61]
 refine gY (l:=afU) (b:=agn) rfl [] (fun i=>[.osl 1 130 xs.length (Ows (((ak dI) (xs.take i) k).1.flatMap Arr.d)++Ows ((xs.drop i).flatMap Arr.d)),.int .i64 ((ak dI) (xs.take i) k).2,.int .i64 0,.int .i64 (i:Int),.dead]) (fun _=>True) xs.length
  (fun ex en=>ex=.exit 0∧en=[.osl 1 130 xs.length (Ows (List.flatMap Arr.d ((ak dI) xs k).1)),.int .i64 ((ak dI) xs k).2,.int .i64 0,.int .i64 xs.length,.dead]) ?_ ?_ trivial (by simp[ak]) ?_
 ·intro i hi _ q hn hx hr
  obtain⟨x,hx0⟩:∃ x,xs[i]?=some x:=⟨_,List.getElem?_eq_getElem hi⟩
  have hsum:=sum_take_le (Arr.tot) xs (i+1)
  rw[bQ (Arr.tot) hx0] at hsum
  have hbd:=aW dI Arr.tot (xs:=(xs.take i)) (k:=k) (fun x hx k=>by have b:=kW x k;omega)
  have hln:(xs.take i).length=i:=by simp;omega
  have hA:(Ows (((ak dI) (xs.take i) k).1.flatMap Arr.d)).length=i*2:=by rw[bD,dV _ 2 Arr.d_len,aX];simp;omega
  rw[iQ _ k hx0] at hn
  rw[drop_cons hx0]
  generalize (ak dI) (xs.take i) k=P at hn hbd hA ⊢
  obtain⟨pa,κ⟩:=P
  simp only at hn hbd hA ⊢
  have kp:1≤κ:=by omega
  have kq:κ+20*(1+Arr.tot x:Nat)≤2147483648+0:=by omega
  have hwi:IntKind.i64.wrap ((i:Int)+1)=((i+1:Nat):Int):=by rw[aA]<;>omega
  rw[List.flatMap_append,gU] at hn
  generalize hA0:Ows (pa.flatMap Arr.d)=A at hn hA ⊢
  have hA1:A.length=i*2:=hA
  rw[List.flatMap_cons,gU]
  generalize Ows ((xs.drop (i+1)).flatMap Arr.d)=B at hn ⊢
  have offn:∀ a b:Nat,i*2+a+b=i*2+(a+b):=fun a b=>Nat.add_assoc _ _ _
  have hc0:i*2+1≤i*2+(B.length+1+1):=by omega
  have hc1:i*2+2≤i*2+(B.length+1+1):=by omega
  rw[BH] at hn
  have ht:=Arr.tot_eq x
  have w0:IntKind.i64.wrap (κ+1)=κ+1:=by rw[aA]<;>omega
  have w1:IntKind.i64.wrap (κ+1+1)=κ+1+1:=by rw[aA]<;>omega
  simp[hi,hwi,offn,eu hA1,dM hA1,gX hA1,fQ hA1,gV hA1,fM hA1,dw hA1,bV hA1,spl,hA1,hc0,hc1,w0,w1]
  refine ai (dK (κ) (by omega) (by omega)) ?_
  simp[hi,hwi,offn,eu hA1,dM hA1,gX hA1,fQ hA1,gV hA1,fM hA1,dw hA1,bV hA1,spl,hA1,hc0,hc1,w0,w1]
  refine hn _ ?_ trivial
  simp
 ·intro _ q hx hr
  simp
  exact hx _ _ ⟨rfl,by simp⟩
 ·rintro ex en ⟨rfl,rfl⟩
  simp[←hR]
theorem Rh (xs:List Arr) (hm:xs.length≤4194304):∀ k:Int,1≤k→k+20*((List.length xs+(List.map Arr.tot xs).sum):Nat)≤2147483648→Says prog 63 [.rsl (List.length xs) (Cs (List.flatMap Arr.d ((ak dI) xs k).1)),.int .i64 k] (.int .i64 ((ak dI) xs k).2) []:=by
 intro k k1 kL
 refine aP Go.Proofs.Tryz.func63 aTf ?_
 generalize hR:((ak dI) xs k).2=R0
 have hML:=aX dI xs k
 simp[v63,r63]
 refine gY (l:=afS) (b:=agl) rfl [] (fun i=>[.rsl xs.length (Cs (((ak dI) xs k).1.flatMap Arr.d)),.int .i64 ((ak dI) (xs.take i) k).2,.int .i64 0,.int .i64 (i:Int),.dead,.dead,.dead]) (fun _=>True) xs.length
  (fun ex en=>ex=.exit 0∧en=[.rsl xs.length (Cs (((ak dI) xs k).1.flatMap Arr.d)),.int .i64 ((ak dI) xs k).2,.int .i64 0,.int .i64 xs.length,.dead,.dead,.dead]) ?_ ?_ trivial (by simp[ak]) ?_
 ·intro i hi _ q hn hx hr
  obtain⟨x,hx0⟩:∃ x,xs[i]?=some x:=⟨_,List.getElem?_eq_getElem hi⟩
  have hsum:=sum_take_le (Arr.tot) xs (i+1)
  rw[bQ (Arr.tot) hx0] at hsum
  have hbd:=aW dI Arr.tot (xs:=(xs.take i)) (k:=k) (fun x hx k=>by have b:=kW x k;omega)
  have hln:(xs.take i).length=i:=by simp;omega
  have hy:=uT dI k hx0
  have hrow:=row_drop Arr.d 2 Arr.d_len hy
  generalize (ak dI) xs k=M at hrow hn ⊢
  rw[iQ _ k hx0] at hn
  generalize (ak dI) (xs.take i) k=P at hn hbd hrow ⊢
  obtain⟨pa,κ⟩:=P
  simp only at hn hbd hrow ⊢
  have kp:1≤κ:=by omega
  have kq:κ+20*(1+Arr.tot x:Nat)≤2147483648+0:=by omega
  have hwi:IntKind.i64.wrap ((i:Int)+1)=((i+1:Nat):Int):=by rw[aA]<;>omega
  rw[BH] at hn hrow
  have ht:=Arr.tot_eq x
  have w0:IntKind.i64.wrap (κ+1)=κ+1:=by rw[aA]<;>omega
  have w1:IntKind.i64.wrap (κ+1+1)=κ+1+1:=by rw[aA]<;>omega
  simp[hi,hwi,aj,hrow,w0,w1]
  refine ay (dK (κ) (by omega) (by omega)) ?_
  simp[hi,hwi,aj,hrow,w0,w1]
  refine hn _ ?_ trivial
  simp
 ·intro _ q hx hr
  simp
  exact hx _ _ ⟨rfl,by simp⟩
 ·rintro ex en ⟨rfl,rfl⟩
  simp[←hR]
theorem O1 (xs:List Arr) (h:(List.length xs+(List.map Arr.tot xs).sum)≤4194304):∀ k:Int,1≤k→k+20*((List.length xs+(List.map Arr.tot xs).sum):Nat)≤2147483648→Says prog 61 [.osl 1 130 (List.length xs) (Ows ((List.flatMap Arr.d xs))),.int .i64 k] (.int .i64 ((ak dI) xs k).2) [(1,.osl 1 130 (List.length xs) (Ows (List.flatMap Arr.d ((ak dI) xs k).1)))]:=Q3 xs (by omega)
theorem Pm (xs:List Arr) (h:(List.length xs+(List.map Arr.tot xs).sum)≤4194304):∀ k:Int,1≤k→k+20*((List.length xs+(List.map Arr.tot xs).sum):Nat)≤2147483648→Says prog 63 [.rsl (List.length xs) (Cs (List.flatMap Arr.d ((ak dI) xs k).1)),.int .i64 k] (.int .i64 ((ak dI) xs k).2) []:=Rh xs (by omega)
def dn (x:Prog) (k:Int):Prog × Int:=(⟨(ak dI x.Arrs (k)).1,(ak bg x.Body ((ak dI x.Arrs (k)).2)).1⟩,(ak bg x.Body ((ak dI x.Arrs (k)).2)).2)
theorem tX (x:Prog) (k:Int):k≤(dn x k).2∧(dn x k).2≤k+20*(Prog.tot x:Nat):=by
 have ht:=Prog.tot_eq x
 have b0:=aW dI Arr.tot (xs:=x.Arrs) (k:=k) (fun x hx k=>by have b:=kW x k;omega)
 have b1:=aW bg Stmt.tot (xs:=x.Body) (k:=(ak dI x.Arrs (k)).2) (fun x hx k=>by have b:=iw x k;omega)
 simp only[dn]
 omega
theorem aPf:aY prog 15=true:=by kernel_rfl
theorem QZ (x:Prog) (sArrs:∀ k:Int,1≤k→k+20*((List.length x.Arrs+(List.map Arr.tot x.Arrs).sum):Nat)≤2147483648→Says prog 61 [.osl 1 130 (List.length x.Arrs) (Ows ((List.flatMap Arr.d x.Arrs))),.int .i64 k] (.int .i64 ((ak dI) x.Arrs k).2) [(1,.osl 1 130 (List.length x.Arrs) (Ows (List.flatMap Arr.d ((ak dI) x.Arrs k).1)))]) (sBody:∀ k:Int,1≤k→k+20*((List.length x.Body+(List.map Stmt.tot x.Body).sum):Nat)≤2147483648→Says prog 62 [.osl 1 74 (List.length x.Body) (Ows ((List.flatMap Stmt.d x.Body))),.int .i64 k] (.int .i64 ((ak bg) x.Body k).2) [(1,.osl 1 74 (List.length x.Body) (Ows (List.flatMap Stmt.d ((ak bg) x.Body k).1)))]):∀ k:Int,1≤k→k+20*(Prog.tot x:Nat)≤2147483648→Says prog 15 [.agg [.osl 1 130 (List.length x.Arrs) (Ows (List.flatMap Arr.d x.Arrs)),.osl 2 74 (List.length x.Body) (Ows (List.flatMap Stmt.d x.Body))],.int .i64 k] (.int .i64 (dn x k).2) [(1,.osl 1 130 (List.length (dn x k).1.Arrs) (Ows (List.flatMap Arr.d (dn x k).1.Arrs))),(2,.osl 2 74 (List.length (dn x k).1.Body) (Ows (List.flatMap Stmt.d (dn x k).1.Body)))]:=by
 intro k k1 kL
 have ht:=Prog.tot_eq x
 refine kP [1,2] [.osl 1 130 (List.length (dn x k).1.Arrs) (Ows (List.flatMap Arr.d (dn x k).1.Arrs)),.osl 2 74 (List.length (dn x k).1.Body) (Ows (List.flatMap Stmt.d (dn x k).1.Body))] Go.Proofs.Tryz.func15 aTz (by simp) ?_
 simp only[dn]
 have b0:=aW dI Arr.tot (xs:=x.Arrs) (k:=k) (fun x hx k=>by have b:=kW x k;omega)
 have c0:=sArrs (k) (by omega) (by omega)
 have le0:=aX dI x.Arrs (k)
 generalize hq0:ak dI x.Arrs (k)=q0 at b0 c0 le0 ⊢
 obtain⟨l0,κ0⟩:=q0
 simp only at b0 c0 le0 ⊢
 try simp at c0
 have b1:=aW bg Stmt.tot (xs:=x.Body) (k:=κ0) (fun x hx k=>by have b:=iw x k;omega)
 have c1:=sBody (κ0) (by omega) (by omega)
 have le1:=aX bg x.Body (κ0)
 generalize hq1:ak bg x.Body (κ0)=q1 at b1 c1 le1 ⊢
 obtain⟨l1,κ1⟩:=q1
 simp only at b1 c1 le1 ⊢
 try simp at c1
 simp[v15,r15,le0,le1]
 refine bn [_] aS4 c0 ?_
 simp[le0,le1]
 refine bn [_] aPe c1 ?_
 simp[le0,le1]
theorem Rf (x:Prog) (sArrs:∀ k:Int,1≤k→k+20*((List.length x.Arrs+(List.map Arr.tot x.Arrs).sum):Nat)≤2147483648→Says prog 63 [.rsl (List.length x.Arrs) (Cs (List.flatMap Arr.d ((ak dI) x.Arrs k).1)),.int .i64 k] (.int .i64 ((ak dI) x.Arrs k).2) []) (sBody:∀ k:Int,1≤k→k+20*((List.length x.Body+(List.map Stmt.tot x.Body).sum):Nat)≤2147483648→Says prog 64 [.rsl (List.length x.Body) (Cs (List.flatMap Stmt.d ((ak bg) x.Body k).1)),.int .i64 k] (.int .i64 ((ak bg) x.Body k).2) []):∀ k:Int,1≤k→k+20*(Prog.tot x:Nat)≤2147483648→Says prog 16 [.agg (Cs (Prog.d (dn x k).1)),.int .i64 k] (.int .i64 (dn x k).2) []:=by
 intro k k1 kL
 have ht:=Prog.tot_eq x
 refine aP Go.Proofs.Tryz.func16 ok16 ?_
 simp only[dn]
 have b0:=aW dI Arr.tot (xs:=x.Arrs) (k:=k) (fun x hx k=>by have b:=kW x k;omega)
 have c0:=sArrs (k) (by omega) (by omega)
 have le0:=aX dI x.Arrs (k)
 generalize hq0:ak dI x.Arrs (k)=q0 at b0 c0 le0 ⊢
 obtain⟨l0,κ0⟩:=q0
 simp only at b0 c0 le0 ⊢
 try simp at c0
 have n0:¬(κ0<0):=by omega
 have b1:=aW bg Stmt.tot (xs:=x.Body) (k:=κ0) (fun x hx k=>by have b:=iw x k;omega)
 have c1:=sBody (κ0) (by omega) (by omega)
 have le1:=aX bg x.Body (κ0)
 generalize hq1:ak bg x.Body (κ0)=q1 at b1 c1 le1 ⊢
 obtain⟨l1,κ1⟩:=q1
 simp only at b1 c1 le1 ⊢
 try simp at c1
 have n1:¬(κ1<0):=by omega
 simp[v16,r16,le0,n0,le1,n1]
 refine ai c0 ?_
 simp[le0,n0,le1,n1]
 refine ai c1 ?_
 simp[le0,n0,le1,n1]
theorem Eg (x:Prog) (h:Prog.tot x≤4194304):∀ k:Int,1≤k→k+20*(Prog.tot x:Nat)≤2147483648→Says prog 15 [.agg [.osl 1 130 (List.length x.Arrs) (Ows (List.flatMap Arr.d x.Arrs)),.osl 2 74 (List.length x.Body) (Ows (List.flatMap Stmt.d x.Body))],.int .i64 k] (.int .i64 (dn x k).2) [(1,.osl 1 130 (List.length (dn x k).1.Arrs) (Ows (List.flatMap Arr.d (dn x k).1.Arrs))),(2,.osl 2 74 (List.length (dn x k).1.Body) (Ows (List.flatMap Stmt.d (dn x k).1.Body)))]:=by
 have ht:=Prog.tot_eq x
 exact QZ x (O1 x.Arrs (by omega)) (J9 x.Body (by omega))
theorem Pj (x:Prog) (h:Prog.tot x≤4194304):∀ k:Int,1≤k→k+20*(Prog.tot x:Nat)≤2147483648→Says prog 16 [.agg (Cs (Prog.d (dn x k).1)),.int .i64 k] (.int .i64 (dn x k).2) []:=by
 have ht:=Prog.tot_eq x
 exact Rf x (Pm x.Arrs (by omega)) (KC x.Body (by omega))
end Go.AmC
