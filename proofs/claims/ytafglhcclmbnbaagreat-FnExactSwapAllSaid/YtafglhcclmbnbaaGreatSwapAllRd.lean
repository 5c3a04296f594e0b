import Derived.Test.YtafglhcclmbnbaaGreatSwapAllC1
import Derived.Test.YtafglhcclmbnbaaGreatSwapAllDat
import Derived.Test.YtafglhcclmbnbaaGreatSwapAllSz
set_option linter.unusedSimpArgs false
set_option linter.unusedVariables false
set_option maxRecDepth 20000
set_option maxHeartbeats 4000000
namespace Go.AmC
open Go Go.AM
open Go.Proofs.Tryz (prog)
theorem Su (xs:List Exp) (hm:xs.length≤1048576) (h:∀ x∈xs,Says prog 93 [.agg (Cs (Exp.d x))] (.agg (Ows (Exp.d x))) []):Says prog 166 [.rsl (List.length xs) (Cs ((List.flatMap Exp.d xs)))] (.osl 0 72 (List.length xs) (Ows ((List.flatMap Exp.d xs)))) []:=by
 refine aP Go.Proofs.Tryz.func166 aGC ?_
 have hs':(xs.length:Int)≤(bnd:Nat):=by unfold bnd;omega
 simp[aM0,aOW,hm,hs']
 refine gY (l:=UI) (b:=WG) rfl [] (fun i=>[.rsl (List.length xs) (Cs ((List.flatMap Exp.d xs))),.osl 0 72 0 [],.osl 0 72 xs.length (Ows ((xs.take i).flatMap Exp.d)++(List.replicate (xs.length-i) [.int .i64 0,.int .i64 0,.str [],.osl 0 72 0 []]).flatten),.int .i64 (i:Int),.dead]) (fun _=>True) xs.length
  (fun ex en=>ex=.exit 0∧en=[.rsl (List.length xs) (Cs ((List.flatMap Exp.d xs))),.osl 0 72 0 [],.osl 0 72 (List.length xs) (Ows ((List.flatMap Exp.d xs))),.int .i64 xs.length,.dead]) ?_ ?_ trivial (by simp) ?_
 ·intro i hi _ q hn hx hr
  obtain⟨x,hx0⟩:∃ x,xs[i]?=some x:=⟨_,List.getElem?_eq_getElem hi⟩
  have hrow:=row_drop Exp.d 4 Exp.d_len hx0
  have hw:IntKind.i64.wrap ((i:Int)+1)=((i+1:Nat):Int):=by rw[aA]<;>omega
  have hlen:((xs.take i).flatMap Exp.d).length=i*4:=by rw[dV _ 4 Exp.d_len];simp;omega
  rw[xR Exp.d hx0] at hn
  obtain⟨k,hk⟩:∃ k,xs.length-i=k+1:=⟨xs.length-i-1,by omega⟩
  rw[show xs.length-(i+1)=k by omega] at hn
  rw[hk]
  have hsp:=@uD (Ows ((xs.take i).flatMap Exp.d)) [.int .i64 0,.int .i64 0,.str [],.osl 0 72 0 []] (List.replicate k [.int .i64 0,.int .i64 0,.str [],.osl 0 72 0 []]).flatten (Ows (Exp.d x)) (i*4) (by simpa using hlen) (by simp)
  generalize (xs.take i).flatMap Exp.d=A at hsp hlen hn ⊢
  have hf:=h x (List.mem_of_getElem? hx0)
  try simp at hf
  try simp at hsp
  simp[hi,aj,hrow,List.replicate_succ]
  refine ai hf ?_
  simp[hi,hsp,hw,hlen]
  refine hn _ ?_ trivial
  simp
 ·intro _ q hx hr
  simp
  exact hx _ _ ⟨rfl,by simp⟩
 ·rintro ex en ⟨rfl,rfl⟩
  simp
theorem aD0 (x:Exp) (hL:Says prog 166 [.rsl (List.length x.L) (Cs ((List.flatMap Exp.d x.L)))] (.osl 0 72 (List.length x.L) (Ows ((List.flatMap Exp.d x.L)))) []):Says prog 93 [.agg (Cs (Exp.d x))] (.agg (Ows (Exp.d x))) []:=by
 refine aP Go.Proofs.Tryz.func93 aTa ?_
 try simp at hL
 simp[v93,r93,splice]
 refine ai hL ?_
 simp[splice]
theorem Na (xs:List Stmt) (hm:xs.length≤1048576) (h:∀ x∈xs,Says prog 37 [.agg (Cs (Stmt.d x))] (.agg (Ows (Stmt.d x))) []):Says prog 53 [.rsl (List.length xs) (Cs ((List.flatMap Stmt.d xs)))] (.osl 0 74 (List.length xs) (Ows ((List.flatMap Stmt.d xs)))) []:=by
 refine aP Go.Proofs.Tryz.func53 aTn ?_
 have hs':(xs.length:Int)≤(bnd:Nat):=by unfold bnd;omega
 simp[v53,r53,hm,hs']
 refine gY (l:=afY) (b:=ags) rfl [] (fun i=>[.rsl (List.length xs) (Cs ((List.flatMap Stmt.d xs))),.osl 0 74 0 [],.osl 0 74 xs.length (Ows ((xs.take i).flatMap Stmt.d)++(List.replicate (xs.length-i) [.int .i64 0,.str [],.int .i64 0,.int .i64 0,.str [],.osl 0 72 0 [],.int .i64 0,.int .i64 0,.str [],.osl 0 72 0 [],.int .i64 0,.int .i64 0,.str [],.osl 0 72 0 [],.int .i64 0,.int .i64 0,.str [],.osl 0 72 0 [],.osl 0 74 0 []]).flatten),.int .i64 (i:Int),.dead]) (fun _=>True) xs.length
  (fun ex en=>ex=.exit 0∧en=[.rsl (List.length xs) (Cs ((List.flatMap Stmt.d xs))),.osl 0 74 0 [],.osl 0 74 (List.length xs) (Ows ((List.flatMap Stmt.d xs))),.int .i64 xs.length,.dead]) ?_ ?_ trivial (by simp) ?_
 ·intro i hi _ q hn hx hr
  obtain⟨x,hx0⟩:∃ x,xs[i]?=some x:=⟨_,List.getElem?_eq_getElem hi⟩
  have hrow:=row_drop Stmt.d 19 Stmt.d_len hx0
  have hw:IntKind.i64.wrap ((i:Int)+1)=((i+1:Nat):Int):=by rw[aA]<;>omega
  have hlen:((xs.take i).flatMap Stmt.d).length=i*19:=by rw[dV _ 19 Stmt.d_len];simp;omega
  rw[xR Stmt.d hx0] at hn
  obtain⟨k,hk⟩:∃ k,xs.length-i=k+1:=⟨xs.length-i-1,by omega⟩
  rw[show xs.length-(i+1)=k by omega] at hn
  rw[hk]
  have hsp:=@uD (Ows ((xs.take i).flatMap Stmt.d)) [.int .i64 0,.str [],.int .i64 0,.int .i64 0,.str [],.osl 0 72 0 [],.int .i64 0,.int .i64 0,.str [],.osl 0 72 0 [],.int .i64 0,.int .i64 0,.str [],.osl 0 72 0 [],.int .i64 0,.int .i64 0,.str [],.osl 0 72 0 [],.osl 0 74 0 []] (List.replicate k [.int .i64 0,.str [],.int .i64 0,.int .i64 0,.str [],.osl 0 72 0 [],.int .i64 0,.int .i64 0,.str [],.osl 0 72 0 [],.int .i64 0,.int .i64 0,.str [],.osl 0 72 0 [],.int .i64 0,.int .i64 0,.str [],.osl 0 72 0 [],.osl 0 74 0 []]).flatten (Ows (Stmt.d x)) (i*19) (by simpa using hlen) (by simp)
  generalize (xs.take i).flatMap Stmt.d=A at hsp hlen hn ⊢
  have hf:=h x (List.mem_of_getElem? hx0)
  try simp at hf
  try simp at hsp
  simp[hi,aj,hrow,List.replicate_succ]
  refine ai hf ?_
  simp[hi,hsp,hw,hlen]
  refine hn _ ?_ trivial
  simp
 ·intro _ q hx hr
  simp
  exact hx _ _ ⟨rfl,by simp⟩
 ·rintro ex en ⟨rfl,rfl⟩
  simp
theorem agG (x:Stmt) (hAt:Says prog 93 [.agg (Cs (Exp.d x.At))] (.agg (Ows (Exp.d x.At))) []) (hE:Says prog 93 [.agg (Cs (Exp.d x.E))] (.agg (Ows (Exp.d x.E))) []) (hLo:Says prog 93 [.agg (Cs (Exp.d x.Lo))] (.agg (Ows (Exp.d x.Lo))) []) (hHi:Says prog 93 [.agg (Cs (Exp.d x.Hi))] (.agg (Ows (Exp.d x.Hi))) []) (hBody:Says prog 53 [.rsl (List.length x.Body) (Cs ((List.flatMap Stmt.d x.Body)))] (.osl 0 74 (List.length x.Body) (Ows ((List.flatMap Stmt.d x.Body)))) []):Says prog 37 [.agg (Cs (Stmt.d x))] (.agg (Ows (Stmt.d x))) []:=by
 refine aP Go.Proofs.Tryz.func37 aTx ?_
 try simp at hAt
 try simp at hE
 try simp at hLo
 try simp at hHi
 try simp at hBody
 simp[v37,r37,splice]
 refine ai hAt ?_
 simp[splice]
 refine ai hE ?_
 simp[splice]
 refine ai hLo ?_
 simp[splice]
 refine ai hHi ?_
 simp[splice]
 refine ai hBody ?_
 simp[splice]
theorem aD1 (x:Arr):Says prog 117 [.agg (Cs (Arr.d x))] (.agg (Ows (Arr.d x))) []:=by
 refine aP Go.Proofs.Tryz.func117 aGO ?_
 simp[v117,aO5,splice]
theorem agI (xs:List Arr) (hm:xs.length≤1048576) (h:∀ x∈xs,Says prog 117 [.agg (Cs (Arr.d x))] (.agg (Ows (Arr.d x))) []):Says prog 52 [.rsl (List.length xs) (Cs ((List.flatMap Arr.d xs)))] (.osl 0 130 (List.length xs) (Ows ((List.flatMap Arr.d xs)))) []:=by
 refine aP Go.Proofs.Tryz.func52 aTo ?_
 have hs':(xs.length:Int)≤(bnd:Nat):=by unfold bnd;omega
 simp[v52,r52,hm,hs']
 refine gY (l:=afZ) (b:=agt) rfl [] (fun i=>[.rsl (List.length xs) (Cs ((List.flatMap Arr.d xs))),.osl 0 130 0 [],.osl 0 130 xs.length (Ows ((xs.take i).flatMap Arr.d)++(List.replicate (xs.length-i) [.str [],.int .i64 0]).flatten),.int .i64 (i:Int),.dead]) (fun _=>True) xs.length
  (fun ex en=>ex=.exit 0∧en=[.rsl (List.length xs) (Cs ((List.flatMap Arr.d xs))),.osl 0 130 0 [],.osl 0 130 (List.length xs) (Ows ((List.flatMap Arr.d xs))),.int .i64 xs.length,.dead]) ?_ ?_ trivial (by simp) ?_
 ·intro i hi _ q hn hx hr
  obtain⟨x,hx0⟩:∃ x,xs[i]?=some x:=⟨_,List.getElem?_eq_getElem hi⟩
  have hrow:=row_drop Arr.d 2 Arr.d_len hx0
  have hw:IntKind.i64.wrap ((i:Int)+1)=((i+1:Nat):Int):=by rw[aA]<;>omega
  have hlen:((xs.take i).flatMap Arr.d).length=i*2:=by rw[dV _ 2 Arr.d_len];simp;omega
  rw[xR Arr.d hx0] at hn
  obtain⟨k,hk⟩:∃ k,xs.length-i=k+1:=⟨xs.length-i-1,by omega⟩
  rw[show xs.length-(i+1)=k by omega] at hn
  rw[hk]
  have hsp:=@uD (Ows ((xs.take i).flatMap Arr.d)) [.str [],.int .i64 0] (List.replicate k [.str [],.int .i64 0]).flatten (Ows (Arr.d x)) (i*2) (by simpa using hlen) (by simp)
  generalize (xs.take i).flatMap Arr.d=A at hsp hlen hn ⊢
  have hf:=h x (List.mem_of_getElem? hx0)
  try simp at hf
  try simp at hsp
  simp[hi,aj,hrow,List.replicate_succ]
  refine ai hf ?_
  simp[hi,hsp,hw,hlen]
  refine hn _ ?_ trivial
  simp
 ·intro _ q hx hr
  simp
  exact hx _ _ ⟨rfl,by simp⟩
 ·rintro ex en ⟨rfl,rfl⟩
  simp
theorem agH (x:Prog) (hArrs:Says prog 52 [.rsl (List.length x.Arrs) (Cs ((List.flatMap Arr.d x.Arrs)))] (.osl 0 130 (List.length x.Arrs) (Ows ((List.flatMap Arr.d x.Arrs)))) []) (hBody:Says prog 53 [.rsl (List.length x.Body) (Cs ((List.flatMap Stmt.d x.Body)))] (.osl 0 74 (List.length x.Body) (Ows ((List.flatMap Stmt.d x.Body)))) []):Says prog 12 [.agg (Cs (Prog.d x))] (.agg (Ows (Prog.d x))) []:=by
 refine aP Go.Proofs.Tryz.func12 aTB ?_
 try simp at hArrs
 try simp at hBody
 simp[v12,r12,splice]
 refine ai hArrs ?_
 simp[splice]
 refine ai hBody ?_
 simp[splice]
theorem U7 (xs:List Exp) (hm:xs.length≤maxLen) (h:∀ x∈xs,Says prog 98 [.agg (Cs (Exp.d x)),.agg (Cs (Exp.d x))] (.bool true) []):Says prog 176 [.rsl (List.length xs) (Cs ((List.flatMap Exp.d xs))),.rsl (List.length xs) (Cs ((List.flatMap Exp.d xs)))] (.bool true) []:=by
 refine aP Go.Proofs.Tryz.func176 aGx ?_
 simp[aMZ,aOT]
 refine gY (l:=UC) (b:=Wy) rfl [] (fun i=>[.rsl (List.length xs) (Cs ((List.flatMap Exp.d xs))),.rsl (List.length xs) (Cs ((List.flatMap Exp.d xs))),.bool false,.dead,.int .i64 (i:Int),.dead,.dead]) (fun _=>True) xs.length
  (fun ex en=>ex=.exit 0∧en=[.rsl (List.length xs) (Cs ((List.flatMap Exp.d xs))),.rsl (List.length xs) (Cs ((List.flatMap Exp.d xs))),.bool false,.dead,.int .i64 xs.length,.dead,.dead]) ?_ ?_ trivial (by simp) ?_
 ·intro i hi _ q hn hx hr
  obtain⟨x,hx0⟩:∃ x,xs[i]?=some x:=⟨_,List.getElem?_eq_getElem hi⟩
  have hrow:=row_drop Exp.d 4 Exp.d_len hx0
  have hw:IntKind.i64.wrap ((i:Int)+1)=((i+1:Nat):Int):=by unfold maxLen at hm;rw[aA]<;>omega
  have hf:=h x (List.mem_of_getElem? hx0)
  try simp at hf
  simp[hi,aj,hrow,hw]
  refine ay hf ?_
  simp[hw]
  refine hn _ ?_ trivial
  simp
 ·intro _ q hx hr
  simp
  exact hx _ _ ⟨rfl,rfl⟩
 ·rintro ex en ⟨rfl,rfl⟩
  simp
theorem aG2 (x:Exp) (hL:Says prog 176 [.rsl (List.length x.L) (Cs ((List.flatMap Exp.d x.L))),.rsl (List.length x.L) (Cs ((List.flatMap Exp.d x.L)))] (.bool true) []):Says prog 98 [.agg (Cs (Exp.d x)),.agg (Cs (Exp.d x))] (.bool true) []:=by
 refine aP Go.Proofs.Tryz.func98 aS6 ?_
 try simp at hL
 simp[v98,r98]
 refine ai hL ?_
 simp
theorem NV (xs:List Stmt) (hm:xs.length≤maxLen) (h:∀ x∈xs,Says prog 39 [.agg (Cs (Stmt.d x)),.agg (Cs (Stmt.d x))] (.bool true) []):Says prog 60 [.rsl (List.length xs) (Cs ((List.flatMap Stmt.d xs))),.rsl (List.length xs) (Cs ((List.flatMap Stmt.d xs)))] (.bool true) []:=by
 refine aP Go.Proofs.Tryz.func60 aTi ?_
 simp[v60,r60]
 refine gY (l:=afV) (b:=agp) rfl [] (fun i=>[.rsl (List.length xs) (Cs ((List.flatMap Stmt.d xs))),.rsl (List.length xs) (Cs ((List.flatMap Stmt.d xs))),.bool false,.dead,.int .i64 (i:Int),.dead,.dead]) (fun _=>True) xs.length
  (fun ex en=>ex=.exit 0∧en=[.rsl (List.length xs) (Cs ((List.flatMap Stmt.d xs))),.rsl (List.length xs) (Cs ((List.flatMap Stmt.d xs))),.bool false,.dead,.int .i64 xs.length,.dead,.dead]) ?_ ?_ trivial (by simp) ?_
 ·intro i hi _ q hn hx hr
  obtain⟨x,hx0⟩:∃ x,xs[i]?=some x:=⟨_,List.getElem?_eq_getElem hi⟩
  have hrow:=row_drop Stmt.d 19 Stmt.d_len hx0
  have hw:IntKind.i64.wrap ((i:Int)+1)=((i+1:Nat):Int):=by unfold maxLen at hm;rw[aA]<;>omega
  have hf:=h x (List.mem_of_getElem? hx0)
  try simp at hf
  simp[hi,aj,hrow,hw]
  refine ay hf ?_
  simp[hw]
  refine hn _ ?_ trivial
  simp
 ·intro _ q hx hr
  simp
  exact hx _ _ ⟨rfl,rfl⟩
 ·rintro ex en ⟨rfl,rfl⟩
  simp
theorem ag7 (x:Stmt) (hAt:Says prog 98 [.agg (Cs (Exp.d x.At)),.agg (Cs (Exp.d x.At))] (.bool true) []) (hE:Says prog 98 [.agg (Cs (Exp.d x.E)),.agg (Cs (Exp.d x.E))] (.bool true) []) (hLo:Says prog 98 [.agg (Cs (Exp.d x.Lo)),.agg (Cs (Exp.d x.Lo))] (.bool true) []) (hHi:Says prog 98 [.agg (Cs (Exp.d x.Hi)),.agg (Cs (Exp.d x.Hi))] (.bool true) []) (hBody:Says prog 60 [.rsl (List.length x.Body) (Cs ((List.flatMap Stmt.d x.Body))),.rsl (List.length x.Body) (Cs ((List.flatMap Stmt.d x.Body)))] (.bool true) []):Says prog 39 [.agg (Cs (Stmt.d x)),.agg (Cs (Stmt.d x))] (.bool true) []:=by
 refine aP Go.Proofs.Tryz.func39 aTw ?_
 try simp at hAt
 try simp at hE
 try simp at hLo
 try simp at hHi
 try simp at hBody
 simp[v39,r39]
 refine ai hAt ?_
 simp
 refine ai hE ?_
 simp
 refine ai hLo ?_
 simp
 refine ai hHi ?_
 simp
 refine ai hBody ?_
 simp
theorem aG3 (x:Arr):Says prog 127 [.agg (Cs (Arr.d x)),.agg (Cs (Arr.d x))] (.bool true) []:=by
 refine aP Go.Proofs.Tryz.func127 aGK ?_
 simp[v127,aO1]
theorem ag9 (xs:List Arr) (hm:xs.length≤maxLen) (h:∀ x∈xs,Says prog 127 [.agg (Cs (Arr.d x)),.agg (Cs (Arr.d x))] (.bool true) []):Says prog 59 [.rsl (List.length xs) (Cs ((List.flatMap Arr.d xs))),.rsl (List.length xs) (Cs ((List.flatMap Arr.d xs)))] (.bool true) []:=by
 refine aP Go.Proofs.Tryz.func59 aTj ?_
 simp[v59,r59]
 refine gY (l:=afW) (b:=agq) rfl [] (fun i=>[.rsl (List.length xs) (Cs ((List.flatMap Arr.d xs))),.rsl (List.length xs) (Cs ((List.flatMap Arr.d xs))),.bool false,.dead,.int .i64 (i:Int),.dead,.dead]) (fun _=>True) xs.length
  (fun ex en=>ex=.exit 0∧en=[.rsl (List.length xs) (Cs ((List.flatMap Arr.d xs))),.rsl (List.length xs) (Cs ((List.flatMap Arr.d xs))),.bool false,.dead,.int .i64 xs.length,.dead,.dead]) ?_ ?_ trivial (by simp) ?_
 ·intro i hi _ q hn hx hr
  obtain⟨x,hx0⟩:∃ x,xs[i]?=some x:=⟨_,List.getElem?_eq_getElem hi⟩
  have hrow:=row_drop Arr.d 2 Arr.d_len hx0
  have hw:IntKind.i64.wrap ((i:Int)+1)=((i+1:Nat):Int):=by unfold maxLen at hm;rw[aA]<;>omega
  have hf:=h x (List.mem_of_getElem? hx0)
  try simp at hf
  simp[hi,aj,hrow,hw]
  refine ay hf ?_
  simp[hw]
  refine hn _ ?_ trivial
  simp
 ·intro _ q hx hr
  simp
  exact hx _ _ ⟨rfl,rfl⟩
 ·rintro ex en ⟨rfl,rfl⟩
  simp
theorem ag8 (x:Prog) (hArrs:Says prog 59 [.rsl (List.length x.Arrs) (Cs ((List.flatMap Arr.d x.Arrs))),.rsl (List.length x.Arrs) (Cs ((List.flatMap Arr.d x.Arrs)))] (.bool true) []) (hBody:Says prog 60 [.rsl (List.length x.Body) (Cs ((List.flatMap Stmt.d x.Body))),.rsl (List.length x.Body) (Cs ((List.flatMap Stmt.d x.Body)))] (.bool true) []):Says prog 14 [.agg (Cs (Prog.d x)),.agg (Cs (Prog.d x))] (.bool true) []:=by
 refine aP Go.Proofs.Tryz.func14 aTA ?_
 try simp at hArrs
 try simp at hBody
 simp[v14,r14]
 refine ai hArrs ?_
 simp
 refine ai hBody ?_
 simp
theorem CJ:∀ x:Exp,(Exp.lg x)→∀ l:Int,0≤l→l≤1048576→Says prog 89 [.agg (Cs (Exp.d x)),.int .i64 l] (.int .i64 (szR (Exp.tot x) l)) []:=Exp.ind fun x ih h=>by
 rw[Exp.lg_eq] at h
 obtain⟨hS,hL⟩:=h
 exact aD2 x hS (Sz _ hL.1 (fun y hy=>ih y hy (hL.2 y hy)))
theorem aNh (xs:List Exp) (h:List.length xs≤maxLen∧∀ y∈xs,(Exp.lg y)):∀ l:Int,0≤l→l≤1048576→Says prog 155 [.rsl (List.length xs) (Cs ((List.flatMap Exp.d xs))),.int .i64 l] (.int .i64 (szR (List.length xs+(List.map Exp.tot xs).sum) l)) []:=Sz _ h.1 (fun y hy=>CJ y (h.2 y hy))
theorem XI:∀ x:Stmt,(Stmt.lg x)→∀ l:Int,0≤l→l≤1048576→Says prog 35 [.agg (Cs (Stmt.d x)),.int .i64 l] (.int .i64 (szR (Stmt.tot x) l)) []:=Stmt.ind fun x ih h=>by
 rw[Stmt.lg_eq] at h
 obtain⟨hS,hAt,hE,hLo,hHi,hBody⟩:=h
 exact agK x hS (CJ _ hAt) (CJ _ hE) (CJ _ hLo) (CJ _ hHi) (Nb _ hBody.1 (fun y hy=>ih y hy (hBody.2 y hy)))
theorem Qy (xs:List Stmt) (h:List.length xs≤maxLen∧∀ y∈xs,(Stmt.lg y)):∀ l:Int,0≤l→l≤1048576→Says prog 47 [.rsl (List.length xs) (Cs ((List.flatMap Stmt.d xs))),.int .i64 l] (.int .i64 (szR (List.length xs+(List.map Stmt.tot xs).sum) l)) []:=Nb _ h.1 (fun y hy=>XI y (h.2 y hy))
theorem agJ (x:Arr) (h:(Arr.lg x)):∀ l:Int,0≤l→l≤1048576→Says prog 105 [.agg (Cs (Arr.d x)),.int .i64 l] (.int .i64 (szR (Arr.tot x) l)) []:=by
 rw[Arr.lg_eq] at h
 have hName:=h
 exact aD3 x hName
theorem XK (xs:List Arr) (h:List.length xs≤maxLen∧∀ y∈xs,(Arr.lg y)):∀ l:Int,0≤l→l≤1048576→Says prog 46 [.rsl (List.length xs) (Cs ((List.flatMap Arr.d xs))),.int .i64 l] (.int .i64 (szR (List.length xs+(List.map Arr.tot xs).sum) l)) []:=agN _ h.1 (fun y hy=>agJ y (h.2 y hy))
theorem XJ (x:Prog) (h:(Prog.lg x)):∀ l:Int,0≤l→l≤1048576→Says prog 10 [.agg (Cs (Prog.d x)),.int .i64 l] (.int .i64 (szR (Prog.tot x) l)) []:=by
 rw[Prog.lg_eq] at h
 obtain⟨hArrs,hBody⟩:=h
 exact agM x (XK _ hArrs) (Qy _ hBody)
theorem CG:∀ x:Exp,(Exp.tot x)≤1048576→Says prog 93 [.agg (Cs (Exp.d x))] (.agg (Ows (Exp.d x))) []:=Exp.ind fun x ih h=>by
 rw[Exp.tot_eq] at h
 exact aD0 x (Su _ (by omega) (fun y hy=>ih y hy (by have:=az Exp.tot hy;omega)))
theorem aNd (xs:List Exp) (h:(List.length xs+(List.map Exp.tot xs).sum)≤1048576):Says prog 166 [.rsl (List.length xs) (Cs ((List.flatMap Exp.d xs)))] (.osl 0 72 (List.length xs) (Ows ((List.flatMap Exp.d xs)))) []:=Su _ (by omega) (fun y hy=>CG y (by have:=az Exp.tot hy;omega))
theorem XF:∀ x:Stmt,(Stmt.tot x)≤1048576→Says prog 37 [.agg (Cs (Stmt.d x))] (.agg (Ows (Stmt.d x))) []:=Stmt.ind fun x ih h=>by
 rw[Stmt.tot_eq] at h
 exact agG x (CG _ (by omega)) (CG _ (by omega)) (CG _ (by omega)) (CG _ (by omega)) (Na _ (by omega) (fun y hy=>ih y hy (by have:=az Stmt.tot hy;omega)))
theorem Qw (xs:List Stmt) (h:(List.length xs+(List.map Stmt.tot xs).sum)≤1048576):Says prog 53 [.rsl (List.length xs) (Cs ((List.flatMap Stmt.d xs)))] (.osl 0 74 (List.length xs) (Ows ((List.flatMap Stmt.d xs)))) []:=Na _ (by omega) (fun y hy=>XF y (by have:=az Stmt.tot hy;omega))
theorem agF (x:Arr) (h:(Arr.tot x)≤1048576):Says prog 117 [.agg (Cs (Arr.d x))] (.agg (Ows (Arr.d x))) []:=by
 rw[Arr.tot_eq] at h
 exact aD1 x
theorem XH (xs:List Arr) (h:(List.length xs+(List.map Arr.tot xs).sum)≤1048576):Says prog 52 [.rsl (List.length xs) (Cs ((List.flatMap Arr.d xs)))] (.osl 0 130 (List.length xs) (Ows ((List.flatMap Arr.d xs)))) []:=agI _ (by omega) (fun y hy=>agF y (by have:=az Arr.tot hy;omega))
theorem XG (x:Prog) (h:(Prog.tot x)≤1048576):Says prog 12 [.agg (Cs (Prog.d x))] (.agg (Ows (Prog.d x))) []:=by
 rw[Prog.tot_eq] at h
 exact agH x (XH _ (by omega)) (Qw _ (by omega))
theorem Dc:∀ x:Exp,(Exp.lg x)→Says prog 98 [.agg (Cs (Exp.d x)),.agg (Cs (Exp.d x))] (.bool true) []:=Exp.ind fun x ih h=>by
 rw[Exp.lg_eq] at h
 obtain⟨hS,hL⟩:=h
 exact aG2 x (U7 _ hL.1 (fun y hy=>ih y hy (hL.2 y hy)))
theorem aPk (xs:List Exp) (h:List.length xs≤maxLen∧∀ y∈xs,(Exp.lg y)):Says prog 176 [.rsl (List.length xs) (Cs ((List.flatMap Exp.d xs))),.rsl (List.length xs) (Cs ((List.flatMap Exp.d xs)))] (.bool true) []:=U7 _ h.1 (fun y hy=>Dc y (h.2 y hy))
theorem Yk:∀ x:Stmt,(Stmt.lg x)→Says prog 39 [.agg (Cs (Stmt.d x)),.agg (Cs (Stmt.d x))] (.bool true) []:=Stmt.ind fun x ih h=>by
 rw[Stmt.lg_eq] at h
 obtain⟨hS,hAt,hE,hLo,hHi,hBody⟩:=h
 exact ag7 x (Dc _ hAt) (Dc _ hE) (Dc _ hLo) (Dc _ hHi) (NV _ hBody.1 (fun y hy=>ih y hy (hBody.2 y hy)))
theorem Rn (xs:List Stmt) (h:List.length xs≤maxLen∧∀ y∈xs,(Stmt.lg y)):Says prog 60 [.rsl (List.length xs) (Cs ((List.flatMap Stmt.d xs))),.rsl (List.length xs) (Cs ((List.flatMap Stmt.d xs)))] (.bool true) []:=NV _ h.1 (fun y hy=>Yk y (h.2 y hy))
theorem ag6 (x:Arr) (h:(Arr.lg x)):Says prog 127 [.agg (Cs (Arr.d x)),.agg (Cs (Arr.d x))] (.bool true) []:=by
 rw[Arr.lg_eq] at h
 have hName:=h
 exact aG3 x
theorem Yl (xs:List Arr) (h:List.length xs≤maxLen∧∀ y∈xs,(Arr.lg y)):Says prog 59 [.rsl (List.length xs) (Cs ((List.flatMap Arr.d xs))),.rsl (List.length xs) (Cs ((List.flatMap Arr.d xs)))] (.bool true) []:=ag9 _ h.1 (fun y hy=>ag6 y (h.2 y hy))
theorem NU (x:Prog) (h:(Prog.lg x)):Says prog 14 [.agg (Cs (Prog.d x)),.agg (Cs (Prog.d x))] (.bool true) []:=by
 rw[Prog.lg_eq] at h
 obtain⟨hArrs,hBody⟩:=h
 exact ag8 x (Yl _ hArrs) (Rn _ hBody)
section
variable {H : Type} {enc : TypeId × Value → H} {w : World} {spare : Nat → Bool} {held : Bool}
theorem fld {n:Nat} {t:TypeId} {cs:List Value} {xs:List (DataW H × List MemPlace)} {i k:Nat} (hl:xs.length=k) (hi:i<k) (h:DataW.trod enc prog w 0 spare held n t cs=xs[i]?):∃ x,DataW.trod enc prog w 0 spare held n t cs=some x :=
 ⟨_,h.trans (List.getElem?_eq_getElem (by omega))⟩
theorem agf:prog.cellsOf 3=1:=by kernel_rfl
theorem aDv:prog.cellsOf 9=1:=by kernel_rfl
theorem aG6:prog.cellsOf 64=1:=by kernel_rfl
theorem GK:prog.cellsOf 66=4:=by kernel_rfl
theorem wB:∀ (fuel:Nat) (cs:List Value) (z:DataW H × List MemPlace),DataW.trod enc prog w 0 spare held fuel 66 cs=some z→∃ y:Exp,Exp.lg y∧Rd prog w (Exp.d y) cs:=by
 intro fuel
 induction fuel using Nat.strongRecOn with
 | _ fuel ih =>
  intro cs z h
  obtain⟨xs,n,rfl,_,hlen,hxs,hf⟩:=DataW.trod_struct Go.Proofs.Tryz.underlying66 h
  replace hxs:xs.length=4:=hxs
  rw[GK] at hlen
  obtain⟨_,f0⟩:=fld hxs (i:=0) (by omega) (hf 0 _ rfl)
  replace f0:DataW.trod enc prog w 0 spare held n 3 ((cs.drop 0).take (prog.cellsOf 3))=some _:=f0
  rw[agf] at f0
  obtain⟨_,f1⟩:=fld hxs (i:=1) (by omega) (hf 1 _ rfl)
  replace f1:DataW.trod enc prog w 0 spare held n 3 ((cs.drop 1).take (prog.cellsOf 3))=some _:=f1
  rw[agf] at f1
  obtain⟨_,f2⟩:=fld hxs (i:=2) (by omega) (hf 2 _ rfl)
  replace f2:DataW.trod enc prog w 0 spare held n 9 ((cs.drop 2).take (prog.cellsOf 9))=some _:=f2
  rw[aDv] at f2
  obtain⟨_,f3⟩:=fld hxs (i:=3) (by omega) (hf 3 _ rfl)
  replace f3:DataW.trod enc prog w 0 spare held n 64 ((cs.drop 3).take (prog.cellsOf 64))=some _:=f3
  rw[aG6] at f3
  obtain⟨a0,e0,_,_⟩:=DataW.trod_int Go.Proofs.Tryz.underlying3 f0
  obtain⟨a1,e1,_,_⟩:=DataW.trod_int Go.Proofs.Tryz.underlying3 f1
  obtain⟨a2,e2,_,l2⟩:=DataW.trod_string Go.Proofs.Tryz.underlying9 f2
  obtain⟨a3,l3,o3,r3⟩:=wL Exp.d (fun y=>(Exp.lg y)) 4 66 72 Exp.d_len Go.Proofs.Tryz.underlying64 GK f3 (fun m hm cs z hz=>ih m (by omega) cs z hz)
  refine⟨⟨a0,a1,a2.data.toList,a3⟩,by rw[Exp.lg_eq];exact⟨by simpa using l2,⟨l3,o3⟩⟩,?_⟩
  have h0:Rd prog w ([.I .i64 a0]++([.I .i64 a1]++([.S a2.data.toList]++([.L 72 (List.length a3) (List.flatMap Exp.d a3)]++[])))) (cs.drop 0) :=
   jU (s:=1) (by rw[e0];exact GU) (jU (s:=1) (by rw[e1];exact GU) (jU (s:=1) (by rw[e2];exact MR) (jU (s:=1) (r3) (GV hlen))))
  simpa using h0
theorem agh:prog.cellsOf 23=1:=by kernel_rfl
theorem Xl:prog.cellsOf 68=19:=by kernel_rfl
theorem OU:∀ (fuel:Nat) (cs:List Value) (z:DataW H × List MemPlace),DataW.trod enc prog w 0 spare held fuel 68 cs=some z→∃ y:Stmt,Stmt.lg y∧Rd prog w (Stmt.d y) cs:=by
 intro fuel
 induction fuel using Nat.strongRecOn with
 | _ fuel ih =>
  intro cs z h
  obtain⟨xs,n,rfl,_,hlen,hxs,hf⟩:=DataW.trod_struct Go.Proofs.Tryz.underlying68 h
  replace hxs:xs.length=7:=hxs
  rw[Xl] at hlen
  obtain⟨_,f0⟩:=fld hxs (i:=0) (by omega) (hf 0 _ rfl)
  replace f0:DataW.trod enc prog w 0 spare held n 3 ((cs.drop 0).take (prog.cellsOf 3))=some _:=f0
  rw[agf] at f0
  obtain⟨_,f1⟩:=fld hxs (i:=1) (by omega) (hf 1 _ rfl)
  replace f1:DataW.trod enc prog w 0 spare held n 9 ((cs.drop 1).take (prog.cellsOf 9))=some _:=f1
  rw[aDv] at f1
  obtain⟨_,f2⟩:=fld hxs (i:=2) (by omega) (hf 2 _ rfl)
  replace f2:DataW.trod enc prog w 0 spare held n 66 ((cs.drop 2).take (prog.cellsOf 66))=some _:=f2
  rw[GK] at f2
  obtain⟨_,f3⟩:=fld hxs (i:=3) (by omega) (hf 3 _ rfl)
  replace f3:DataW.trod enc prog w 0 spare held n 66 ((cs.drop 6).take (prog.cellsOf 66))=some _:=f3
  rw[GK] at f3
  obtain⟨_,f4⟩:=fld hxs (i:=4) (by omega) (hf 4 _ rfl)
  replace f4:DataW.trod enc prog w 0 spare held n 66 ((cs.drop 10).take (prog.cellsOf 66))=some _:=f4
  rw[GK] at f4
  obtain⟨_,f5⟩:=fld hxs (i:=5) (by omega) (hf 5 _ rfl)
  replace f5:DataW.trod enc prog w 0 spare held n 66 ((cs.drop 14).take (prog.cellsOf 66))=some _:=f5
  rw[GK] at f5
  obtain⟨_,f6⟩:=fld hxs (i:=6) (by omega) (hf 6 _ rfl)
  replace f6:DataW.trod enc prog w 0 spare held n 23 ((cs.drop 18).take (prog.cellsOf 23))=some _:=f6
  rw[agh] at f6
  obtain⟨a0,e0,_,_⟩:=DataW.trod_int Go.Proofs.Tryz.underlying3 f0
  obtain⟨a1,e1,_,l1⟩:=DataW.trod_string Go.Proofs.Tryz.underlying9 f1
  obtain⟨a2,l2,r2⟩:=wB _ _ _ f2
  obtain⟨a3,l3,r3⟩:=wB _ _ _ f3
  obtain⟨a4,l4,r4⟩:=wB _ _ _ f4
  obtain⟨a5,l5,r5⟩:=wB _ _ _ f5
  obtain⟨a6,l6,o6,r6⟩:=wL Stmt.d (fun y=>(Stmt.lg y)) 19 68 74 Stmt.d_len Go.Proofs.Tryz.underlying23 Xl f6 (fun m hm cs z hz=>ih m (by omega) cs z hz)
  refine⟨⟨a0,a1.data.toList,a2,a3,a4,a5,a6⟩,by rw[Stmt.lg_eq];exact⟨by simpa using l1,l2,l3,l4,l5,⟨l6,o6⟩⟩,?_⟩
  have h0:Rd prog w ([.I .i64 a0]++([.S a1.data.toList]++(Exp.d a2++(Exp.d a3++(Exp.d a4++(Exp.d a5++([.L 74 (List.length a6) (List.flatMap Stmt.d a6)]++[]))))))) (cs.drop 0) :=
   jU (s:=1) (by rw[e0];exact GU) (jU (s:=1) (by rw[e1];exact MR) (jU (s:=4) (r2) (jU (s:=4) (r3) (jU (s:=4) (r4) (jU (s:=4) (r5) (jU (s:=1) (r6) (GV hlen)))))))
  simpa using h0
theorem Vb:prog.cellsOf 134=2:=by kernel_rfl
theorem QM:∀ (fuel:Nat) (cs:List Value) (z:DataW H × List MemPlace),DataW.trod enc prog w 0 spare held fuel 134 cs=some z→∃ y:Arr,Arr.lg y∧Rd prog w (Arr.d y) cs:=by
 intro fuel
 intro cs z h
 obtain⟨xs,n,rfl,_,hlen,hxs,hf⟩:=DataW.trod_struct Go.Proofs.Tryz.underlying134 h
 replace hxs:xs.length=2:=hxs
 rw[Vb] at hlen
 obtain⟨_,f0⟩:=fld hxs (i:=0) (by omega) (hf 0 _ rfl)
 replace f0:DataW.trod enc prog w 0 spare held n 9 ((cs.drop 0).take (prog.cellsOf 9))=some _:=f0
 rw[aDv] at f0
 obtain⟨_,f1⟩:=fld hxs (i:=1) (by omega) (hf 1 _ rfl)
 replace f1:DataW.trod enc prog w 0 spare held n 3 ((cs.drop 1).take (prog.cellsOf 3))=some _:=f1
 rw[agf] at f1
 obtain⟨a0,e0,_,l0⟩:=DataW.trod_string Go.Proofs.Tryz.underlying9 f0
 obtain⟨a1,e1,_,_⟩:=DataW.trod_int Go.Proofs.Tryz.underlying3 f1
 refine⟨⟨a0.data.toList,a1⟩,by rw[Arr.lg_eq];exact by simpa using l0,?_⟩
 have h0:Rd prog w ([.S a0.data.toList]++([.I .i64 a1]++[])) (cs.drop 0) :=
  jU (s:=1) (by rw[e0];exact MR) (jU (s:=1) (by rw[e1];exact GU) (GV hlen))
 simpa using h0
theorem aG8:prog.cellsOf 22=1:=by kernel_rfl
theorem aG7:prog.cellsOf 25=2:=by kernel_rfl
theorem read_Prog:∀ (fuel:Nat) (cs:List Value) (z:DataW H × List MemPlace),DataW.trod enc prog w 0 spare held fuel 25 cs=some z→∃ y:Prog,Prog.lg y∧Rd prog w (Prog.d y) cs:=by
 intro fuel
 intro cs z h
 obtain⟨xs,n,rfl,_,hlen,hxs,hf⟩:=DataW.trod_struct Go.Proofs.Tryz.underlying25 h
 replace hxs:xs.length=2:=hxs
 rw[aG7] at hlen
 obtain⟨_,f0⟩:=fld hxs (i:=0) (by omega) (hf 0 _ rfl)
 replace f0:DataW.trod enc prog w 0 spare held n 22 ((cs.drop 0).take (prog.cellsOf 22))=some _:=f0
 rw[aG8] at f0
 obtain⟨_,f1⟩:=fld hxs (i:=1) (by omega) (hf 1 _ rfl)
 replace f1:DataW.trod enc prog w 0 spare held n 23 ((cs.drop 1).take (prog.cellsOf 23))=some _:=f1
 rw[agh] at f1
 obtain⟨a0,l0,o0,r0⟩:=wL Arr.d (fun y=>(Arr.lg y)) 2 134 130 Arr.d_len Go.Proofs.Tryz.underlying22 Vb f0 (fun m hm cs z hz=>QM m cs z hz)
 obtain⟨a1,l1,o1,r1⟩:=wL Stmt.d (fun y=>(Stmt.lg y)) 19 68 74 Stmt.d_len Go.Proofs.Tryz.underlying23 Xl f1 (fun m hm cs z hz=>OU m cs z hz)
 refine⟨⟨a0,a1⟩,by rw[Prog.lg_eq];exact⟨⟨l0,o0⟩,⟨l1,o1⟩⟩,?_⟩
 have h0:Rd prog w ([.L 130 (List.length a0) (List.flatMap Arr.d a0)]++([.L 74 (List.length a1) (List.flatMap Stmt.d a1)]++[])) (cs.drop 0) :=
  jU (s:=1) (r0) (jU (s:=1) (r1) (GV hlen))
 simpa using h0
end
end Go.AmC
