import Derived.Test.YtafglhcclmbnbaaGreatLocksC1
import Derived.Test.YtafglhcclmbnbaaGreatLocksDat
set_option linter.unusedSimpArgs false
set_option linter.unusedVariables false
set_option maxRecDepth 20000
set_option maxHeartbeats 4000000
namespace Go.AmC
open Go Go.AM
open Go.Proofs.Tryz (prog)
theorem OI (xs:List Exp) (hm:xs.length≤1048576) (h:∀ x∈xs,Says prog 93 [.agg (Cs (Exp.d x))] (.agg (Ows (Exp.d x))) []):Says prog 166 [.rsl (List.length xs) (Cs ((List.flatMap Exp.d xs)))] (.osl 0 72 (List.length xs) (Ows ((List.flatMap Exp.d xs)))) []:=by
 refine dD Go.Proofs.Tryz.func166 awv ?_
 have hs':(xs.length:Int)≤(bnd:Nat):=by unfold bnd;omega
 simp[aEf,aFB,hm,hs']
 refine iF (l:=PN) (b:=QO) rfl [] (fun i=>[.rsl (List.length xs) (Cs ((List.flatMap Exp.d xs))),.osl 0 72 0 [],.osl 0 72 xs.length (Ows ((xs.take i).flatMap Exp.d)++(List.replicate (xs.length-i) [.int .i64 0,.int .i64 0,.str [],.osl 0 72 0 []]).flatten),.int .i64 (i:Int),.dead]) (fun _=>True) xs.length
  (fun ex en=>ex=.exit 0∧en=[.rsl (List.length xs) (Cs ((List.flatMap Exp.d xs))),.osl 0 72 0 [],.osl 0 72 (List.length xs) (Ows ((List.flatMap Exp.d xs))),.int .i64 xs.length,.dead]) ?_ ?_ trivial (by simp) ?_
 ·intro i hi _ q hn hx hr
  obtain⟨x,hx0⟩:∃ x,xs[i]?=some x:=⟨_,List.getElem?_eq_getElem hi⟩
  have hrow:=row_drop Exp.d 4 Exp.d_len hx0
  have hw:IntKind.i64.wrap ((i:Int)+1)=((i+1:Nat):Int):=by rw[bJ]<;>omega
  have hlen:((xs.take i).flatMap Exp.d).length=i*4:=by rw[jg _ 4 Exp.d_len];simp;omega
  rw[kQ Exp.d hx0] at hn
  obtain⟨k,hk⟩:∃ k,xs.length-i=k+1:=⟨xs.length-i-1,by omega⟩
  rw[show xs.length-(i+1)=k by omega] at hn
  rw[hk]
  have hsp:=@jE (Ows ((xs.take i).flatMap Exp.d)) [.int .i64 0,.int .i64 0,.str [],.osl 0 72 0 []] (List.replicate k [.int .i64 0,.int .i64 0,.str [],.osl 0 72 0 []]).flatten (Ows (Exp.d x)) (i*4) (by simpa using hlen) (by simp)
  generalize (xs.take i).flatMap Exp.d=A at hsp hlen hn ⊢
  have hf:=h x (List.mem_of_getElem? hx0)
  try simp at hf
  try simp at hsp
  simp[hi,aT,hrow,List.replicate_succ]
  refine aX hf ?_
  simp[hi,hsp,hw,hlen]
  refine hn _ ?_ trivial
  simp
 ·intro _ q hx hr
  simp
  exact hx _ _ ⟨rfl,by simp⟩
 ·rintro ex en ⟨rfl,rfl⟩
  simp
theorem auJ (x:Exp) (hL:Says prog 166 [.rsl (List.length x.L) (Cs ((List.flatMap Exp.d x.L)))] (.osl 0 72 (List.length x.L) (Ows ((List.flatMap Exp.d x.L)))) []):Says prog 93 [.agg (Cs (Exp.d x))] (.agg (Ows (Exp.d x))) []:=by
 refine dD Go.Proofs.Tryz.func93 aJe ?_
 try simp at hL
 simp[v93,r93,splice]
 refine aX hL ?_
 simp[splice]
theorem Jb (xs:List Stmt) (hm:xs.length≤1048576) (h:∀ x∈xs,Says prog 37 [.agg (Cs (Stmt.d x))] (.agg (Ows (Stmt.d x))) []):Says prog 53 [.rsl (List.length xs) (Cs ((List.flatMap Stmt.d xs)))] (.osl 0 74 (List.length xs) (Ows ((List.flatMap Stmt.d xs)))) []:=by
 refine dD Go.Proofs.Tryz.func53 aJy ?_
 have hs':(xs.length:Int)≤(bnd:Nat):=by unfold bnd;omega
 simp[v53,r53,hm,hs']
 refine iF (l:=ab4) (b:=acH) rfl [] (fun i=>[.rsl (List.length xs) (Cs ((List.flatMap Stmt.d xs))),.osl 0 74 0 [],.osl 0 74 xs.length (Ows ((xs.take i).flatMap Stmt.d)++(List.replicate (xs.length-i) [.int .i64 0,.str [],.int .i64 0,.int .i64 0,.str [],.osl 0 72 0 [],.int .i64 0,.int .i64 0,.str [],.osl 0 72 0 [],.int .i64 0,.int .i64 0,.str [],.osl 0 72 0 [],.int .i64 0,.int .i64 0,.str [],.osl 0 72 0 [],.osl 0 74 0 []]).flatten),.int .i64 (i:Int),.dead]) (fun _=>True) xs.length
  (fun ex en=>ex=.exit 0∧en=[.rsl (List.length xs) (Cs ((List.flatMap Stmt.d xs))),.osl 0 74 0 [],.osl 0 74 (List.length xs) (Ows ((List.flatMap Stmt.d xs))),.int .i64 xs.length,.dead]) ?_ ?_ trivial (by simp) ?_
 ·intro i hi _ q hn hx hr
  obtain⟨x,hx0⟩:∃ x,xs[i]?=some x:=⟨_,List.getElem?_eq_getElem hi⟩
  have hrow:=row_drop Stmt.d 19 Stmt.d_len hx0
  have hw:IntKind.i64.wrap ((i:Int)+1)=((i+1:Nat):Int):=by rw[bJ]<;>omega
  have hlen:((xs.take i).flatMap Stmt.d).length=i*19:=by rw[jg _ 19 Stmt.d_len];simp;omega
  rw[kQ Stmt.d hx0] at hn
  obtain⟨k,hk⟩:∃ k,xs.length-i=k+1:=⟨xs.length-i-1,by omega⟩
  rw[show xs.length-(i+1)=k by omega] at hn
  rw[hk]
  have hsp:=@jE (Ows ((xs.take i).flatMap Stmt.d)) [.int .i64 0,.str [],.int .i64 0,.int .i64 0,.str [],.osl 0 72 0 [],.int .i64 0,.int .i64 0,.str [],.osl 0 72 0 [],.int .i64 0,.int .i64 0,.str [],.osl 0 72 0 [],.int .i64 0,.int .i64 0,.str [],.osl 0 72 0 [],.osl 0 74 0 []] (List.replicate k [.int .i64 0,.str [],.int .i64 0,.int .i64 0,.str [],.osl 0 72 0 [],.int .i64 0,.int .i64 0,.str [],.osl 0 72 0 [],.int .i64 0,.int .i64 0,.str [],.osl 0 72 0 [],.int .i64 0,.int .i64 0,.str [],.osl 0 72 0 [],.osl 0 74 0 []]).flatten (Ows (Stmt.d x)) (i*19) (by simpa using hlen) (by simp)
  generalize (xs.take i).flatMap Stmt.d=A at hsp hlen hn ⊢
  have hf:=h x (List.mem_of_getElem? hx0)
  try simp at hf
  try simp at hsp
  simp[hi,aT,hrow,List.replicate_succ]
  refine aX hf ?_
  simp[hi,hsp,hw,hlen]
  refine hn _ ?_ trivial
  simp
 ·intro _ q hx hr
  simp
  exact hx _ _ ⟨rfl,by simp⟩
 ·rintro ex en ⟨rfl,rfl⟩
  simp
theorem ac1 (x:Stmt) (hAt:Says prog 93 [.agg (Cs (Exp.d x.At))] (.agg (Ows (Exp.d x.At))) []) (hE:Says prog 93 [.agg (Cs (Exp.d x.E))] (.agg (Ows (Exp.d x.E))) []) (hLo:Says prog 93 [.agg (Cs (Exp.d x.Lo))] (.agg (Ows (Exp.d x.Lo))) []) (hHi:Says prog 93 [.agg (Cs (Exp.d x.Hi))] (.agg (Ows (Exp.d x.Hi))) []) (hBody:Says prog 53 [.rsl (List.length x.Body) (Cs ((List.flatMap Stmt.d x.Body)))] (.osl 0 74 (List.length x.Body) (Ows ((List.flatMap Stmt.d x.Body)))) []):Says prog 37 [.agg (Cs (Stmt.d x))] (.agg (Ows (Stmt.d x))) []:=by
 refine dD Go.Proofs.Tryz.func37 aJF ?_
 try simp at hAt
 try simp at hE
 try simp at hLo
 try simp at hHi
 try simp at hBody
 simp[v37,r37,splice]
 refine aX hAt ?_
 simp[splice]
 refine aX hE ?_
 simp[splice]
 refine aX hLo ?_
 simp[splice]
 refine aX hHi ?_
 simp[splice]
 refine aX hBody ?_
 simp[splice]
theorem auK (x:Arr):Says prog 117 [.agg (Cs (Arr.d x))] (.agg (Ows (Arr.d x))) []:=by
 refine dD Go.Proofs.Tryz.func117 awW ?_
 simp[v117,aFO,splice]
theorem ac8 (xs:List Arr) (hm:xs.length≤1048576) (h:∀ x∈xs,Says prog 117 [.agg (Cs (Arr.d x))] (.agg (Ows (Arr.d x))) []):Says prog 52 [.rsl (List.length xs) (Cs ((List.flatMap Arr.d xs)))] (.osl 0 130 (List.length xs) (Ows ((List.flatMap Arr.d xs)))) []:=by
 refine dD Go.Proofs.Tryz.func52 aJz ?_
 have hs':(xs.length:Int)≤(bnd:Nat):=by unfold bnd;omega
 simp[v52,r52,hm,hs']
 refine iF (l:=ab5) (b:=acI) rfl [] (fun i=>[.rsl (List.length xs) (Cs ((List.flatMap Arr.d xs))),.osl 0 130 0 [],.osl 0 130 xs.length (Ows ((xs.take i).flatMap Arr.d)++(List.replicate (xs.length-i) [.str [],.int .i64 0]).flatten),.int .i64 (i:Int),.dead]) (fun _=>True) xs.length
  (fun ex en=>ex=.exit 0∧en=[.rsl (List.length xs) (Cs ((List.flatMap Arr.d xs))),.osl 0 130 0 [],.osl 0 130 (List.length xs) (Ows ((List.flatMap Arr.d xs))),.int .i64 xs.length,.dead]) ?_ ?_ trivial (by simp) ?_
 ·intro i hi _ q hn hx hr
  obtain⟨x,hx0⟩:∃ x,xs[i]?=some x:=⟨_,List.getElem?_eq_getElem hi⟩
  have hrow:=row_drop Arr.d 2 Arr.d_len hx0
  have hw:IntKind.i64.wrap ((i:Int)+1)=((i+1:Nat):Int):=by rw[bJ]<;>omega
  have hlen:((xs.take i).flatMap Arr.d).length=i*2:=by rw[jg _ 2 Arr.d_len];simp;omega
  rw[kQ Arr.d hx0] at hn
  obtain⟨k,hk⟩:∃ k,xs.length-i=k+1:=⟨xs.length-i-1,by omega⟩
  rw[show xs.length-(i+1)=k by omega] at hn
  rw[hk]
  have hsp:=@jE (Ows ((xs.take i).flatMap Arr.d)) [.str [],.int .i64 0] (List.replicate k [.str [],.int .i64 0]).flatten (Ows (Arr.d x)) (i*2) (by simpa using hlen) (by simp)
  generalize (xs.take i).flatMap Arr.d=A at hsp hlen hn ⊢
  have hf:=h x (List.mem_of_getElem? hx0)
  try simp at hf
  try simp at hsp
  simp[hi,aT,hrow,List.replicate_succ]
  refine aX hf ?_
  simp[hi,hsp,hw,hlen]
  refine hn _ ?_ trivial
  simp
 ·intro _ q hx hr
  simp
  exact hx _ _ ⟨rfl,by simp⟩
 ·rintro ex en ⟨rfl,rfl⟩
  simp
theorem ac3 (x:Prog) (hArrs:Says prog 52 [.rsl (List.length x.Arrs) (Cs ((List.flatMap Arr.d x.Arrs)))] (.osl 0 130 (List.length x.Arrs) (Ows ((List.flatMap Arr.d x.Arrs)))) []) (hBody:Says prog 53 [.rsl (List.length x.Body) (Cs ((List.flatMap Stmt.d x.Body)))] (.osl 0 74 (List.length x.Body) (Ows ((List.flatMap Stmt.d x.Body)))) []):Says prog 12 [.agg (Cs (Prog.d x))] (.agg (Ows (Prog.d x))) []:=by
 refine dD Go.Proofs.Tryz.func12 aJS ?_
 try simp at hArrs
 try simp at hBody
 simp[v12,r12,splice]
 refine aX hArrs ?_
 simp[splice]
 refine aX hBody ?_
 simp[splice]
theorem abj (x:Ins):Says prog 132 [.agg (Cs (Ins.d x))] (.agg (Ows (Ins.d x))) []:=by
 refine dD Go.Proofs.Tryz.func132 awQ ?_
 simp[aEm,aFJ,splice]
theorem auI (x:Put):Says prog 267 [.agg (Cs (Put.d x))] (.agg (Ows (Put.d x))) []:=by
 refine dD Go.Proofs.Tryz.func267 avy ?_
 simp[aDQ,aEZ,splice]
theorem ac5 (xs:List Int) (hm:xs.length≤1048576):Says prog 31 [.rsl (List.length xs) (Cs ((List.flatMap eu xs)))] (.osl 0 3 (List.length xs) (Ows ((List.flatMap eu xs)))) []:=by
 refine dD Go.Proofs.Tryz.func31 aJI ?_
 have hs':(xs.length:Int)≤(bnd:Nat):=by unfold bnd;omega
 simp[v31,r31,hm,hs']
 refine iF (l:=aca) (b:=acN) rfl [] (fun i=>[.rsl (List.length xs) (Cs ((List.flatMap eu xs))),.osl 0 3 0 [],.osl 0 3 xs.length (Ows ((xs.take i).flatMap eu)++(List.replicate (xs.length-i) [.int .i64 0]).flatten),.int .i64 (i:Int),.dead]) (fun _=>True) xs.length
  (fun ex en=>ex=.exit 0∧en=[.rsl (List.length xs) (Cs ((List.flatMap eu xs))),.osl 0 3 0 [],.osl 0 3 (List.length xs) (Ows ((List.flatMap eu xs))),.int .i64 xs.length,.dead]) ?_ ?_ trivial (by simp) ?_
 ·intro i hi _ q hn hx hr
  obtain⟨x,hx0⟩:∃ x,xs[i]?=some x:=⟨_,List.getElem?_eq_getElem hi⟩
  have hrow:=row_drop eu 1 (fun _=>by simp) hx0
  rw[Nat.mul_one] at hrow
  have hw:IntKind.i64.wrap ((i:Int)+1)=((i+1:Nat):Int):=by rw[bJ]<;>omega
  have hlen:((xs.take i).flatMap eu).length=i*1:=by rw[jg _ 1 (fun _=>by simp)];simp;omega
  rw[kQ eu hx0] at hn
  obtain⟨k,hk⟩:∃ k,xs.length-i=k+1:=⟨xs.length-i-1,by omega⟩
  rw[show xs.length-(i+1)=k by omega] at hn
  rw[hk]
  have hsp:=@jE (Ows ((xs.take i).flatMap eu)) [.int .i64 0] (List.replicate k [.int .i64 0]).flatten (Ows (eu x)) (i*1) (by simpa using hlen) (by simp)
  generalize (xs.take i).flatMap eu=A at hsp hlen hn ⊢
  try simp at hsp
  simp[hi,aT,hrow,List.replicate_succ,hsp,hw,hlen]
  refine hn _ ?_ trivial
  simp
 ·intro _ q hx hr
  simp
  exact hx _ _ ⟨rfl,by simp⟩
 ·rintro ex en ⟨rfl,rfl⟩
  simp
theorem ac2 (xs:List Put) (hm:xs.length≤1048576) (h:∀ x∈xs,Says prog 267 [.agg (Cs (Put.d x))] (.agg (Ows (Put.d x))) []):Says prog 201 [.rsl (List.length xs) (Cs ((List.flatMap Put.d xs)))] (.osl 0 176 (List.length xs) (Ows ((List.flatMap Put.d xs)))) []:=by
 refine dD Go.Proofs.Tryz.func201 awe ?_
 have hs':(xs.length:Int)≤(bnd:Nat):=by unfold bnd;omega
 simp[v201,aFl,hm,hs']
 refine iF (l:=Px) (b:=QC) rfl [] (fun i=>[.rsl (List.length xs) (Cs ((List.flatMap Put.d xs))),.osl 0 176 0 [],.osl 0 176 xs.length (Ows ((xs.take i).flatMap Put.d)++(List.replicate (xs.length-i) [.int .i64 0,.int .i64 0]).flatten),.int .i64 (i:Int),.dead]) (fun _=>True) xs.length
  (fun ex en=>ex=.exit 0∧en=[.rsl (List.length xs) (Cs ((List.flatMap Put.d xs))),.osl 0 176 0 [],.osl 0 176 (List.length xs) (Ows ((List.flatMap Put.d xs))),.int .i64 xs.length,.dead]) ?_ ?_ trivial (by simp) ?_
 ·intro i hi _ q hn hx hr
  obtain⟨x,hx0⟩:∃ x,xs[i]?=some x:=⟨_,List.getElem?_eq_getElem hi⟩
  have hrow:=row_drop Put.d 2 Put.d_len hx0
  have hw:IntKind.i64.wrap ((i:Int)+1)=((i+1:Nat):Int):=by rw[bJ]<;>omega
  have hlen:((xs.take i).flatMap Put.d).length=i*2:=by rw[jg _ 2 Put.d_len];simp;omega
  rw[kQ Put.d hx0] at hn
  obtain⟨k,hk⟩:∃ k,xs.length-i=k+1:=⟨xs.length-i-1,by omega⟩
  rw[show xs.length-(i+1)=k by omega] at hn
  rw[hk]
  have hsp:=@jE (Ows ((xs.take i).flatMap Put.d)) [.int .i64 0,.int .i64 0] (List.replicate k [.int .i64 0,.int .i64 0]).flatten (Ows (Put.d x)) (i*2) (by simpa using hlen) (by simp)
  generalize (xs.take i).flatMap Put.d=A at hsp hlen hn ⊢
  have hf:=h x (List.mem_of_getElem? hx0)
  try simp at hf
  try simp at hsp
  simp[hi,aT,hrow,List.replicate_succ]
  refine aX hf ?_
  simp[hi,hsp,hw,hlen]
  refine hn _ ?_ trivial
  simp
 ·intro _ q hx hr
  simp
  exact hx _ _ ⟨rfl,by simp⟩
 ·rintro ex en ⟨rfl,rfl⟩
  simp
theorem ac7 (x:Hand) (hStack:Says prog 31 [.rsl (List.length x.Stack) (Cs ((List.flatMap eu x.Stack)))] (.osl 0 3 (List.length x.Stack) (Ows ((List.flatMap eu x.Stack)))) []) (hRegs:Says prog 31 [.rsl (List.length x.Regs) (Cs ((List.flatMap eu x.Regs)))] (.osl 0 3 (List.length x.Regs) (Ows ((List.flatMap eu x.Regs)))) []) (hShelf:Says prog 201 [.rsl (List.length x.Shelf) (Cs ((List.flatMap Put.d x.Shelf)))] (.osl 0 176 (List.length x.Shelf) (Ows ((List.flatMap Put.d x.Shelf)))) []):Says prog 133 [.agg (Cs (Hand.d x))] (.agg (Ows (Hand.d x))) []:=by
 refine dD Go.Proofs.Tryz.func133 awP ?_
 try simp at hStack
 try simp at hRegs
 try simp at hShelf
 simp[aEl,aFI,splice]
 refine aX hStack ?_
 simp[splice]
 refine aX hRegs ?_
 simp[splice]
 refine aX hShelf ?_
 simp[splice]
theorem SH (xs:List Hand) (hm:xs.length≤1048576) (h:∀ x∈xs,Says prog 133 [.agg (Cs (Hand.d x))] (.agg (Ows (Hand.d x))) []):Says prog 71 [.rsl (List.length xs) (Cs ((List.flatMap Hand.d xs)))] (.osl 0 158 (List.length xs) (Ows ((List.flatMap Hand.d xs)))) []:=by
 refine dD Go.Proofs.Tryz.func71 aJo ?_
 have hs':(xs.length:Int)≤(bnd:Nat):=by unfold bnd;omega
 simp[v71,r71,hm,hs']
 refine iF (l:=abW) (b:=acA) rfl [] (fun i=>[.rsl (List.length xs) (Cs ((List.flatMap Hand.d xs))),.osl 0 158 0 [],.osl 0 158 xs.length (Ows ((xs.take i).flatMap Hand.d)++(List.replicate (xs.length-i) [.int .i64 0,.osl 0 3 0 [],.osl 0 3 0 [],.osl 0 176 0 [],.bool false,.bool false]).flatten),.int .i64 (i:Int),.dead]) (fun _=>True) xs.length
  (fun ex en=>ex=.exit 0∧en=[.rsl (List.length xs) (Cs ((List.flatMap Hand.d xs))),.osl 0 158 0 [],.osl 0 158 (List.length xs) (Ows ((List.flatMap Hand.d xs))),.int .i64 xs.length,.dead]) ?_ ?_ trivial (by simp) ?_
 ·intro i hi _ q hn hx hr
  obtain⟨x,hx0⟩:∃ x,xs[i]?=some x:=⟨_,List.getElem?_eq_getElem hi⟩
  have hrow:=row_drop Hand.d 6 Hand.d_len hx0
  have hw:IntKind.i64.wrap ((i:Int)+1)=((i+1:Nat):Int):=by rw[bJ]<;>omega
  have hlen:((xs.take i).flatMap Hand.d).length=i*6:=by rw[jg _ 6 Hand.d_len];simp;omega
  rw[kQ Hand.d hx0] at hn
  obtain⟨k,hk⟩:∃ k,xs.length-i=k+1:=⟨xs.length-i-1,by omega⟩
  rw[show xs.length-(i+1)=k by omega] at hn
  rw[hk]
  have hsp:=@jE (Ows ((xs.take i).flatMap Hand.d)) [.int .i64 0,.osl 0 3 0 [],.osl 0 3 0 [],.osl 0 176 0 [],.bool false,.bool false] (List.replicate k [.int .i64 0,.osl 0 3 0 [],.osl 0 3 0 [],.osl 0 176 0 [],.bool false,.bool false]).flatten (Ows (Hand.d x)) (i*6) (by simpa using hlen) (by simp)
  generalize (xs.take i).flatMap Hand.d=A at hsp hlen hn ⊢
  have hf:=h x (List.mem_of_getElem? hx0)
  try simp at hf
  try simp at hsp
  simp[hi,aT,hrow,List.replicate_succ]
  refine aX hf ?_
  simp[hi,hsp,hw,hlen]
  refine hn _ ?_ trivial
  simp
 ·intro _ q hx hr
  simp
  exact hx _ _ ⟨rfl,by simp⟩
 ·rintro ex en ⟨rfl,rfl⟩
  simp
theorem ac4 (x:Mach) (hMem:Says prog 31 [.rsl (List.length x.Mem) (Cs ((List.flatMap eu x.Mem)))] (.osl 0 3 (List.length x.Mem) (Ows ((List.flatMap eu x.Mem)))) []) (hHands:Says prog 71 [.rsl (List.length x.Hands) (Cs ((List.flatMap Hand.d x.Hands)))] (.osl 0 158 (List.length x.Hands) (Ows ((List.flatMap Hand.d x.Hands)))) []) (hOut:Says prog 31 [.rsl (List.length x.Out) (Cs ((List.flatMap eu x.Out)))] (.osl 0 3 (List.length x.Out) (Ows ((List.flatMap eu x.Out)))) []):Says prog 21 [.agg (Cs (Mach.d x))] (.agg (Ows (Mach.d x))) []:=by
 refine dD Go.Proofs.Tryz.func21 aJM ?_
 try simp at hMem
 try simp at hHands
 try simp at hOut
 simp[v21,r21,splice]
 refine aX hMem ?_
 simp[splice]
 refine aX hHands ?_
 simp[splice]
 refine aX hOut ?_
 simp[splice]
theorem Qc (xs:List Exp) (hm:xs.length≤maxLen) (h:∀ x∈xs,Says prog 98 [.agg (Cs (Exp.d x)),.agg (Cs (Exp.d x))] (.bool true) []):Says prog 176 [.rsl (List.length xs) (Cs ((List.flatMap Exp.d xs))),.rsl (List.length xs) (Cs ((List.flatMap Exp.d xs)))] (.bool true) []:=by
 refine dD Go.Proofs.Tryz.func176 awu ?_
 simp[aEe,aFA]
 refine iF (l:=PL) (b:=QM) rfl [] (fun i=>[.rsl (List.length xs) (Cs ((List.flatMap Exp.d xs))),.rsl (List.length xs) (Cs ((List.flatMap Exp.d xs))),.bool false,.dead,.int .i64 (i:Int),.dead,.dead]) (fun _=>True) xs.length
  (fun ex en=>ex=.exit 0∧en=[.rsl (List.length xs) (Cs ((List.flatMap Exp.d xs))),.rsl (List.length xs) (Cs ((List.flatMap Exp.d xs))),.bool false,.dead,.int .i64 xs.length,.dead,.dead]) ?_ ?_ trivial (by simp) ?_
 ·intro i hi _ q hn hx hr
  obtain⟨x,hx0⟩:∃ x,xs[i]?=some x:=⟨_,List.getElem?_eq_getElem hi⟩
  have hrow:=row_drop Exp.d 4 Exp.d_len hx0
  have hw:IntKind.i64.wrap ((i:Int)+1)=((i+1:Nat):Int):=by unfold maxLen at hm;rw[bJ]<;>omega
  have hf:=h x (List.mem_of_getElem? hx0)
  try simp at hf
  simp[hi,aT,hrow,hw]
  refine bZ hf ?_
  simp[hw]
  refine hn _ ?_ trivial
  simp
 ·intro _ q hx hr
  simp
  exact hx _ _ ⟨rfl,rfl⟩
 ·rintro ex en ⟨rfl,rfl⟩
  simp
theorem aw9 (x:Exp) (hL:Says prog 176 [.rsl (List.length x.L) (Cs ((List.flatMap Exp.d x.L))),.rsl (List.length x.L) (Cs ((List.flatMap Exp.d x.L)))] (.bool true) []):Says prog 98 [.agg (Cs (Exp.d x)),.agg (Cs (Exp.d x))] (.bool true) []:=by
 refine dD Go.Proofs.Tryz.func98 aJc ?_
 try simp at hL
 simp[v98,r98]
 refine aX hL ?_
 simp
theorem JF (xs:List Stmt) (hm:xs.length≤maxLen) (h:∀ x∈xs,Says prog 39 [.agg (Cs (Stmt.d x)),.agg (Cs (Stmt.d x))] (.bool true) []):Says prog 60 [.rsl (List.length xs) (Cs ((List.flatMap Stmt.d xs))),.rsl (List.length xs) (Cs ((List.flatMap Stmt.d xs)))] (.bool true) []:=by
 refine dD Go.Proofs.Tryz.func60 aJu ?_
 simp[v60,r60]
 refine iF (l:=ab1) (b:=acE) rfl [] (fun i=>[.rsl (List.length xs) (Cs ((List.flatMap Stmt.d xs))),.rsl (List.length xs) (Cs ((List.flatMap Stmt.d xs))),.bool false,.dead,.int .i64 (i:Int),.dead,.dead]) (fun _=>True) xs.length
  (fun ex en=>ex=.exit 0∧en=[.rsl (List.length xs) (Cs ((List.flatMap Stmt.d xs))),.rsl (List.length xs) (Cs ((List.flatMap Stmt.d xs))),.bool false,.dead,.int .i64 xs.length,.dead,.dead]) ?_ ?_ trivial (by simp) ?_
 ·intro i hi _ q hn hx hr
  obtain⟨x,hx0⟩:∃ x,xs[i]?=some x:=⟨_,List.getElem?_eq_getElem hi⟩
  have hrow:=row_drop Stmt.d 19 Stmt.d_len hx0
  have hw:IntKind.i64.wrap ((i:Int)+1)=((i+1:Nat):Int):=by unfold maxLen at hm;rw[bJ]<;>omega
  have hf:=h x (List.mem_of_getElem? hx0)
  try simp at hf
  simp[hi,aT,hrow,hw]
  refine bZ hf ?_
  simp[hw]
  refine hn _ ?_ trivial
  simp
 ·intro _ q hx hr
  simp
  exact hx _ _ ⟨rfl,rfl⟩
 ·rintro ex en ⟨rfl,rfl⟩
  simp
theorem adK (x:Stmt) (hAt:Says prog 98 [.agg (Cs (Exp.d x.At)),.agg (Cs (Exp.d x.At))] (.bool true) []) (hE:Says prog 98 [.agg (Cs (Exp.d x.E)),.agg (Cs (Exp.d x.E))] (.bool true) []) (hLo:Says prog 98 [.agg (Cs (Exp.d x.Lo)),.agg (Cs (Exp.d x.Lo))] (.bool true) []) (hHi:Says prog 98 [.agg (Cs (Exp.d x.Hi)),.agg (Cs (Exp.d x.Hi))] (.bool true) []) (hBody:Says prog 60 [.rsl (List.length x.Body) (Cs ((List.flatMap Stmt.d x.Body))),.rsl (List.length x.Body) (Cs ((List.flatMap Stmt.d x.Body)))] (.bool true) []):Says prog 39 [.agg (Cs (Stmt.d x)),.agg (Cs (Stmt.d x))] (.bool true) []:=by
 refine dD Go.Proofs.Tryz.func39 aJE ?_
 try simp at hAt
 try simp at hE
 try simp at hLo
 try simp at hHi
 try simp at hBody
 simp[v39,r39]
 refine aX hAt ?_
 simp
 refine aX hE ?_
 simp
 refine aX hLo ?_
 simp
 refine aX hHi ?_
 simp
 refine aX hBody ?_
 simp
theorem axa (x:Arr):Says prog 127 [.agg (Cs (Arr.d x)),.agg (Cs (Arr.d x))] (.bool true) []:=by
 refine dD Go.Proofs.Tryz.func127 awS ?_
 simp[v127,aFK]
theorem adR (xs:List Arr) (hm:xs.length≤maxLen) (h:∀ x∈xs,Says prog 127 [.agg (Cs (Arr.d x)),.agg (Cs (Arr.d x))] (.bool true) []):Says prog 59 [.rsl (List.length xs) (Cs ((List.flatMap Arr.d xs))),.rsl (List.length xs) (Cs ((List.flatMap Arr.d xs)))] (.bool true) []:=by
 refine dD Go.Proofs.Tryz.func59 aJv ?_
 simp[v59,r59]
 refine iF (l:=ab2) (b:=acF) rfl [] (fun i=>[.rsl (List.length xs) (Cs ((List.flatMap Arr.d xs))),.rsl (List.length xs) (Cs ((List.flatMap Arr.d xs))),.bool false,.dead,.int .i64 (i:Int),.dead,.dead]) (fun _=>True) xs.length
  (fun ex en=>ex=.exit 0∧en=[.rsl (List.length xs) (Cs ((List.flatMap Arr.d xs))),.rsl (List.length xs) (Cs ((List.flatMap Arr.d xs))),.bool false,.dead,.int .i64 xs.length,.dead,.dead]) ?_ ?_ trivial (by simp) ?_
 ·intro i hi _ q hn hx hr
  obtain⟨x,hx0⟩:∃ x,xs[i]?=some x:=⟨_,List.getElem?_eq_getElem hi⟩
  have hrow:=row_drop Arr.d 2 Arr.d_len hx0
  have hw:IntKind.i64.wrap ((i:Int)+1)=((i+1:Nat):Int):=by unfold maxLen at hm;rw[bJ]<;>omega
  have hf:=h x (List.mem_of_getElem? hx0)
  try simp at hf
  simp[hi,aT,hrow,hw]
  refine bZ hf ?_
  simp[hw]
  refine hn _ ?_ trivial
  simp
 ·intro _ q hx hr
  simp
  exact hx _ _ ⟨rfl,rfl⟩
 ·rintro ex en ⟨rfl,rfl⟩
  simp
theorem adM (x:Prog) (hArrs:Says prog 59 [.rsl (List.length x.Arrs) (Cs ((List.flatMap Arr.d x.Arrs))),.rsl (List.length x.Arrs) (Cs ((List.flatMap Arr.d x.Arrs)))] (.bool true) []) (hBody:Says prog 60 [.rsl (List.length x.Body) (Cs ((List.flatMap Stmt.d x.Body))),.rsl (List.length x.Body) (Cs ((List.flatMap Stmt.d x.Body)))] (.bool true) []):Says prog 14 [.agg (Cs (Prog.d x)),.agg (Cs (Prog.d x))] (.bool true) []:=by
 refine dD Go.Proofs.Tryz.func14 aJR ?_
 try simp at hArrs
 try simp at hBody
 simp[v14,r14]
 refine aX hArrs ?_
 simp
 refine aX hBody ?_
 simp
theorem aco (x:Ins):Says prog 135 [.agg (Cs (Ins.d x)),.agg (Cs (Ins.d x))] (.bool true) []:=by
 refine dD Go.Proofs.Tryz.func135 awN ?_
 simp[aEk,aFH]
theorem aw8 (x:Put):Says prog 277 [.agg (Cs (Put.d x)),.agg (Cs (Put.d x))] (.bool true) []:=by
 refine dD Go.Proofs.Tryz.func277 avo ?_
 simp[aDJ,aES]
theorem adO (xs:List Int) (hm:xs.length≤maxLen):Says prog 33 [.rsl (List.length xs) (Cs ((List.flatMap eu xs))),.rsl (List.length xs) (Cs ((List.flatMap eu xs)))] (.bool true) []:=by
 refine dD Go.Proofs.Tryz.func33 aJH ?_
 simp[v33,r33]
 refine iF (l:=ab9) (b:=acM) rfl [] (fun i=>[.rsl (List.length xs) (Cs ((List.flatMap eu xs))),.rsl (List.length xs) (Cs ((List.flatMap eu xs))),.bool false,.dead,.int .i64 (i:Int),.dead,.dead]) (fun _=>True) xs.length
  (fun ex en=>ex=.exit 0∧en=[.rsl (List.length xs) (Cs ((List.flatMap eu xs))),.rsl (List.length xs) (Cs ((List.flatMap eu xs))),.bool false,.dead,.int .i64 xs.length,.dead,.dead]) ?_ ?_ trivial (by simp) ?_
 ·intro i hi _ q hn hx hr
  obtain⟨x,hx0⟩:∃ x,xs[i]?=some x:=⟨_,List.getElem?_eq_getElem hi⟩
  have hrow:=row_drop eu 1 (fun _=>by simp) hx0
  rw[Nat.mul_one] at hrow
  have hw:IntKind.i64.wrap ((i:Int)+1)=((i+1:Nat):Int):=by unfold maxLen at hm;rw[bJ]<;>omega
  simp[hi,aT,hrow,hw]
  refine hn _ ?_ trivial
  simp
 ·intro _ q hx hr
  simp
  exact hx _ _ ⟨rfl,rfl⟩
 ·rintro ex en ⟨rfl,rfl⟩
  simp
theorem adL (xs:List Put) (hm:xs.length≤maxLen) (h:∀ x∈xs,Says prog 277 [.agg (Cs (Put.d x)),.agg (Cs (Put.d x))] (.bool true) []):Says prog 206 [.rsl (List.length xs) (Cs ((List.flatMap Put.d xs))),.rsl (List.length xs) (Cs ((List.flatMap Put.d xs)))] (.bool true) []:=by
 refine dD Go.Proofs.Tryz.func206 av7 ?_
 simp[v206,aFj]
 refine iF (l:=Pq) (b:=QA) rfl [] (fun i=>[.rsl (List.length xs) (Cs ((List.flatMap Put.d xs))),.rsl (List.length xs) (Cs ((List.flatMap Put.d xs))),.bool false,.dead,.int .i64 (i:Int),.dead,.dead]) (fun _=>True) xs.length
  (fun ex en=>ex=.exit 0∧en=[.rsl (List.length xs) (Cs ((List.flatMap Put.d xs))),.rsl (List.length xs) (Cs ((List.flatMap Put.d xs))),.bool false,.dead,.int .i64 xs.length,.dead,.dead]) ?_ ?_ trivial (by simp) ?_
 ·intro i hi _ q hn hx hr
  obtain⟨x,hx0⟩:∃ x,xs[i]?=some x:=⟨_,List.getElem?_eq_getElem hi⟩
  have hrow:=row_drop Put.d 2 Put.d_len hx0
  have hw:IntKind.i64.wrap ((i:Int)+1)=((i+1:Nat):Int):=by unfold maxLen at hm;rw[bJ]<;>omega
  have hf:=h x (List.mem_of_getElem? hx0)
  try simp at hf
  simp[hi,aT,hrow,hw]
  refine bZ hf ?_
  simp[hw]
  refine hn _ ?_ trivial
  simp
 ·intro _ q hx hr
  simp
  exact hx _ _ ⟨rfl,rfl⟩
 ·rintro ex en ⟨rfl,rfl⟩
  simp
theorem adQ (x:Hand) (hStack:Says prog 33 [.rsl (List.length x.Stack) (Cs ((List.flatMap eu x.Stack))),.rsl (List.length x.Stack) (Cs ((List.flatMap eu x.Stack)))] (.bool true) []) (hRegs:Says prog 33 [.rsl (List.length x.Regs) (Cs ((List.flatMap eu x.Regs))),.rsl (List.length x.Regs) (Cs ((List.flatMap eu x.Regs)))] (.bool true) []) (hShelf:Says prog 206 [.rsl (List.length x.Shelf) (Cs ((List.flatMap Put.d x.Shelf))),.rsl (List.length x.Shelf) (Cs ((List.flatMap Put.d x.Shelf)))] (.bool true) []):Says prog 136 [.agg (Cs (Hand.d x)),.agg (Cs (Hand.d x))] (.bool true) []:=by
 refine dD Go.Proofs.Tryz.func136 awM ?_
 try simp at hStack
 try simp at hRegs
 try simp at hShelf
 simp[aEj,aFG]
 refine aX hStack ?_
 simp
 refine aX hRegs ?_
 simp
 refine aX hShelf ?_
 simp
theorem Um (xs:List Hand) (hm:xs.length≤maxLen) (h:∀ x∈xs,Says prog 136 [.agg (Cs (Hand.d x)),.agg (Cs (Hand.d x))] (.bool true) []):Says prog 75 [.rsl (List.length xs) (Cs ((List.flatMap Hand.d xs))),.rsl (List.length xs) (Cs ((List.flatMap Hand.d xs)))] (.bool true) []:=by
 refine dD Go.Proofs.Tryz.func75 aJl ?_
 simp[v75,r75]
 refine iF (l:=abT) (b:=acx) rfl [] (fun i=>[.rsl (List.length xs) (Cs ((List.flatMap Hand.d xs))),.rsl (List.length xs) (Cs ((List.flatMap Hand.d xs))),.bool false,.dead,.int .i64 (i:Int),.dead,.dead]) (fun _=>True) xs.length
  (fun ex en=>ex=.exit 0∧en=[.rsl (List.length xs) (Cs ((List.flatMap Hand.d xs))),.rsl (List.length xs) (Cs ((List.flatMap Hand.d xs))),.bool false,.dead,.int .i64 xs.length,.dead,.dead]) ?_ ?_ trivial (by simp) ?_
 ·intro i hi _ q hn hx hr
  obtain⟨x,hx0⟩:∃ x,xs[i]?=some x:=⟨_,List.getElem?_eq_getElem hi⟩
  have hrow:=row_drop Hand.d 6 Hand.d_len hx0
  have hw:IntKind.i64.wrap ((i:Int)+1)=((i+1:Nat):Int):=by unfold maxLen at hm;rw[bJ]<;>omega
  have hf:=h x (List.mem_of_getElem? hx0)
  try simp at hf
  simp[hi,aT,hrow,hw]
  refine bZ hf ?_
  simp[hw]
  refine hn _ ?_ trivial
  simp
 ·intro _ q hx hr
  simp
  exact hx _ _ ⟨rfl,rfl⟩
 ·rintro ex en ⟨rfl,rfl⟩
  simp
theorem adN (x:Mach) (hMem:Says prog 33 [.rsl (List.length x.Mem) (Cs ((List.flatMap eu x.Mem))),.rsl (List.length x.Mem) (Cs ((List.flatMap eu x.Mem)))] (.bool true) []) (hHands:Says prog 75 [.rsl (List.length x.Hands) (Cs ((List.flatMap Hand.d x.Hands))),.rsl (List.length x.Hands) (Cs ((List.flatMap Hand.d x.Hands)))] (.bool true) []) (hOut:Says prog 33 [.rsl (List.length x.Out) (Cs ((List.flatMap eu x.Out))),.rsl (List.length x.Out) (Cs ((List.flatMap eu x.Out)))] (.bool true) []):Says prog 24 [.agg (Cs (Mach.d x)),.agg (Cs (Mach.d x))] (.bool true) []:=by
 refine dD Go.Proofs.Tryz.func24 aJJ ?_
 try simp at hMem
 try simp at hHands
 try simp at hOut
 simp[v24,r24]
 refine aX hMem ?_
 simp
 refine aX hHands ?_
 simp
 refine aX hOut ?_
 simp
end Go.AmC
