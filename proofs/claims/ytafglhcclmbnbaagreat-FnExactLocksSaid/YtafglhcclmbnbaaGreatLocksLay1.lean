import Derived.Test.YtafglhcclmbnbaaGreatLocksSz
import Derived.Test.YtafglhcclmbnbaaGreatLocksEq
import Derived.Test.YtafglhcclmbnbaaGreatLocksDat
import Derived.Test.YtafglhcclmbnbaaGreatLocksC1
import Derived.Shelf.Sort.Plain
import Derived.Shelf.Slices.In.SortNone
import Derived.Shelf.Slices.CompactS
import Derived.Test.YtafglhcclmbnbaaGreatProg
set_option linter.unusedSimpArgs false
set_option linter.unusedVariables false
set_option maxRecDepth 20000
set_option maxHeartbeats 4000000
namespace Go.AmC
open Go Go.AM
open Go.Proofs.Tryz (prog)
theorem Bv:∀ x:Exp,(Exp.lg x)→∀ l:Int,0≤l→l≤1048576→Says prog 89 [.agg (Cs (Exp.d x)),.int .i64 l] (.int .i64 (szR (Exp.tot x) l)) []:=Exp.ind fun x ih h=>by
 rw[Exp.lg_eq] at h
 obtain⟨hS,hL⟩:=h
 exact auL x hS (OM _ hL.1 (fun y hy=>ih y hy (hL.2 y hy)))
theorem aEA (xs:List Exp) (h:List.length xs≤maxLen∧∀ y∈xs,(Exp.lg y)):∀ l:Int,0≤l→l≤1048576→Says prog 155 [.rsl (List.length xs) (Cs ((List.flatMap Exp.d xs))),.int .i64 l] (.int .i64 (szR (List.length xs+(List.map Exp.tot xs).sum) l)) []:=OM _ h.1 (fun y hy=>Bv y (h.2 y hy))
theorem SI:∀ x:Stmt,(Stmt.lg x)→∀ l:Int,0≤l→l≤1048576→Says prog 35 [.agg (Cs (Stmt.d x)),.int .i64 l] (.int .i64 (szR (Stmt.tot x) l)) []:=Stmt.ind fun x ih h=>by
 rw[Stmt.lg_eq] at h
 obtain⟨hS,hAt,hE,hLo,hHi,hBody⟩:=h
 exact ada x hS (Bv _ hAt) (Bv _ hE) (Bv _ hLo) (Bv _ hHi) (Jc _ hBody.1 (fun y hy=>ih y hy (hBody.2 y hy)))
theorem Nh (xs:List Stmt) (h:List.length xs≤maxLen∧∀ y∈xs,(Stmt.lg y)):∀ l:Int,0≤l→l≤1048576→Says prog 47 [.rsl (List.length xs) (Cs ((List.flatMap Stmt.d xs))),.int .i64 l] (.int .i64 (szR (List.length xs+(List.map Stmt.tot xs).sum) l)) []:=Jc _ h.1 (fun y hy=>SI y (h.2 y hy))
theorem ac9 (x:Arr) (h:(Arr.lg x)):∀ l:Int,0≤l→l≤1048576→Says prog 105 [.agg (Cs (Arr.d x)),.int .i64 l] (.int .i64 (szR (Arr.tot x) l)) []:=by
 rw[Arr.lg_eq] at h
 have hName:=h
 exact auM x hName
theorem SV (xs:List Arr) (h:List.length xs≤maxLen∧∀ y∈xs,(Arr.lg y)):∀ l:Int,0≤l→l≤1048576→Says prog 46 [.rsl (List.length xs) (Cs ((List.flatMap Arr.d xs))),.int .i64 l] (.int .i64 (szR (List.length xs+(List.map Arr.tot xs).sum) l)) []:=adk _ h.1 (fun y hy=>ac9 y (h.2 y hy))
theorem SN (x:Prog) (h:(Prog.lg x)):∀ l:Int,0≤l→l≤1048576→Says prog 10 [.agg (Cs (Prog.d x)),.int .i64 l] (.int .i64 (szR (Prog.tot x) l)) []:=by
 rw[Prog.lg_eq] at h
 obtain⟨hArrs,hBody⟩:=h
 exact ade x (SV _ hArrs) (Nh _ hBody)
theorem y9 (xs:List Int) (h:List.length xs≤maxLen):∀ l:Int,0≤l→l≤1048576→Says prog 66 [.rsl (List.length xs) (Cs ((List.flatMap eu xs))),.int .i64 l] (.int .i64 (szR (List.length xs) l)) []:=adg _ h
theorem SL (xs:List Put) (h:List.length xs≤maxLen):∀ l:Int,0≤l→l≤1048576→Says prog 200 [.rsl (List.length xs) (Cs ((List.flatMap Put.d xs))),.int .i64 l] (.int .i64 (szR (List.length xs) l)) []:=adc _ h
theorem SS (x:Hand) (h:(Hand.lg x)):∀ l:Int,0≤l→l≤1048576→Says prog 131 [.agg (Cs (Hand.d x)),.int .i64 l] (.int .i64 (szR (Hand.tot x) l)) []:=by
 rw[Hand.lg_eq] at h
 obtain⟨hStack,hRegs,hShelf⟩:=h
 exact adi x (y9 _ hStack) (y9 _ hRegs) (SL _ hShelf)
theorem Nj (xs:List Hand) (h:List.length xs≤maxLen∧∀ y∈xs,(Hand.lg y)):∀ l:Int,0≤l→l≤1048576→Says prog 67 [.rsl (List.length xs) (Cs ((List.flatMap Hand.d xs))),.int .i64 l] (.int .i64 (szR (List.length xs+(List.map Hand.tot xs).sum) l)) []:=SY _ h.1 (fun y hy=>SS y (h.2 y hy))
theorem SQ (x:Mach) (h:(Mach.lg x)):∀ l:Int,0≤l→l≤1048576→Says prog 18 [.agg (Cs (Mach.d x)),.int .i64 l] (.int .i64 (szR (Mach.tot x) l)) []:=by
 rw[Mach.lg_eq] at h
 obtain⟨hMem,hHands,hOut⟩:=h
 exact adf x (y9 _ hMem) (Nj _ hHands) (y9 _ hOut)
theorem Bq:∀ x:Exp,(Exp.tot x)≤1048576→Says prog 93 [.agg (Cs (Exp.d x))] (.agg (Ows (Exp.d x))) []:=Exp.ind fun x ih h=>by
 rw[Exp.tot_eq] at h
 exact auJ x (OI _ (by omega) (fun y hy=>ih y hy (by have:=dV Exp.tot hy;omega)))
theorem aEw (xs:List Exp) (h:(List.length xs+(List.map Exp.tot xs).sum)≤1048576):Says prog 166 [.rsl (List.length xs) (Cs ((List.flatMap Exp.d xs)))] (.osl 0 72 (List.length xs) (Ows ((List.flatMap Exp.d xs)))) []:=OI _ (by omega) (fun y hy=>Bq y (by have:=dV Exp.tot hy;omega))
theorem Sv:∀ x:Stmt,(Stmt.tot x)≤1048576→Says prog 37 [.agg (Cs (Stmt.d x))] (.agg (Ows (Stmt.d x))) []:=Stmt.ind fun x ih h=>by
 rw[Stmt.tot_eq] at h
 exact ac1 x (Bq _ (by omega)) (Bq _ (by omega)) (Bq _ (by omega)) (Bq _ (by omega)) (Jb _ (by omega) (fun y hy=>ih y hy (by have:=dV Stmt.tot hy;omega)))
theorem MZ (xs:List Stmt) (h:(List.length xs+(List.map Stmt.tot xs).sum)≤1048576):Says prog 53 [.rsl (List.length xs) (Cs ((List.flatMap Stmt.d xs)))] (.osl 0 74 (List.length xs) (Ows ((List.flatMap Stmt.d xs)))) []:=Jb _ (by omega) (fun y hy=>Sv y (by have:=dV Stmt.tot hy;omega))
theorem ac0 (x:Arr) (h:(Arr.tot x)≤1048576):Says prog 117 [.agg (Cs (Arr.d x))] (.agg (Ows (Arr.d x))) []:=by
 rw[Arr.tot_eq] at h
 exact auK x
theorem SE (xs:List Arr) (h:(List.length xs+(List.map Arr.tot xs).sum)≤1048576):Says prog 52 [.rsl (List.length xs) (Cs ((List.flatMap Arr.d xs)))] (.osl 0 130 (List.length xs) (Ows ((List.flatMap Arr.d xs)))) []:=ac8 _ (by omega) (fun y hy=>ac0 y (by have:=dV Arr.tot hy;omega))
theorem SA (x:Prog) (h:(Prog.tot x)≤1048576):Says prog 12 [.agg (Cs (Prog.d x))] (.agg (Ows (Prog.d x))) []:=by
 rw[Prog.tot_eq] at h
 exact ac3 x (SE _ (by omega)) (MZ _ (by omega))
theorem aGC (x:Ins):Says prog 132 [.agg (Cs (Ins.d x))] (.agg (Ows (Ins.d x))) []:=by
 exact abj x
theorem acZ (x:Put):Says prog 267 [.agg (Cs (Put.d x))] (.agg (Ows (Put.d x))) []:=by
 exact auI x
theorem yZ (xs:List Int) (h:(List.length xs)≤1048576):Says prog 31 [.rsl (List.length xs) (Cs ((List.flatMap eu xs)))] (.osl 0 3 (List.length xs) (Ows ((List.flatMap eu xs)))) []:=ac5 _ (h)
theorem Sz (xs:List Put) (h:(List.length xs)≤1048576):Says prog 201 [.rsl (List.length xs) (Cs ((List.flatMap Put.d xs)))] (.osl 0 176 (List.length xs) (Ows ((List.flatMap Put.d xs)))) []:=ac2 _ (h) (fun y hy=>acZ y)
theorem SC (x:Hand) (h:(Hand.tot x)≤1048576):Says prog 133 [.agg (Cs (Hand.d x))] (.agg (Ows (Hand.d x))) []:=by
 rw[Hand.tot_eq] at h
 exact ac7 x (yZ _ (by omega)) (yZ _ (by omega)) (Sz _ (by omega))
theorem Na (xs:List Hand) (h:(List.length xs+(List.map Hand.tot xs).sum)≤1048576):Says prog 71 [.rsl (List.length xs) (Cs ((List.flatMap Hand.d xs)))] (.osl 0 158 (List.length xs) (Ows ((List.flatMap Hand.d xs)))) []:=SH _ (by omega) (fun y hy=>SC y (by have:=dV Hand.tot hy;omega))
theorem SB (x:Mach) (h:(Mach.tot x)≤1048576):Says prog 21 [.agg (Cs (Mach.d x))] (.agg (Ows (Mach.d x))) []:=by
 rw[Mach.tot_eq] at h
 exact ac4 x (yZ _ (by omega)) (Na _ (by omega)) (yZ _ (by omega))
theorem BI:∀ x:Exp,(Exp.lg x)→Says prog 98 [.agg (Cs (Exp.d x)),.agg (Cs (Exp.d x))] (.bool true) []:=Exp.ind fun x ih h=>by
 rw[Exp.lg_eq] at h
 obtain⟨hS,hL⟩:=h
 exact aw9 x (Qc _ hL.1 (fun y hy=>ih y hy (hL.2 y hy)))
theorem aF5 (xs:List Exp) (h:List.length xs≤maxLen∧∀ y∈xs,(Exp.lg y)):Says prog 176 [.rsl (List.length xs) (Cs ((List.flatMap Exp.d xs))),.rsl (List.length xs) (Cs ((List.flatMap Exp.d xs)))] (.bool true) []:=Qc _ h.1 (fun y hy=>BI y (h.2 y hy))
theorem Uf:∀ x:Stmt,(Stmt.lg x)→Says prog 39 [.agg (Cs (Stmt.d x)),.agg (Cs (Stmt.d x))] (.bool true) []:=Stmt.ind fun x ih h=>by
 rw[Stmt.lg_eq] at h
 obtain⟨hS,hAt,hE,hLo,hHi,hBody⟩:=h
 exact adK x (BI _ hAt) (BI _ hE) (BI _ hLo) (BI _ hHi) (JF _ hBody.1 (fun y hy=>ih y hy (hBody.2 y hy)))
theorem NZ (xs:List Stmt) (h:List.length xs≤maxLen∧∀ y∈xs,(Stmt.lg y)):Says prog 60 [.rsl (List.length xs) (Cs ((List.flatMap Stmt.d xs))),.rsl (List.length xs) (Cs ((List.flatMap Stmt.d xs)))] (.bool true) []:=JF _ h.1 (fun y hy=>Uf y (h.2 y hy))
theorem adJ (x:Arr) (h:(Arr.lg x)):Says prog 127 [.agg (Cs (Arr.d x)),.agg (Cs (Arr.d x))] (.bool true) []:=by
 rw[Arr.lg_eq] at h
 have hName:=h
 exact axa x
theorem Uk (xs:List Arr) (h:List.length xs≤maxLen∧∀ y∈xs,(Arr.lg y)):Says prog 59 [.rsl (List.length xs) (Cs ((List.flatMap Arr.d xs))),.rsl (List.length xs) (Cs ((List.flatMap Arr.d xs)))] (.bool true) []:=adR _ h.1 (fun y hy=>adJ y (h.2 y hy))
theorem Uh (x:Prog) (h:(Prog.lg x)):Says prog 14 [.agg (Cs (Prog.d x)),.agg (Cs (Prog.d x))] (.bool true) []:=by
 rw[Prog.lg_eq] at h
 obtain⟨hArrs,hBody⟩:=h
 exact adM x (Uk _ hArrs) (NZ _ hBody)
theorem aGG (x:Ins):Says prog 135 [.agg (Cs (Ins.d x)),.agg (Cs (Ins.d x))] (.bool true) []:=by
 exact aco x
theorem adI (x:Put):Says prog 277 [.agg (Cs (Put.d x)),.agg (Cs (Put.d x))] (.bool true) []:=by
 exact aw8 x
theorem Ae (xs:List Int) (h:List.length xs≤maxLen):Says prog 33 [.rsl (List.length xs) (Cs ((List.flatMap eu xs))),.rsl (List.length xs) (Cs ((List.flatMap eu xs)))] (.bool true) []:=adO _ h
theorem Ug (xs:List Put) (h:List.length xs≤maxLen):Says prog 206 [.rsl (List.length xs) (Cs ((List.flatMap Put.d xs))),.rsl (List.length xs) (Cs ((List.flatMap Put.d xs)))] (.bool true) []:=adL _ h (fun y hy=>adI y)
theorem Uj (x:Hand) (h:(Hand.lg x)):Says prog 136 [.agg (Cs (Hand.d x)),.agg (Cs (Hand.d x))] (.bool true) []:=by
 rw[Hand.lg_eq] at h
 obtain⟨hStack,hRegs,hShelf⟩:=h
 exact adQ x (Ae _ hStack) (Ae _ hRegs) (Ug _ hShelf)
theorem N7 (xs:List Hand) (h:List.length xs≤maxLen∧∀ y∈xs,(Hand.lg y)):Says prog 75 [.rsl (List.length xs) (Cs ((List.flatMap Hand.d xs))),.rsl (List.length xs) (Cs ((List.flatMap Hand.d xs)))] (.bool true) []:=Um _ h.1 (fun y hy=>Uj y (h.2 y hy))
theorem Ui (x:Mach) (h:(Mach.lg x)):Says prog 24 [.agg (Cs (Mach.d x)),.agg (Cs (Mach.d x))] (.bool true) []:=by
 rw[Mach.lg_eq] at h
 obtain⟨hMem,hHands,hOut⟩:=h
 exact adN x (Ae _ hMem) (N7 _ hHands) (Ae _ hOut)
section
variable {H : Type} {enc : TypeId × Value → H} {w : World} {spare : Nat → Bool} {held : Bool}
theorem fld {n:Nat} {t:TypeId} {cs:List Value} {xs:List (DataW H × List MemPlace)} {i k:Nat} (hl:xs.length=k) (hi:i<k) (h:DataW.trod enc prog w 0 spare held n t cs=xs[i]?):∃ x,DataW.trod enc prog w 0 spare held n t cs=some x :=
 ⟨_,h.trans (List.getElem?_eq_getElem (by omega))⟩
theorem Ai:prog.cellsOf 3=1:=by kernel_rfl
theorem auc:prog.cellsOf 9=1:=by kernel_rfl
theorem axc:prog.cellsOf 64=1:=by kernel_rfl
theorem EJ:prog.cellsOf 66=4:=by kernel_rfl
theorem ww:∀ (fuel:Nat) (cs:List Value) (z:DataW H × List MemPlace),DataW.trod enc prog w 0 spare held fuel 66 cs=some z→∃ y:Exp,Exp.lg y∧Rd prog w (Exp.d y) cs:=by
 intro fuel
 induction fuel using Nat.strongRecOn with
 | _ fuel ih =>
  intro cs z h
  obtain⟨xs,n,rfl,_,hlen,hxs,hf⟩:=DataW.trod_struct Go.Proofs.Tryz.underlying66 h
  replace hxs:xs.length=4:=hxs
  rw[EJ] at hlen
  obtain⟨_,f0⟩:=fld hxs (i:=0) (by omega) (hf 0 _ rfl)
  replace f0:DataW.trod enc prog w 0 spare held n 3 ((cs.drop 0).take (prog.cellsOf 3))=some _:=f0
  rw[Ai] at f0
  obtain⟨_,f1⟩:=fld hxs (i:=1) (by omega) (hf 1 _ rfl)
  replace f1:DataW.trod enc prog w 0 spare held n 3 ((cs.drop 1).take (prog.cellsOf 3))=some _:=f1
  rw[Ai] at f1
  obtain⟨_,f2⟩:=fld hxs (i:=2) (by omega) (hf 2 _ rfl)
  replace f2:DataW.trod enc prog w 0 spare held n 9 ((cs.drop 2).take (prog.cellsOf 9))=some _:=f2
  rw[auc] at f2
  obtain⟨_,f3⟩:=fld hxs (i:=3) (by omega) (hf 3 _ rfl)
  replace f3:DataW.trod enc prog w 0 spare held n 64 ((cs.drop 3).take (prog.cellsOf 64))=some _:=f3
  rw[axc] at f3
  obtain⟨a0,e0,_,_⟩:=DataW.trod_int Go.Proofs.Tryz.underlying3 f0
  obtain⟨a1,e1,_,_⟩:=DataW.trod_int Go.Proofs.Tryz.underlying3 f1
  obtain⟨a2,e2,_,l2⟩:=DataW.trod_string Go.Proofs.Tryz.underlying9 f2
  obtain⟨a3,l3,o3,r3⟩:=jB Exp.d (fun y=>(Exp.lg y)) 4 66 72 Exp.d_len Go.Proofs.Tryz.underlying64 EJ f3 (fun m hm cs z hz=>ih m (by omega) cs z hz)
  refine⟨⟨a0,a1,a2.data.toList,a3⟩,by rw[Exp.lg_eq];exact⟨by simpa using l2,⟨l3,o3⟩⟩,?_⟩
  have h0:Rd prog w ([.I .i64 a0]++([.I .i64 a1]++([.S a2.data.toList]++([.L 72 (List.length a3) (List.flatMap Exp.d a3)]++[])))) (cs.drop 0) :=
   gX (s:=1) (by rw[e0];exact lF) (gX (s:=1) (by rw[e1];exact lF) (gX (s:=1) (by rw[e2];exact IW) (gX (s:=1) (r3) (uJ hlen))))
  simpa using h0
theorem acs:prog.cellsOf 23=1:=by kernel_rfl
theorem RD:prog.cellsOf 68=19:=by kernel_rfl
theorem J7:∀ (fuel:Nat) (cs:List Value) (z:DataW H × List MemPlace),DataW.trod enc prog w 0 spare held fuel 68 cs=some z→∃ y:Stmt,Stmt.lg y∧Rd prog w (Stmt.d y) cs:=by
 intro fuel
 induction fuel using Nat.strongRecOn with
 | _ fuel ih =>
  intro cs z h
  obtain⟨xs,n,rfl,_,hlen,hxs,hf⟩:=DataW.trod_struct Go.Proofs.Tryz.underlying68 h
  replace hxs:xs.length=7:=hxs
  rw[RD] at hlen
  obtain⟨_,f0⟩:=fld hxs (i:=0) (by omega) (hf 0 _ rfl)
  replace f0:DataW.trod enc prog w 0 spare held n 3 ((cs.drop 0).take (prog.cellsOf 3))=some _:=f0
  rw[Ai] at f0
  obtain⟨_,f1⟩:=fld hxs (i:=1) (by omega) (hf 1 _ rfl)
  replace f1:DataW.trod enc prog w 0 spare held n 9 ((cs.drop 1).take (prog.cellsOf 9))=some _:=f1
  rw[auc] at f1
  obtain⟨_,f2⟩:=fld hxs (i:=2) (by omega) (hf 2 _ rfl)
  replace f2:DataW.trod enc prog w 0 spare held n 66 ((cs.drop 2).take (prog.cellsOf 66))=some _:=f2
  rw[EJ] at f2
  obtain⟨_,f3⟩:=fld hxs (i:=3) (by omega) (hf 3 _ rfl)
  replace f3:DataW.trod enc prog w 0 spare held n 66 ((cs.drop 6).take (prog.cellsOf 66))=some _:=f3
  rw[EJ] at f3
  obtain⟨_,f4⟩:=fld hxs (i:=4) (by omega) (hf 4 _ rfl)
  replace f4:DataW.trod enc prog w 0 spare held n 66 ((cs.drop 10).take (prog.cellsOf 66))=some _:=f4
  rw[EJ] at f4
  obtain⟨_,f5⟩:=fld hxs (i:=5) (by omega) (hf 5 _ rfl)
  replace f5:DataW.trod enc prog w 0 spare held n 66 ((cs.drop 14).take (prog.cellsOf 66))=some _:=f5
  rw[EJ] at f5
  obtain⟨_,f6⟩:=fld hxs (i:=6) (by omega) (hf 6 _ rfl)
  replace f6:DataW.trod enc prog w 0 spare held n 23 ((cs.drop 18).take (prog.cellsOf 23))=some _:=f6
  rw[acs] at f6
  obtain⟨a0,e0,_,_⟩:=DataW.trod_int Go.Proofs.Tryz.underlying3 f0
  obtain⟨a1,e1,_,l1⟩:=DataW.trod_string Go.Proofs.Tryz.underlying9 f1
  obtain⟨a2,l2,r2⟩:=ww _ _ _ f2
  obtain⟨a3,l3,r3⟩:=ww _ _ _ f3
  obtain⟨a4,l4,r4⟩:=ww _ _ _ f4
  obtain⟨a5,l5,r5⟩:=ww _ _ _ f5
  obtain⟨a6,l6,o6,r6⟩:=jB Stmt.d (fun y=>(Stmt.lg y)) 19 68 74 Stmt.d_len Go.Proofs.Tryz.underlying23 RD f6 (fun m hm cs z hz=>ih m (by omega) cs z hz)
  refine⟨⟨a0,a1.data.toList,a2,a3,a4,a5,a6⟩,by rw[Stmt.lg_eq];exact⟨by simpa using l1,l2,l3,l4,l5,⟨l6,o6⟩⟩,?_⟩
  have h0:Rd prog w ([.I .i64 a0]++([.S a1.data.toList]++(Exp.d a2++(Exp.d a3++(Exp.d a4++(Exp.d a5++([.L 74 (List.length a6) (List.flatMap Stmt.d a6)]++[]))))))) (cs.drop 0) :=
   gX (s:=1) (by rw[e0];exact lF) (gX (s:=1) (by rw[e1];exact IW) (gX (s:=4) (r2) (gX (s:=4) (r3) (gX (s:=4) (r4) (gX (s:=4) (r5) (gX (s:=1) (r6) (uJ hlen)))))))
  simpa using h0
theorem Qi:prog.cellsOf 134=2:=by kernel_rfl
theorem Nz:∀ (fuel:Nat) (cs:List Value) (z:DataW H × List MemPlace),DataW.trod enc prog w 0 spare held fuel 134 cs=some z→∃ y:Arr,Arr.lg y∧Rd prog w (Arr.d y) cs:=by
 intro fuel
 intro cs z h
 obtain⟨xs,n,rfl,_,hlen,hxs,hf⟩:=DataW.trod_struct Go.Proofs.Tryz.underlying134 h
 replace hxs:xs.length=2:=hxs
 rw[Qi] at hlen
 obtain⟨_,f0⟩:=fld hxs (i:=0) (by omega) (hf 0 _ rfl)
 replace f0:DataW.trod enc prog w 0 spare held n 9 ((cs.drop 0).take (prog.cellsOf 9))=some _:=f0
 rw[auc] at f0
 obtain⟨_,f1⟩:=fld hxs (i:=1) (by omega) (hf 1 _ rfl)
 replace f1:DataW.trod enc prog w 0 spare held n 3 ((cs.drop 1).take (prog.cellsOf 3))=some _:=f1
 rw[Ai] at f1
 obtain⟨a0,e0,_,l0⟩:=DataW.trod_string Go.Proofs.Tryz.underlying9 f0
 obtain⟨a1,e1,_,_⟩:=DataW.trod_int Go.Proofs.Tryz.underlying3 f1
 refine⟨⟨a0.data.toList,a1⟩,by rw[Arr.lg_eq];exact by simpa using l0,?_⟩
 have h0:Rd prog w ([.S a0.data.toList]++([.I .i64 a1]++[])) (cs.drop 0) :=
  gX (s:=1) (by rw[e0];exact IW) (gX (s:=1) (by rw[e1];exact lF) (uJ hlen))
 simpa using h0
theorem axg:prog.cellsOf 22=1:=by kernel_rfl
theorem axf:prog.cellsOf 25=2:=by kernel_rfl
theorem read_Prog:∀ (fuel:Nat) (cs:List Value) (z:DataW H × List MemPlace),DataW.trod enc prog w 0 spare held fuel 25 cs=some z→∃ y:Prog,Prog.lg y∧Rd prog w (Prog.d y) cs:=by
 intro fuel
 intro cs z h
 obtain⟨xs,n,rfl,_,hlen,hxs,hf⟩:=DataW.trod_struct Go.Proofs.Tryz.underlying25 h
 replace hxs:xs.length=2:=hxs
 rw[axf] at hlen
 obtain⟨_,f0⟩:=fld hxs (i:=0) (by omega) (hf 0 _ rfl)
 replace f0:DataW.trod enc prog w 0 spare held n 22 ((cs.drop 0).take (prog.cellsOf 22))=some _:=f0
 rw[axg] at f0
 obtain⟨_,f1⟩:=fld hxs (i:=1) (by omega) (hf 1 _ rfl)
 replace f1:DataW.trod enc prog w 0 spare held n 23 ((cs.drop 1).take (prog.cellsOf 23))=some _:=f1
 rw[acs] at f1
 obtain⟨a0,l0,o0,r0⟩:=jB Arr.d (fun y=>(Arr.lg y)) 2 134 130 Arr.d_len Go.Proofs.Tryz.underlying22 Qi f0 (fun m hm cs z hz=>Nz m cs z hz)
 obtain⟨a1,l1,o1,r1⟩:=jB Stmt.d (fun y=>(Stmt.lg y)) 19 68 74 Stmt.d_len Go.Proofs.Tryz.underlying23 RD f1 (fun m hm cs z hz=>J7 m cs z hz)
 refine⟨⟨a0,a1⟩,by rw[Prog.lg_eq];exact⟨⟨l0,o0⟩,⟨l1,o1⟩⟩,?_⟩
 have h0:Rd prog w ([.L 130 (List.length a0) (List.flatMap Arr.d a0)]++([.L 74 (List.length a1) (List.flatMap Stmt.d a1)]++[])) (cs.drop 0) :=
  gX (s:=1) (r0) (gX (s:=1) (r1) (uJ hlen))
 simpa using h0
theorem Qg:prog.cellsOf 162=3:=by kernel_rfl
theorem Ny:∀ (fuel:Nat) (cs:List Value) (z:DataW H × List MemPlace),DataW.trod enc prog w 0 spare held fuel 162 cs=some z→∃ y:Ins,Rd prog w (Ins.d y) cs:=by
 intro fuel
 intro cs z h
 obtain⟨xs,n,rfl,_,hlen,hxs,hf⟩:=DataW.trod_struct Go.Proofs.Tryz.underlying162 h
 replace hxs:xs.length=3:=hxs
 rw[Qg] at hlen
 obtain⟨_,f0⟩:=fld hxs (i:=0) (by omega) (hf 0 _ rfl)
 replace f0:DataW.trod enc prog w 0 spare held n 3 ((cs.drop 0).take (prog.cellsOf 3))=some _:=f0
 rw[Ai] at f0
 obtain⟨_,f1⟩:=fld hxs (i:=1) (by omega) (hf 1 _ rfl)
 replace f1:DataW.trod enc prog w 0 spare held n 3 ((cs.drop 1).take (prog.cellsOf 3))=some _:=f1
 rw[Ai] at f1
 obtain⟨_,f2⟩:=fld hxs (i:=2) (by omega) (hf 2 _ rfl)
 replace f2:DataW.trod enc prog w 0 spare held n 3 ((cs.drop 2).take (prog.cellsOf 3))=some _:=f2
 rw[Ai] at f2
 obtain⟨a0,e0,_,_⟩:=DataW.trod_int Go.Proofs.Tryz.underlying3 f0
 obtain⟨a1,e1,_,_⟩:=DataW.trod_int Go.Proofs.Tryz.underlying3 f1
 obtain⟨a2,e2,_,_⟩:=DataW.trod_int Go.Proofs.Tryz.underlying3 f2
 refine⟨⟨a0,a1,a2⟩,?_⟩
 have h0:Rd prog w ([.I .i64 a0]++([.I .i64 a1]++([.I .i64 a2]++[]))) (cs.drop 0) :=
  gX (s:=1) (by rw[e0];exact lF) (gX (s:=1) (by rw[e1];exact lF) (gX (s:=1) (by rw[e2];exact lF) (uJ hlen)))
 simpa using h0
theorem Qe:prog.cellsOf 273=2:=by kernel_rfl
theorem Nw:∀ (fuel:Nat) (cs:List Value) (z:DataW H × List MemPlace),DataW.trod enc prog w 0 spare held fuel 273 cs=some z→∃ y:Put,Rd prog w (Put.d y) cs:=by
 intro fuel
 intro cs z h
 obtain⟨xs,n,rfl,_,hlen,hxs,hf⟩:=DataW.trod_struct Go.Proofs.Tryz.underlying273 h
 replace hxs:xs.length=2:=hxs
 rw[Qe] at hlen
 obtain⟨_,f0⟩:=fld hxs (i:=0) (by omega) (hf 0 _ rfl)
 replace f0:DataW.trod enc prog w 0 spare held n 3 ((cs.drop 0).take (prog.cellsOf 3))=some _:=f0
 rw[Ai] at f0
 obtain⟨_,f1⟩:=fld hxs (i:=1) (by omega) (hf 1 _ rfl)
 replace f1:DataW.trod enc prog w 0 spare held n 3 ((cs.drop 1).take (prog.cellsOf 3))=some _:=f1
 rw[Ai] at f1
 obtain⟨a0,e0,_,_⟩:=DataW.trod_int Go.Proofs.Tryz.underlying3 f0
 obtain⟨a1,e1,_,_⟩:=DataW.trod_int Go.Proofs.Tryz.underlying3 f1
 refine⟨⟨a0,a1⟩,?_⟩
 have h0:Rd prog w ([.I .i64 a0]++([.I .i64 a1]++[])) (cs.drop 0) :=
  gX (s:=1) (by rw[e0];exact lF) (gX (s:=1) (by rw[e1];exact lF) (uJ hlen))
 simpa using h0
theorem MG:prog.cellsOf 38=1:=by kernel_rfl
theorem adT:prog.cellsOf 153=1:=by kernel_rfl
theorem aud:prog.cellsOf 4=1:=by kernel_rfl
theorem Qh:prog.cellsOf 155=6:=by kernel_rfl
theorem J8:∀ (fuel:Nat) (cs:List Value) (z:DataW H × List MemPlace),DataW.trod enc prog w 0 spare held fuel 155 cs=some z→∃ y:Hand,Hand.lg y∧Rd prog w (Hand.d y) cs:=by
 intro fuel
 intro cs z h
 obtain⟨xs,n,rfl,_,hlen,hxs,hf⟩:=DataW.trod_struct Go.Proofs.Tryz.underlying155 h
 replace hxs:xs.length=6:=hxs
 rw[Qh] at hlen
 obtain⟨_,f0⟩:=fld hxs (i:=0) (by omega) (hf 0 _ rfl)
 replace f0:DataW.trod enc prog w 0 spare held n 3 ((cs.drop 0).take (prog.cellsOf 3))=some _:=f0
 rw[Ai] at f0
 obtain⟨_,f1⟩:=fld hxs (i:=1) (by omega) (hf 1 _ rfl)
 replace f1:DataW.trod enc prog w 0 spare held n 38 ((cs.drop 1).take (prog.cellsOf 38))=some _:=f1
 rw[MG] at f1
 obtain⟨_,f2⟩:=fld hxs (i:=2) (by omega) (hf 2 _ rfl)
 replace f2:DataW.trod enc prog w 0 spare held n 38 ((cs.drop 2).take (prog.cellsOf 38))=some _:=f2
 rw[MG] at f2
 obtain⟨_,f3⟩:=fld hxs (i:=3) (by omega) (hf 3 _ rfl)
 replace f3:DataW.trod enc prog w 0 spare held n 153 ((cs.drop 3).take (prog.cellsOf 153))=some _:=f3
 rw[adT] at f3
 obtain⟨_,f4⟩:=fld hxs (i:=4) (by omega) (hf 4 _ rfl)
 replace f4:DataW.trod enc prog w 0 spare held n 4 ((cs.drop 4).take (prog.cellsOf 4))=some _:=f4
 rw[aud] at f4
 obtain⟨_,f5⟩:=fld hxs (i:=5) (by omega) (hf 5 _ rfl)
 replace f5:DataW.trod enc prog w 0 spare held n 4 ((cs.drop 5).take (prog.cellsOf 4))=some _:=f5
 rw[aud] at f5
 obtain⟨a0,e0,_,_⟩:=DataW.trod_int Go.Proofs.Tryz.underlying3 f0
 obtain⟨a1,l1,o1,r1⟩:=jB eu (fun _=>True) 1 3 3 (fun _=>by simp) Go.Proofs.Tryz.underlying38 Ai f1 (fun m hm cs z hz=>by obtain⟨a,e,_,_⟩:=DataW.trod_int Go.Proofs.Tryz.underlying3 hz;exact⟨a,trivial,by rw[e];exact lF⟩)
 obtain⟨a2,l2,o2,r2⟩:=jB eu (fun _=>True) 1 3 3 (fun _=>by simp) Go.Proofs.Tryz.underlying38 Ai f2 (fun m hm cs z hz=>by obtain⟨a,e,_,_⟩:=DataW.trod_int Go.Proofs.Tryz.underlying3 hz;exact⟨a,trivial,by rw[e];exact lF⟩)
 obtain⟨a3,l3,o3,r3⟩:=jB Put.d (fun _=>True) 2 273 176 Put.d_len Go.Proofs.Tryz.underlying153 Qe f3 (fun m hm cs z hz=>by obtain⟨y,hy⟩:=Nw m cs z hz;exact⟨y,trivial,hy⟩)
 obtain⟨a4,e4,_⟩:=DataW.trod_bool Go.Proofs.Tryz.underlying4 f4
 obtain⟨a5,e5,_⟩:=DataW.trod_bool Go.Proofs.Tryz.underlying4 f5
 refine⟨⟨a0,a1,a2,a3,a4,a5⟩,by rw[Hand.lg_eq];exact⟨l1,l2,l3⟩,?_⟩
 have h0:Rd prog w ([.I .i64 a0]++([.L 3 (List.length a1) (List.flatMap eu a1)]++([.L 3 (List.length a2) (List.flatMap eu a2)]++([.L 176 (List.length a3) (List.flatMap Put.d a3)]++([.B a4]++([.B a5]++[])))))) (cs.drop 0) :=
  gX (s:=1) (by rw[e0];exact lF) (gX (s:=1) (r1) (gX (s:=1) (r2) (gX (s:=1) (r3) (gX (s:=1) (by rw[e4];exact Et) (gX (s:=1) (by rw[e5];exact Et) (uJ hlen))))))
 simpa using h0
theorem axe:prog.cellsOf 39=1:=by kernel_rfl
theorem axd:prog.cellsOf 41=4:=by kernel_rfl
theorem read_Mach:∀ (fuel:Nat) (cs:List Value) (z:DataW H × List MemPlace),DataW.trod enc prog w 0 spare held fuel 41 cs=some z→∃ y:Mach,Mach.lg y∧Rd prog w (Mach.d y) cs:=by
 intro fuel
 intro cs z h
 obtain⟨xs,n,rfl,_,hlen,hxs,hf⟩:=DataW.trod_struct Go.Proofs.Tryz.underlying41 h
 replace hxs:xs.length=4:=hxs
 rw[axd] at hlen
 obtain⟨_,f0⟩:=fld hxs (i:=0) (by omega) (hf 0 _ rfl)
 replace f0:DataW.trod enc prog w 0 spare held n 38 ((cs.drop 0).take (prog.cellsOf 38))=some _:=f0
 rw[MG] at f0
 obtain⟨_,f1⟩:=fld hxs (i:=1) (by omega) (hf 1 _ rfl)
 replace f1:DataW.trod enc prog w 0 spare held n 39 ((cs.drop 1).take (prog.cellsOf 39))=some _:=f1
 rw[axe] at f1
 obtain⟨_,f2⟩:=fld hxs (i:=2) (by omega) (hf 2 _ rfl)
 replace f2:DataW.trod enc prog w 0 spare held n 38 ((cs.drop 2).take (prog.cellsOf 38))=some _:=f2
 rw[MG] at f2
 obtain⟨_,f3⟩:=fld hxs (i:=3) (by omega) (hf 3 _ rfl)
 replace f3:DataW.trod enc prog w 0 spare held n 4 ((cs.drop 3).take (prog.cellsOf 4))=some _:=f3
 rw[aud] at f3
 obtain⟨a0,l0,o0,r0⟩:=jB eu (fun _=>True) 1 3 3 (fun _=>by simp) Go.Proofs.Tryz.underlying38 Ai f0 (fun m hm cs z hz=>by obtain⟨a,e,_,_⟩:=DataW.trod_int Go.Proofs.Tryz.underlying3 hz;exact⟨a,trivial,by rw[e];exact lF⟩)
 obtain⟨a1,l1,o1,r1⟩:=jB Hand.d (fun y=>(Hand.lg y)) 6 155 158 Hand.d_len Go.Proofs.Tryz.underlying39 Qh f1 (fun m hm cs z hz=>J8 m cs z hz)
 obtain⟨a2,l2,o2,r2⟩:=jB eu (fun _=>True) 1 3 3 (fun _=>by simp) Go.Proofs.Tryz.underlying38 Ai f2 (fun m hm cs z hz=>by obtain⟨a,e,_,_⟩:=DataW.trod_int Go.Proofs.Tryz.underlying3 hz;exact⟨a,trivial,by rw[e];exact lF⟩)
 obtain⟨a3,e3,_⟩:=DataW.trod_bool Go.Proofs.Tryz.underlying4 f3
 refine⟨⟨a0,a1,a2,a3⟩,by rw[Mach.lg_eq];exact⟨l0,⟨l1,o1⟩,l2⟩,?_⟩
 have h0:Rd prog w ([.L 3 (List.length a0) (List.flatMap eu a0)]++([.L 158 (List.length a1) (List.flatMap Hand.d a1)]++([.L 3 (List.length a2) (List.flatMap eu a2)]++([.B a3]++[])))) (cs.drop 0) :=
  gX (s:=1) (r0) (gX (s:=1) (r1) (gX (s:=1) (r2) (gX (s:=1) (by rw[e3];exact Et) (uJ hlen))))
 simpa using h0
end
end Go.AmC
namespace Go.Proofs
open Go.Shelf
def Tryz.sortS_ren:Go.Shelf.Ren:=⟨fun|190=>284|125=>325|258=>324|128=>363|129=>364|302=>354|303=>355|304=>356|305=>357|306=>358|307=>359|308=>360|309=>361|310=>362|333=>386|329=>387|330=>388|334=>389|335=>390|336=>391|344=>412|n=>n,fun|31=>137|9=>9|3=>3|46=>313|0=>0|51=>343|53=>345|4=>4|183=>336|182=>335|131=>286|5=>5|218=>356|222=>360|228=>374|229=>235|n=>n,fun|n=>n⟩
theorem Tryz.sortS:Go.Proofs.Lays.n190 Tryz.prog Tryz.sortS_ren:={
 mixed:=by kernel_rfl
 f125:=Tryz.func325.trans (congrArg some (by kernel_rfl))
 f128:=Tryz.func363.trans (congrArg some (by kernel_rfl))
 f129:=Tryz.func364.trans (congrArg some (by kernel_rfl))
 f190:=Tryz.func284.trans (congrArg some (by kernel_rfl))
 f258:=Tryz.func324.trans (congrArg some (by kernel_rfl))
 f302:=Tryz.func354.trans (congrArg some (by kernel_rfl))
 f303:=Tryz.func355.trans (congrArg some (by kernel_rfl))
 f304:=Tryz.func356.trans (congrArg some (by kernel_rfl))
 f305:=Tryz.func357.trans (congrArg some (by kernel_rfl))
 f306:=Tryz.func358.trans (congrArg some (by kernel_rfl))
 f307:=Tryz.func359.trans (congrArg some (by kernel_rfl))
 f308:=Tryz.func360.trans (congrArg some (by kernel_rfl))
 f309:=Tryz.func361.trans (congrArg some (by kernel_rfl))
 f310:=Tryz.func362.trans (congrArg some (by kernel_rfl))
 f329:=Tryz.func387.trans (congrArg some (by kernel_rfl))
 f330:=Tryz.func388.trans (congrArg some (by kernel_rfl))
 f333:=Tryz.func386.trans (congrArg some (by kernel_rfl))
 f334:=Tryz.func389.trans (congrArg some (by kernel_rfl))
 f335:=Tryz.func390.trans (congrArg some (by kernel_rfl))
 f336:=Tryz.func391.trans (congrArg some (by kernel_rfl))
 f344:=Tryz.func412.trans (congrArg some (by kernel_rfl))
 t0:=Tryz.underlying0
 a0:=Tryz.isAgg0
 z0:=Tryz.sizeOf0
 v0:=Tryz.zeroValue0
 t3:=Tryz.underlying3
 a3:=Tryz.isAgg3
 z3:=Tryz.sizeOf3
 v3:=Tryz.zeroValue3
 t4:=Tryz.underlying4
 a4:=Tryz.isAgg4
 z4:=Tryz.sizeOf4
 v4:=Tryz.zeroValue4
 t5:=Tryz.underlying5
 a5:=Tryz.isAgg5
 z5:=Tryz.sizeOf5
 v5:=Tryz.zeroValue5
 t9:=Tryz.underlying9
 a9:=Tryz.isAgg9
 z9:=Tryz.sizeOf9
 v9:=Tryz.zeroValue9
 t31:=Tryz.underlying137
 a31:=Tryz.isAgg137
 z31:=Tryz.sizeOf137
 v31:=Tryz.zeroValue137
 t46:=Tryz.underlying313
 a46:=Tryz.isAgg313
 z46:=Tryz.sizeOf313
 v46:=Tryz.zeroValue313
 t51:=Tryz.underlying343
 a51:=Tryz.isAgg343
 z51:=Tryz.sizeOf343
 v51:=Tryz.zeroValue343
 t53:=Tryz.underlying345
 a53:=Tryz.isAgg345
 z53:=Tryz.sizeOf345
 v53:=Tryz.zeroValue345
 t131:=Tryz.underlying286
 a131:=Tryz.isAgg286
 z131:=Tryz.sizeOf286
 v131:=Tryz.zeroValue286
 t182:=Tryz.underlying335
 a182:=Tryz.isAgg335
 z182:=Tryz.sizeOf335
 v182:=Tryz.zeroValue335
 t183:=Tryz.underlying336
 a183:=Tryz.isAgg336
 z183:=Tryz.sizeOf336
 v183:=Tryz.zeroValue336
 t218:=Tryz.underlying356
 a218:=Tryz.isAgg356
 z218:=Tryz.sizeOf356
 v218:=Tryz.zeroValue356
 t222:=Tryz.underlying360
 a222:=Tryz.isAgg360
 z222:=Tryz.sizeOf360
 v222:=Tryz.zeroValue360
 t228:=Tryz.underlying374
 a228:=Tryz.isAgg374
 z228:=Tryz.sizeOf374
 v228:=Tryz.zeroValue374
 t229:=Tryz.underlying235
 a229:=Tryz.isAgg235
 z229:=Tryz.sizeOf235
 v229:=Tryz.zeroValue235 }
def Tryz.compS_ren:Go.Shelf.Ren:=⟨fun|194=>286|n=>n,fun|31=>137|9=>9|3=>3|4=>4|0=>0|n=>n,fun|n=>n⟩
theorem Tryz.compS:Go.Proofs.Lays.n194 Tryz.prog Tryz.compS_ren:={
 mixed:=by kernel_rfl
 f194:=Tryz.func286.trans (congrArg some (by kernel_rfl))
 t0:=Tryz.underlying0
 a0:=Tryz.isAgg0
 z0:=Tryz.sizeOf0
 v0:=Tryz.zeroValue0
 t3:=Tryz.underlying3
 a3:=Tryz.isAgg3
 z3:=Tryz.sizeOf3
 v3:=Tryz.zeroValue3
 t4:=Tryz.underlying4
 a4:=Tryz.isAgg4
 z4:=Tryz.sizeOf4
 v4:=Tryz.zeroValue4
 t9:=Tryz.underlying9
 a9:=Tryz.isAgg9
 z9:=Tryz.sizeOf9
 v9:=Tryz.zeroValue9
 t31:=Tryz.underlying137
 a31:=Tryz.isAgg137
 z31:=Tryz.sizeOf137
 v31:=Tryz.zeroValue137 }
end Go.Proofs
