import Derived.Test.YtafglhcclmbnbaaGreatLocksC0
import Derived.KernelRfl
import Derived.Test.YtafglhcclmbnbaaGreatProg
set_option maxRecDepth 100000
namespace Go.AmC
open Go Go.AM
open Go.AM.K
def aDG:List Nat:=[0,1,4]
def aEP:List di:=[.tmp 2]
abbrev agv:ae:=q (r [5,6,7,8,9,10,1017] [m 0,c 279 [(s 3)],m 1,c 279 [(s 5)],o (.bin .mul (s 4) (s 6)),c 279 [(s 7)],u 2 8]) .ret
abbrev aHl:ae:=q (r [1011] [a 2 (.asg (n 0))]) agv
theorem avj:dA Go.Proofs.Tryz.prog Go.Proofs.Tryz.f282 aDG aHl aEP 2=true:=by kernel_rfl
def aDF:List Nat:=[0,2]
def aEO:List di:=[.tmp 1]
abbrev agu:ae:=q (r [3,4,1007] [m 0,c 54 [(s 2),(n (-2147483648)),(n 2147483647)],u 1 3]) .ret
abbrev aHk:ae:=q (r [1005] [a 1 (.asg (b F))]) agu
theorem avi:dA Go.Proofs.Tryz.prog Go.Proofs.Tryz.f283 aDF aHk aEO 1=true:=by kernel_rfl
def abb:List Nat:=[0,1,2,4,13,5,6,22]
def abr:List di:=[.tmp 3]
abbrev agt:ae:=q (r [35,1037] [m 5,u 3 8]) .ret
abbrev ags:ae:=r [23,24,1038] [m 6,o (.bin .add (s 8) (n 1)),u 6 9]
abbrev agr:ae:=q (.block 1 (r [25,26,27,28,29,30,31,32,33,34,1046] [m 5,f 3 2,l 1 9,m 6,o (.iaddr 4 (s 10) (s 11)),L 4 12,m 1,o (.bin .add (s 14) (n 1)),c 295 [(s 13),(s 15)],o (.bin .add (s 8) (s 16)),u 5 17])) ags
abbrev agq:ae:=.cond (s 7) .skip (.exit 0)
abbrev Qm:ae:=q (q (r [14,15,16,17,18,19,20,21,1044] [m 6,f 3 2,l 1 9,o (.len F (s 10)),o (.bin .lss (s 8) (s 11)),m 12,g 13 T (.mv (s 5)),g 13 T (.bin .leq (s 14) (n 60)),a 7 (.pick (s 13) (s 15) (b F))]) agq) agr
def O5:ae:=.loop Qm
abbrev agp:ae:=.block 0 (O5)
abbrev agn:ae:=q (q (r [1036] [a 6 (.asg (n 0))]) agp) agt
abbrev agm:ae:=q (r [1036] [a 5 (.asg (n 1))]) agn
abbrev agl:ae:=q (r [1036] [a 3 (.asg (n 100))]) .ret
abbrev agk:ae:=.cond (s 4) agl .skip
abbrev U0:ae:=q (q (r [7,8,9,10,11,12,1042] [m 1,o (.bin .gtr (s 8) (n 8)),m 9,g 10 F (.load 4 T (s 2)),⟨.call 333 [(s 11)] F,none,some (10,F)⟩,g 10 F (.not (s 12)),a 4 (.pick (s 10) (b T) (s 13))]) agk) agm
abbrev aHj:ae:=q (r [1036,1037] [a 2 (.box 72 4 (s 0)),a 3 (.asg (n 0))]) U0
theorem avh:dA Go.Proofs.Tryz.prog Go.Proofs.Tryz.f295 abb aHj abr 2=true:=by kernel_rfl
def aDE:List Nat:=[0,1,4,7,8,9,5,16]
def aEN:List di:=[.tmp 2]
abbrev agj:ae:=q (r [1019] [a 2 (.asg (n (-1)))]) .ret
abbrev agi:ae:=r [18,1020] [o (.bin .add (s 4) (n 1)),u 4 8]
abbrev agh:ae:=q (r [17,1020] [m 6,u 2 8]) .ret
abbrev agf:ae:=.cond (s 7) agh .skip
abbrev age:ae:=q (r [11,12,13,14,15,1024] [m 1,m 0,m 6,o (.iaddr 2 (s 9) (s 10)),L 2 11,⟨.callv (s 8) [(s 12)],some 7,none⟩]) agf
abbrev agd:ae:=q (.block 1 (q (r [10,1020] [m 4,u 6 8]) age)) agi
abbrev agc:ae:=q (.cond (s 5) .skip (.exit 0)) agd
abbrev Ql:ae:=q (r [1019] [a 5 (.bin .lss (s 4) (s 3))]) agc
def O4:ae:=.loop Ql
abbrev agb:ae:=.block 0 (O4)
abbrev aga:ae:=q (q (r [6,1020,1021] [m 0,a 3 (.len F (s 8)),a 4 (.asg (n 0))]) agb) agj
abbrev aHh:ae:=q (r [1019] [a 2 (.asg (n 0))]) aga
theorem avg:dA Go.Proofs.Tryz.prog Go.Proofs.Tryz.f296 aDE aHh aEN 2=true:=by kernel_rfl
def aDD:List Nat:=[0,1,2,3]
def aEM:List di:=[.tmp 3]
abbrev af9:ae:=q (r [4,5,6,7,1012] [f 0 2,l 1 4,l 1 1,o (.bin .eql (s 5) (s 6)),u 3 7]) .ret
abbrev aHg:ae:=q (r [1008,1009] [a 2 (.box 130 2 (s 0)),a 3 (.asg (b F))]) af9
theorem avf:dA Go.Proofs.Tryz.prog Go.Proofs.Tryz.f297 aDD aHg aEM 2=true:=by kernel_rfl
def aDC:List Nat:=[0,1,2]
def aEL:List di:=[.tmp 2]
abbrev af8:ae:=q (r [3,4,5,1009] [L 4 1,c 340 [(s 3),(n 1)],c 54 [(s 4),(n 1),(n 60)],u 2 5]) .ret
abbrev aHf:ae:=q (r [1006,1007] [a 1 (.box 72 4 (s 0)),a 2 (.asg (b F))]) af8
theorem ave:dA Go.Proofs.Tryz.prog Go.Proofs.Tryz.f308 aDC aHf aEL 1=true:=by kernel_rfl
def aDB:List Nat:=[0,1,2]
def aEK:List di:=[.tmp 2]
abbrev af7:ae:=q (r [3,4,5,6,7,8,9,10,11,12,13,14,15,16,17,18,19,20,21,1041] [f 0 1,l 1 3,o (.bin .eql (s 4) (n 0)),m 5,g 6 T (.faddr 1 (s 1)),g 6 T (.load 1 F (s 7)),g 6 T (.bin .eql (s 8) (n 0)),o (.pick (s 6) (s 9) (b F)),m 10,g 11 T (.faddr 2 (s 1)),g 11 T (.load 1 F (s 12)),g 11 T (.bin .eql (s 13) (.con (.str []))),o (.pick (s 11) (s 14) (b F)),m 15,g 16 T (.faddr 3 (s 1)),g 16 T (.load 1 F (s 17)),g 16 T (.len F (s 18)),g 16 T (.bin .eql (s 19) (n 0)),o (.pick (s 16) (s 20) (b F)),u 2 21]) .ret
abbrev aHe:ae:=q (r [1022,1023] [a 1 (.box 72 4 (s 0)),a 2 (.asg (b F))]) af7
theorem avd:dA Go.Proofs.Tryz.prog Go.Proofs.Tryz.f309 aDB aHe aEK 1=true:=by kernel_rfl
def aDA:List Nat:=[0,1,2,7,8,9,10,5]
def aEJ:List di:=[]
abbrev af6:ae:=r [17,18,19] [m 1,L 4 2,⟨.callm (s 8) [((s 9),F)],none,none⟩]
abbrev af5:ae:=r [16,1021] [o (.bin .add (s 5) (n 1)),u 5 8]
abbrev af4:ae:=r [13,14,15] [L 4 7,m 1,⟨.callm (.con (.fn 320 [])) [((s 8),F),((s 9),T)],none,none⟩]
abbrev af2:ae:=q (.block 1 (q (r [11,12,1022,1023] [o (.iaddr 4 (s 3) (s 5)),L 4 8,a 7 (.mk 72 [(i 0),(i 0),(.str []),(.osl 0 72 0 [])]),o (.store 4 .al (s 7) (s 9))]) af4)) af5
abbrev af1:ae:=q (.cond (s 6) .skip (.exit 0)) af2
abbrev Qk:ae:=q (r [1020] [a 6 (.bin .lss (s 5) (s 4))]) af1
def O3:ae:=.loop Qk
abbrev af0:ae:=.block 0 (O3)
abbrev afZ:ae:=q (q (r [6,1021,1022,1023] [f 3 2,a 3 (.load 1 F (s 8)),a 4 (.len F (s 3)),a 5 (.asg (n 0))]) af0) af6
abbrev aHd:ae:=q (r [1020] [a 2 (.box 72 4 (s 0))]) afZ
theorem avc:dA Go.Proofs.Tryz.prog Go.Proofs.Tryz.f320 aDA aHd aEJ 2=true:=by kernel_rfl
def aDz:List Nat:=[0,2]
def aEI:List di:=[.tmp 1]
abbrev afY:ae:=q (r [3,4,5,1009] [m 0,o (.conv .i32 (s 2)),o (.conv .i64 (s 3)),u 1 4]) .ret
abbrev aHc:ae:=q (r [1006] [a 1 (.asg (n 0))]) afY
theorem avb:dA Go.Proofs.Tryz.prog Go.Proofs.Tryz.f321 aDz aHc aEI 1=true:=by kernel_rfl
def aDy:List Nat:=[0,1,4]
def aEH:List di:=[.tmp 2]
abbrev afX:ae:=q (.dreg [5,6,7,8,9,10,11,12,13,14,15,16,1029] [m 0,o (.nck (s 3)),f 4 4,l 1 5,m 0,o (.nck (s 7)),f 2 8,l 1 9,o (.len F (s 10)),o (.bin .add (s 6) (s 11)),m 1,o (.bin .add (s 12) (s 13)),u 2 14] [[],[0],[0,1],[0,1,2],[],[4],[4,5],[4,5,6],[4,5,6,7],[0,1,2,3,4,5,6,7,8],[],[0,1,2,3,4,5,6,7,8,9,10],[0,1,2,3,4,5,6,7,8,9,10,11]] 12 [] [([],none),([T],none),([T,T],none),([T,T,T],none),([F,F,F,F],none),([F,F,F,F,T],none),([F,F,F,F,T,T],none),([F,F,F,F,T,T,T],none),([F,F,F,F,T,T,T,T],none),([T,T,T,T,T,T,T,T,T],none),([F,F,F,F,F,F,F,F,F,F],none),([T,T,T,T,T,T,T,T,T,T,T],none)] [T,T,T,T,T,T,T,T,T,T,T,T]) .ret
abbrev aHb:ae:=q (r [1017] [a 2 (.asg (n 0))]) afX
theorem ava:dA Go.Proofs.Tryz.prog Go.Proofs.Tryz.f322 aDy aHb aEH 2=true:=by kernel_rfl
def OE:List Nat:=[0,1,2,6,7,8,13,18,23]
def OT:List di:=[.tmp 3]
abbrev afW:ae:=q (r [28,29,30,1034] [m 1,m 2,o (.minmax T (s 9) (s 10)),u 3 11]) .ret
abbrev afV:ae:=q (r [10,11,12,1034] [m 1,m 2,c 268 [(s 9),(s 10)],u 3 11]) .ret
abbrev afU:ae:=q (r [15,16,17,1034] [m 1,m 2,c 352 [(s 9),(s 10)],u 3 11]) .ret
abbrev afT:ae:=q (r [20,21,22,1034] [m 1,m 2,c 353 [(s 9),(s 10)],u 3 11]) .ret
abbrev afS:ae:=q (r [25,26,27,1034] [m 1,m 2,o (.minmax F (s 9) (s 10)),u 3 11]) .ret
abbrev afR:ae:=.cond (s 8) afS .skip
abbrev afQ:ae:=q (r [24,1032] [o (.bin .eql (s 4) (n 7)),u 8 9]) afR
abbrev afP:ae:=.cond (s 7) afT afQ
abbrev afO:ae:=q (r [19,1032] [o (.bin .eql (s 4) (n 6)),u 7 9]) afP
abbrev afN:ae:=.cond (s 6) afU afO
abbrev UZ:ae:=q (r [14,1032] [o (.bin .eql (s 4) (n 5)),u 6 9]) afN
abbrev UY:ae:=.cond (s 5) afV UZ
abbrev UX:ae:=.block 0 (q (r [9,1032] [o (.bin .eql (s 4) (n 4)),u 5 9]) UY)
abbrev UW:ae:=q (q (r [1031] [u 4 0]) UX) afW
abbrev aHa:ae:=q (r [1031] [a 3 (.asg (n 0))]) UW
theorem au9:dA Go.Proofs.Tryz.prog Go.Proofs.Tryz.f323 OE aHa OT 3=true:=by kernel_rfl
def Fv:List Nat:=[0,1,2,19,21,22,32]
def FQ:List di:=[.tmp 2]
abbrev afM:ae:=q (r [38,39,40,1044] [f 2 1,l 1 7,o (.bin .eql (s 8) (.con (.str []))),u 2 9]) .ret
abbrev afL:ae:=q (r [24,25,26,27,28,29,30,31,1049] [f 1 1,l 1 7,c 49 [(s 8),(n 0),(n 999999)],m 9,g 10 T (.faddr 2 (s 1)),g 10 T (.load 1 F (s 11)),g 10 T (.bin .eql (s 12) (.con (.str []))),o (.pick (s 10) (s 13) (b F)),u 2 14]) .ret
abbrev afK:ae:=q (r [35,36,37,1044] [f 2 1,l 1 7,c 182 [(s 8)],u 2 9]) .ret
abbrev afJ:ae:=.cond (s 6) afK .skip
abbrev afI:ae:=r [34,1042] [o (.bin .eql (s 4) (n 3)),u 6 7]
abbrev afH:ae:=.condk (s 6) .skip afI
abbrev afG:ae:=q (q (r [33,1042] [o (.bin .eql (s 4) (n 2)),u 6 7]) afH) afJ
abbrev afF:ae:=.cond (s 5) afL afG
abbrev afE:ae:=.block 0 (q (r [23,1042] [o (.bin .eql (s 4) (n 1)),u 5 7]) afF)
abbrev afD:ae:=q (q (r [20,1042] [f 0 1,a 4 (.load 1 F (s 7))]) afE) afM
abbrev UV:ae:=q (r [1041] [a 2 (.asg (b F))]) .ret
abbrev UU:ae:=.cond (s 3) UV .skip
abbrev UT:ae:=q (q (.dreg [3,4,5,6,7,8,9,10,11,12,13,14,15,16,17,18,1057] [f 0 1,l 1 7,c 368 [(s 8)],f 3 1,l 1 10,o (.len F (s 11)),o (.bin .neq (s 9) (s 12)),m 13,g 14 F (.faddr 0 (s 1)),g 14 F (.load 1 F (s 15)),g 14 F (.bin .neq (s 16) (n 1)),g 14 F (.mv (s 17)),g 18 T (.faddr 1 (s 1)),g 18 T (.load 1 F (s 19)),g 18 T (.bin .neq (s 20) (n 0)),g 14 F (.pick (s 18) (s 21) (b F)),a 3 (.pick (s 14) (b T) (s 22))] [[],[0],[0,1],[],[3],[3,4],[0,1,2,3,4,5],[0,1,2,3,4,5,6],[0,1,2,3,4,5,6,7],[0,1,2,3,4,5,6,7,8],[0,1,2,3,4,5,6,7,8,9],[0,1,2,3,4,5,6,7,8,9,10],[0,1,2,3,4,5,6,7,8,9,10,11],[0,1,2,3,4,5,6,7,8,9,10,11,12],[0,1,2,3,4,5,6,7,8,9,10,11,12,13],[0,1,2,3,4,5,6,7,8,9,10,11,12,13,14],[0,1,2,3,4,5,6,7,8,9,10,11,12,13,14,15]] 16 [] [([],none),([T],none),([T,T],none),([F,F,F],none),([F,F,F,T],none),([F,F,F,T,T],none),([T,T,T,T,T,T],none),([T,T,T,T,T,T,T],none),([T,T,T,T,T,T,T,T],none),([T,T,T,T,T,T,T,T,T],none),([T,T,T,T,T,T,T,T,T,T],none),([T,T,T,T,T,T,T,T,T,T,T],none),([T,T,T,T,T,T,T,T,T,T,T,T],none),([T,T,T,T,T,T,T,T,T,T,T,T,T],none),([T,T,T,T,T,T,T,T,T,T,T,T,T,T],none),([T,T,T,T,T,T,T,T,T,T,T,T,T,T,T],none)] [T,T,T,T,T,T,T,T,T,T,T,T,T,T,T,T]) UU) afD
abbrev aG9:ae:=q (r [1041,1042] [a 1 (.box 72 4 (s 0)),a 2 (.asg (b F))]) UT
theorem au8:dA Go.Proofs.Tryz.prog Go.Proofs.Tryz.f333 Fv aG9 FQ 1=true:=by kernel_rfl
def aba:List Nat:=[0,1,2,4,15,5,17,18,19,20,7,8,28]
def abq:List di:=[.tmp 3]
abbrev afA:ae:=q (r [33,1035] [m 5,u 3 13]) .ret
abbrev afz:ae:=r [32,1035] [o (.bin .add (s 8) (n 1)),u 8 13]
abbrev afy:ae:=r [29,30,31,1037] [m 5,m 11,o (.bin .add (s 13) (s 14)),u 5 15]
abbrev afx:ae:=q (r [1034] [a 3 (.asg (n (-1)))]) .ret
abbrev afw:ae:=.cond (s 12) afx .skip
abbrev afv:ae:=q (q (r [27,1035] [m 11,a 12 (.bin .lss (s 13) (n 0))]) afw) afy
abbrev afu:ae:=q (r [23,24,25,26,1038] [L 4 10,m 1,o (.bin .add (s 14) (n 1)),c 340 [(s 13),(s 15)],u 11 16]) afv
abbrev aft:ae:=q (.block 1 (q (r [21,22,1036,1037] [o (.iaddr 4 (s 6) (s 8)),L 4 13,a 10 (.mk 72 [(i 0),(i 0),(.str []),(.osl 0 72 0 [])]),o (.store 4 .al (s 10) (s 14))]) afu)) afz
abbrev afs:ae:=q (.cond (s 9) .skip (.exit 0)) aft
abbrev Qj:ae:=q (r [1034] [a 9 (.bin .lss (s 8) (s 7))]) afs
def O1:ae:=.loop Qj
abbrev UR:ae:=.block 0 (O1)
abbrev UQ:ae:=q (q (r [16,1035,1036,1037] [f 3 2,a 6 (.load 1 F (s 13)),a 7 (.len F (s 6)),a 8 (.asg (n 0))]) UR) afA
abbrev UO:ae:=q (r [1034] [a 5 (.asg (n 1))]) UQ
abbrev UN:ae:=q (r [1034] [a 3 (.asg (n (-1)))]) .ret
abbrev UM:ae:=.cond (s 4) UN .skip
abbrev UL:ae:=q (q (r [9,10,11,12,13,14,1040] [m 1,o (.bin .gtr (s 13) (n 8)),m 14,g 15 F (.load 4 T (s 2)),⟨.call 372 [(s 16)] F,none,some (15,F)⟩,g 15 F (.not (s 17)),a 4 (.pick (s 15) (b T) (s 18))]) UM) UO
abbrev aG8:ae:=q (r [1034,1035] [a 2 (.box 72 4 (s 0)),a 3 (.asg (n 0))]) UL
theorem au7:dA Go.Proofs.Tryz.prog Go.Proofs.Tryz.f340 aba aG8 abq 2=true:=by kernel_rfl
def aDx:List Nat:=[0,1,4]
def aEG:List di:=[.tmp 2]
abbrev afr:ae:=q (r [5,6,7,8,9,10,1017] [m 0,c 321 [(s 3)],m 1,c 321 [(s 5)],o (.bin .sub (s 4) (s 6)),c 321 [(s 7)],u 2 8]) .ret
abbrev aG7:ae:=q (r [1011] [a 2 (.asg (n 0))]) afr
theorem au6:dA Go.Proofs.Tryz.prog Go.Proofs.Tryz.f352 aDx aG7 aEG 2=true:=by kernel_rfl
def aDw:List Nat:=[0,1,4]
def aEF:List di:=[.tmp 2]
abbrev afq:ae:=q (r [5,6,7,8,9,10,1017] [m 0,c 321 [(s 3)],m 1,c 321 [(s 5)],o (.bin .mul (s 4) (s 6)),c 321 [(s 7)],u 2 8]) .ret
abbrev aG6:ae:=q (r [1011] [a 2 (.asg (n 0))]) afq
theorem au5:dA Go.Proofs.Tryz.prog Go.Proofs.Tryz.f353 aDw aG6 aEF 2=true:=by kernel_rfl
def atg:List Nat:=[0,2,3,4,7,9]
def atB:List di:=[.tmp 1]
abbrev afa:ae:=q (r [1015] [a 1 (.asg (n (-1)))]) .ret
abbrev ae9:ae:=q (r [1015] [a 1 (.asg (n 0))]) .ret
abbrev ae8:ae:=q (r [1015] [a 1 (.asg (n 1))]) .ret
abbrev ae7:ae:=q (r [1015] [a 1 (.asg (n 2))]) .ret
abbrev ae6:ae:=.cond (s 5) ae7 .skip
abbrev ae5:ae:=r [14,1016] [o (.bin .eql (s 2) (n 8)),u 5 6]
abbrev ae4:ae:=.condk (s 5) .skip ae5
abbrev ae3:ae:=q (r [13,1016] [o (.bin .eql (s 2) (n 7)),u 5 6]) ae4
abbrev ae2:ae:=.condk (s 5) .skip ae3
abbrev ae1:ae:=q (r [12,1016] [o (.bin .eql (s 2) (n 6)),u 5 6]) ae2
abbrev UK:ae:=.condk (s 5) .skip ae1
abbrev UJ:ae:=q (r [11,1016] [o (.bin .eql (s 2) (n 5)),u 5 6]) UK
abbrev UI:ae:=.condk (s 5) .skip UJ
abbrev UH:ae:=q (q (r [10,1016] [o (.bin .eql (s 2) (n 4)),u 5 6]) UI) ae6
abbrev UG:ae:=.cond (s 4) ae8 UH
abbrev UF:ae:=q (r [8,1016] [o (.bin .eql (s 2) (n 3)),u 4 6]) UG
abbrev UE:ae:=.cond (s 3) ae9 UF
abbrev UD:ae:=r [6,1016] [o (.bin .eql (s 2) (n 2)),u 3 6]
abbrev UC:ae:=.condk (s 3) .skip UD
abbrev UB:ae:=.block 0 (q (q (r [5,1016] [o (.bin .eql (s 2) (n 1)),u 3 6]) UC) UE)
abbrev UA:ae:=q (q (r [1015] [u 2 0]) UB) afa
abbrev aG5:ae:=q (r [1015] [a 1 (.asg (n 0))]) UA
theorem au4:dA Go.Proofs.Tryz.prog Go.Proofs.Tryz.f368 atg aG5 atB 1=true:=by kernel_rfl
def aDv:List Nat:=[0,2]
def aEE:List di:=[.tmp 1]
abbrev ae0:ae:=q (r [3,4,1007] [m 0,c 54 [(s 2),(n 4),(n 8)],u 1 3]) .ret
abbrev aG4:ae:=q (r [1005] [a 1 (.asg (b F))]) ae0
theorem au3:dA Go.Proofs.Tryz.prog Go.Proofs.Tryz.f369 aDv aG4 aEE 1=true:=by kernel_rfl
def RZ:List Nat:=[0,1,2,4,5,21,37]
def Tu:List di:=[.tmp 2]
abbrev aeZ:ae:=q (r [53,54,55,56,57,58,59,60,61,62,63,64,65,66,67,68,69,70,71,1091] [f 0 1,l 1 7,c 369 [(s 8)],m 9,g 10 T (.faddr 1 (s 1)),g 10 T (.load 1 F (s 11)),g 10 T (.bin .eql (s 12) (n 0)),o (.pick (s 10) (s 13) (b F)),m 14,g 15 T (.faddr 2 (s 1)),g 15 T (.load 1 F (s 16)),g 15 T (.bin .eql (s 17) (.con (.str []))),o (.pick (s 15) (s 18) (b F)),m 19,g 20 T (.faddr 3 (s 1)),g 20 T (.load 1 F (s 21)),g 20 T (.len F (s 22)),g 20 T (.bin .eql (s 23) (n 2)),o (.pick (s 20) (s 24) (b F)),u 2 25]) .ret
abbrev aeY:ae:=q (r [7,8,9,10,11,12,13,14,15,16,17,18,19,20,1086] [f 1 1,l 1 7,c 54 [(s 8),(n 0),(n 999999)],m 9,g 10 T (.faddr 2 (s 1)),g 10 T (.load 1 F (s 11)),g 10 T (.bin .eql (s 12) (.con (.str []))),o (.pick (s 10) (s 13) (b F)),m 14,g 15 T (.faddr 3 (s 1)),g 15 T (.load 1 F (s 16)),g 15 T (.len F (s 17)),g 15 T (.bin .eql (s 18) (n 0)),o (.pick (s 15) (s 19) (b F)),u 2 20]) .ret
abbrev aeX:ae:=q (r [23,24,25,26,27,28,29,30,31,32,33,34,35,36,1086] [f 2 1,l 1 7,c 190 [(s 8)],m 9,g 10 T (.faddr 1 (s 1)),g 10 T (.load 1 F (s 11)),g 10 T (.bin .eql (s 12) (n 0)),o (.pick (s 10) (s 13) (b F)),m 14,g 15 T (.faddr 3 (s 1)),g 15 T (.load 1 F (s 16)),g 15 T (.len F (s 17)),g 15 T (.bin .eql (s 18) (n 0)),o (.pick (s 15) (s 19) (b F)),u 2 20]) .ret
abbrev aeW:ae:=q (r [39,40,41,42,43,44,45,46,47,48,49,50,51,52,1086] [f 2 1,l 1 7,c 190 [(s 8)],m 9,g 10 T (.faddr 1 (s 1)),g 10 T (.load 1 F (s 11)),g 10 T (.bin .eql (s 12) (n 0)),o (.pick (s 10) (s 13) (b F)),m 14,g 15 T (.faddr 3 (s 1)),g 15 T (.load 1 F (s 16)),g 15 T (.len F (s 17)),g 15 T (.bin .eql (s 18) (n 1)),o (.pick (s 15) (s 19) (b F)),u 2 20]) .ret
abbrev aeV:ae:=.cond (s 6) aeW .skip
abbrev aeU:ae:=q (r [38,1073] [o (.bin .eql (s 3) (n 3)),u 6 7]) aeV
abbrev aeT:ae:=.cond (s 5) aeX aeU
abbrev aeS:ae:=q (r [22,1073] [o (.bin .eql (s 3) (n 2)),u 5 7]) aeT
abbrev aeR:ae:=.cond (s 4) aeY aeS
abbrev aeQ:ae:=.block 0 (q (r [6,1073] [o (.bin .eql (s 3) (n 1)),u 4 7]) aeR)
abbrev Uz:ae:=q (q (r [3,1073] [f 0 1,a 3 (.load 1 F (s 7))]) aeQ) aeZ
abbrev aG3:ae:=q (r [1072,1073] [a 1 (.box 72 4 (s 0)),a 2 (.asg (b F))]) Uz
theorem au2:dA Go.Proofs.Tryz.prog Go.Proofs.Tryz.f372 RZ aG3 Tu 1=true:=by kernel_rfl
end Go.AmC
