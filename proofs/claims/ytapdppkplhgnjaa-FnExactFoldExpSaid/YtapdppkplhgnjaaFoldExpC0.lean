/- Part of a proof: see the last text of this folder. -/
import Derived.Test.YtapdppkplhgnjaaAmG
import Derived.KernelRfl
import Derived.Test.YtapdppkplhgnjaaProg
set_option maxRecDepth 100000
namespace Go.AmC
open Go Go.AM
def v6 : List Nat := [0, 1, 2, 3, 15, 4, 5, 6, 26, 31, 7, 42, 8, 9, 50, 53, 10, 60, 65, 68]
def r6 : List SRes := [.tmp 2]
abbrev c6_0 : SCode := .seq (.reg [1069] [
  ⟨.op (.asg (.con (.bool true))), some 2, none⟩]) (.ret)
abbrev c6_1 : SCode := .seq (.reg [1069] [
  ⟨.op (.asg (.con (.bool false))), some 2, none⟩]) (.ret)
abbrev c6_2 : SCode := .cond (.slot 19) c6_1 (.skip)
abbrev c6_3 : SCode := .seq (.seq (.reg [66, 67, 1071] [
  ⟨.op (.mv (.slot 13)), none, none⟩, 
  ⟨.op (.mv (.slot 12)), none, none⟩, 
  ⟨.op (.bin .neq (.slot 20) (.slot 21)), some 19, none⟩]) c6_2) c6_0
abbrev c6_4 : SCode := .seq (.reg [1069] [
  ⟨.op (.asg (.con (.bool false))), some 2, none⟩]) (.ret)
abbrev c6_5 : SCode := .cond (.slot 18) c6_4 (.skip)
abbrev c6_6 : SCode := .seq (.seq (.reg [64, 1070] [
  ⟨.op (.mv (.slot 13)), none, none⟩, 
  ⟨.op (.bin .lss (.slot 20) (.con (.int .i64 0))), some 18, none⟩]) c6_5) c6_3
abbrev c6_7 : SCode := .seq (.reg [61, 62, 63, 1072] [
  ⟨.op (.load 4 true (.slot 7)), none, none⟩, 
  ⟨.op (.mv (.slot 13)), none, none⟩, 
  ⟨.call 26 [(.slot 20), (.slot 21)] false, none, none⟩, 
  ⟨.op (.asg (.slot 22)), some 13, none⟩]) c6_6
abbrev c6_8 : SCode := .seq (.reg [1069] [
  ⟨.op (.asg (.con (.int .i64 1))), some 13, none⟩]) c6_7
abbrev c6_9 : SCode := .seq (.reg [1069] [
  ⟨.op (.asg (.con (.bool false))), some 2, none⟩]) (.ret)
abbrev c6_10 : SCode := .cond (.slot 17) c6_9 (.skip)
abbrev c6_11 : SCode := .seq (.seq (.reg [57, 58, 59, 1072] [
  ⟨.op (.load 4 true (.slot 16)), none, none⟩, 
  ⟨.op (.load 4 true (.slot 5)), none, none⟩, 
  ⟨.call 24 [(.slot 20), (.slot 21)] false, none, none⟩, 
  ⟨.op (.not (.slot 22)), some 17, none⟩]) c6_10) c6_8
abbrev c6_12 : SCode := .seq (.reg [54, 55, 56, 1072, 1073] [
  ⟨.op (.load 4 true (.slot 1)), none, none⟩, 
  ⟨.call 22 [(.slot 20)] false, none, none⟩, 
  ⟨.call 23 [(.slot 21)] false, none, none⟩, 
  ⟨.op (.mk 34 [(.int .i64 0), (.int .i64 0), (.str []), (.osl 0 34 0 [])]), some 16, none⟩, 
  ⟨.op (.store 4 true (.slot 16) (.slot 22)), none, none⟩]) c6_11
abbrev c6_13 : SCode := .seq (.reg [1069] [
  ⟨.op (.asg (.con (.bool false))), some 2, none⟩]) (.ret)
abbrev c6_14 : SCode := .cond (.slot 15) c6_13 (.skip)
abbrev c6_15 : SCode := .seq (.seq (.reg [51, 52, 1071] [
  ⟨.op (.mv (.slot 13)), none, none⟩, 
  ⟨.op (.mv (.slot 12)), none, none⟩, 
  ⟨.op (.bin .neq (.slot 20) (.slot 21)), some 15, none⟩]) c6_14) c6_12
abbrev c6_16 : SCode := .seq (.reg [1069] [
  ⟨.op (.asg (.con (.bool false))), some 2, none⟩]) (.ret)
abbrev c6_17 : SCode := .cond (.slot 14) c6_16 (.skip)
abbrev c6_18 : SCode := .seq (.seq (.reg [49, 1070] [
  ⟨.op (.mv (.slot 13)), none, none⟩, 
  ⟨.op (.bin .lss (.slot 20) (.con (.int .i64 0))), some 14, none⟩]) c6_17) c6_15
abbrev c6_19 : SCode := .seq (.reg [46, 47, 48, 1072] [
  ⟨.op (.load 4 true (.slot 7)), none, none⟩, 
  ⟨.op (.mv (.slot 13)), none, none⟩, 
  ⟨.call 26 [(.slot 20), (.slot 21)] false, none, none⟩, 
  ⟨.op (.asg (.slot 22)), some 13, none⟩]) c6_18
abbrev c6_20 : SCode := .seq (.reg [1069] [
  ⟨.op (.asg (.con (.int .i64 1))), some 13, none⟩]) c6_19
abbrev c6_21 : SCode := .seq (.reg [43, 44, 45, 1072] [
  ⟨.op (.load 4 true (.slot 7)), none, none⟩, 
  ⟨.op (.mv (.slot 12)), none, none⟩, 
  ⟨.callm (.con (.fn 25 [])) [((.slot 20), true), ((.slot 21), false)], none, none⟩, 
  ⟨.op (.asg (.slot 22)), some 12, none⟩]) c6_20
abbrev c6_22 : SCode := .seq (.reg [1069] [
  ⟨.op (.asg (.con (.int .i64 1))), some 12, none⟩]) c6_21
abbrev c6_23 : SCode := .seq (.reg [1069] [
  ⟨.op (.asg (.con (.bool false))), some 2, none⟩]) (.ret)
abbrev c6_24 : SCode := .cond (.slot 11) c6_23 (.skip)
abbrev c6_25 : SCode := .seq (.seq (.reg [35, 36, 37, 38, 39, 40, 41, 1076] [
  ⟨.op (.mv (.slot 10)), none, none⟩, 
  ⟨.op (.bin .lss (.slot 20) (.con (.int .i64 0))), none, none⟩, 
  ⟨.op (.mv (.slot 21)), none, none⟩, 
  ⟨.op (.load 4 true (.slot 7)), none, some (22, false)⟩, 
  ⟨.op (.load 4 true (.slot 5)), none, some (22, false)⟩, 
  ⟨.call 24 [(.slot 23), (.slot 24)] false, none, some (22, false)⟩, 
  ⟨.op (.not (.slot 25)), none, some (22, false)⟩, 
  ⟨.op (.pick (.slot 22) (.con (.bool true)) (.slot 26)), some 11, none⟩]) c6_24) c6_22
abbrev c6_26 : SCode := .seq (.reg [32, 33, 34, 1072] [
  ⟨.op (.load 4 true (.slot 6)), none, none⟩, 
  ⟨.op (.mv (.slot 10)), none, none⟩, 
  ⟨.callm (.con (.fn 25 [])) [((.slot 20), true), ((.slot 21), false)], none, none⟩, 
  ⟨.op (.asg (.slot 22)), some 10, none⟩]) c6_25
abbrev c6_27 : SCode := .seq (.reg [1069] [
  ⟨.op (.asg (.con (.int .i64 1))), some 10, none⟩]) c6_26
abbrev c6_28 : SCode := .seq (.reg [1069] [
  ⟨.op (.asg (.con (.bool false))), some 2, none⟩]) (.ret)
abbrev c6_29 : SCode := .cond (.slot 9) c6_28 (.skip)
abbrev c6_30 : SCode := .seq (.seq (.dreg [27, 28, 29, 30, 1073] [
  ⟨.op (.load 4 true (.slot 6)), none, none⟩, 
  ⟨.op (.load 4 true (.slot 1)), none, none⟩, 
  ⟨.call 22 [(.slot 21)] false, none, none⟩, 
  ⟨.call 24 [(.slot 20), (.slot 22)] false, none, none⟩, 
  ⟨.op (.not (.slot 23)), some 9, none⟩]
  [[], [], [1], [0, 1, 2], [0, 1, 2, 3]] 4 [] [([], none), ([false], none), ([false, true], none), ([true, true, true], none)] [true, true, true, true]) c6_29) c6_27
abbrev c6_31 : SCode := .seq (.reg [1069] [
  ⟨.op (.asg (.con (.bool false))), some 2, none⟩]) (.ret)
abbrev c6_32 : SCode := .cond (.slot 8) c6_31 (.skip)
abbrev c6_33 : SCode := .seq (.seq (.reg [23, 24, 25, 1072] [
  ⟨.op (.load 4 true (.slot 7)), none, none⟩, 
  ⟨.op (.load 4 true (.slot 5)), none, none⟩, 
  ⟨.call 24 [(.slot 20), (.slot 21)] false, none, none⟩, 
  ⟨.op (.not (.slot 22)), some 8, none⟩]) c6_32) c6_30
abbrev c6_34 : SCode := .seq (.reg [21, 22, 1071, 1072] [
  ⟨.op (.load 4 true (.slot 6)), none, none⟩, 
  ⟨.call 23 [(.slot 20)] false, none, none⟩, 
  ⟨.op (.mk 34 [(.int .i64 0), (.int .i64 0), (.str []), (.osl 0 34 0 [])]), some 7, none⟩, 
  ⟨.op (.store 4 true (.slot 7) (.slot 21)), none, none⟩]) c6_33
abbrev c6_35 : SCode := .seq (.reg [19, 20, 1071, 1072] [
  ⟨.op (.load 4 true (.slot 1)), none, none⟩, 
  ⟨.call 22 [(.slot 20)] false, none, none⟩, 
  ⟨.op (.mk 34 [(.int .i64 0), (.int .i64 0), (.str []), (.osl 0 34 0 [])]), some 6, none⟩, 
  ⟨.op (.store 4 true (.slot 6) (.slot 21)), none, none⟩]) c6_34
abbrev c6_36 : SCode := .seq (.reg [16, 17, 18, 1072, 1073] [
  ⟨.op (.load 4 true (.slot 1)), none, none⟩, 
  ⟨.call 22 [(.slot 20)] false, none, none⟩, 
  ⟨.call 21 [(.slot 21)] false, none, none⟩, 
  ⟨.op (.mk 34 [(.int .i64 0), (.int .i64 0), (.str []), (.osl 0 34 0 [])]), some 5, none⟩, 
  ⟨.op (.store 4 true (.slot 5) (.slot 22)), none, none⟩]) c6_35
abbrev c6_37 : SCode := .seq (.reg [1069] [
  ⟨.op (.asg (.con (.bool true))), some 2, none⟩]) (.ret)
abbrev c6_38 : SCode := .cond (.slot 4) c6_37 (.skip)
abbrev c6_39 : SCode := .seq (.seq (.reg [14, 1070] [
  ⟨.op (.mv (.slot 3)), none, none⟩, 
  ⟨.op (.bin .lss (.slot 20) (.con (.int .i64 0))), some 4, none⟩]) c6_38) c6_36
abbrev c6_40 : SCode := .seq (.reg [11, 12, 13, 1072] [
  ⟨.op (.load 4 true (.slot 1)), none, none⟩, 
  ⟨.op (.mv (.slot 3)), none, none⟩, 
  ⟨.call 20 [(.slot 20), (.slot 21)] false, none, none⟩, 
  ⟨.op (.asg (.slot 22)), some 3, none⟩]) c6_39
abbrev c6_41 : SCode := .seq (.reg [1069] [
  ⟨.op (.asg (.con (.int .i64 1048576))), some 3, none⟩]) c6_40
abbrev s6 : SCode := .seq (.reg [1069, 1070] [
  ⟨.op (.box 26 4 (.slot 0)), some 1, none⟩, 
  ⟨.op (.asg (.con (.bool false))), some 2, none⟩]) c6_41
theorem ok6 : okFn Go.Proofs.Try.prog Go.Proofs.Try.f6 v6 s6 r6 1 = true := by kernel_rfl

def v20 : List Nat := [0, 1, 2, 4, 11, 17]
def r20 : List SRes := [.tmp 3]
abbrev c20_0 : SCode := .seq (.reg [18, 1020] [
  ⟨.op (.mv (.slot 1)), none, none⟩, 
  ⟨.op (.asg (.slot 6)), some 3, none⟩]) (.ret)
abbrev c20_1 : SCode := .seq (.reg [1019] [
  ⟨.op (.asg (.con (.int .i64 (-1)))), some 3, none⟩]) (.ret)
abbrev c20_2 : SCode := .cond (.slot 5) c20_1 (.skip)
abbrev c20_3 : SCode := .seq (.seq (.reg [16, 1020] [
  ⟨.op (.mv (.slot 1)), none, none⟩, 
  ⟨.op (.bin .lss (.slot 6) (.con (.int .i64 0))), some 5, none⟩]) c20_2) c20_0
abbrev c20_4 : SCode := .seq (.reg [12, 13, 14, 15, 1023] [
  ⟨.op (.faddr 3 (.slot 2)), none, none⟩, 
  ⟨.op (.load 1 false (.slot 6)), none, none⟩, 
  ⟨.op (.mv (.slot 1)), none, none⟩, 
  ⟨.call 46 [(.slot 7), (.slot 8)] false, none, none⟩, 
  ⟨.op (.asg (.slot 9)), some 1, none⟩]) c20_3
abbrev c20_5 : SCode := .seq (.reg [1019] [
  ⟨.op (.asg (.con (.int .i64 (-1)))), some 3, none⟩]) (.ret)
abbrev c20_6 : SCode := .cond (.slot 4) c20_5 (.skip)
abbrev c20_7 : SCode := .seq (.seq (.reg [10, 1020] [
  ⟨.op (.mv (.slot 1)), none, none⟩, 
  ⟨.op (.bin .lss (.slot 6) (.con (.int .i64 0))), some 4, none⟩]) c20_6) c20_4
abbrev c20_8 : SCode := .seq (.reg [5, 6, 7, 8, 9, 1024] [
  ⟨.op (.mv (.slot 1)), none, none⟩, 
  ⟨.op (.faddr 2 (.slot 2)), none, none⟩, 
  ⟨.op (.load 1 false (.slot 7)), none, none⟩, 
  ⟨.op (.len true (.slot 8)), none, none⟩, 
  ⟨.op (.bin .sub (.slot 6) (.slot 9)), none, none⟩, 
  ⟨.op (.asg (.slot 10)), some 1, none⟩]) c20_7
abbrev s20 : SCode := .seq (.reg [1019, 1020] [
  ⟨.op (.box 26 4 (.slot 0)), some 2, none⟩, 
  ⟨.op (.asg (.con (.int .i64 0))), some 3, none⟩]) c20_8
theorem ok20 : okFn Go.Proofs.Try.prog Go.Proofs.Try.f20 v20 s20 r20 2 = true := by kernel_rfl

def v21 : List Nat := [0, 1, 2, 3, 4, 18, 5, 57, 6, 72]
def r21 : List SRes := [.cell 2 4 true]
abbrev c21_0 : SCode := .seq (.reg [75, 1077] [
  ⟨.op (.load 4 true (.slot 3)), none, none⟩, 
  ⟨.op (.store 4 true (.slot 2) (.slot 10)), none, none⟩]) (.ret)
abbrev c21_1 : SCode := .seq (.reg [73, 74, 1078] [
  ⟨.op (.mv (.slot 8)), none, none⟩, 
  ⟨.call 48 [(.slot 10)] false, none, none⟩, 
  ⟨.op (.store 4 true (.slot 2) (.slot 11)), none, none⟩]) (.ret)
abbrev c21_2 : SCode := .cond (.slot 9) c21_1 (.skip)
abbrev c21_3 : SCode := .seq (.reg [71, 1077] [
  ⟨.op (.mv (.slot 8)), none, none⟩, 
  ⟨.call 35 [(.slot 10), (.con (.int .i64 0)), (.con (.int .i64 999999))] false, some 9, none⟩]) c21_2
abbrev c21_4 : SCode := .seq (.dreg [58, 59, 60, 61, 62, 63, 64, 65, 66, 67, 68, 69, 70, 1089] [
  ⟨.op (.faddr 0 (.slot 1)), none, none⟩, 
  ⟨.op (.load 1 false (.slot 10)), none, none⟩, 
  ⟨.op (.faddr 3 (.slot 3)), none, none⟩, 
  ⟨.op (.load 1 false (.slot 12)), none, none⟩, 
  ⟨.op (.iaddr 4 (.slot 13) (.con (.int .i64 0))), none, none⟩, 
  ⟨.op (.faddr 1 (.slot 14)), none, none⟩, 
  ⟨.op (.load 1 false (.slot 15)), none, none⟩, 
  ⟨.op (.faddr 3 (.slot 3)), none, none⟩, 
  ⟨.op (.load 1 false (.slot 17)), none, none⟩, 
  ⟨.op (.iaddr 4 (.slot 18) (.con (.int .i64 1))), none, none⟩, 
  ⟨.op (.faddr 1 (.slot 19)), none, none⟩, 
  ⟨.op (.load 1 false (.slot 20)), none, none⟩, 
  ⟨.call 47 [(.slot 11), (.slot 16), (.slot 21)] false, none, none⟩, 
  ⟨.op (.asg (.slot 22)), some 8, none⟩]
  [[], [0], [], [2], [2, 3], [2, 3, 4], [2, 3, 4, 5], [], [7], [7, 8], [7, 8, 9], [7, 8, 9, 10], [0, 1, 2, 3, 4, 5, 6, 7, 8, 9, 10, 11], [0, 1, 2, 3, 4, 5, 6, 7, 8, 9, 10, 11, 12]] 13 [] [([], none), ([true], none), ([false, false], none), ([false, false, true], none), ([false, false, true, true], none), ([false, false, true, true, true], none), ([false, false, true, true, true, true], none), ([false, false, false, false, false, false, false], none), ([false, false, false, false, false, false, false, true], none), ([false, false, false, false, false, false, false, true, true], none), ([false, false, false, false, false, false, false, true, true, true], none), ([false, false, false, false, false, false, false, true, true, true, true], none), ([true, true, true, true, true, true, true, true, true, true, true, true], none)] [true, true, true, true, true, true, true, true, true, true, true, true, true]) c21_3
abbrev c21_5 : SCode := .cond (.slot 7) c21_4 (.skip)
abbrev c21_6 : SCode := .seq (.seq (.reg [33, 34, 35, 36, 37, 38, 39, 40, 41, 42, 43, 44, 45, 46, 47, 48, 49, 50, 51, 52, 53, 54, 55, 56, 1100] [
  ⟨.op (.faddr 3 (.slot 3)), none, none⟩, 
  ⟨.op (.load 1 false (.slot 10)), none, none⟩, 
  ⟨.op (.len false (.slot 11)), none, none⟩, 
  ⟨.op (.bin .eql (.slot 12) (.con (.int .i64 2))), none, none⟩, 
  ⟨.op (.mv (.slot 13)), none, none⟩, 
  ⟨.op (.faddr 0 (.slot 1)), none, some (14, true)⟩, 
  ⟨.op (.load 1 false (.slot 15)), none, some (14, true)⟩, 
  ⟨.call 35 [(.slot 16), (.con (.int .i64 4)), (.con (.int .i64 8))] false, none, some (14, true)⟩, 
  ⟨.op (.pick (.slot 14) (.slot 17) (.con (.bool false))), none, none⟩, 
  ⟨.op (.mv (.slot 18)), none, none⟩, 
  ⟨.op (.faddr 3 (.slot 3)), none, some (19, true)⟩, 
  ⟨.op (.load 1 false (.slot 20)), none, some (19, true)⟩, 
  ⟨.op (.iaddr 4 (.slot 21) (.con (.int .i64 0))), none, some (19, true)⟩, 
  ⟨.op (.faddr 0 (.slot 22)), none, some (19, true)⟩, 
  ⟨.op (.load 1 false (.slot 23)), none, some (19, true)⟩, 
  ⟨.op (.bin .eql (.slot 24) (.con (.int .i64 1))), none, some (19, true)⟩, 
  ⟨.op (.pick (.slot 19) (.slot 25) (.con (.bool false))), none, none⟩, 
  ⟨.op (.mv (.slot 26)), none, none⟩, 
  ⟨.op (.faddr 3 (.slot 3)), none, some (27, true)⟩, 
  ⟨.op (.load 1 false (.slot 28)), none, some (27, true)⟩, 
  ⟨.op (.iaddr 4 (.slot 29) (.con (.int .i64 1))), none, some (27, true)⟩, 
  ⟨.op (.faddr 0 (.slot 30)), none, some (27, true)⟩, 
  ⟨.op (.load 1 false (.slot 31)), none, some (27, true)⟩, 
  ⟨.op (.bin .eql (.slot 32) (.con (.int .i64 1))), none, some (27, true)⟩, 
  ⟨.op (.pick (.slot 27) (.slot 33) (.con (.bool false))), some 7, none⟩]) c21_5) c21_0
abbrev c21_7 : SCode := .reg [19, 20, 1078] [
  ⟨.op (.mv (.slot 4)), none, none⟩, 
  ⟨.op (.bin .add (.slot 10) (.con (.int .i64 1))), none, none⟩, 
  ⟨.op (.asg (.slot 11)), some 4, none⟩]
abbrev c21_8 : SCode := .reg [27, 28, 29, 30, 31, 32, 1082] [
  ⟨.op (.faddr 3 (.slot 3)), none, none⟩, 
  ⟨.op (.load 1 false (.slot 10)), none, none⟩, 
  ⟨.op (.load 4 true (.slot 6)), none, none⟩, 
  ⟨.op (.bsl 34 1 [(.int .i64 0), (.int .i64 0), (.str []), (.osl 0 34 0 [])] [(0, 4, (.slot 12))]), none, none⟩, 
  ⟨.op (.append 34 4 (.slot 11) (.slot 13)), none, none⟩, 
  ⟨.op (.faddr 3 (.slot 3)), none, none⟩, 
  ⟨.op (.store 1 true (.slot 15) (.slot 14)), none, none⟩]
abbrev c21_9 : SCode := .seq (.block 1 (.seq (.reg [21, 22, 23, 24, 25, 26, 1082, 1083] [
  ⟨.op (.faddr 3 (.slot 1)), none, none⟩, 
  ⟨.op (.load 1 false (.slot 10)), none, none⟩, 
  ⟨.op (.mv (.slot 4)), none, none⟩, 
  ⟨.op (.iaddr 4 (.slot 11) (.slot 12)), none, none⟩, 
  ⟨.op (.load 4 true (.slot 13)), none, none⟩, 
  ⟨.call 21 [(.slot 14)] false, none, none⟩, 
  ⟨.op (.mk 34 [(.int .i64 0), (.int .i64 0), (.str []), (.osl 0 34 0 [])]), some 6, none⟩, 
  ⟨.op (.store 4 true (.slot 6) (.slot 15)), none, none⟩]) c21_8)) c21_7
abbrev c21_10 : SCode := .cond (.slot 5) (.skip) (.exit 0)
abbrev b21_0 : SCode := .seq (.seq (.reg [14, 15, 16, 17, 1080] [
  ⟨.op (.mv (.slot 4)), none, none⟩, 
  ⟨.op (.faddr 3 (.slot 1)), none, none⟩, 
  ⟨.op (.load 1 false (.slot 11)), none, none⟩, 
  ⟨.op (.len false (.slot 12)), none, none⟩, 
  ⟨.op (.bin .lss (.slot 10) (.slot 13)), some 5, none⟩]) c21_10) c21_9
def l21_0 : SCode := .loop b21_0
abbrev c21_12 : SCode := .block 0 (l21_0)
abbrev c21_13 : SCode := .seq (.seq (.reg [1076] [
  ⟨.op (.asg (.con (.int .i64 0))), some 4, none⟩]) c21_12) c21_6
abbrev c21_14 : SCode := .seq (.reg [7, 8, 9, 10, 11, 12, 13, 1083, 1084] [
  ⟨.op (.faddr 0 (.slot 1)), none, none⟩, 
  ⟨.op (.load 1 false (.slot 10)), none, none⟩, 
  ⟨.op (.faddr 1 (.slot 1)), none, none⟩, 
  ⟨.op (.load 1 false (.slot 12)), none, none⟩, 
  ⟨.op (.faddr 2 (.slot 1)), none, none⟩, 
  ⟨.op (.load 1 false (.slot 14)), none, none⟩, 
  ⟨.op (.build [(.int .i64 0), (.int .i64 0), (.str []), (.osl 0 34 0 [])] [(0, 1, (.slot 11)), (1, 1, (.slot 13)), (2, 1, (.slot 15))]), none, none⟩, 
  ⟨.op (.mk 34 [(.int .i64 0), (.int .i64 0), (.str []), (.osl 0 34 0 [])]), some 3, none⟩, 
  ⟨.op (.store 4 true (.slot 3) (.slot 16)), none, none⟩]) c21_13
abbrev s21 : SCode := .seq (.reg [1076, 1077] [
  ⟨.op (.box 34 4 (.slot 0)), some 1, none⟩, 
  ⟨.op (.mk 34 [(.int .i64 0), (.int .i64 0), (.str []), (.osl 0 34 0 [])]), some 2, none⟩]) c21_14
theorem ok21 : okFn Go.Proofs.Try.prog Go.Proofs.Try.f21 v21 s21 r21 1 = true := by kernel_rfl

def v22 : List Nat := [0, 1, 2, 3]
def r22 : List SRes := [.cell 2 4 true]
abbrev c22_0 : SCode := .seq (.reg [17, 1019] [
  ⟨.op (.load 4 true (.slot 3)), none, none⟩, 
  ⟨.op (.store 4 true (.slot 2) (.slot 4)), none, none⟩]) (.ret)
abbrev c22_1 : SCode := .seq (.reg [13, 14, 15, 16, 1022] [
  ⟨.op (.faddr 3 (.slot 1)), none, none⟩, 
  ⟨.op (.load 1 false (.slot 4)), none, none⟩, 
  ⟨.call 49 [(.slot 5)] false, none, none⟩, 
  ⟨.op (.faddr 3 (.slot 3)), none, none⟩, 
  ⟨.op (.store 1 true (.slot 7) (.slot 6)), none, none⟩]) c22_0
abbrev c22_2 : SCode := .seq (.reg [10, 11, 12, 1021] [
  ⟨.op (.faddr 2 (.slot 1)), none, none⟩, 
  ⟨.op (.load 1 false (.slot 4)), none, none⟩, 
  ⟨.op (.faddr 2 (.slot 3)), none, none⟩, 
  ⟨.op (.store 1 false (.slot 6) (.slot 5)), none, none⟩]) c22_1
abbrev c22_3 : SCode := .seq (.reg [7, 8, 9, 1021] [
  ⟨.op (.faddr 1 (.slot 1)), none, none⟩, 
  ⟨.op (.load 1 false (.slot 4)), none, none⟩, 
  ⟨.op (.faddr 1 (.slot 3)), none, none⟩, 
  ⟨.op (.store 1 false (.slot 6) (.slot 5)), none, none⟩]) c22_2
abbrev c22_4 : SCode := .seq (.reg [4, 5, 6, 1021] [
  ⟨.op (.faddr 0 (.slot 1)), none, none⟩, 
  ⟨.op (.load 1 false (.slot 4)), none, none⟩, 
  ⟨.op (.faddr 0 (.slot 3)), none, none⟩, 
  ⟨.op (.store 1 false (.slot 6) (.slot 5)), none, none⟩]) c22_3
abbrev c22_5 : SCode := .seq (.reg [1018] [
  ⟨.op (.mk 34 [(.int .i64 0), (.int .i64 0), (.str []), (.osl 0 34 0 [])]), some 3, none⟩]) c22_4
abbrev s22 : SCode := .seq (.reg [1018, 1019] [
  ⟨.op (.box 26 4 (.slot 0)), some 1, none⟩, 
  ⟨.op (.mk 34 [(.int .i64 0), (.int .i64 0), (.str []), (.osl 0 34 0 [])]), some 2, none⟩]) c22_5
theorem ok22 : okFn Go.Proofs.Try.prog Go.Proofs.Try.f22 v22 s22 r22 1 = true := by kernel_rfl

def v23 : List Nat := [0, 1, 2, 3, 15, 16, 17, 18, 5, 54, 6, 71]
def r23 : List SRes := [.cell 2 4 true]
abbrev c23_0 : SCode := .seq (.reg [73, 74, 1077] [
  ⟨.op (.mv (.slot 10)), none, none⟩, 
  ⟨.op (.build [(.int .i64 0), (.int .i64 0), (.str []), (.osl 0 34 0 [])] [(0, 1, (.con (.int .i64 1))), (1, 1, (.slot 12))]), none, none⟩, 
  ⟨.op (.store 4 true (.slot 2) (.slot 13)), none, none⟩]) (.ret)
abbrev c23_1 : SCode := .seq (.reg [72, 1076] [
  ⟨.op (.load 4 true (.slot 3)), none, none⟩, 
  ⟨.op (.store 4 true (.slot 2) (.slot 12)), none, none⟩]) (.ret)
abbrev c23_2 : SCode := .cond (.slot 11) c23_1 (.skip)
abbrev c23_3 : SCode := .seq (.seq (.reg [69, 70, 1077] [
  ⟨.op (.mv (.slot 10)), none, none⟩, 
  ⟨.call 36 [(.slot 12), (.con (.int .i64 0)), (.con (.int .i64 999999))] false, none, none⟩, 
  ⟨.op (.not (.slot 13)), some 11, none⟩]) c23_2) c23_0
abbrev c23_4 : SCode := .seq (.dreg [56, 57, 58, 59, 60, 61, 62, 63, 64, 65, 66, 67, 68, 1088] [
  ⟨.op (.faddr 0 (.slot 1)), none, none⟩, 
  ⟨.op (.load 1 false (.slot 12)), none, none⟩, 
  ⟨.op (.faddr 3 (.slot 3)), none, none⟩, 
  ⟨.op (.load 1 false (.slot 14)), none, none⟩, 
  ⟨.op (.iaddr 4 (.slot 15) (.con (.int .i64 0))), none, none⟩, 
  ⟨.op (.faddr 1 (.slot 16)), none, none⟩, 
  ⟨.op (.load 1 false (.slot 17)), none, none⟩, 
  ⟨.op (.faddr 3 (.slot 3)), none, none⟩, 
  ⟨.op (.load 1 false (.slot 19)), none, none⟩, 
  ⟨.op (.iaddr 4 (.slot 20) (.con (.int .i64 1))), none, none⟩, 
  ⟨.op (.faddr 1 (.slot 21)), none, none⟩, 
  ⟨.op (.load 1 false (.slot 22)), none, none⟩, 
  ⟨.call 51 [(.slot 13), (.slot 18), (.slot 23)] false, none, none⟩, 
  ⟨.op (.asg (.slot 24)), some 10, none⟩]
  [[], [0], [], [2], [2, 3], [2, 3, 4], [2, 3, 4, 5], [], [7], [7, 8], [7, 8, 9], [7, 8, 9, 10], [0, 1, 2, 3, 4, 5, 6, 7, 8, 9, 10, 11], [0, 1, 2, 3, 4, 5, 6, 7, 8, 9, 10, 11, 12]] 13 [] [([], none), ([true], none), ([false, false], none), ([false, false, true], none), ([false, false, true, true], none), ([false, false, true, true, true], none), ([false, false, true, true, true, true], none), ([false, false, false, false, false, false, false], none), ([false, false, false, false, false, false, false, true], none), ([false, false, false, false, false, false, false, true, true], none), ([false, false, false, false, false, false, false, true, true, true], none), ([false, false, false, false, false, false, false, true, true, true, true], none), ([true, true, true, true, true, true, true, true, true, true, true, true], none)] [true, true, true, true, true, true, true, true, true, true, true, true, true]) c23_3
abbrev c23_5 : SCode := .seq (.reg [55, 1076] [
  ⟨.op (.load 4 true (.slot 3)), none, none⟩, 
  ⟨.op (.store 4 true (.slot 2) (.slot 12)), none, none⟩]) (.ret)
abbrev c23_6 : SCode := .cond (.slot 9) c23_5 (.skip)
abbrev c23_7 : SCode := .seq (.seq (.reg [29, 30, 31, 32, 33, 34, 35, 36, 37, 38, 39, 40, 41, 42, 43, 44, 45, 46, 47, 48, 49, 50, 51, 52, 53, 1100] [
  ⟨.op (.faddr 0 (.slot 1)), none, none⟩, 
  ⟨.op (.load 1 false (.slot 12)), none, none⟩, 
  ⟨.call 50 [(.slot 13)] false, none, none⟩, 
  ⟨.op (.not (.slot 14)), none, none⟩, 
  ⟨.op (.mv (.slot 15)), none, none⟩, 
  ⟨.op (.faddr 3 (.slot 3)), none, some (16, false)⟩, 
  ⟨.op (.load 1 false (.slot 17)), none, some (16, false)⟩, 
  ⟨.op (.len false (.slot 18)), none, some (16, false)⟩, 
  ⟨.op (.bin .neq (.slot 19) (.con (.int .i64 2))), none, some (16, false)⟩, 
  ⟨.op (.pick (.slot 16) (.con (.bool true)) (.slot 20)), none, none⟩, 
  ⟨.op (.mv (.slot 21)), none, none⟩, 
  ⟨.op (.faddr 3 (.slot 3)), none, some (22, false)⟩, 
  ⟨.op (.load 1 false (.slot 23)), none, some (22, false)⟩, 
  ⟨.op (.iaddr 4 (.slot 24) (.con (.int .i64 0))), none, some (22, false)⟩, 
  ⟨.op (.faddr 0 (.slot 25)), none, some (22, false)⟩, 
  ⟨.op (.load 1 false (.slot 26)), none, some (22, false)⟩, 
  ⟨.op (.bin .neq (.slot 27) (.con (.int .i64 1))), none, some (22, false)⟩, 
  ⟨.op (.pick (.slot 22) (.con (.bool true)) (.slot 28)), none, none⟩, 
  ⟨.op (.mv (.slot 29)), none, none⟩, 
  ⟨.op (.faddr 3 (.slot 3)), none, some (30, false)⟩, 
  ⟨.op (.load 1 false (.slot 31)), none, some (30, false)⟩, 
  ⟨.op (.iaddr 4 (.slot 32) (.con (.int .i64 1))), none, some (30, false)⟩, 
  ⟨.op (.faddr 0 (.slot 33)), none, some (30, false)⟩, 
  ⟨.op (.load 1 false (.slot 34)), none, some (30, false)⟩, 
  ⟨.op (.bin .neq (.slot 35) (.con (.int .i64 1))), none, some (30, false)⟩, 
  ⟨.op (.pick (.slot 30) (.con (.bool true)) (.slot 36)), some 9, none⟩]) c23_6) c23_4
abbrev c23_8 : SCode := .reg [28, 1076] [
  ⟨.op (.bin .add (.slot 6) (.con (.int .i64 1))), none, none⟩, 
  ⟨.op (.asg (.slot 12)), some 6, none⟩]
abbrev c23_9 : SCode := .dreg [21, 22, 23, 24, 25, 26, 27, 1082] [
  ⟨.op (.faddr 3 (.slot 3)), none, none⟩, 
  ⟨.op (.load 1 false (.slot 12)), none, none⟩, 
  ⟨.op (.load 4 true (.slot 8)), none, none⟩, 
  ⟨.call 23 [(.slot 14)] false, none, none⟩, 
  ⟨.op (.bsl 34 1 [(.int .i64 0), (.int .i64 0), (.str []), (.osl 0 34 0 [])] [(0, 4, (.slot 15))]), none, none⟩, 
  ⟨.op (.append 34 4 (.slot 13) (.slot 16)), none, none⟩, 
  ⟨.op (.faddr 3 (.slot 3)), none, none⟩, 
  ⟨.op (.store 1 true (.slot 18) (.slot 17)), none, none⟩]
  [[], [0], [], [2], [2, 3], [0, 1, 2, 3, 4], [0, 1, 2, 3, 4, 5], [0, 1, 2, 3, 4, 5, 6]] 5 [(4, 3)] [([], none), ([true], none), ([false, false], none), ([false, false, true], none), ([false, false, true, true], (some 3))] [true, true, true, false, true]
abbrev c23_10 : SCode := .seq (.block 1 (.seq (.reg [19, 20, 1077, 1078] [
  ⟨.op (.iaddr 4 (.slot 4) (.slot 6)), none, none⟩, 
  ⟨.op (.load 4 true (.slot 12)), none, none⟩, 
  ⟨.op (.mk 34 [(.int .i64 0), (.int .i64 0), (.str []), (.osl 0 34 0 [])]), some 8, none⟩, 
  ⟨.op (.store 4 true (.slot 8) (.slot 13)), none, none⟩]) c23_9)) c23_8
abbrev c23_11 : SCode := .seq (.cond (.slot 7) (.skip) (.exit 0)) c23_10
abbrev b23_0 : SCode := .seq (.reg [1075] [
  ⟨.op (.bin .lss (.slot 6) (.slot 5)), some 7, none⟩]) c23_11
def l23_0 : SCode := .loop b23_0
abbrev c23_13 : SCode := .block 0 (l23_0)
abbrev c23_14 : SCode := .seq (.seq (.reg [14, 1076, 1077, 1078] [
  ⟨.op (.faddr 3 (.slot 1)), none, none⟩, 
  ⟨.op (.load 1 false (.slot 12)), some 4, none⟩, 
  ⟨.op (.len false (.slot 4)), some 5, none⟩, 
  ⟨.op (.asg (.con (.int .i64 0))), some 6, none⟩]) c23_13) c23_7
abbrev c23_15 : SCode := .seq (.reg [7, 8, 9, 10, 11, 12, 13, 1082, 1083] [
  ⟨.op (.faddr 0 (.slot 1)), none, none⟩, 
  ⟨.op (.load 1 false (.slot 12)), none, none⟩, 
  ⟨.op (.faddr 1 (.slot 1)), none, none⟩, 
  ⟨.op (.load 1 false (.slot 14)), none, none⟩, 
  ⟨.op (.faddr 2 (.slot 1)), none, none⟩, 
  ⟨.op (.load 1 false (.slot 16)), none, none⟩, 
  ⟨.op (.build [(.int .i64 0), (.int .i64 0), (.str []), (.osl 0 34 0 [])] [(0, 1, (.slot 13)), (1, 1, (.slot 15)), (2, 1, (.slot 17))]), none, none⟩, 
  ⟨.op (.mk 34 [(.int .i64 0), (.int .i64 0), (.str []), (.osl 0 34 0 [])]), some 3, none⟩, 
  ⟨.op (.store 4 true (.slot 3) (.slot 18)), none, none⟩]) c23_14
abbrev s23 : SCode := .seq (.reg [1075, 1076] [
  ⟨.op (.box 34 4 (.slot 0)), some 1, none⟩, 
  ⟨.op (.mk 34 [(.int .i64 0), (.int .i64 0), (.str []), (.osl 0 34 0 [])]), some 2, none⟩]) c23_15
theorem ok23 : okFn Go.Proofs.Try.prog Go.Proofs.Try.f23 v23 s23 r23 1 = true := by kernel_rfl

def v24 : List Nat := [0, 1, 2, 3, 4, 9, 14, 19, 25]
def r24 : List SRes := [.tmp 4]
abbrev c24_0 : SCode := .seq (.reg [1026] [
  ⟨.op (.asg (.con (.bool true))), some 4, none⟩]) (.ret)
abbrev c24_1 : SCode := .seq (.reg [1026] [
  ⟨.op (.asg (.con (.bool false))), some 4, none⟩]) (.ret)
abbrev c24_2 : SCode := .cond (.slot 8) c24_1 (.skip)
abbrev c24_3 : SCode := .seq (.seq (.reg [20, 21, 22, 23, 24, 1031] [
  ⟨.op (.faddr 3 (.slot 2)), none, none⟩, 
  ⟨.op (.load 1 false (.slot 9)), none, none⟩, 
  ⟨.op (.faddr 3 (.slot 3)), none, none⟩, 
  ⟨.op (.load 1 false (.slot 11)), none, none⟩, 
  ⟨.call 52 [(.slot 10), (.slot 12)] false, none, none⟩, 
  ⟨.op (.not (.slot 13)), some 8, none⟩]) c24_2) c24_0
abbrev c24_4 : SCode := .seq (.reg [1026] [
  ⟨.op (.asg (.con (.bool false))), some 4, none⟩]) (.ret)
abbrev c24_5 : SCode := .cond (.slot 7) c24_4 (.skip)
abbrev c24_6 : SCode := .seq (.seq (.reg [15, 16, 17, 18, 1030] [
  ⟨.op (.faddr 2 (.slot 2)), none, none⟩, 
  ⟨.op (.load 1 false (.slot 9)), none, none⟩, 
  ⟨.op (.faddr 2 (.slot 3)), none, none⟩, 
  ⟨.op (.load 1 false (.slot 11)), none, none⟩, 
  ⟨.op (.bin .neq (.slot 10) (.slot 12)), some 7, none⟩]) c24_5) c24_3
abbrev c24_7 : SCode := .seq (.reg [1026] [
  ⟨.op (.asg (.con (.bool false))), some 4, none⟩]) (.ret)
abbrev c24_8 : SCode := .cond (.slot 6) c24_7 (.skip)
abbrev c24_9 : SCode := .seq (.seq (.reg [10, 11, 12, 13, 1030] [
  ⟨.op (.faddr 1 (.slot 2)), none, none⟩, 
  ⟨.op (.load 1 false (.slot 9)), none, none⟩, 
  ⟨.op (.faddr 1 (.slot 3)), none, none⟩, 
  ⟨.op (.load 1 false (.slot 11)), none, none⟩, 
  ⟨.op (.bin .neq (.slot 10) (.slot 12)), some 6, none⟩]) c24_8) c24_6
abbrev c24_10 : SCode := .seq (.reg [1026] [
  ⟨.op (.asg (.con (.bool false))), some 4, none⟩]) (.ret)
abbrev c24_11 : SCode := .cond (.slot 5) c24_10 (.skip)
abbrev c24_12 : SCode := .seq (.seq (.reg [5, 6, 7, 8, 1030] [
  ⟨.op (.faddr 0 (.slot 2)), none, none⟩, 
  ⟨.op (.load 1 false (.slot 9)), none, none⟩, 
  ⟨.op (.faddr 0 (.slot 3)), none, none⟩, 
  ⟨.op (.load 1 false (.slot 11)), none, none⟩, 
  ⟨.op (.bin .neq (.slot 10) (.slot 12)), some 5, none⟩]) c24_11) c24_9
abbrev s24 : SCode := .seq (.reg [1026, 1027, 1028] [
  ⟨.op (.box 34 4 (.slot 0)), some 2, none⟩, 
  ⟨.op (.box 34 4 (.slot 1)), some 3, none⟩, 
  ⟨.op (.asg (.con (.bool false))), some 4, none⟩]) c24_12
theorem ok24 : okFn Go.Proofs.Try.prog Go.Proofs.Try.f24 v24 s24 r24 2 = true := by kernel_rfl

def v25 : List Nat := [0, 1, 2, 4]
def r25 : List SRes := [.tmp 3]
abbrev c25_0 : SCode := .seq (.reg [9, 1011] [
  ⟨.op (.mv (.slot 1)), none, none⟩, 
  ⟨.op (.asg (.slot 4)), some 3, none⟩]) (.ret)
abbrev c25_1 : SCode := .seq (.reg [5, 6, 7, 8, 1014] [
  ⟨.op (.faddr 3 (.slot 2)), none, none⟩, 
  ⟨.op (.load 1 false (.slot 4)), none, none⟩, 
  ⟨.op (.mv (.slot 1)), none, none⟩, 
  ⟨.callm (.con (.fn 53 [])) [((.slot 5), true), ((.slot 6), false)], none, none⟩, 
  ⟨.op (.asg (.slot 7)), some 1, none⟩]) c25_0
abbrev s25 : SCode := .seq (.reg [1010, 1011] [
  ⟨.op (.box 34 4 (.slot 0)), some 2, none⟩, 
  ⟨.op (.asg (.con (.int .i64 0))), some 3, none⟩]) c25_1
theorem ok25 : okFn Go.Proofs.Try.prog Go.Proofs.Try.f25 v25 s25 r25 2 = true := by kernel_rfl

def v26 : List Nat := [0, 1, 2, 4, 10]
def r26 : List SRes := [.tmp 3]
abbrev c26_0 : SCode := .seq (.reg [11, 1013] [
  ⟨.op (.mv (.slot 1)), none, none⟩, 
  ⟨.op (.asg (.slot 5)), some 3, none⟩]) (.ret)
abbrev c26_1 : SCode := .seq (.reg [1012] [
  ⟨.op (.asg (.con (.int .i64 (-1)))), some 3, none⟩]) (.ret)
abbrev c26_2 : SCode := .cond (.slot 4) c26_1 (.skip)
abbrev c26_3 : SCode := .seq (.seq (.reg [9, 1013] [
  ⟨.op (.mv (.slot 1)), none, none⟩, 
  ⟨.op (.bin .lss (.slot 5) (.con (.int .i64 0))), some 4, none⟩]) c26_2) c26_0
abbrev c26_4 : SCode := .seq (.reg [5, 6, 7, 8, 1016] [
  ⟨.op (.faddr 3 (.slot 2)), none, none⟩, 
  ⟨.op (.load 1 false (.slot 5)), none, none⟩, 
  ⟨.op (.mv (.slot 1)), none, none⟩, 
  ⟨.call 54 [(.slot 6), (.slot 7)] false, none, none⟩, 
  ⟨.op (.asg (.slot 8)), some 1, none⟩]) c26_3
abbrev s26 : SCode := .seq (.reg [1012, 1013] [
  ⟨.op (.box 34 4 (.slot 0)), some 2, none⟩, 
  ⟨.op (.asg (.con (.int .i64 0))), some 3, none⟩]) c26_4
theorem ok26 : okFn Go.Proofs.Try.prog Go.Proofs.Try.f26 v26 s26 r26 2 = true := by kernel_rfl

def v35 : List Nat := [0, 1, 2, 6]
def r35 : List SRes := [.tmp 3]
abbrev c35_0 : SCode := .seq (.reg [7, 8, 9, 10, 11, 12, 13, 14, 1023] [
  ⟨.op (.mv (.slot 0)), none, none⟩, 
  ⟨.op (.mv (.slot 1)), none, none⟩, 
  ⟨.op (.bin .geq (.slot 4) (.slot 5)), none, none⟩, 
  ⟨.op (.mv (.slot 6)), none, none⟩, 
  ⟨.op (.mv (.slot 0)), none, some (7, true)⟩, 
  ⟨.op (.mv (.slot 2)), none, some (7, true)⟩, 
  ⟨.op (.bin .leq (.slot 8) (.slot 9)), none, some (7, true)⟩, 
  ⟨.op (.pick (.slot 7) (.slot 10) (.con (.bool false))), none, none⟩, 
  ⟨.op (.asg (.slot 11)), some 3, none⟩]) (.ret)
abbrev s35 : SCode := .seq (.reg [1015] [
  ⟨.op (.asg (.con (.bool false))), some 3, none⟩]) c35_0
theorem ok35 : okFn Go.Proofs.Try.prog Go.Proofs.Try.f35 v35 s35 r35 3 = true := by kernel_rfl

def v36 : List Nat := [0, 1, 2, 6]
def r36 : List SRes := [.tmp 3]
abbrev c36_0 : SCode := .seq (.reg [7, 8, 9, 10, 11, 12, 13, 14, 1023] [
  ⟨.op (.mv (.slot 0)), none, none⟩, 
  ⟨.op (.mv (.slot 1)), none, none⟩, 
  ⟨.op (.bin .geq (.slot 4) (.slot 5)), none, none⟩, 
  ⟨.op (.mv (.slot 6)), none, none⟩, 
  ⟨.op (.mv (.slot 0)), none, some (7, true)⟩, 
  ⟨.op (.mv (.slot 2)), none, some (7, true)⟩, 
  ⟨.op (.bin .leq (.slot 8) (.slot 9)), none, some (7, true)⟩, 
  ⟨.op (.pick (.slot 7) (.slot 10) (.con (.bool false))), none, none⟩, 
  ⟨.op (.asg (.slot 11)), some 3, none⟩]) (.ret)
abbrev s36 : SCode := .seq (.reg [1015] [
  ⟨.op (.asg (.con (.bool false))), some 3, none⟩]) c36_0
theorem ok36 : okFn Go.Proofs.Try.prog Go.Proofs.Try.f36 v36 s36 r36 3 = true := by kernel_rfl

def v46 : List Nat := [0, 1, 4, 11, 5, 15, 25]
def r46 : List SRes := [.tmp 2]
abbrev c46_0 : SCode := .seq (.reg [26, 1028] [
  ⟨.op (.mv (.slot 1)), none, none⟩, 
  ⟨.op (.asg (.slot 7)), some 2, none⟩]) (.ret)
abbrev c46_1 : SCode := .reg [16, 17, 1029] [
  ⟨.op (.mv (.slot 4)), none, none⟩, 
  ⟨.op (.bin .add (.slot 7) (.con (.int .i64 1))), none, none⟩, 
  ⟨.op (.asg (.slot 8)), some 4, none⟩]
abbrev c46_2 : SCode := .seq (.reg [1027] [
  ⟨.op (.asg (.con (.int .i64 (-1)))), some 2, none⟩]) (.ret)
abbrev c46_3 : SCode := .cond (.slot 6) c46_2 (.skip)
abbrev c46_4 : SCode := .seq (.reg [24, 1028] [
  ⟨.op (.mv (.slot 1)), none, none⟩, 
  ⟨.op (.bin .lss (.slot 7) (.con (.int .i64 0))), some 6, none⟩]) c46_3
abbrev c46_5 : SCode := .seq (.block 1 (.seq (.reg [18, 19, 20, 21, 22, 23, 1033] [
  ⟨.op (.mv (.slot 0)), none, none⟩, 
  ⟨.op (.mv (.slot 4)), none, none⟩, 
  ⟨.op (.iaddr 4 (.slot 7) (.slot 8)), none, none⟩, 
  ⟨.op (.load 4 true (.slot 9)), none, none⟩, 
  ⟨.op (.mv (.slot 1)), none, none⟩, 
  ⟨.call 20 [(.slot 10), (.slot 11)] false, none, none⟩, 
  ⟨.op (.asg (.slot 12)), some 1, none⟩]) c46_4)) c46_1
abbrev c46_6 : SCode := .cond (.slot 5) (.skip) (.exit 0)
abbrev b46_0 : SCode := .seq (.seq (.reg [12, 13, 14, 1030] [
  ⟨.op (.mv (.slot 4)), none, none⟩, 
  ⟨.op (.mv (.slot 0)), none, none⟩, 
  ⟨.op (.len false (.slot 8)), none, none⟩, 
  ⟨.op (.bin .lss (.slot 7) (.slot 9)), some 5, none⟩]) c46_6) c46_5
def l46_0 : SCode := .loop b46_0
abbrev c46_8 : SCode := .block 0 (l46_0)
abbrev c46_9 : SCode := .seq (.seq (.reg [1027] [
  ⟨.op (.asg (.con (.int .i64 0))), some 4, none⟩]) c46_8) c46_0
abbrev c46_10 : SCode := .seq (.reg [1027] [
  ⟨.op (.asg (.con (.int .i64 (-1)))), some 2, none⟩]) (.ret)
abbrev c46_11 : SCode := .cond (.slot 3) c46_10 (.skip)
abbrev c46_12 : SCode := .seq (.seq (.reg [10, 1028] [
  ⟨.op (.mv (.slot 1)), none, none⟩, 
  ⟨.op (.bin .lss (.slot 7) (.con (.int .i64 0))), some 3, none⟩]) c46_11) c46_9
abbrev c46_13 : SCode := .seq (.reg [6, 7, 8, 9, 1031] [
  ⟨.op (.mv (.slot 1)), none, none⟩, 
  ⟨.op (.mv (.slot 0)), none, none⟩, 
  ⟨.op (.len false (.slot 8)), none, none⟩, 
  ⟨.op (.bin .sub (.slot 7) (.slot 9)), none, none⟩, 
  ⟨.op (.asg (.slot 10)), some 1, none⟩]) c46_12
abbrev s46 : SCode := .seq (.reg [1027] [
  ⟨.op (.asg (.con (.int .i64 0))), some 2, none⟩]) c46_13
theorem ok46 : okFn Go.Proofs.Try.prog Go.Proofs.Try.f46 v46 s46 r46 2 = true := by kernel_rfl

def v47 : List Nat := [0, 1, 2, 6, 7, 8, 13, 18, 23, 27, 32]
def r47 : List SRes := [.tmp 3]
abbrev c47_0 : SCode := .seq (.reg [34, 1036] [
  ⟨.op (.mv (.slot 2)), none, none⟩, 
  ⟨.op (.asg (.slot 11)), some 3, none⟩]) (.ret)
abbrev c47_1 : SCode := .seq (.reg [33, 1036] [
  ⟨.op (.mv (.slot 1)), none, none⟩, 
  ⟨.op (.asg (.slot 11)), some 3, none⟩]) (.ret)
abbrev c47_2 : SCode := .cond (.slot 10) c47_1 (.skip)
abbrev c47_3 : SCode := .seq (.seq (.reg [30, 31, 1037] [
  ⟨.op (.mv (.slot 1)), none, none⟩, 
  ⟨.op (.mv (.slot 2)), none, none⟩, 
  ⟨.op (.bin .gtr (.slot 11) (.slot 12)), some 10, none⟩]) c47_2) c47_0
abbrev c47_4 : SCode := .seq (.reg [10, 11, 12, 1038] [
  ⟨.op (.mv (.slot 1)), none, none⟩, 
  ⟨.op (.mv (.slot 2)), none, none⟩, 
  ⟨.call 68 [(.slot 11), (.slot 12)] false, none, none⟩, 
  ⟨.op (.asg (.slot 13)), some 3, none⟩]) (.ret)
abbrev c47_5 : SCode := .seq (.reg [15, 16, 17, 1038] [
  ⟨.op (.mv (.slot 1)), none, none⟩, 
  ⟨.op (.mv (.slot 2)), none, none⟩, 
  ⟨.call 69 [(.slot 11), (.slot 12)] false, none, none⟩, 
  ⟨.op (.asg (.slot 13)), some 3, none⟩]) (.ret)
abbrev c47_6 : SCode := .seq (.reg [20, 21, 22, 1038] [
  ⟨.op (.mv (.slot 1)), none, none⟩, 
  ⟨.op (.mv (.slot 2)), none, none⟩, 
  ⟨.call 70 [(.slot 11), (.slot 12)] false, none, none⟩, 
  ⟨.op (.asg (.slot 13)), some 3, none⟩]) (.ret)
abbrev c47_7 : SCode := .seq (.reg [29, 1036] [
  ⟨.op (.mv (.slot 2)), none, none⟩, 
  ⟨.op (.asg (.slot 11)), some 3, none⟩]) (.ret)
abbrev c47_8 : SCode := .seq (.reg [28, 1036] [
  ⟨.op (.mv (.slot 1)), none, none⟩, 
  ⟨.op (.asg (.slot 11)), some 3, none⟩]) (.ret)
abbrev c47_9 : SCode := .cond (.slot 9) c47_8 (.skip)
abbrev c47_10 : SCode := .seq (.seq (.reg [25, 26, 1037] [
  ⟨.op (.mv (.slot 1)), none, none⟩, 
  ⟨.op (.mv (.slot 2)), none, none⟩, 
  ⟨.op (.bin .lss (.slot 11) (.slot 12)), some 9, none⟩]) c47_9) c47_7
abbrev c47_11 : SCode := .cond (.slot 8) c47_10 (.skip)
abbrev c47_12 : SCode := .seq (.reg [24, 1036] [
  ⟨.op (.bin .eql (.slot 4) (.con (.int .i64 7))), none, none⟩, 
  ⟨.op (.asg (.slot 11)), some 8, none⟩]) c47_11
abbrev c47_13 : SCode := .cond (.slot 7) c47_6 c47_12
abbrev c47_14 : SCode := .seq (.reg [19, 1036] [
  ⟨.op (.bin .eql (.slot 4) (.con (.int .i64 6))), none, none⟩, 
  ⟨.op (.asg (.slot 11)), some 7, none⟩]) c47_13
abbrev c47_15 : SCode := .cond (.slot 6) c47_5 c47_14
abbrev c47_16 : SCode := .seq (.reg [14, 1036] [
  ⟨.op (.bin .eql (.slot 4) (.con (.int .i64 5))), none, none⟩, 
  ⟨.op (.asg (.slot 11)), some 6, none⟩]) c47_15
abbrev c47_17 : SCode := .cond (.slot 5) c47_4 c47_16
abbrev c47_18 : SCode := .block 0 (.seq (.reg [9, 1036] [
  ⟨.op (.bin .eql (.slot 4) (.con (.int .i64 4))), none, none⟩, 
  ⟨.op (.asg (.slot 11)), some 5, none⟩]) c47_17)
abbrev c47_19 : SCode := .seq (.seq (.reg [1035] [
  ⟨.op (.asg (.slot 0)), some 4, none⟩]) c47_18) c47_3
abbrev s47 : SCode := .seq (.reg [1035] [
  ⟨.op (.asg (.con (.int .i64 0))), some 3, none⟩]) c47_19
theorem ok47 : okFn Go.Proofs.Try.prog Go.Proofs.Try.f47 v47 s47 r47 3 = true := by kernel_rfl

def v48 : List Nat := [0, 2]
def r48 : List SRes := [.cell 1 4 true]
abbrev c48_0 : SCode := .seq (.reg [3, 4, 1007] [
  ⟨.op (.mv (.slot 0)), none, none⟩, 
  ⟨.op (.build [(.int .i64 0), (.int .i64 0), (.str []), (.osl 0 34 0 [])] [(0, 1, (.con (.int .i64 1))), (1, 1, (.slot 2))]), none, none⟩, 
  ⟨.op (.store 4 true (.slot 1) (.slot 3)), none, none⟩]) (.ret)
abbrev s48 : SCode := .seq (.reg [1005] [
  ⟨.op (.mk 34 [(.int .i64 0), (.int .i64 0), (.str []), (.osl 0 34 0 [])]), some 1, none⟩]) c48_0
theorem ok48 : okFn Go.Proofs.Try.prog Go.Proofs.Try.f48 v48 s48 r48 1 = true := by kernel_rfl

def v49 : List Nat := [0, 2, 3, 4, 11]
def r49 : List SRes := [.tmp 1]
abbrev c49_0 : SCode := .seq (.reg [22, 1024] [
  ⟨.op (.mv (.slot 2)), none, none⟩, 
  ⟨.op (.asg (.slot 5)), some 1, none⟩]) (.ret)
abbrev c49_1 : SCode := .reg [12, 13, 1025] [
  ⟨.op (.mv (.slot 3)), none, none⟩, 
  ⟨.op (.bin .add (.slot 5) (.con (.int .i64 1))), none, none⟩, 
  ⟨.op (.asg (.slot 6)), some 3, none⟩]
abbrev c49_2 : SCode := .seq (.block 1 (.reg [14, 15, 16, 17, 18, 19, 20, 21, 1031] [
  ⟨.op (.mv (.slot 2)), none, none⟩, 
  ⟨.op (.mv (.slot 3)), none, none⟩, 
  ⟨.op (.mv (.slot 0)), none, none⟩, 
  ⟨.op (.mv (.slot 3)), none, none⟩, 
  ⟨.op (.iaddr 4 (.slot 7) (.slot 8)), none, none⟩, 
  ⟨.op (.load 4 true (.slot 9)), none, none⟩, 
  ⟨.call 22 [(.slot 10)] false, none, none⟩, 
  ⟨.op (.iaddr 4 (.slot 5) (.slot 6)), none, none⟩, 
  ⟨.op (.store 4 true (.slot 12) (.slot 11)), none, none⟩])) c49_1
abbrev c49_3 : SCode := .cond (.slot 4) (.skip) (.exit 0)
abbrev b49_0 : SCode := .seq (.seq (.reg [8, 9, 10, 1026] [
  ⟨.op (.mv (.slot 3)), none, none⟩, 
  ⟨.op (.mv (.slot 0)), none, none⟩, 
  ⟨.op (.len false (.slot 6)), none, none⟩, 
  ⟨.op (.bin .lss (.slot 5) (.slot 7)), some 4, none⟩]) c49_3) c49_2
def l49_0 : SCode := .loop b49_0
abbrev c49_5 : SCode := .block 0 (l49_0)
abbrev c49_6 : SCode := .seq (.seq (.reg [1023] [
  ⟨.op (.asg (.con (.int .i64 0))), some 3, none⟩]) c49_5) c49_0
abbrev c49_7 : SCode := .seq (.reg [5, 6, 7, 1026] [
  ⟨.op (.mv (.slot 0)), none, none⟩, 
  ⟨.op (.len false (.slot 5)), none, none⟩, 
  ⟨.op (.mksl 34 [(.int .i64 0), (.int .i64 0), (.str []), (.osl 0 34 0 [])] (.slot 6) (.slot 6)), none, none⟩, 
  ⟨.op (.asg (.slot 7)), some 2, none⟩]) c49_6
abbrev s49 : SCode := .seq (.reg [1023] [
  ⟨.op (.asg (.con (.osl 0 34 0 []))), some 1, none⟩]) c49_7
theorem ok49 : okFn Go.Proofs.Try.prog Go.Proofs.Try.f49 v49 s49 r49 1 = true := by kernel_rfl

def v50 : List Nat := [0, 2]
def r50 : List SRes := [.tmp 1]
abbrev c50_0 : SCode := .seq (.reg [3, 4, 1007] [
  ⟨.op (.mv (.slot 0)), none, none⟩, 
  ⟨.call 36 [(.slot 2), (.con (.int .i64 4)), (.con (.int .i64 8))] false, none, none⟩, 
  ⟨.op (.asg (.slot 3)), some 1, none⟩]) (.ret)
abbrev s50 : SCode := .seq (.reg [1005] [
  ⟨.op (.asg (.con (.bool false))), some 1, none⟩]) c50_0
theorem ok50 : okFn Go.Proofs.Try.prog Go.Proofs.Try.f50 v50 s50 r50 1 = true := by kernel_rfl

def v51 : List Nat := [0, 1, 2, 6, 7, 8, 13, 18, 23]
def r51 : List SRes := [.tmp 3]
abbrev c51_0 : SCode := .seq (.reg [28, 29, 30, 1034] [
  ⟨.op (.mv (.slot 1)), none, none⟩, 
  ⟨.op (.mv (.slot 2)), none, none⟩, 
  ⟨.op (.minmax true (.slot 9) (.slot 10)), none, none⟩, 
  ⟨.op (.asg (.slot 11)), some 3, none⟩]) (.ret)
abbrev c51_1 : SCode := .seq (.reg [10, 11, 12, 1034] [
  ⟨.op (.mv (.slot 1)), none, none⟩, 
  ⟨.op (.mv (.slot 2)), none, none⟩, 
  ⟨.call 71 [(.slot 9), (.slot 10)] false, none, none⟩, 
  ⟨.op (.asg (.slot 11)), some 3, none⟩]) (.ret)
abbrev c51_2 : SCode := .seq (.reg [15, 16, 17, 1034] [
  ⟨.op (.mv (.slot 1)), none, none⟩, 
  ⟨.op (.mv (.slot 2)), none, none⟩, 
  ⟨.call 72 [(.slot 9), (.slot 10)] false, none, none⟩, 
  ⟨.op (.asg (.slot 11)), some 3, none⟩]) (.ret)
abbrev c51_3 : SCode := .seq (.reg [20, 21, 22, 1034] [
  ⟨.op (.mv (.slot 1)), none, none⟩, 
  ⟨.op (.mv (.slot 2)), none, none⟩, 
  ⟨.call 73 [(.slot 9), (.slot 10)] false, none, none⟩, 
  ⟨.op (.asg (.slot 11)), some 3, none⟩]) (.ret)
abbrev c51_4 : SCode := .seq (.reg [25, 26, 27, 1034] [
  ⟨.op (.mv (.slot 1)), none, none⟩, 
  ⟨.op (.mv (.slot 2)), none, none⟩, 
  ⟨.op (.minmax false (.slot 9) (.slot 10)), none, none⟩, 
  ⟨.op (.asg (.slot 11)), some 3, none⟩]) (.ret)
abbrev c51_5 : SCode := .cond (.slot 8) c51_4 (.skip)
abbrev c51_6 : SCode := .seq (.reg [24, 1032] [
  ⟨.op (.bin .eql (.slot 4) (.con (.int .i64 7))), none, none⟩, 
  ⟨.op (.asg (.slot 9)), some 8, none⟩]) c51_5
abbrev c51_7 : SCode := .cond (.slot 7) c51_3 c51_6
abbrev c51_8 : SCode := .seq (.reg [19, 1032] [
  ⟨.op (.bin .eql (.slot 4) (.con (.int .i64 6))), none, none⟩, 
  ⟨.op (.asg (.slot 9)), some 7, none⟩]) c51_7
abbrev c51_9 : SCode := .cond (.slot 6) c51_2 c51_8
abbrev c51_10 : SCode := .seq (.reg [14, 1032] [
  ⟨.op (.bin .eql (.slot 4) (.con (.int .i64 5))), none, none⟩, 
  ⟨.op (.asg (.slot 9)), some 6, none⟩]) c51_9
abbrev c51_11 : SCode := .cond (.slot 5) c51_1 c51_10
abbrev c51_12 : SCode := .block 0 (.seq (.reg [9, 1032] [
  ⟨.op (.bin .eql (.slot 4) (.con (.int .i64 4))), none, none⟩, 
  ⟨.op (.asg (.slot 9)), some 5, none⟩]) c51_11)
abbrev c51_13 : SCode := .seq (.seq (.reg [1031] [
  ⟨.op (.asg (.slot 0)), some 4, none⟩]) c51_12) c51_0
abbrev s51 : SCode := .seq (.reg [1031] [
  ⟨.op (.asg (.con (.int .i64 0))), some 3, none⟩]) c51_13
theorem ok51 : okFn Go.Proofs.Try.prog Go.Proofs.Try.f51 v51 s51 r51 3 = true := by kernel_rfl

def v52 : List Nat := [0, 1, 4, 10, 5, 14, 26]
def r52 : List SRes := [.tmp 2]
abbrev c52_0 : SCode := .seq (.reg [1027] [
  ⟨.op (.asg (.con (.bool true))), some 2, none⟩]) (.ret)
abbrev c52_1 : SCode := .reg [15, 16, 1029] [
  ⟨.op (.mv (.slot 4)), none, none⟩, 
  ⟨.op (.bin .add (.slot 7) (.con (.int .i64 1))), none, none⟩, 
  ⟨.op (.asg (.slot 8)), some 4, none⟩]
abbrev c52_2 : SCode := .seq (.reg [1027] [
  ⟨.op (.asg (.con (.bool false))), some 2, none⟩]) (.ret)
abbrev c52_3 : SCode := .cond (.slot 6) c52_2 (.skip)
abbrev c52_4 : SCode := .seq (.block 1 (.seq (.dreg [17, 18, 19, 20, 21, 22, 23, 24, 25, 1036] [
  ⟨.op (.mv (.slot 0)), none, none⟩, 
  ⟨.op (.mv (.slot 4)), none, none⟩, 
  ⟨.op (.iaddr 4 (.slot 7) (.slot 8)), none, none⟩, 
  ⟨.op (.load 4 true (.slot 9)), none, none⟩, 
  ⟨.op (.mv (.slot 1)), none, none⟩, 
  ⟨.op (.mv (.slot 4)), none, none⟩, 
  ⟨.op (.iaddr 4 (.slot 11) (.slot 12)), none, none⟩, 
  ⟨.op (.load 4 true (.slot 13)), none, none⟩, 
  ⟨.call 24 [(.slot 10), (.slot 14)] false, none, none⟩, 
  ⟨.op (.not (.slot 15)), some 6, none⟩]
  [[], [], [0, 1], [0, 1, 2], [], [], [4, 5], [4, 5, 6], [0, 1, 2, 3, 4, 5, 6, 7], [0, 1, 2, 3, 4, 5, 6, 7, 8]] 9 [] [([], none), ([false], none), ([true, true], none), ([true, true, true], none), ([false, false, false, false], none), ([false, false, false, false, false], none), ([false, false, false, false, true, true], none), ([false, false, false, false, true, true, true], none), ([true, true, true, true, true, true, true, true], none)] [true, true, true, true, true, true, true, true, true]) c52_3)) c52_1
abbrev c52_5 : SCode := .cond (.slot 5) (.skip) (.exit 0)
abbrev b52_0 : SCode := .seq (.seq (.reg [11, 12, 13, 1030] [
  ⟨.op (.mv (.slot 4)), none, none⟩, 
  ⟨.op (.mv (.slot 0)), none, none⟩, 
  ⟨.op (.len false (.slot 8)), none, none⟩, 
  ⟨.op (.bin .lss (.slot 7) (.slot 9)), some 5, none⟩]) c52_5) c52_4
def l52_0 : SCode := .loop b52_0
abbrev c52_7 : SCode := .block 0 (l52_0)
abbrev c52_8 : SCode := .seq (.seq (.reg [1027] [
  ⟨.op (.asg (.con (.int .i64 0))), some 4, none⟩]) c52_7) c52_0
abbrev c52_9 : SCode := .seq (.reg [1027] [
  ⟨.op (.asg (.con (.bool false))), some 2, none⟩]) (.ret)
abbrev c52_10 : SCode := .cond (.slot 3) c52_9 (.skip)
abbrev c52_11 : SCode := .seq (.seq (.reg [6, 7, 8, 9, 1031] [
  ⟨.op (.mv (.slot 0)), none, none⟩, 
  ⟨.op (.len false (.slot 7)), none, none⟩, 
  ⟨.op (.mv (.slot 1)), none, none⟩, 
  ⟨.op (.len false (.slot 9)), none, none⟩, 
  ⟨.op (.bin .neq (.slot 8) (.slot 10)), some 3, none⟩]) c52_10) c52_8
abbrev s52 : SCode := .seq (.reg [1027] [
  ⟨.op (.asg (.con (.bool false))), some 2, none⟩]) c52_11
theorem ok52 : okFn Go.Proofs.Try.prog Go.Proofs.Try.f52 v52 s52 r52 2 = true := by kernel_rfl

def v53 : List Nat := [0, 1, 4, 5, 9]
def r53 : List SRes := [.tmp 2]
abbrev c53_0 : SCode := .seq (.reg [41, 1043] [
  ⟨.op (.mv (.slot 1)), none, none⟩, 
  ⟨.op (.asg (.slot 5)), some 2, none⟩]) (.ret)
abbrev c53_1 : SCode := .reg [10, 11, 1044] [
  ⟨.op (.mv (.slot 3)), none, none⟩, 
  ⟨.op (.bin .add (.slot 5) (.con (.int .i64 1))), none, none⟩, 
  ⟨.op (.asg (.slot 6)), some 3, none⟩]
abbrev c53_2 : SCode := .reg [34, 35, 36, 37, 38, 39, 40, 1049] [
  ⟨.op (.mv (.slot 0)), none, none⟩, 
  ⟨.op (.mv (.slot 3)), none, none⟩, 
  ⟨.op (.iaddr 4 (.slot 5) (.slot 6)), none, none⟩, 
  ⟨.op (.faddr 3 (.slot 7)), none, none⟩, 
  ⟨.op (.load 1 false (.slot 8)), none, none⟩, 
  ⟨.op (.mv (.slot 1)), none, none⟩, 
  ⟨.callm (.con (.fn 53 [])) [((.slot 9), true), ((.slot 10), false)], none, none⟩, 
  ⟨.op (.asg (.slot 11)), some 1, none⟩]
abbrev c53_3 : SCode := .seq (.reg [32, 33, 1044] [
  ⟨.op (.mv (.slot 1)), none, none⟩, 
  ⟨.op (.bin .add (.slot 5) (.con (.int .i64 1))), none, none⟩, 
  ⟨.op (.asg (.slot 6)), some 1, none⟩]) c53_2
abbrev c53_4 : SCode := .seq (.reg [26, 27, 28, 29, 30, 31, 1048] [
  ⟨.op (.mv (.slot 0)), none, none⟩, 
  ⟨.op (.mv (.slot 3)), none, none⟩, 
  ⟨.op (.mv (.slot 1)), none, none⟩, 
  ⟨.call 74 [(.slot 7)] false, none, none⟩, 
  ⟨.op (.iaddr 4 (.slot 5) (.slot 6)), none, none⟩, 
  ⟨.op (.faddr 2 (.slot 9)), none, none⟩, 
  ⟨.op (.store 1 false (.slot 10) (.slot 8)), none, none⟩]) c53_3
abbrev c53_5 : SCode := .seq (.reg [24, 25, 1044] [
  ⟨.op (.mv (.slot 1)), none, none⟩, 
  ⟨.op (.bin .add (.slot 5) (.con (.int .i64 1))), none, none⟩, 
  ⟨.op (.asg (.slot 6)), some 1, none⟩]) c53_4
abbrev c53_6 : SCode := .seq (.reg [19, 20, 21, 22, 23, 1047] [
  ⟨.op (.mv (.slot 0)), none, none⟩, 
  ⟨.op (.mv (.slot 3)), none, none⟩, 
  ⟨.op (.mv (.slot 1)), none, none⟩, 
  ⟨.op (.iaddr 4 (.slot 5) (.slot 6)), none, none⟩, 
  ⟨.op (.faddr 1 (.slot 8)), none, none⟩, 
  ⟨.op (.store 1 false (.slot 9) (.slot 7)), none, none⟩]) c53_5
abbrev c53_7 : SCode := .seq (.reg [17, 18, 1044] [
  ⟨.op (.mv (.slot 1)), none, none⟩, 
  ⟨.op (.bin .add (.slot 5) (.con (.int .i64 1))), none, none⟩, 
  ⟨.op (.asg (.slot 6)), some 1, none⟩]) c53_6
abbrev c53_8 : SCode := .seq (.block 1 (.seq (.reg [12, 13, 14, 15, 16, 1047] [
  ⟨.op (.mv (.slot 0)), none, none⟩, 
  ⟨.op (.mv (.slot 3)), none, none⟩, 
  ⟨.op (.mv (.slot 1)), none, none⟩, 
  ⟨.op (.iaddr 4 (.slot 5) (.slot 6)), none, none⟩, 
  ⟨.op (.faddr 0 (.slot 8)), none, none⟩, 
  ⟨.op (.store 1 false (.slot 9) (.slot 7)), none, none⟩]) c53_7)) c53_1
abbrev c53_9 : SCode := .cond (.slot 4) (.skip) (.exit 0)
abbrev b53_0 : SCode := .seq (.seq (.reg [6, 7, 8, 1045] [
  ⟨.op (.mv (.slot 3)), none, none⟩, 
  ⟨.op (.mv (.slot 0)), none, none⟩, 
  ⟨.op (.len false (.slot 6)), none, none⟩, 
  ⟨.op (.bin .lss (.slot 5) (.slot 7)), some 4, none⟩]) c53_9) c53_8
def l53_0 : SCode := .loop b53_0
abbrev c53_11 : SCode := .block 0 (l53_0)
abbrev c53_12 : SCode := .seq (.seq (.reg [1042] [
  ⟨.op (.asg (.con (.int .i64 0))), some 3, none⟩]) c53_11) c53_0
abbrev s53 : SCode := .seq (.reg [1042] [
  ⟨.op (.asg (.con (.int .i64 0))), some 2, none⟩]) c53_12
theorem ok53 : okFn Go.Proofs.Try.prog Go.Proofs.Try.f53 v53 s53 r53 2 = true := by kernel_rfl

def v54 : List Nat := [0, 1, 4, 5, 9, 18, 27, 37, 48]
def r54 : List SRes := [.tmp 2]
abbrev c54_0 : SCode := .seq (.reg [49, 1051] [
  ⟨.op (.mv (.slot 1)), none, none⟩, 
  ⟨.op (.asg (.slot 9)), some 2, none⟩]) (.ret)
abbrev c54_1 : SCode := .reg [10, 11, 1052] [
  ⟨.op (.mv (.slot 3)), none, none⟩, 
  ⟨.op (.bin .add (.slot 9) (.con (.int .i64 1))), none, none⟩, 
  ⟨.op (.asg (.slot 10)), some 3, none⟩]
abbrev c54_2 : SCode := .seq (.reg [1050] [
  ⟨.op (.asg (.con (.int .i64 (-1)))), some 2, none⟩]) (.ret)
abbrev c54_3 : SCode := .cond (.slot 8) c54_2 (.skip)
abbrev c54_4 : SCode := .seq (.reg [47, 1051] [
  ⟨.op (.mv (.slot 1)), none, none⟩, 
  ⟨.op (.bin .lss (.slot 9) (.con (.int .i64 0))), some 8, none⟩]) c54_3
abbrev c54_5 : SCode := .seq (.reg [40, 41, 42, 43, 44, 45, 46, 1057] [
  ⟨.op (.mv (.slot 0)), none, none⟩, 
  ⟨.op (.mv (.slot 3)), none, none⟩, 
  ⟨.op (.iaddr 4 (.slot 9) (.slot 10)), none, none⟩, 
  ⟨.op (.faddr 3 (.slot 11)), none, none⟩, 
  ⟨.op (.load 1 false (.slot 12)), none, none⟩, 
  ⟨.op (.mv (.slot 1)), none, none⟩, 
  ⟨.call 54 [(.slot 13), (.slot 14)] false, none, none⟩, 
  ⟨.op (.asg (.slot 15)), some 1, none⟩]) c54_4
abbrev c54_6 : SCode := .seq (.reg [38, 39, 1052] [
  ⟨.op (.mv (.slot 1)), none, none⟩, 
  ⟨.op (.bin .add (.slot 9) (.con (.int .i64 1))), none, none⟩, 
  ⟨.op (.asg (.slot 10)), some 1, none⟩]) c54_5
abbrev c54_7 : SCode := .seq (.reg [1050] [
  ⟨.op (.asg (.con (.int .i64 (-1)))), some 2, none⟩]) (.ret)
abbrev c54_8 : SCode := .cond (.slot 7) c54_7 (.skip)
abbrev c54_9 : SCode := .seq (.seq (.dreg [30, 31, 32, 33, 34, 35, 36, 1057] [
  ⟨.op (.mv (.slot 0)), none, none⟩, 
  ⟨.op (.mv (.slot 3)), none, none⟩, 
  ⟨.op (.iaddr 4 (.slot 9) (.slot 10)), none, none⟩, 
  ⟨.op (.faddr 2 (.slot 11)), none, none⟩, 
  ⟨.op (.load 1 false (.slot 12)), none, none⟩, 
  ⟨.op (.mv (.slot 1)), none, none⟩, 
  ⟨.call 74 [(.slot 14)] false, none, none⟩, 
  ⟨.op (.bin .neq (.slot 13) (.slot 15)), some 7, none⟩]
  [[], [], [0, 1], [0, 1, 2], [0, 1, 2, 3], [], [5], [0, 1, 2, 3, 4, 5, 6]] 7 [] [([], none), ([false], none), ([true, true], none), ([true, true, true], none), ([true, true, true, true], none), ([false, false, false, false, false], none), ([false, false, false, false, false, true], none)] [true, true, true, true, true, true, true]) c54_8) c54_6
abbrev c54_10 : SCode := .seq (.reg [28, 29, 1052] [
  ⟨.op (.mv (.slot 1)), none, none⟩, 
  ⟨.op (.bin .add (.slot 9) (.con (.int .i64 1))), none, none⟩, 
  ⟨.op (.asg (.slot 10)), some 1, none⟩]) c54_9
abbrev c54_11 : SCode := .seq (.reg [1050] [
  ⟨.op (.asg (.con (.int .i64 (-1)))), some 2, none⟩]) (.ret)
abbrev c54_12 : SCode := .cond (.slot 6) c54_11 (.skip)
abbrev c54_13 : SCode := .seq (.seq (.reg [21, 22, 23, 24, 25, 26, 1056] [
  ⟨.op (.mv (.slot 0)), none, none⟩, 
  ⟨.op (.mv (.slot 3)), none, none⟩, 
  ⟨.op (.iaddr 4 (.slot 9) (.slot 10)), none, none⟩, 
  ⟨.op (.faddr 1 (.slot 11)), none, none⟩, 
  ⟨.op (.load 1 false (.slot 12)), none, none⟩, 
  ⟨.op (.mv (.slot 1)), none, none⟩, 
  ⟨.op (.bin .neq (.slot 13) (.slot 14)), some 6, none⟩]) c54_12) c54_10
abbrev c54_14 : SCode := .seq (.reg [19, 20, 1052] [
  ⟨.op (.mv (.slot 1)), none, none⟩, 
  ⟨.op (.bin .add (.slot 9) (.con (.int .i64 1))), none, none⟩, 
  ⟨.op (.asg (.slot 10)), some 1, none⟩]) c54_13
abbrev c54_15 : SCode := .seq (.reg [1050] [
  ⟨.op (.asg (.con (.int .i64 (-1)))), some 2, none⟩]) (.ret)
abbrev c54_16 : SCode := .cond (.slot 5) c54_15 (.skip)
abbrev c54_17 : SCode := .seq (.block 1 (.seq (.seq (.reg [12, 13, 14, 15, 16, 17, 1056] [
  ⟨.op (.mv (.slot 0)), none, none⟩, 
  ⟨.op (.mv (.slot 3)), none, none⟩, 
  ⟨.op (.iaddr 4 (.slot 9) (.slot 10)), none, none⟩, 
  ⟨.op (.faddr 0 (.slot 11)), none, none⟩, 
  ⟨.op (.load 1 false (.slot 12)), none, none⟩, 
  ⟨.op (.mv (.slot 1)), none, none⟩, 
  ⟨.op (.bin .neq (.slot 13) (.slot 14)), some 5, none⟩]) c54_16) c54_14)) c54_1
abbrev c54_18 : SCode := .cond (.slot 4) (.skip) (.exit 0)
abbrev b54_0 : SCode := .seq (.seq (.reg [6, 7, 8, 1053] [
  ⟨.op (.mv (.slot 3)), none, none⟩, 
  ⟨.op (.mv (.slot 0)), none, none⟩, 
  ⟨.op (.len false (.slot 10)), none, none⟩, 
  ⟨.op (.bin .lss (.slot 9) (.slot 11)), some 4, none⟩]) c54_18) c54_17
def l54_0 : SCode := .loop b54_0
abbrev c54_20 : SCode := .block 0 (l54_0)
abbrev c54_21 : SCode := .seq (.seq (.reg [1050] [
  ⟨.op (.asg (.con (.int .i64 0))), some 3, none⟩]) c54_20) c54_0
abbrev s54 : SCode := .seq (.reg [1050] [
  ⟨.op (.asg (.con (.int .i64 0))), some 2, none⟩]) c54_21
theorem ok54 : okFn Go.Proofs.Try.prog Go.Proofs.Try.f54 v54 s54 r54 2 = true := by kernel_rfl

def v68 : List Nat := [0, 1, 4]
def r68 : List SRes := [.tmp 2]
abbrev c68_0 : SCode := .seq (.reg [5, 6, 7, 8, 9, 10, 1017] [
  ⟨.op (.mv (.slot 0)), none, none⟩, 
  ⟨.call 82 [(.slot 3)] false, none, none⟩, 
  ⟨.op (.mv (.slot 1)), none, none⟩, 
  ⟨.call 82 [(.slot 5)] false, none, none⟩, 
  ⟨.op (.bin .add (.slot 4) (.slot 6)), none, none⟩, 
  ⟨.call 82 [(.slot 7)] false, none, none⟩, 
  ⟨.op (.asg (.slot 8)), some 2, none⟩]) (.ret)
abbrev s68 : SCode := .seq (.reg [1011] [
  ⟨.op (.asg (.con (.int .i64 0))), some 2, none⟩]) c68_0
theorem ok68 : okFn Go.Proofs.Try.prog Go.Proofs.Try.f68 v68 s68 r68 2 = true := by kernel_rfl

def v69 : List Nat := [0, 1, 4]
def r69 : List SRes := [.tmp 2]
abbrev c69_0 : SCode := .seq (.reg [5, 6, 7, 8, 9, 10, 1017] [
  ⟨.op (.mv (.slot 0)), none, none⟩, 
  ⟨.call 82 [(.slot 3)] false, none, none⟩, 
  ⟨.op (.mv (.slot 1)), none, none⟩, 
  ⟨.call 82 [(.slot 5)] false, none, none⟩, 
  ⟨.op (.bin .sub (.slot 4) (.slot 6)), none, none⟩, 
  ⟨.call 82 [(.slot 7)] false, none, none⟩, 
  ⟨.op (.asg (.slot 8)), some 2, none⟩]) (.ret)
abbrev s69 : SCode := .seq (.reg [1011] [
  ⟨.op (.asg (.con (.int .i64 0))), some 2, none⟩]) c69_0
theorem ok69 : okFn Go.Proofs.Try.prog Go.Proofs.Try.f69 v69 s69 r69 2 = true := by kernel_rfl

def v70 : List Nat := [0, 1, 4]
def r70 : List SRes := [.tmp 2]
abbrev c70_0 : SCode := .seq (.reg [5, 6, 7, 8, 9, 10, 1017] [
  ⟨.op (.mv (.slot 0)), none, none⟩, 
  ⟨.call 82 [(.slot 3)] false, none, none⟩, 
  ⟨.op (.mv (.slot 1)), none, none⟩, 
  ⟨.call 82 [(.slot 5)] false, none, none⟩, 
  ⟨.op (.bin .mul (.slot 4) (.slot 6)), none, none⟩, 
  ⟨.call 82 [(.slot 7)] false, none, none⟩, 
  ⟨.op (.asg (.slot 8)), some 2, none⟩]) (.ret)
abbrev s70 : SCode := .seq (.reg [1011] [
  ⟨.op (.asg (.con (.int .i64 0))), some 2, none⟩]) c70_0
theorem ok70 : okFn Go.Proofs.Try.prog Go.Proofs.Try.f70 v70 s70 r70 2 = true := by kernel_rfl

def v71 : List Nat := [0, 1, 4]
def r71 : List SRes := [.tmp 2]
abbrev c71_0 : SCode := .seq (.reg [5, 6, 7, 8, 9, 10, 1017] [
  ⟨.op (.mv (.slot 0)), none, none⟩, 
  ⟨.call 83 [(.slot 3)] false, none, none⟩, 
  ⟨.op (.mv (.slot 1)), none, none⟩, 
  ⟨.call 83 [(.slot 5)] false, none, none⟩, 
  ⟨.op (.bin .add (.slot 4) (.slot 6)), none, none⟩, 
  ⟨.call 83 [(.slot 7)] false, none, none⟩, 
  ⟨.op (.asg (.slot 8)), some 2, none⟩]) (.ret)
abbrev s71 : SCode := .seq (.reg [1011] [
  ⟨.op (.asg (.con (.int .i64 0))), some 2, none⟩]) c71_0
theorem ok71 : okFn Go.Proofs.Try.prog Go.Proofs.Try.f71 v71 s71 r71 2 = true := by kernel_rfl

def v72 : List Nat := [0, 1, 4]
def r72 : List SRes := [.tmp 2]
abbrev c72_0 : SCode := .seq (.reg [5, 6, 7, 8, 9, 10, 1017] [
  ⟨.op (.mv (.slot 0)), none, none⟩, 
  ⟨.call 83 [(.slot 3)] false, none, none⟩, 
  ⟨.op (.mv (.slot 1)), none, none⟩, 
  ⟨.call 83 [(.slot 5)] false, none, none⟩, 
  ⟨.op (.bin .sub (.slot 4) (.slot 6)), none, none⟩, 
  ⟨.call 83 [(.slot 7)] false, none, none⟩, 
  ⟨.op (.asg (.slot 8)), some 2, none⟩]) (.ret)
abbrev s72 : SCode := .seq (.reg [1011] [
  ⟨.op (.asg (.con (.int .i64 0))), some 2, none⟩]) c72_0
theorem ok72 : okFn Go.Proofs.Try.prog Go.Proofs.Try.f72 v72 s72 r72 2 = true := by kernel_rfl

def v73 : List Nat := [0, 1, 4]
def r73 : List SRes := [.tmp 2]
abbrev c73_0 : SCode := .seq (.reg [5, 6, 7, 8, 9, 10, 1017] [
  ⟨.op (.mv (.slot 0)), none, none⟩, 
  ⟨.call 83 [(.slot 3)] false, none, none⟩, 
  ⟨.op (.mv (.slot 1)), none, none⟩, 
  ⟨.call 83 [(.slot 5)] false, none, none⟩, 
  ⟨.op (.bin .mul (.slot 4) (.slot 6)), none, none⟩, 
  ⟨.call 83 [(.slot 7)] false, none, none⟩, 
  ⟨.op (.asg (.slot 8)), some 2, none⟩]) (.ret)
abbrev s73 : SCode := .seq (.reg [1011] [
  ⟨.op (.asg (.con (.int .i64 0))), some 2, none⟩]) c73_0
theorem ok73 : okFn Go.Proofs.Try.prog Go.Proofs.Try.f73 v73 s73 r73 2 = true := by kernel_rfl

def v74 : List Nat := [0, 2, 5, 3, 7]
def r74 : List SRes := [.tmp 1]
abbrev c74_0 : SCode := .seq (.reg [18, 19, 1022] [
  ⟨.op (.mv (.slot 3)), none, none⟩, 
  ⟨.op (.bin .add (.con (.str [109])) (.slot 5)), none, none⟩, 
  ⟨.op (.asg (.slot 6)), some 1, none⟩]) (.ret)
abbrev c74_1 : SCode := .reg [16, 17, 1022] [
  ⟨.op (.mv (.slot 0)), none, none⟩, 
  ⟨.op (.bin .quo (.slot 5) (.con (.int .i64 10))), none, none⟩, 
  ⟨.op (.asg (.slot 6)), some 0, none⟩]
abbrev c74_2 : SCode := .block 1 (.seq (.reg [8, 9, 10, 11, 12, 13, 14, 15, 1028] [
  ⟨.op (.mv (.slot 0)), none, none⟩, 
  ⟨.op (.bin .rem (.slot 5) (.con (.int .i64 10))), none, none⟩, 
  ⟨.op (.bin .add (.con (.int .i64 48)) (.slot 6)), none, none⟩, 
  ⟨.op (.conv .u8 (.slot 7)), none, none⟩, 
  ⟨.op (.bsl 5 1 [(.int .u8 0)] [(0, 1, (.slot 8))]), none, none⟩, 
  ⟨.op (.b2s (.slot 9)), none, none⟩, 
  ⟨.op (.mv (.slot 3)), none, none⟩, 
  ⟨.op (.bin .add (.slot 10) (.slot 11)), none, none⟩, 
  ⟨.op (.asg (.slot 12)), some 3, none⟩]) c74_1)
abbrev c74_3 : SCode := .cond (.slot 4) (.skip) (.exit 0)
abbrev b74_0 : SCode := .seq (.seq (.reg [6, 1021] [
  ⟨.op (.mv (.slot 0)), none, none⟩, 
  ⟨.op (.bin .gtr (.slot 5) (.con (.int .i64 0))), some 4, none⟩]) c74_3) c74_2
def l74_0 : SCode := .loop b74_0
abbrev c74_5 : SCode := .seq (.block 0 (l74_0)) c74_0
abbrev c74_6 : SCode := .seq (.reg [1020] [
  ⟨.op (.asg (.con (.str []))), some 3, none⟩]) c74_5
abbrev c74_7 : SCode := .seq (.reg [1020] [
  ⟨.op (.asg (.con (.str [109, 48]))), some 1, none⟩]) (.ret)
abbrev c74_8 : SCode := .cond (.slot 2) c74_7 (.skip)
abbrev c74_9 : SCode := .seq (.seq (.reg [4, 1021] [
  ⟨.op (.mv (.slot 0)), none, none⟩, 
  ⟨.op (.bin .leq (.slot 5) (.con (.int .i64 0))), some 2, none⟩]) c74_8) c74_6
abbrev s74 : SCode := .seq (.reg [1020] [
  ⟨.op (.asg (.con (.str []))), some 1, none⟩]) c74_9
theorem ok74 : okFn Go.Proofs.Try.prog Go.Proofs.Try.f74 v74 s74 r74 1 = true := by kernel_rfl

def v82 : List Nat := [0, 2, 3, 7]
def r82 : List SRes := [.tmp 1]
abbrev c82_0 : SCode := .seq (.reg [10, 1012] [
  ⟨.op (.mv (.slot 2)), none, none⟩, 
  ⟨.op (.asg (.slot 4)), some 1, none⟩]) (.ret)
abbrev c82_1 : SCode := .seq (.reg [8, 9, 1013] [
  ⟨.op (.mv (.slot 2)), none, none⟩, 
  ⟨.op (.bin .sub (.slot 4) (.con (.int .i64 4294967296))), none, none⟩, 
  ⟨.op (.asg (.slot 5)), some 1, none⟩]) (.ret)
abbrev c82_2 : SCode := .cond (.slot 3) c82_1 (.skip)
abbrev c82_3 : SCode := .seq (.seq (.reg [6, 1012] [
  ⟨.op (.mv (.slot 2)), none, none⟩, 
  ⟨.op (.bin .geq (.slot 4) (.con (.int .i64 2147483648))), some 3, none⟩]) c82_2) c82_0
abbrev c82_4 : SCode := .seq (.reg [4, 5, 1013] [
  ⟨.op (.mv (.slot 0)), none, none⟩, 
  ⟨.op (.bin .and (.slot 4) (.con (.int .i64 4294967295))), none, none⟩, 
  ⟨.op (.asg (.slot 5)), some 2, none⟩]) c82_3
abbrev s82 : SCode := .seq (.reg [1011] [
  ⟨.op (.asg (.con (.int .i64 0))), some 1, none⟩]) c82_4
theorem ok82 : okFn Go.Proofs.Try.prog Go.Proofs.Try.f82 v82 s82 r82 1 = true := by kernel_rfl

def v83 : List Nat := [0, 2]
def r83 : List SRes := [.tmp 1]
abbrev c83_0 : SCode := .seq (.reg [3, 4, 5, 1009] [
  ⟨.op (.mv (.slot 0)), none, none⟩, 
  ⟨.op (.conv .i32 (.slot 2)), none, none⟩, 
  ⟨.op (.conv .i64 (.slot 3)), none, none⟩, 
  ⟨.op (.asg (.slot 4)), some 1, none⟩]) (.ret)
abbrev s83 : SCode := .seq (.reg [1006] [
  ⟨.op (.asg (.con (.int .i64 0))), some 1, none⟩]) c83_0
theorem ok83 : okFn Go.Proofs.Try.prog Go.Proofs.Try.f83 v83 s83 r83 1 = true := by kernel_rfl

end Go.AmC
