/- Part of a proof: see the last text of this folder. -/
import Derived.Test.YtbpejcnejeihbaaAmG
import Derived.KernelRfl
import Derived.Test.YtbpejcnejeihbaaProg
set_option maxRecDepth 100000
namespace Go.AmC
open Go Go.AM
def v4 : List Nat := [0, 1, 2, 3, 15, 4, 5, 6, 26, 31, 7, 42, 8, 9, 50, 53, 10, 60, 65, 68]
def r4 : List SRes := [.tmp 2]
abbrev c4_0 : SCode := .seq (.reg [1069] [
  ⟨.op (.asg (.con (.bool true))), some 2, none⟩]) (.ret)
abbrev c4_1 : SCode := .seq (.reg [1069] [
  ⟨.op (.asg (.con (.bool false))), some 2, none⟩]) (.ret)
abbrev c4_2 : SCode := .cond (.slot 19) c4_1 (.skip)
abbrev c4_3 : SCode := .seq (.seq (.reg [66, 67, 1071] [
  ⟨.op (.mv (.slot 13)), none, none⟩, 
  ⟨.op (.mv (.slot 12)), none, none⟩, 
  ⟨.op (.bin .neq (.slot 20) (.slot 21)), some 19, none⟩]) c4_2) c4_0
abbrev c4_4 : SCode := .seq (.reg [1069] [
  ⟨.op (.asg (.con (.bool false))), some 2, none⟩]) (.ret)
abbrev c4_5 : SCode := .cond (.slot 18) c4_4 (.skip)
abbrev c4_6 : SCode := .seq (.seq (.reg [64, 1070] [
  ⟨.op (.mv (.slot 13)), none, none⟩, 
  ⟨.op (.bin .lss (.slot 20) (.con (.int .i64 0))), some 18, none⟩]) c4_5) c4_3
abbrev c4_7 : SCode := .seq (.reg [61, 62, 63, 1072] [
  ⟨.op (.load 2 true (.slot 7)), none, none⟩, 
  ⟨.op (.mv (.slot 13)), none, none⟩, 
  ⟨.call 21 [(.slot 20), (.slot 21)] false, none, none⟩, 
  ⟨.op (.asg (.slot 22)), some 13, none⟩]) c4_6
abbrev c4_8 : SCode := .seq (.reg [1069] [
  ⟨.op (.asg (.con (.int .i64 1))), some 13, none⟩]) c4_7
abbrev c4_9 : SCode := .seq (.reg [1069] [
  ⟨.op (.asg (.con (.bool false))), some 2, none⟩]) (.ret)
abbrev c4_10 : SCode := .cond (.slot 17) c4_9 (.skip)
abbrev c4_11 : SCode := .seq (.seq (.reg [57, 58, 59, 1072] [
  ⟨.op (.load 2 true (.slot 16)), none, none⟩, 
  ⟨.op (.load 2 true (.slot 5)), none, none⟩, 
  ⟨.call 19 [(.slot 20), (.slot 21)] false, none, none⟩, 
  ⟨.op (.not (.slot 22)), some 17, none⟩]) c4_10) c4_8
abbrev c4_12 : SCode := .seq (.reg [54, 55, 56, 1072, 1073] [
  ⟨.op (.load 2 true (.slot 1)), none, none⟩, 
  ⟨.call 17 [(.slot 20)] false, none, none⟩, 
  ⟨.call 18 [(.slot 21)] false, none, none⟩, 
  ⟨.op (.mk 46 [(.osl 0 88 0 []), (.osl 0 34 0 [])]), some 16, none⟩, 
  ⟨.op (.store 2 true (.slot 16) (.slot 22)), none, none⟩]) c4_11
abbrev c4_13 : SCode := .seq (.reg [1069] [
  ⟨.op (.asg (.con (.bool false))), some 2, none⟩]) (.ret)
abbrev c4_14 : SCode := .cond (.slot 15) c4_13 (.skip)
abbrev c4_15 : SCode := .seq (.seq (.reg [51, 52, 1071] [
  ⟨.op (.mv (.slot 13)), none, none⟩, 
  ⟨.op (.mv (.slot 12)), none, none⟩, 
  ⟨.op (.bin .neq (.slot 20) (.slot 21)), some 15, none⟩]) c4_14) c4_12
abbrev c4_16 : SCode := .seq (.reg [1069] [
  ⟨.op (.asg (.con (.bool false))), some 2, none⟩]) (.ret)
abbrev c4_17 : SCode := .cond (.slot 14) c4_16 (.skip)
abbrev c4_18 : SCode := .seq (.seq (.reg [49, 1070] [
  ⟨.op (.mv (.slot 13)), none, none⟩, 
  ⟨.op (.bin .lss (.slot 20) (.con (.int .i64 0))), some 14, none⟩]) c4_17) c4_15
abbrev c4_19 : SCode := .seq (.reg [46, 47, 48, 1072] [
  ⟨.op (.load 2 true (.slot 7)), none, none⟩, 
  ⟨.op (.mv (.slot 13)), none, none⟩, 
  ⟨.call 21 [(.slot 20), (.slot 21)] false, none, none⟩, 
  ⟨.op (.asg (.slot 22)), some 13, none⟩]) c4_18
abbrev c4_20 : SCode := .seq (.reg [1069] [
  ⟨.op (.asg (.con (.int .i64 1))), some 13, none⟩]) c4_19
abbrev c4_21 : SCode := .seq (.reg [43, 44, 45, 1072] [
  ⟨.op (.load 2 true (.slot 7)), none, none⟩, 
  ⟨.op (.mv (.slot 12)), none, none⟩, 
  ⟨.callm (.con (.fn 20 [])) [((.slot 20), true), ((.slot 21), false)], none, none⟩, 
  ⟨.op (.asg (.slot 22)), some 12, none⟩]) c4_20
abbrev c4_22 : SCode := .seq (.reg [1069] [
  ⟨.op (.asg (.con (.int .i64 1))), some 12, none⟩]) c4_21
abbrev c4_23 : SCode := .seq (.reg [1069] [
  ⟨.op (.asg (.con (.bool false))), some 2, none⟩]) (.ret)
abbrev c4_24 : SCode := .cond (.slot 11) c4_23 (.skip)
abbrev c4_25 : SCode := .seq (.seq (.reg [35, 36, 37, 38, 39, 40, 41, 1076] [
  ⟨.op (.mv (.slot 10)), none, none⟩, 
  ⟨.op (.bin .lss (.slot 20) (.con (.int .i64 0))), none, none⟩, 
  ⟨.op (.mv (.slot 21)), none, none⟩, 
  ⟨.op (.load 2 true (.slot 7)), none, some (22, false)⟩, 
  ⟨.op (.load 2 true (.slot 5)), none, some (22, false)⟩, 
  ⟨.call 19 [(.slot 23), (.slot 24)] false, none, some (22, false)⟩, 
  ⟨.op (.not (.slot 25)), none, some (22, false)⟩, 
  ⟨.op (.pick (.slot 22) (.con (.bool true)) (.slot 26)), some 11, none⟩]) c4_24) c4_22
abbrev c4_26 : SCode := .seq (.reg [32, 33, 34, 1072] [
  ⟨.op (.load 2 true (.slot 6)), none, none⟩, 
  ⟨.op (.mv (.slot 10)), none, none⟩, 
  ⟨.callm (.con (.fn 20 [])) [((.slot 20), true), ((.slot 21), false)], none, none⟩, 
  ⟨.op (.asg (.slot 22)), some 10, none⟩]) c4_25
abbrev c4_27 : SCode := .seq (.reg [1069] [
  ⟨.op (.asg (.con (.int .i64 1))), some 10, none⟩]) c4_26
abbrev c4_28 : SCode := .seq (.reg [1069] [
  ⟨.op (.asg (.con (.bool false))), some 2, none⟩]) (.ret)
abbrev c4_29 : SCode := .cond (.slot 9) c4_28 (.skip)
abbrev c4_30 : SCode := .seq (.seq (.dreg [27, 28, 29, 30, 1073] [
  ⟨.op (.load 2 true (.slot 6)), none, none⟩, 
  ⟨.op (.load 2 true (.slot 1)), none, none⟩, 
  ⟨.call 17 [(.slot 21)] false, none, none⟩, 
  ⟨.call 19 [(.slot 20), (.slot 22)] false, none, none⟩, 
  ⟨.op (.not (.slot 23)), some 9, none⟩]
  [[], [], [1], [0, 1, 2], [0, 1, 2, 3]] 4 [] [([], none), ([false], none), ([false, true], none), ([true, true, true], none)] [true, true, true, true]) c4_29) c4_27
abbrev c4_31 : SCode := .seq (.reg [1069] [
  ⟨.op (.asg (.con (.bool false))), some 2, none⟩]) (.ret)
abbrev c4_32 : SCode := .cond (.slot 8) c4_31 (.skip)
abbrev c4_33 : SCode := .seq (.seq (.reg [23, 24, 25, 1072] [
  ⟨.op (.load 2 true (.slot 7)), none, none⟩, 
  ⟨.op (.load 2 true (.slot 5)), none, none⟩, 
  ⟨.call 19 [(.slot 20), (.slot 21)] false, none, none⟩, 
  ⟨.op (.not (.slot 22)), some 8, none⟩]) c4_32) c4_30
abbrev c4_34 : SCode := .seq (.reg [21, 22, 1071, 1072] [
  ⟨.op (.load 2 true (.slot 6)), none, none⟩, 
  ⟨.call 18 [(.slot 20)] false, none, none⟩, 
  ⟨.op (.mk 46 [(.osl 0 88 0 []), (.osl 0 34 0 [])]), some 7, none⟩, 
  ⟨.op (.store 2 true (.slot 7) (.slot 21)), none, none⟩]) c4_33
abbrev c4_35 : SCode := .seq (.reg [19, 20, 1071, 1072] [
  ⟨.op (.load 2 true (.slot 1)), none, none⟩, 
  ⟨.call 17 [(.slot 20)] false, none, none⟩, 
  ⟨.op (.mk 46 [(.osl 0 88 0 []), (.osl 0 34 0 [])]), some 6, none⟩, 
  ⟨.op (.store 2 true (.slot 6) (.slot 21)), none, none⟩]) c4_34
abbrev c4_36 : SCode := .seq (.reg [16, 17, 18, 1072, 1073] [
  ⟨.op (.load 2 true (.slot 1)), none, none⟩, 
  ⟨.call 17 [(.slot 20)] false, none, none⟩, 
  ⟨.call 16 [(.slot 21)] false, none, none⟩, 
  ⟨.op (.mk 46 [(.osl 0 88 0 []), (.osl 0 34 0 [])]), some 5, none⟩, 
  ⟨.op (.store 2 true (.slot 5) (.slot 22)), none, none⟩]) c4_35
abbrev c4_37 : SCode := .seq (.reg [1069] [
  ⟨.op (.asg (.con (.bool true))), some 2, none⟩]) (.ret)
abbrev c4_38 : SCode := .cond (.slot 4) c4_37 (.skip)
abbrev c4_39 : SCode := .seq (.seq (.reg [14, 1070] [
  ⟨.op (.mv (.slot 3)), none, none⟩, 
  ⟨.op (.bin .lss (.slot 20) (.con (.int .i64 0))), some 4, none⟩]) c4_38) c4_36
abbrev c4_40 : SCode := .seq (.reg [11, 12, 13, 1072] [
  ⟨.op (.load 2 true (.slot 1)), none, none⟩, 
  ⟨.op (.mv (.slot 3)), none, none⟩, 
  ⟨.call 15 [(.slot 20), (.slot 21)] false, none, none⟩, 
  ⟨.op (.asg (.slot 22)), some 3, none⟩]) c4_39
abbrev c4_41 : SCode := .seq (.reg [1069] [
  ⟨.op (.asg (.con (.int .i64 1048576))), some 3, none⟩]) c4_40
abbrev s4 : SCode := .seq (.reg [1069, 1070] [
  ⟨.op (.box 42 2 (.slot 0)), some 1, none⟩, 
  ⟨.op (.asg (.con (.bool false))), some 2, none⟩]) c4_41
theorem ok4 : okFn Go.Proofs.Try.prog Go.Proofs.Try.f4 v4 s4 r4 1 = true := by kernel_rfl

def v8 : List Nat := [0, 1, 2, 4, 11, 17, 23, 29, 35, 41]
def r8 : List SRes := [.tmp 3]
abbrev c8_0 : SCode := .seq (.reg [42, 1044] [
  ⟨.op (.mv (.slot 1)), none, none⟩, 
  ⟨.op (.asg (.slot 10)), some 3, none⟩]) (.ret)
abbrev c8_1 : SCode := .seq (.reg [1043] [
  ⟨.op (.asg (.con (.int .i64 (-1)))), some 3, none⟩]) (.ret)
abbrev c8_2 : SCode := .cond (.slot 9) c8_1 (.skip)
abbrev c8_3 : SCode := .seq (.seq (.reg [40, 1044] [
  ⟨.op (.mv (.slot 1)), none, none⟩, 
  ⟨.op (.bin .lss (.slot 10) (.con (.int .i64 0))), some 9, none⟩]) c8_2) c8_0
abbrev c8_4 : SCode := .seq (.reg [36, 37, 38, 39, 1047] [
  ⟨.op (.faddr 18 (.slot 2)), none, none⟩, 
  ⟨.op (.load 1 false (.slot 10)), none, none⟩, 
  ⟨.op (.mv (.slot 1)), none, none⟩, 
  ⟨.call 32 [(.slot 11), (.slot 12)] false, none, none⟩, 
  ⟨.op (.asg (.slot 13)), some 1, none⟩]) c8_3
abbrev c8_5 : SCode := .seq (.reg [1043] [
  ⟨.op (.asg (.con (.int .i64 (-1)))), some 3, none⟩]) (.ret)
abbrev c8_6 : SCode := .cond (.slot 8) c8_5 (.skip)
abbrev c8_7 : SCode := .seq (.seq (.reg [34, 1044] [
  ⟨.op (.mv (.slot 1)), none, none⟩, 
  ⟨.op (.bin .lss (.slot 10) (.con (.int .i64 0))), some 8, none⟩]) c8_6) c8_4
abbrev c8_8 : SCode := .seq (.reg [30, 31, 32, 33, 1047] [
  ⟨.op (.faddr 14 (.slot 2)), none, none⟩, 
  ⟨.op (.load 4 true (.slot 10)), none, none⟩, 
  ⟨.op (.mv (.slot 1)), none, none⟩, 
  ⟨.call 31 [(.slot 11), (.slot 12)] false, none, none⟩, 
  ⟨.op (.asg (.slot 13)), some 1, none⟩]) c8_7
abbrev c8_9 : SCode := .seq (.reg [1043] [
  ⟨.op (.asg (.con (.int .i64 (-1)))), some 3, none⟩]) (.ret)
abbrev c8_10 : SCode := .cond (.slot 7) c8_9 (.skip)
abbrev c8_11 : SCode := .seq (.seq (.reg [28, 1044] [
  ⟨.op (.mv (.slot 1)), none, none⟩, 
  ⟨.op (.bin .lss (.slot 10) (.con (.int .i64 0))), some 7, none⟩]) c8_10) c8_8
abbrev c8_12 : SCode := .seq (.reg [24, 25, 26, 27, 1047] [
  ⟨.op (.faddr 10 (.slot 2)), none, none⟩, 
  ⟨.op (.load 4 true (.slot 10)), none, none⟩, 
  ⟨.op (.mv (.slot 1)), none, none⟩, 
  ⟨.call 31 [(.slot 11), (.slot 12)] false, none, none⟩, 
  ⟨.op (.asg (.slot 13)), some 1, none⟩]) c8_11
abbrev c8_13 : SCode := .seq (.reg [1043] [
  ⟨.op (.asg (.con (.int .i64 (-1)))), some 3, none⟩]) (.ret)
abbrev c8_14 : SCode := .cond (.slot 6) c8_13 (.skip)
abbrev c8_15 : SCode := .seq (.seq (.reg [22, 1044] [
  ⟨.op (.mv (.slot 1)), none, none⟩, 
  ⟨.op (.bin .lss (.slot 10) (.con (.int .i64 0))), some 6, none⟩]) c8_14) c8_12
abbrev c8_16 : SCode := .seq (.reg [18, 19, 20, 21, 1047] [
  ⟨.op (.faddr 6 (.slot 2)), none, none⟩, 
  ⟨.op (.load 4 true (.slot 10)), none, none⟩, 
  ⟨.op (.mv (.slot 1)), none, none⟩, 
  ⟨.call 31 [(.slot 11), (.slot 12)] false, none, none⟩, 
  ⟨.op (.asg (.slot 13)), some 1, none⟩]) c8_15
abbrev c8_17 : SCode := .seq (.reg [1043] [
  ⟨.op (.asg (.con (.int .i64 (-1)))), some 3, none⟩]) (.ret)
abbrev c8_18 : SCode := .cond (.slot 5) c8_17 (.skip)
abbrev c8_19 : SCode := .seq (.seq (.reg [16, 1044] [
  ⟨.op (.mv (.slot 1)), none, none⟩, 
  ⟨.op (.bin .lss (.slot 10) (.con (.int .i64 0))), some 5, none⟩]) c8_18) c8_16
abbrev c8_20 : SCode := .seq (.reg [12, 13, 14, 15, 1047] [
  ⟨.op (.faddr 2 (.slot 2)), none, none⟩, 
  ⟨.op (.load 4 true (.slot 10)), none, none⟩, 
  ⟨.op (.mv (.slot 1)), none, none⟩, 
  ⟨.call 31 [(.slot 11), (.slot 12)] false, none, none⟩, 
  ⟨.op (.asg (.slot 13)), some 1, none⟩]) c8_19
abbrev c8_21 : SCode := .seq (.reg [1043] [
  ⟨.op (.asg (.con (.int .i64 (-1)))), some 3, none⟩]) (.ret)
abbrev c8_22 : SCode := .cond (.slot 4) c8_21 (.skip)
abbrev c8_23 : SCode := .seq (.seq (.reg [10, 1044] [
  ⟨.op (.mv (.slot 1)), none, none⟩, 
  ⟨.op (.bin .lss (.slot 10) (.con (.int .i64 0))), some 4, none⟩]) c8_22) c8_20
abbrev c8_24 : SCode := .seq (.reg [5, 6, 7, 8, 9, 1048] [
  ⟨.op (.mv (.slot 1)), none, none⟩, 
  ⟨.op (.faddr 1 (.slot 2)), none, none⟩, 
  ⟨.op (.load 1 false (.slot 11)), none, none⟩, 
  ⟨.op (.len true (.slot 12)), none, none⟩, 
  ⟨.op (.bin .sub (.slot 10) (.slot 13)), none, none⟩, 
  ⟨.op (.asg (.slot 14)), some 1, none⟩]) c8_23
abbrev s8 : SCode := .seq (.reg [1043, 1044] [
  ⟨.op (.box 27 19 (.slot 0)), some 2, none⟩, 
  ⟨.op (.asg (.con (.int .i64 0))), some 3, none⟩]) c8_24
theorem ok8 : okFn Go.Proofs.Try.prog Go.Proofs.Try.f8 v8 s8 r8 2 = true := by kernel_rfl

def v9 : List Nat := [0, 1, 2, 3, 4, 27, 5]
def r9 : List SRes := [.cell 2 19 true]
abbrev c9_0 : SCode := .seq (.reg [42, 1044] [
  ⟨.op (.load 19 true (.slot 3)), none, none⟩, 
  ⟨.op (.store 19 true (.slot 2) (.slot 7)), none, none⟩]) (.ret)
abbrev c9_1 : SCode := .reg [28, 29, 1045] [
  ⟨.op (.mv (.slot 4)), none, none⟩, 
  ⟨.op (.bin .add (.slot 7) (.con (.int .i64 1))), none, none⟩, 
  ⟨.op (.asg (.slot 8)), some 4, none⟩]
abbrev c9_2 : SCode := .reg [36, 37, 38, 39, 40, 41, 1049] [
  ⟨.op (.faddr 18 (.slot 3)), none, none⟩, 
  ⟨.op (.load 1 false (.slot 7)), none, none⟩, 
  ⟨.op (.load 19 true (.slot 6)), none, none⟩, 
  ⟨.op (.bsl 34 1 [(.int .i64 0), (.str []), (.int .i64 0), (.int .i64 0), (.str []), (.osl 0 31 0 []), (.int .i64 0), (.int .i64 0), (.str []), (.osl 0 31 0 []), (.int .i64 0), (.int .i64 0), (.str []), (.osl 0 31 0 []), (.int .i64 0), (.int .i64 0), (.str []), (.osl 0 31 0 []), (.osl 0 34 0 [])] [(0, 19, (.slot 9))]), none, none⟩, 
  ⟨.op (.append 34 19 (.slot 8) (.slot 10)), none, none⟩, 
  ⟨.op (.faddr 18 (.slot 3)), none, none⟩, 
  ⟨.op (.store 1 true (.slot 12) (.slot 11)), none, none⟩]
abbrev c9_3 : SCode := .seq (.block 1 (.seq (.reg [30, 31, 32, 33, 34, 35, 1049, 1050] [
  ⟨.op (.faddr 18 (.slot 1)), none, none⟩, 
  ⟨.op (.load 1 false (.slot 7)), none, none⟩, 
  ⟨.op (.mv (.slot 4)), none, none⟩, 
  ⟨.op (.iaddr 19 (.slot 8) (.slot 9)), none, none⟩, 
  ⟨.op (.load 19 true (.slot 10)), none, none⟩, 
  ⟨.call 9 [(.slot 11)] false, none, none⟩, 
  ⟨.op (.mk 34 [(.int .i64 0), (.str []), (.int .i64 0), (.int .i64 0), (.str []), (.osl 0 31 0 []), (.int .i64 0), (.int .i64 0), (.str []), (.osl 0 31 0 []), (.int .i64 0), (.int .i64 0), (.str []), (.osl 0 31 0 []), (.int .i64 0), (.int .i64 0), (.str []), (.osl 0 31 0 []), (.osl 0 34 0 [])]), some 6, none⟩, 
  ⟨.op (.store 19 true (.slot 6) (.slot 12)), none, none⟩]) c9_2)) c9_1
abbrev c9_4 : SCode := .cond (.slot 5) (.skip) (.exit 0)
abbrev b9_0 : SCode := .seq (.seq (.reg [23, 24, 25, 26, 1047] [
  ⟨.op (.mv (.slot 4)), none, none⟩, 
  ⟨.op (.faddr 18 (.slot 1)), none, none⟩, 
  ⟨.op (.load 1 false (.slot 8)), none, none⟩, 
  ⟨.op (.len false (.slot 9)), none, none⟩, 
  ⟨.op (.bin .lss (.slot 7) (.slot 10)), some 5, none⟩]) c9_4) c9_3
def l9_0 : SCode := .loop b9_0
abbrev c9_6 : SCode := .block 0 (l9_0)
abbrev c9_7 : SCode := .seq (.seq (.reg [1043] [
  ⟨.op (.asg (.con (.int .i64 0))), some 4, none⟩]) c9_6) c9_0
abbrev c9_8 : SCode := .seq (.dregm 3 17 [6, 7, 8, 9, 10, 11, 12, 13, 14, 15, 16, 17, 18, 19, 20, 21, 22, 3, 1061] [
  ⟨.op (.faddr 0 (.slot 1)), none, none⟩, 
  ⟨.op (.load 1 false (.slot 7)), none, none⟩, 
  ⟨.op (.faddr 1 (.slot 1)), none, none⟩, 
  ⟨.op (.load 1 false (.slot 9)), none, none⟩, 
  ⟨.op (.faddr 2 (.slot 1)), none, none⟩, 
  ⟨.op (.load 4 true (.slot 11)), none, none⟩, 
  ⟨.call 33 [(.slot 12)] false, none, none⟩, 
  ⟨.op (.faddr 6 (.slot 1)), none, none⟩, 
  ⟨.op (.load 4 true (.slot 14)), none, none⟩, 
  ⟨.call 33 [(.slot 15)] false, none, none⟩, 
  ⟨.op (.faddr 10 (.slot 1)), none, none⟩, 
  ⟨.op (.load 4 true (.slot 17)), none, none⟩, 
  ⟨.call 33 [(.slot 18)] false, none, none⟩, 
  ⟨.op (.faddr 14 (.slot 1)), none, none⟩, 
  ⟨.op (.load 4 true (.slot 20)), none, none⟩, 
  ⟨.call 33 [(.slot 21)] false, none, none⟩, 
  ⟨.op (.build [(.int .i64 0), (.str []), (.int .i64 0), (.int .i64 0), (.str []), (.osl 0 31 0 []), (.int .i64 0), (.int .i64 0), (.str []), (.osl 0 31 0 []), (.int .i64 0), (.int .i64 0), (.str []), (.osl 0 31 0 []), (.int .i64 0), (.int .i64 0), (.str []), (.osl 0 31 0 []), (.osl 0 34 0 [])] [(0, 1, (.slot 8)), (1, 1, (.slot 10)), (2, 4, (.slot 13)), (6, 4, (.slot 16)), (10, 4, (.slot 19)), (14, 4, (.slot 22))]), none, none⟩, 
  ⟨.op (.mk 34 [(.int .i64 0), (.str []), (.int .i64 0), (.int .i64 0), (.str []), (.osl 0 31 0 []), (.int .i64 0), (.int .i64 0), (.str []), (.osl 0 31 0 []), (.int .i64 0), (.int .i64 0), (.str []), (.osl 0 31 0 []), (.int .i64 0), (.int .i64 0), (.str []), (.osl 0 31 0 []), (.osl 0 34 0 [])]), none, none⟩, 
  ⟨.op (.store 19 true (.slot 24) (.slot 23)), none, none⟩]
  [[], [0], [], [2], [], [4], [4, 5], [], [7], [4, 5, 6, 7, 8], [], [10], [4, 5, 6, 7, 8, 9, 10, 11], [], [13], [4, 5, 6, 7, 8, 9, 10, 11, 12, 13, 14], [0, 1, 2, 3, 4, 5, 6, 7, 8, 9, 10, 11, 12, 13, 14, 15], [], [0, 1, 2, 3, 4, 5, 6, 7, 8, 9, 10, 11, 12, 13, 14, 15, 16, 17]] 18 [] [([], none), ([true], none), ([false, false], none), ([false, false, true], none), ([false, false, false, false], none), ([false, false, false, false, true], none), ([false, false, false, false, true, true], none), ([false, false, false, false, false, false, false], none), ([false, false, false, false, false, false, false, true], none), ([false, false, false, false, true, true, true, true, true], none), ([false, false, false, false, false, false, false, false, false, false], none), ([false, false, false, false, false, false, false, false, false, false, true], none), ([false, false, false, false, true, true, true, true, true, true, true, true], none), ([false, false, false, false, false, false, false, false, false, false, false, false, false], none), ([false, false, false, false, false, false, false, false, false, false, false, false, false, true], none), ([false, false, false, false, true, true, true, true, true, true, true, true, true, true, true], none), ([true, true, true, true, true, true, true, true, true, true, true, true, true, true, true, true], none), ([false, false, false, false, false, false, false, false, false, false, false, false, false, false, false, false, false], none)] [true, true, true, true, true, true, true, true, true, true, true, true, true, true, true, true, true, true]) c9_7
abbrev s9 : SCode := .seq (.reg [1043, 1044] [
  ⟨.op (.box 34 19 (.slot 0)), some 1, none⟩, 
  ⟨.op (.mk 34 [(.int .i64 0), (.str []), (.int .i64 0), (.int .i64 0), (.str []), (.osl 0 31 0 []), (.int .i64 0), (.int .i64 0), (.str []), (.osl 0 31 0 []), (.int .i64 0), (.int .i64 0), (.str []), (.osl 0 31 0 []), (.int .i64 0), (.int .i64 0), (.str []), (.osl 0 31 0 []), (.osl 0 34 0 [])]), some 2, none⟩]) c9_8
theorem ok9 : okFn Go.Proofs.Try.prog Go.Proofs.Try.f9 v9 s9 r9 1 = true := by kernel_rfl

def v10 : List Nat := [0, 1, 2, 3]
def r10 : List SRes := [.cell 2 19 true]
abbrev c10_0 : SCode := .seq (.reg [30, 1032] [
  ⟨.op (.load 19 true (.slot 3)), none, none⟩, 
  ⟨.op (.store 19 true (.slot 2) (.slot 4)), none, none⟩]) (.ret)
abbrev c10_1 : SCode := .seq (.reg [26, 27, 28, 29, 1035] [
  ⟨.op (.faddr 18 (.slot 1)), none, none⟩, 
  ⟨.op (.load 1 false (.slot 4)), none, none⟩, 
  ⟨.call 35 [(.slot 5)] false, none, none⟩, 
  ⟨.op (.faddr 18 (.slot 3)), none, none⟩, 
  ⟨.op (.store 1 true (.slot 7) (.slot 6)), none, none⟩]) c10_0
abbrev c10_2 : SCode := .seq (.reg [22, 23, 24, 25, 1035] [
  ⟨.op (.faddr 14 (.slot 1)), none, none⟩, 
  ⟨.op (.load 4 true (.slot 4)), none, none⟩, 
  ⟨.call 34 [(.slot 5)] false, none, none⟩, 
  ⟨.op (.faddr 14 (.slot 3)), none, none⟩, 
  ⟨.op (.store 4 true (.slot 7) (.slot 6)), none, none⟩]) c10_1
abbrev c10_3 : SCode := .seq (.reg [18, 19, 20, 21, 1035] [
  ⟨.op (.faddr 10 (.slot 1)), none, none⟩, 
  ⟨.op (.load 4 true (.slot 4)), none, none⟩, 
  ⟨.call 34 [(.slot 5)] false, none, none⟩, 
  ⟨.op (.faddr 10 (.slot 3)), none, none⟩, 
  ⟨.op (.store 4 true (.slot 7) (.slot 6)), none, none⟩]) c10_2
abbrev c10_4 : SCode := .seq (.reg [14, 15, 16, 17, 1035] [
  ⟨.op (.faddr 6 (.slot 1)), none, none⟩, 
  ⟨.op (.load 4 true (.slot 4)), none, none⟩, 
  ⟨.call 34 [(.slot 5)] false, none, none⟩, 
  ⟨.op (.faddr 6 (.slot 3)), none, none⟩, 
  ⟨.op (.store 4 true (.slot 7) (.slot 6)), none, none⟩]) c10_3
abbrev c10_5 : SCode := .seq (.reg [10, 11, 12, 13, 1035] [
  ⟨.op (.faddr 2 (.slot 1)), none, none⟩, 
  ⟨.op (.load 4 true (.slot 4)), none, none⟩, 
  ⟨.call 34 [(.slot 5)] false, none, none⟩, 
  ⟨.op (.faddr 2 (.slot 3)), none, none⟩, 
  ⟨.op (.store 4 true (.slot 7) (.slot 6)), none, none⟩]) c10_4
abbrev c10_6 : SCode := .seq (.reg [7, 8, 9, 1034] [
  ⟨.op (.faddr 1 (.slot 1)), none, none⟩, 
  ⟨.op (.load 1 false (.slot 4)), none, none⟩, 
  ⟨.op (.faddr 1 (.slot 3)), none, none⟩, 
  ⟨.op (.store 1 false (.slot 6) (.slot 5)), none, none⟩]) c10_5
abbrev c10_7 : SCode := .seq (.reg [4, 5, 6, 1034] [
  ⟨.op (.faddr 0 (.slot 1)), none, none⟩, 
  ⟨.op (.load 1 false (.slot 4)), none, none⟩, 
  ⟨.op (.faddr 0 (.slot 3)), none, none⟩, 
  ⟨.op (.store 1 false (.slot 6) (.slot 5)), none, none⟩]) c10_6
abbrev c10_8 : SCode := .seq (.reg [1031] [
  ⟨.op (.mk 34 [(.int .i64 0), (.str []), (.int .i64 0), (.int .i64 0), (.str []), (.osl 0 31 0 []), (.int .i64 0), (.int .i64 0), (.str []), (.osl 0 31 0 []), (.int .i64 0), (.int .i64 0), (.str []), (.osl 0 31 0 []), (.int .i64 0), (.int .i64 0), (.str []), (.osl 0 31 0 []), (.osl 0 34 0 [])]), some 3, none⟩]) c10_7
abbrev s10 : SCode := .seq (.reg [1031, 1032] [
  ⟨.op (.box 27 19 (.slot 0)), some 1, none⟩, 
  ⟨.op (.mk 34 [(.int .i64 0), (.str []), (.int .i64 0), (.int .i64 0), (.str []), (.osl 0 31 0 []), (.int .i64 0), (.int .i64 0), (.str []), (.osl 0 31 0 []), (.int .i64 0), (.int .i64 0), (.str []), (.osl 0 31 0 []), (.int .i64 0), (.int .i64 0), (.str []), (.osl 0 31 0 []), (.osl 0 34 0 [])]), some 2, none⟩]) c10_8
theorem ok10 : okFn Go.Proofs.Try.prog Go.Proofs.Try.f10 v10 s10 r10 1 = true := by kernel_rfl

def v11 : List Nat := [0, 1, 2]
def r11 : List SRes := [.cell 2 19 true]
abbrev c11_0 : SCode := .seq (.dreg [3, 4, 5, 6, 7, 8, 9, 10, 11, 12, 13, 14, 15, 16, 17, 18, 19, 20, 21, 22, 1043] [
  ⟨.op (.faddr 0 (.slot 1)), none, none⟩, 
  ⟨.op (.load 1 false (.slot 3)), none, none⟩, 
  ⟨.op (.faddr 1 (.slot 1)), none, none⟩, 
  ⟨.op (.load 1 false (.slot 5)), none, none⟩, 
  ⟨.op (.faddr 2 (.slot 1)), none, none⟩, 
  ⟨.op (.load 4 true (.slot 7)), none, none⟩, 
  ⟨.call 36 [(.slot 8)] false, none, none⟩, 
  ⟨.op (.faddr 6 (.slot 1)), none, none⟩, 
  ⟨.op (.load 4 true (.slot 10)), none, none⟩, 
  ⟨.call 36 [(.slot 11)] false, none, none⟩, 
  ⟨.op (.faddr 10 (.slot 1)), none, none⟩, 
  ⟨.op (.load 4 true (.slot 13)), none, none⟩, 
  ⟨.call 36 [(.slot 14)] false, none, none⟩, 
  ⟨.op (.faddr 14 (.slot 1)), none, none⟩, 
  ⟨.op (.load 4 true (.slot 16)), none, none⟩, 
  ⟨.call 36 [(.slot 17)] false, none, none⟩, 
  ⟨.op (.faddr 18 (.slot 1)), none, none⟩, 
  ⟨.op (.load 1 false (.slot 19)), none, none⟩, 
  ⟨.call 37 [(.slot 20)] false, none, none⟩, 
  ⟨.op (.build [(.int .i64 0), (.str []), (.int .i64 0), (.int .i64 0), (.str []), (.osl 0 31 0 []), (.int .i64 0), (.int .i64 0), (.str []), (.osl 0 31 0 []), (.int .i64 0), (.int .i64 0), (.str []), (.osl 0 31 0 []), (.int .i64 0), (.int .i64 0), (.str []), (.osl 0 31 0 []), (.osl 0 34 0 [])] [(0, 1, (.slot 4)), (1, 1, (.slot 6)), (2, 4, (.slot 9)), (6, 4, (.slot 12)), (10, 4, (.slot 15)), (14, 4, (.slot 18)), (18, 1, (.slot 21))]), none, none⟩, 
  ⟨.op (.store 19 true (.slot 2) (.slot 22)), none, none⟩]
  [[], [0], [], [2], [], [4], [4, 5], [], [7], [4, 5, 6, 7, 8], [], [10], [4, 5, 6, 7, 8, 9, 10, 11], [], [13], [4, 5, 6, 7, 8, 9, 10, 11, 12, 13, 14], [], [16], [4, 5, 6, 7, 8, 9, 10, 11, 12, 13, 14, 15, 16, 17], [0, 1, 2, 3, 4, 5, 6, 7, 8, 9, 10, 11, 12, 13, 14, 15, 16, 17, 18], [0, 1, 2, 3, 4, 5, 6, 7, 8, 9, 10, 11, 12, 13, 14, 15, 16, 17, 18, 19]] 20 [] [([], none), ([true], none), ([false, false], none), ([false, false, true], none), ([false, false, false, false], none), ([false, false, false, false, true], none), ([false, false, false, false, true, true], none), ([false, false, false, false, false, false, false], none), ([false, false, false, false, false, false, false, true], none), ([false, false, false, false, true, true, true, true, true], none), ([false, false, false, false, false, false, false, false, false, false], none), ([false, false, false, false, false, false, false, false, false, false, true], none), ([false, false, false, false, true, true, true, true, true, true, true, true], none), ([false, false, false, false, false, false, false, false, false, false, false, false, false], none), ([false, false, false, false, false, false, false, false, false, false, false, false, false, true], none), ([false, false, false, false, true, true, true, true, true, true, true, true, true, true, true], none), ([false, false, false, false, false, false, false, false, false, false, false, false, false, false, false, false], none), ([false, false, false, false, false, false, false, false, false, false, false, false, false, false, false, false, true], none), ([false, false, false, false, true, true, true, true, true, true, true, true, true, true, true, true, true, true], none), ([true, true, true, true, true, true, true, true, true, true, true, true, true, true, true, true, true, true, true], none)] [true, true, true, true, true, true, true, true, true, true, true, true, true, true, true, true, true, true, true, true]) (.ret)
abbrev s11 : SCode := .seq (.reg [1023, 1024] [
  ⟨.op (.box 34 19 (.slot 0)), some 1, none⟩, 
  ⟨.op (.mk 34 [(.int .i64 0), (.str []), (.int .i64 0), (.int .i64 0), (.str []), (.osl 0 31 0 []), (.int .i64 0), (.int .i64 0), (.str []), (.osl 0 31 0 []), (.int .i64 0), (.int .i64 0), (.str []), (.osl 0 31 0 []), (.int .i64 0), (.int .i64 0), (.str []), (.osl 0 31 0 []), (.osl 0 34 0 [])]), some 2, none⟩]) c11_0
theorem ok11 : okFn Go.Proofs.Try.prog Go.Proofs.Try.f11 v11 s11 r11 1 = true := by kernel_rfl

def v12 : List Nat := [0, 1, 2, 3, 4, 9, 14, 20, 26, 32, 38, 44]
def r12 : List SRes := [.tmp 4]
abbrev c12_0 : SCode := .seq (.reg [1045] [
  ⟨.op (.asg (.con (.bool true))), some 4, none⟩]) (.ret)
abbrev c12_1 : SCode := .seq (.reg [1045] [
  ⟨.op (.asg (.con (.bool false))), some 4, none⟩]) (.ret)
abbrev c12_2 : SCode := .cond (.slot 11) c12_1 (.skip)
abbrev c12_3 : SCode := .seq (.seq (.reg [39, 40, 41, 42, 43, 1050] [
  ⟨.op (.faddr 18 (.slot 2)), none, none⟩, 
  ⟨.op (.load 1 false (.slot 12)), none, none⟩, 
  ⟨.op (.faddr 18 (.slot 3)), none, none⟩, 
  ⟨.op (.load 1 false (.slot 14)), none, none⟩, 
  ⟨.call 28 [(.slot 13), (.slot 15)] false, none, none⟩, 
  ⟨.op (.not (.slot 16)), some 11, none⟩]) c12_2) c12_0
abbrev c12_4 : SCode := .seq (.reg [1045] [
  ⟨.op (.asg (.con (.bool false))), some 4, none⟩]) (.ret)
abbrev c12_5 : SCode := .cond (.slot 10) c12_4 (.skip)
abbrev c12_6 : SCode := .seq (.seq (.reg [33, 34, 35, 36, 37, 1050] [
  ⟨.op (.faddr 14 (.slot 2)), none, none⟩, 
  ⟨.op (.load 4 true (.slot 12)), none, none⟩, 
  ⟨.op (.faddr 14 (.slot 3)), none, none⟩, 
  ⟨.op (.load 4 true (.slot 14)), none, none⟩, 
  ⟨.call 38 [(.slot 13), (.slot 15)] false, none, none⟩, 
  ⟨.op (.not (.slot 16)), some 10, none⟩]) c12_5) c12_3
abbrev c12_7 : SCode := .seq (.reg [1045] [
  ⟨.op (.asg (.con (.bool false))), some 4, none⟩]) (.ret)
abbrev c12_8 : SCode := .cond (.slot 9) c12_7 (.skip)
abbrev c12_9 : SCode := .seq (.seq (.reg [27, 28, 29, 30, 31, 1050] [
  ⟨.op (.faddr 10 (.slot 2)), none, none⟩, 
  ⟨.op (.load 4 true (.slot 12)), none, none⟩, 
  ⟨.op (.faddr 10 (.slot 3)), none, none⟩, 
  ⟨.op (.load 4 true (.slot 14)), none, none⟩, 
  ⟨.call 38 [(.slot 13), (.slot 15)] false, none, none⟩, 
  ⟨.op (.not (.slot 16)), some 9, none⟩]) c12_8) c12_6
abbrev c12_10 : SCode := .seq (.reg [1045] [
  ⟨.op (.asg (.con (.bool false))), some 4, none⟩]) (.ret)
abbrev c12_11 : SCode := .cond (.slot 8) c12_10 (.skip)
abbrev c12_12 : SCode := .seq (.seq (.reg [21, 22, 23, 24, 25, 1050] [
  ⟨.op (.faddr 6 (.slot 2)), none, none⟩, 
  ⟨.op (.load 4 true (.slot 12)), none, none⟩, 
  ⟨.op (.faddr 6 (.slot 3)), none, none⟩, 
  ⟨.op (.load 4 true (.slot 14)), none, none⟩, 
  ⟨.call 38 [(.slot 13), (.slot 15)] false, none, none⟩, 
  ⟨.op (.not (.slot 16)), some 8, none⟩]) c12_11) c12_9
abbrev c12_13 : SCode := .seq (.reg [1045] [
  ⟨.op (.asg (.con (.bool false))), some 4, none⟩]) (.ret)
abbrev c12_14 : SCode := .cond (.slot 7) c12_13 (.skip)
abbrev c12_15 : SCode := .seq (.seq (.reg [15, 16, 17, 18, 19, 1050] [
  ⟨.op (.faddr 2 (.slot 2)), none, none⟩, 
  ⟨.op (.load 4 true (.slot 12)), none, none⟩, 
  ⟨.op (.faddr 2 (.slot 3)), none, none⟩, 
  ⟨.op (.load 4 true (.slot 14)), none, none⟩, 
  ⟨.call 38 [(.slot 13), (.slot 15)] false, none, none⟩, 
  ⟨.op (.not (.slot 16)), some 7, none⟩]) c12_14) c12_12
abbrev c12_16 : SCode := .seq (.reg [1045] [
  ⟨.op (.asg (.con (.bool false))), some 4, none⟩]) (.ret)
abbrev c12_17 : SCode := .cond (.slot 6) c12_16 (.skip)
abbrev c12_18 : SCode := .seq (.seq (.reg [10, 11, 12, 13, 1049] [
  ⟨.op (.faddr 1 (.slot 2)), none, none⟩, 
  ⟨.op (.load 1 false (.slot 12)), none, none⟩, 
  ⟨.op (.faddr 1 (.slot 3)), none, none⟩, 
  ⟨.op (.load 1 false (.slot 14)), none, none⟩, 
  ⟨.op (.bin .neq (.slot 13) (.slot 15)), some 6, none⟩]) c12_17) c12_15
abbrev c12_19 : SCode := .seq (.reg [1045] [
  ⟨.op (.asg (.con (.bool false))), some 4, none⟩]) (.ret)
abbrev c12_20 : SCode := .cond (.slot 5) c12_19 (.skip)
abbrev c12_21 : SCode := .seq (.seq (.reg [5, 6, 7, 8, 1049] [
  ⟨.op (.faddr 0 (.slot 2)), none, none⟩, 
  ⟨.op (.load 1 false (.slot 12)), none, none⟩, 
  ⟨.op (.faddr 0 (.slot 3)), none, none⟩, 
  ⟨.op (.load 1 false (.slot 14)), none, none⟩, 
  ⟨.op (.bin .neq (.slot 13) (.slot 15)), some 5, none⟩]) c12_20) c12_18
abbrev s12 : SCode := .seq (.reg [1045, 1046, 1047] [
  ⟨.op (.box 34 19 (.slot 0)), some 2, none⟩, 
  ⟨.op (.box 34 19 (.slot 1)), some 3, none⟩, 
  ⟨.op (.asg (.con (.bool false))), some 4, none⟩]) c12_21
theorem ok12 : okFn Go.Proofs.Try.prog Go.Proofs.Try.f12 v12 s12 r12 2 = true := by kernel_rfl

def v15 : List Nat := [0, 1, 2, 4, 10, 16]
def r15 : List SRes := [.tmp 3]
abbrev c15_0 : SCode := .seq (.reg [17, 1019] [
  ⟨.op (.mv (.slot 1)), none, none⟩, 
  ⟨.op (.asg (.slot 6)), some 3, none⟩]) (.ret)
abbrev c15_1 : SCode := .seq (.reg [1018] [
  ⟨.op (.asg (.con (.int .i64 (-1)))), some 3, none⟩]) (.ret)
abbrev c15_2 : SCode := .cond (.slot 5) c15_1 (.skip)
abbrev c15_3 : SCode := .seq (.seq (.reg [15, 1019] [
  ⟨.op (.mv (.slot 1)), none, none⟩, 
  ⟨.op (.bin .lss (.slot 6) (.con (.int .i64 0))), some 5, none⟩]) c15_2) c15_0
abbrev c15_4 : SCode := .seq (.reg [11, 12, 13, 14, 1022] [
  ⟨.op (.faddr 1 (.slot 2)), none, none⟩, 
  ⟨.op (.load 1 false (.slot 6)), none, none⟩, 
  ⟨.op (.mv (.slot 1)), none, none⟩, 
  ⟨.call 32 [(.slot 7), (.slot 8)] false, none, none⟩, 
  ⟨.op (.asg (.slot 9)), some 1, none⟩]) c15_3
abbrev c15_5 : SCode := .seq (.reg [1018] [
  ⟨.op (.asg (.con (.int .i64 (-1)))), some 3, none⟩]) (.ret)
abbrev c15_6 : SCode := .cond (.slot 4) c15_5 (.skip)
abbrev c15_7 : SCode := .seq (.seq (.reg [9, 1019] [
  ⟨.op (.mv (.slot 1)), none, none⟩, 
  ⟨.op (.bin .lss (.slot 6) (.con (.int .i64 0))), some 4, none⟩]) c15_6) c15_4
abbrev c15_8 : SCode := .seq (.reg [5, 6, 7, 8, 1022] [
  ⟨.op (.faddr 0 (.slot 2)), none, none⟩, 
  ⟨.op (.load 1 false (.slot 6)), none, none⟩, 
  ⟨.op (.mv (.slot 1)), none, none⟩, 
  ⟨.call 41 [(.slot 7), (.slot 8)] false, none, none⟩, 
  ⟨.op (.asg (.slot 9)), some 1, none⟩]) c15_7
abbrev s15 : SCode := .seq (.reg [1018, 1019] [
  ⟨.op (.box 42 2 (.slot 0)), some 2, none⟩, 
  ⟨.op (.asg (.con (.int .i64 0))), some 3, none⟩]) c15_8
theorem ok15 : okFn Go.Proofs.Try.prog Go.Proofs.Try.f15 v15 s15 r15 2 = true := by kernel_rfl

def v16 : List Nat := [0, 1, 2, 3, 4, 15, 5]
def r16 : List SRes := [.cell 2 2 true]
abbrev c16_0 : SCode := .seq (.reg [30, 1032] [
  ⟨.op (.load 2 true (.slot 3)), none, none⟩, 
  ⟨.op (.store 2 true (.slot 2) (.slot 7)), none, none⟩]) (.ret)
abbrev c16_1 : SCode := .reg [16, 17, 1033] [
  ⟨.op (.mv (.slot 4)), none, none⟩, 
  ⟨.op (.bin .add (.slot 7) (.con (.int .i64 1))), none, none⟩, 
  ⟨.op (.asg (.slot 8)), some 4, none⟩]
abbrev c16_2 : SCode := .reg [24, 25, 26, 27, 28, 29, 1037] [
  ⟨.op (.faddr 1 (.slot 3)), none, none⟩, 
  ⟨.op (.load 1 false (.slot 7)), none, none⟩, 
  ⟨.op (.load 19 true (.slot 6)), none, none⟩, 
  ⟨.op (.bsl 34 1 [(.int .i64 0), (.str []), (.int .i64 0), (.int .i64 0), (.str []), (.osl 0 31 0 []), (.int .i64 0), (.int .i64 0), (.str []), (.osl 0 31 0 []), (.int .i64 0), (.int .i64 0), (.str []), (.osl 0 31 0 []), (.int .i64 0), (.int .i64 0), (.str []), (.osl 0 31 0 []), (.osl 0 34 0 [])] [(0, 19, (.slot 9))]), none, none⟩, 
  ⟨.op (.append 34 19 (.slot 8) (.slot 10)), none, none⟩, 
  ⟨.op (.faddr 1 (.slot 3)), none, none⟩, 
  ⟨.op (.store 1 true (.slot 12) (.slot 11)), none, none⟩]
abbrev c16_3 : SCode := .seq (.block 1 (.seq (.reg [18, 19, 20, 21, 22, 23, 1037, 1038] [
  ⟨.op (.faddr 1 (.slot 1)), none, none⟩, 
  ⟨.op (.load 1 false (.slot 7)), none, none⟩, 
  ⟨.op (.mv (.slot 4)), none, none⟩, 
  ⟨.op (.iaddr 19 (.slot 8) (.slot 9)), none, none⟩, 
  ⟨.op (.load 19 true (.slot 10)), none, none⟩, 
  ⟨.call 9 [(.slot 11)] false, none, none⟩, 
  ⟨.op (.mk 34 [(.int .i64 0), (.str []), (.int .i64 0), (.int .i64 0), (.str []), (.osl 0 31 0 []), (.int .i64 0), (.int .i64 0), (.str []), (.osl 0 31 0 []), (.int .i64 0), (.int .i64 0), (.str []), (.osl 0 31 0 []), (.int .i64 0), (.int .i64 0), (.str []), (.osl 0 31 0 []), (.osl 0 34 0 [])]), some 6, none⟩, 
  ⟨.op (.store 19 true (.slot 6) (.slot 12)), none, none⟩]) c16_2)) c16_1
abbrev c16_4 : SCode := .cond (.slot 5) (.skip) (.exit 0)
abbrev b16_0 : SCode := .seq (.seq (.reg [11, 12, 13, 14, 1035] [
  ⟨.op (.mv (.slot 4)), none, none⟩, 
  ⟨.op (.faddr 1 (.slot 1)), none, none⟩, 
  ⟨.op (.load 1 false (.slot 8)), none, none⟩, 
  ⟨.op (.len false (.slot 9)), none, none⟩, 
  ⟨.op (.bin .lss (.slot 7) (.slot 10)), some 5, none⟩]) c16_4) c16_3
def l16_0 : SCode := .loop b16_0
abbrev c16_6 : SCode := .block 0 (l16_0)
abbrev c16_7 : SCode := .seq (.seq (.reg [1031] [
  ⟨.op (.asg (.con (.int .i64 0))), some 4, none⟩]) c16_6) c16_0
abbrev c16_8 : SCode := .seq (.reg [6, 7, 8, 9, 10, 1036, 1037] [
  ⟨.op (.bsl 88 0 [(.str []), (.int .i64 0)] []), none, none⟩, 
  ⟨.op (.faddr 0 (.slot 1)), none, none⟩, 
  ⟨.op (.load 1 false (.slot 8)), none, none⟩, 
  ⟨.op (.append 88 2 (.slot 7) (.slot 9)), none, none⟩, 
  ⟨.op (.build [(.osl 0 88 0 []), (.osl 0 34 0 [])] [(0, 1, (.slot 10))]), none, none⟩, 
  ⟨.op (.mk 46 [(.osl 0 88 0 []), (.osl 0 34 0 [])]), some 3, none⟩, 
  ⟨.op (.store 2 true (.slot 3) (.slot 11)), none, none⟩]) c16_7
abbrev s16 : SCode := .seq (.reg [1031, 1032] [
  ⟨.op (.box 46 2 (.slot 0)), some 1, none⟩, 
  ⟨.op (.mk 46 [(.osl 0 88 0 []), (.osl 0 34 0 [])]), some 2, none⟩]) c16_8
theorem ok16 : okFn Go.Proofs.Try.prog Go.Proofs.Try.f16 v16 s16 r16 1 = true := by kernel_rfl

def v17 : List Nat := [0, 1, 2, 3]
def r17 : List SRes := [.cell 2 2 true]
abbrev c17_0 : SCode := .seq (.reg [12, 1014] [
  ⟨.op (.load 2 true (.slot 3)), none, none⟩, 
  ⟨.op (.store 2 true (.slot 2) (.slot 4)), none, none⟩]) (.ret)
abbrev c17_1 : SCode := .seq (.reg [8, 9, 10, 11, 1017] [
  ⟨.op (.faddr 1 (.slot 1)), none, none⟩, 
  ⟨.op (.load 1 false (.slot 4)), none, none⟩, 
  ⟨.call 35 [(.slot 5)] false, none, none⟩, 
  ⟨.op (.faddr 1 (.slot 3)), none, none⟩, 
  ⟨.op (.store 1 true (.slot 7) (.slot 6)), none, none⟩]) c17_0
abbrev c17_2 : SCode := .seq (.reg [4, 5, 6, 7, 1017] [
  ⟨.op (.faddr 0 (.slot 1)), none, none⟩, 
  ⟨.op (.load 1 false (.slot 4)), none, none⟩, 
  ⟨.call 42 [(.slot 5)] false, none, none⟩, 
  ⟨.op (.faddr 0 (.slot 3)), none, none⟩, 
  ⟨.op (.store 1 true (.slot 7) (.slot 6)), none, none⟩]) c17_1
abbrev c17_3 : SCode := .seq (.reg [1013] [
  ⟨.op (.mk 46 [(.osl 0 88 0 []), (.osl 0 34 0 [])]), some 3, none⟩]) c17_2
abbrev s17 : SCode := .seq (.reg [1013, 1014] [
  ⟨.op (.box 42 2 (.slot 0)), some 1, none⟩, 
  ⟨.op (.mk 46 [(.osl 0 88 0 []), (.osl 0 34 0 [])]), some 2, none⟩]) c17_3
theorem ok17 : okFn Go.Proofs.Try.prog Go.Proofs.Try.f17 v17 s17 r17 1 = true := by kernel_rfl

def v18 : List Nat := [0, 1, 2, 3]
def r18 : List SRes := [.cell 2 2 true]
abbrev c18_0 : SCode := .seq (.reg [12, 1014] [
  ⟨.op (.load 2 true (.slot 3)), none, none⟩, 
  ⟨.op (.store 2 true (.slot 2) (.slot 4)), none, none⟩]) (.ret)
abbrev c18_1 : SCode := .seq (.reg [8, 9, 10, 11, 1017] [
  ⟨.op (.faddr 1 (.slot 1)), none, none⟩, 
  ⟨.op (.load 1 false (.slot 4)), none, none⟩, 
  ⟨.call 37 [(.slot 5)] false, none, none⟩, 
  ⟨.op (.faddr 1 (.slot 3)), none, none⟩, 
  ⟨.op (.store 1 true (.slot 7) (.slot 6)), none, none⟩]) c18_0
abbrev c18_2 : SCode := .seq (.reg [4, 5, 6, 7, 1017, 1018] [
  ⟨.op (.faddr 0 (.slot 1)), none, none⟩, 
  ⟨.op (.load 1 false (.slot 4)), none, none⟩, 
  ⟨.op (.build [(.osl 0 88 0 []), (.osl 0 34 0 [])] [(0, 1, (.slot 5))]), none, none⟩, 
  ⟨.call 43 [(.slot 6)] false, none, none⟩, 
  ⟨.op (.mk 46 [(.osl 0 88 0 []), (.osl 0 34 0 [])]), some 3, none⟩, 
  ⟨.op (.store 2 true (.slot 3) (.slot 7)), none, none⟩]) c18_1
abbrev s18 : SCode := .seq (.reg [1013, 1014] [
  ⟨.op (.box 46 2 (.slot 0)), some 1, none⟩, 
  ⟨.op (.mk 46 [(.osl 0 88 0 []), (.osl 0 34 0 [])]), some 2, none⟩]) c18_2
theorem ok18 : okFn Go.Proofs.Try.prog Go.Proofs.Try.f18 v18 s18 r18 1 = true := by kernel_rfl

def v19 : List Nat := [0, 1, 2, 3, 4, 10, 16]
def r19 : List SRes := [.tmp 4]
abbrev c19_0 : SCode := .seq (.reg [1017] [
  ⟨.op (.asg (.con (.bool true))), some 4, none⟩]) (.ret)
abbrev c19_1 : SCode := .seq (.reg [1017] [
  ⟨.op (.asg (.con (.bool false))), some 4, none⟩]) (.ret)
abbrev c19_2 : SCode := .cond (.slot 6) c19_1 (.skip)
abbrev c19_3 : SCode := .seq (.seq (.reg [11, 12, 13, 14, 15, 1022] [
  ⟨.op (.faddr 1 (.slot 2)), none, none⟩, 
  ⟨.op (.load 1 false (.slot 7)), none, none⟩, 
  ⟨.op (.faddr 1 (.slot 3)), none, none⟩, 
  ⟨.op (.load 1 false (.slot 9)), none, none⟩, 
  ⟨.call 28 [(.slot 8), (.slot 10)] false, none, none⟩, 
  ⟨.op (.not (.slot 11)), some 6, none⟩]) c19_2) c19_0
abbrev c19_4 : SCode := .seq (.reg [1017] [
  ⟨.op (.asg (.con (.bool false))), some 4, none⟩]) (.ret)
abbrev c19_5 : SCode := .cond (.slot 5) c19_4 (.skip)
abbrev c19_6 : SCode := .seq (.seq (.reg [5, 6, 7, 8, 9, 1022] [
  ⟨.op (.faddr 0 (.slot 2)), none, none⟩, 
  ⟨.op (.load 1 false (.slot 7)), none, none⟩, 
  ⟨.op (.faddr 0 (.slot 3)), none, none⟩, 
  ⟨.op (.load 1 false (.slot 9)), none, none⟩, 
  ⟨.call 44 [(.slot 8), (.slot 10)] false, none, none⟩, 
  ⟨.op (.not (.slot 11)), some 5, none⟩]) c19_5) c19_3
abbrev s19 : SCode := .seq (.reg [1017, 1018, 1019] [
  ⟨.op (.box 46 2 (.slot 0)), some 2, none⟩, 
  ⟨.op (.box 46 2 (.slot 1)), some 3, none⟩, 
  ⟨.op (.asg (.con (.bool false))), some 4, none⟩]) c19_6
theorem ok19 : okFn Go.Proofs.Try.prog Go.Proofs.Try.f19 v19 s19 r19 2 = true := by kernel_rfl

def v20 : List Nat := [0, 1, 2, 4]
def r20 : List SRes := [.tmp 3]
abbrev c20_0 : SCode := .seq (.reg [13, 1015] [
  ⟨.op (.mv (.slot 1)), none, none⟩, 
  ⟨.op (.asg (.slot 4)), some 3, none⟩]) (.ret)
abbrev c20_1 : SCode := .seq (.reg [9, 10, 11, 12, 1018] [
  ⟨.op (.faddr 1 (.slot 2)), none, none⟩, 
  ⟨.op (.load 1 false (.slot 4)), none, none⟩, 
  ⟨.op (.mv (.slot 1)), none, none⟩, 
  ⟨.callm (.con (.fn 29 [])) [((.slot 5), true), ((.slot 6), false)], none, none⟩, 
  ⟨.op (.asg (.slot 7)), some 1, none⟩]) c20_0
abbrev c20_2 : SCode := .seq (.reg [5, 6, 7, 8, 1018] [
  ⟨.op (.faddr 0 (.slot 2)), none, none⟩, 
  ⟨.op (.load 1 false (.slot 4)), none, none⟩, 
  ⟨.op (.mv (.slot 1)), none, none⟩, 
  ⟨.callm (.con (.fn 45 [])) [((.slot 5), true), ((.slot 6), false)], none, none⟩, 
  ⟨.op (.asg (.slot 7)), some 1, none⟩]) c20_1
abbrev s20 : SCode := .seq (.reg [1014, 1015] [
  ⟨.op (.box 46 2 (.slot 0)), some 2, none⟩, 
  ⟨.op (.asg (.con (.int .i64 0))), some 3, none⟩]) c20_2
theorem ok20 : okFn Go.Proofs.Try.prog Go.Proofs.Try.f20 v20 s20 r20 2 = true := by kernel_rfl

def v21 : List Nat := [0, 1, 2, 4, 10, 16]
def r21 : List SRes := [.tmp 3]
abbrev c21_0 : SCode := .seq (.reg [17, 1019] [
  ⟨.op (.mv (.slot 1)), none, none⟩, 
  ⟨.op (.asg (.slot 6)), some 3, none⟩]) (.ret)
abbrev c21_1 : SCode := .seq (.reg [1018] [
  ⟨.op (.asg (.con (.int .i64 (-1)))), some 3, none⟩]) (.ret)
abbrev c21_2 : SCode := .cond (.slot 5) c21_1 (.skip)
abbrev c21_3 : SCode := .seq (.seq (.reg [15, 1019] [
  ⟨.op (.mv (.slot 1)), none, none⟩, 
  ⟨.op (.bin .lss (.slot 6) (.con (.int .i64 0))), some 5, none⟩]) c21_2) c21_0
abbrev c21_4 : SCode := .seq (.reg [11, 12, 13, 14, 1022] [
  ⟨.op (.faddr 1 (.slot 2)), none, none⟩, 
  ⟨.op (.load 1 false (.slot 6)), none, none⟩, 
  ⟨.op (.mv (.slot 1)), none, none⟩, 
  ⟨.call 30 [(.slot 7), (.slot 8)] false, none, none⟩, 
  ⟨.op (.asg (.slot 9)), some 1, none⟩]) c21_3
abbrev c21_5 : SCode := .seq (.reg [1018] [
  ⟨.op (.asg (.con (.int .i64 (-1)))), some 3, none⟩]) (.ret)
abbrev c21_6 : SCode := .cond (.slot 4) c21_5 (.skip)
abbrev c21_7 : SCode := .seq (.seq (.reg [9, 1019] [
  ⟨.op (.mv (.slot 1)), none, none⟩, 
  ⟨.op (.bin .lss (.slot 6) (.con (.int .i64 0))), some 4, none⟩]) c21_6) c21_4
abbrev c21_8 : SCode := .seq (.reg [5, 6, 7, 8, 1022] [
  ⟨.op (.faddr 0 (.slot 2)), none, none⟩, 
  ⟨.op (.load 1 false (.slot 6)), none, none⟩, 
  ⟨.op (.mv (.slot 1)), none, none⟩, 
  ⟨.call 46 [(.slot 7), (.slot 8)] false, none, none⟩, 
  ⟨.op (.asg (.slot 9)), some 1, none⟩]) c21_7
abbrev s21 : SCode := .seq (.reg [1018, 1019] [
  ⟨.op (.box 46 2 (.slot 0)), some 2, none⟩, 
  ⟨.op (.asg (.con (.int .i64 0))), some 3, none⟩]) c21_8
theorem ok21 : okFn Go.Proofs.Try.prog Go.Proofs.Try.f21 v21 s21 r21 2 = true := by kernel_rfl

def v28 : List Nat := [0, 1, 4, 10, 5, 14, 26]
def r28 : List SRes := [.tmp 2]
abbrev c28_0 : SCode := .seq (.reg [1027] [
  ⟨.op (.asg (.con (.bool true))), some 2, none⟩]) (.ret)
abbrev c28_1 : SCode := .reg [15, 16, 1029] [
  ⟨.op (.mv (.slot 4)), none, none⟩, 
  ⟨.op (.bin .add (.slot 7) (.con (.int .i64 1))), none, none⟩, 
  ⟨.op (.asg (.slot 8)), some 4, none⟩]
abbrev c28_2 : SCode := .seq (.reg [1027] [
  ⟨.op (.asg (.con (.bool false))), some 2, none⟩]) (.ret)
abbrev c28_3 : SCode := .cond (.slot 6) c28_2 (.skip)
abbrev c28_4 : SCode := .seq (.block 1 (.seq (.dreg [17, 18, 19, 20, 21, 22, 23, 24, 25, 1036] [
  ⟨.op (.mv (.slot 0)), none, none⟩, 
  ⟨.op (.mv (.slot 4)), none, none⟩, 
  ⟨.op (.iaddr 19 (.slot 7) (.slot 8)), none, none⟩, 
  ⟨.op (.load 19 true (.slot 9)), none, none⟩, 
  ⟨.op (.mv (.slot 1)), none, none⟩, 
  ⟨.op (.mv (.slot 4)), none, none⟩, 
  ⟨.op (.iaddr 19 (.slot 11) (.slot 12)), none, none⟩, 
  ⟨.op (.load 19 true (.slot 13)), none, none⟩, 
  ⟨.call 12 [(.slot 10), (.slot 14)] false, none, none⟩, 
  ⟨.op (.not (.slot 15)), some 6, none⟩]
  [[], [], [0, 1], [0, 1, 2], [], [], [4, 5], [4, 5, 6], [0, 1, 2, 3, 4, 5, 6, 7], [0, 1, 2, 3, 4, 5, 6, 7, 8]] 9 [] [([], none), ([false], none), ([true, true], none), ([true, true, true], none), ([false, false, false, false], none), ([false, false, false, false, false], none), ([false, false, false, false, true, true], none), ([false, false, false, false, true, true, true], none), ([true, true, true, true, true, true, true, true], none)] [true, true, true, true, true, true, true, true, true]) c28_3)) c28_1
abbrev c28_5 : SCode := .cond (.slot 5) (.skip) (.exit 0)
abbrev b28_0 : SCode := .seq (.seq (.reg [11, 12, 13, 1030] [
  ⟨.op (.mv (.slot 4)), none, none⟩, 
  ⟨.op (.mv (.slot 0)), none, none⟩, 
  ⟨.op (.len false (.slot 8)), none, none⟩, 
  ⟨.op (.bin .lss (.slot 7) (.slot 9)), some 5, none⟩]) c28_5) c28_4
def l28_0 : SCode := .loop b28_0
abbrev c28_7 : SCode := .block 0 (l28_0)
abbrev c28_8 : SCode := .seq (.seq (.reg [1027] [
  ⟨.op (.asg (.con (.int .i64 0))), some 4, none⟩]) c28_7) c28_0
abbrev c28_9 : SCode := .seq (.reg [1027] [
  ⟨.op (.asg (.con (.bool false))), some 2, none⟩]) (.ret)
abbrev c28_10 : SCode := .cond (.slot 3) c28_9 (.skip)
abbrev c28_11 : SCode := .seq (.seq (.reg [6, 7, 8, 9, 1031] [
  ⟨.op (.mv (.slot 0)), none, none⟩, 
  ⟨.op (.len false (.slot 7)), none, none⟩, 
  ⟨.op (.mv (.slot 1)), none, none⟩, 
  ⟨.op (.len false (.slot 9)), none, none⟩, 
  ⟨.op (.bin .neq (.slot 8) (.slot 10)), some 3, none⟩]) c28_10) c28_8
abbrev s28 : SCode := .seq (.reg [1027] [
  ⟨.op (.asg (.con (.bool false))), some 2, none⟩]) c28_11
theorem ok28 : okFn Go.Proofs.Try.prog Go.Proofs.Try.f28 v28 s28 r28 2 = true := by kernel_rfl

def v29 : List Nat := [0, 1, 4, 5, 9]
def r29 : List SRes := [.tmp 2]
abbrev c29_0 : SCode := .seq (.reg [166, 1168] [
  ⟨.op (.mv (.slot 1)), none, none⟩, 
  ⟨.op (.asg (.slot 5)), some 2, none⟩]) (.ret)
abbrev c29_1 : SCode := .reg [10, 11, 1169] [
  ⟨.op (.mv (.slot 3)), none, none⟩, 
  ⟨.op (.bin .add (.slot 5) (.con (.int .i64 1))), none, none⟩, 
  ⟨.op (.asg (.slot 6)), some 3, none⟩]
abbrev c29_2 : SCode := .reg [159, 160, 161, 162, 163, 164, 165, 1174] [
  ⟨.op (.mv (.slot 0)), none, none⟩, 
  ⟨.op (.mv (.slot 3)), none, none⟩, 
  ⟨.op (.iaddr 19 (.slot 5) (.slot 6)), none, none⟩, 
  ⟨.op (.faddr 18 (.slot 7)), none, none⟩, 
  ⟨.op (.load 1 false (.slot 8)), none, none⟩, 
  ⟨.op (.mv (.slot 1)), none, none⟩, 
  ⟨.callm (.con (.fn 29 [])) [((.slot 9), true), ((.slot 10), false)], none, none⟩, 
  ⟨.op (.asg (.slot 11)), some 1, none⟩]
abbrev c29_3 : SCode := .seq (.reg [151, 152, 153, 154, 155, 156, 157, 158, 1175] [
  ⟨.op (.mv (.slot 0)), none, none⟩, 
  ⟨.op (.mv (.slot 3)), none, none⟩, 
  ⟨.op (.iaddr 19 (.slot 5) (.slot 6)), none, none⟩, 
  ⟨.op (.faddr 14 (.slot 7)), none, none⟩, 
  ⟨.op (.faddr 3 (.slot 8)), none, none⟩, 
  ⟨.op (.load 1 false (.slot 9)), none, none⟩, 
  ⟨.op (.mv (.slot 1)), none, none⟩, 
  ⟨.callm (.con (.fn 55 [])) [((.slot 10), true), ((.slot 11), false)], none, none⟩, 
  ⟨.op (.asg (.slot 12)), some 1, none⟩]) c29_2
abbrev c29_4 : SCode := .seq (.reg [149, 150, 1169] [
  ⟨.op (.mv (.slot 1)), none, none⟩, 
  ⟨.op (.bin .add (.slot 5) (.con (.int .i64 1))), none, none⟩, 
  ⟨.op (.asg (.slot 6)), some 1, none⟩]) c29_3
abbrev c29_5 : SCode := .seq (.reg [142, 143, 144, 145, 146, 147, 148, 1174] [
  ⟨.op (.mv (.slot 0)), none, none⟩, 
  ⟨.op (.mv (.slot 3)), none, none⟩, 
  ⟨.op (.mv (.slot 1)), none, none⟩, 
  ⟨.call 54 [(.slot 7)] false, none, none⟩, 
  ⟨.op (.iaddr 19 (.slot 5) (.slot 6)), none, none⟩, 
  ⟨.op (.faddr 14 (.slot 9)), none, none⟩, 
  ⟨.op (.faddr 2 (.slot 10)), none, none⟩, 
  ⟨.op (.store 1 false (.slot 11) (.slot 8)), none, none⟩]) c29_4
abbrev c29_6 : SCode := .seq (.reg [140, 141, 1169] [
  ⟨.op (.mv (.slot 1)), none, none⟩, 
  ⟨.op (.bin .add (.slot 5) (.con (.int .i64 1))), none, none⟩, 
  ⟨.op (.asg (.slot 6)), some 1, none⟩]) c29_5
abbrev c29_7 : SCode := .seq (.reg [134, 135, 136, 137, 138, 139, 1173] [
  ⟨.op (.mv (.slot 0)), none, none⟩, 
  ⟨.op (.mv (.slot 3)), none, none⟩, 
  ⟨.op (.mv (.slot 1)), none, none⟩, 
  ⟨.op (.iaddr 19 (.slot 5) (.slot 6)), none, none⟩, 
  ⟨.op (.faddr 14 (.slot 8)), none, none⟩, 
  ⟨.op (.faddr 1 (.slot 9)), none, none⟩, 
  ⟨.op (.store 1 false (.slot 10) (.slot 7)), none, none⟩]) c29_6
abbrev c29_8 : SCode := .seq (.reg [132, 133, 1169] [
  ⟨.op (.mv (.slot 1)), none, none⟩, 
  ⟨.op (.bin .add (.slot 5) (.con (.int .i64 1))), none, none⟩, 
  ⟨.op (.asg (.slot 6)), some 1, none⟩]) c29_7
abbrev c29_9 : SCode := .seq (.reg [126, 127, 128, 129, 130, 131, 1173] [
  ⟨.op (.mv (.slot 0)), none, none⟩, 
  ⟨.op (.mv (.slot 3)), none, none⟩, 
  ⟨.op (.mv (.slot 1)), none, none⟩, 
  ⟨.op (.iaddr 19 (.slot 5) (.slot 6)), none, none⟩, 
  ⟨.op (.faddr 14 (.slot 8)), none, none⟩, 
  ⟨.op (.faddr 0 (.slot 9)), none, none⟩, 
  ⟨.op (.store 1 false (.slot 10) (.slot 7)), none, none⟩]) c29_8
abbrev c29_10 : SCode := .seq (.reg [118, 119, 120, 121, 122, 123, 124, 125, 1175] [
  ⟨.op (.mv (.slot 0)), none, none⟩, 
  ⟨.op (.mv (.slot 3)), none, none⟩, 
  ⟨.op (.iaddr 19 (.slot 5) (.slot 6)), none, none⟩, 
  ⟨.op (.faddr 10 (.slot 7)), none, none⟩, 
  ⟨.op (.faddr 3 (.slot 8)), none, none⟩, 
  ⟨.op (.load 1 false (.slot 9)), none, none⟩, 
  ⟨.op (.mv (.slot 1)), none, none⟩, 
  ⟨.callm (.con (.fn 55 [])) [((.slot 10), true), ((.slot 11), false)], none, none⟩, 
  ⟨.op (.asg (.slot 12)), some 1, none⟩]) c29_9
abbrev c29_11 : SCode := .seq (.reg [116, 117, 1169] [
  ⟨.op (.mv (.slot 1)), none, none⟩, 
  ⟨.op (.bin .add (.slot 5) (.con (.int .i64 1))), none, none⟩, 
  ⟨.op (.asg (.slot 6)), some 1, none⟩]) c29_10
abbrev c29_12 : SCode := .seq (.reg [109, 110, 111, 112, 113, 114, 115, 1174] [
  ⟨.op (.mv (.slot 0)), none, none⟩, 
  ⟨.op (.mv (.slot 3)), none, none⟩, 
  ⟨.op (.mv (.slot 1)), none, none⟩, 
  ⟨.call 54 [(.slot 7)] false, none, none⟩, 
  ⟨.op (.iaddr 19 (.slot 5) (.slot 6)), none, none⟩, 
  ⟨.op (.faddr 10 (.slot 9)), none, none⟩, 
  ⟨.op (.faddr 2 (.slot 10)), none, none⟩, 
  ⟨.op (.store 1 false (.slot 11) (.slot 8)), none, none⟩]) c29_11
abbrev c29_13 : SCode := .seq (.reg [107, 108, 1169] [
  ⟨.op (.mv (.slot 1)), none, none⟩, 
  ⟨.op (.bin .add (.slot 5) (.con (.int .i64 1))), none, none⟩, 
  ⟨.op (.asg (.slot 6)), some 1, none⟩]) c29_12
abbrev c29_14 : SCode := .seq (.reg [101, 102, 103, 104, 105, 106, 1173] [
  ⟨.op (.mv (.slot 0)), none, none⟩, 
  ⟨.op (.mv (.slot 3)), none, none⟩, 
  ⟨.op (.mv (.slot 1)), none, none⟩, 
  ⟨.op (.iaddr 19 (.slot 5) (.slot 6)), none, none⟩, 
  ⟨.op (.faddr 10 (.slot 8)), none, none⟩, 
  ⟨.op (.faddr 1 (.slot 9)), none, none⟩, 
  ⟨.op (.store 1 false (.slot 10) (.slot 7)), none, none⟩]) c29_13
abbrev c29_15 : SCode := .seq (.reg [99, 100, 1169] [
  ⟨.op (.mv (.slot 1)), none, none⟩, 
  ⟨.op (.bin .add (.slot 5) (.con (.int .i64 1))), none, none⟩, 
  ⟨.op (.asg (.slot 6)), some 1, none⟩]) c29_14
abbrev c29_16 : SCode := .seq (.reg [93, 94, 95, 96, 97, 98, 1173] [
  ⟨.op (.mv (.slot 0)), none, none⟩, 
  ⟨.op (.mv (.slot 3)), none, none⟩, 
  ⟨.op (.mv (.slot 1)), none, none⟩, 
  ⟨.op (.iaddr 19 (.slot 5) (.slot 6)), none, none⟩, 
  ⟨.op (.faddr 10 (.slot 8)), none, none⟩, 
  ⟨.op (.faddr 0 (.slot 9)), none, none⟩, 
  ⟨.op (.store 1 false (.slot 10) (.slot 7)), none, none⟩]) c29_15
abbrev c29_17 : SCode := .seq (.reg [85, 86, 87, 88, 89, 90, 91, 92, 1175] [
  ⟨.op (.mv (.slot 0)), none, none⟩, 
  ⟨.op (.mv (.slot 3)), none, none⟩, 
  ⟨.op (.iaddr 19 (.slot 5) (.slot 6)), none, none⟩, 
  ⟨.op (.faddr 6 (.slot 7)), none, none⟩, 
  ⟨.op (.faddr 3 (.slot 8)), none, none⟩, 
  ⟨.op (.load 1 false (.slot 9)), none, none⟩, 
  ⟨.op (.mv (.slot 1)), none, none⟩, 
  ⟨.callm (.con (.fn 55 [])) [((.slot 10), true), ((.slot 11), false)], none, none⟩, 
  ⟨.op (.asg (.slot 12)), some 1, none⟩]) c29_16
abbrev c29_18 : SCode := .seq (.reg [83, 84, 1169] [
  ⟨.op (.mv (.slot 1)), none, none⟩, 
  ⟨.op (.bin .add (.slot 5) (.con (.int .i64 1))), none, none⟩, 
  ⟨.op (.asg (.slot 6)), some 1, none⟩]) c29_17
abbrev c29_19 : SCode := .seq (.reg [76, 77, 78, 79, 80, 81, 82, 1174] [
  ⟨.op (.mv (.slot 0)), none, none⟩, 
  ⟨.op (.mv (.slot 3)), none, none⟩, 
  ⟨.op (.mv (.slot 1)), none, none⟩, 
  ⟨.call 54 [(.slot 7)] false, none, none⟩, 
  ⟨.op (.iaddr 19 (.slot 5) (.slot 6)), none, none⟩, 
  ⟨.op (.faddr 6 (.slot 9)), none, none⟩, 
  ⟨.op (.faddr 2 (.slot 10)), none, none⟩, 
  ⟨.op (.store 1 false (.slot 11) (.slot 8)), none, none⟩]) c29_18
abbrev c29_20 : SCode := .seq (.reg [74, 75, 1169] [
  ⟨.op (.mv (.slot 1)), none, none⟩, 
  ⟨.op (.bin .add (.slot 5) (.con (.int .i64 1))), none, none⟩, 
  ⟨.op (.asg (.slot 6)), some 1, none⟩]) c29_19
abbrev c29_21 : SCode := .seq (.reg [68, 69, 70, 71, 72, 73, 1173] [
  ⟨.op (.mv (.slot 0)), none, none⟩, 
  ⟨.op (.mv (.slot 3)), none, none⟩, 
  ⟨.op (.mv (.slot 1)), none, none⟩, 
  ⟨.op (.iaddr 19 (.slot 5) (.slot 6)), none, none⟩, 
  ⟨.op (.faddr 6 (.slot 8)), none, none⟩, 
  ⟨.op (.faddr 1 (.slot 9)), none, none⟩, 
  ⟨.op (.store 1 false (.slot 10) (.slot 7)), none, none⟩]) c29_20
abbrev c29_22 : SCode := .seq (.reg [66, 67, 1169] [
  ⟨.op (.mv (.slot 1)), none, none⟩, 
  ⟨.op (.bin .add (.slot 5) (.con (.int .i64 1))), none, none⟩, 
  ⟨.op (.asg (.slot 6)), some 1, none⟩]) c29_21
abbrev c29_23 : SCode := .seq (.reg [60, 61, 62, 63, 64, 65, 1173] [
  ⟨.op (.mv (.slot 0)), none, none⟩, 
  ⟨.op (.mv (.slot 3)), none, none⟩, 
  ⟨.op (.mv (.slot 1)), none, none⟩, 
  ⟨.op (.iaddr 19 (.slot 5) (.slot 6)), none, none⟩, 
  ⟨.op (.faddr 6 (.slot 8)), none, none⟩, 
  ⟨.op (.faddr 0 (.slot 9)), none, none⟩, 
  ⟨.op (.store 1 false (.slot 10) (.slot 7)), none, none⟩]) c29_22
abbrev c29_24 : SCode := .seq (.reg [52, 53, 54, 55, 56, 57, 58, 59, 1175] [
  ⟨.op (.mv (.slot 0)), none, none⟩, 
  ⟨.op (.mv (.slot 3)), none, none⟩, 
  ⟨.op (.iaddr 19 (.slot 5) (.slot 6)), none, none⟩, 
  ⟨.op (.faddr 2 (.slot 7)), none, none⟩, 
  ⟨.op (.faddr 3 (.slot 8)), none, none⟩, 
  ⟨.op (.load 1 false (.slot 9)), none, none⟩, 
  ⟨.op (.mv (.slot 1)), none, none⟩, 
  ⟨.callm (.con (.fn 55 [])) [((.slot 10), true), ((.slot 11), false)], none, none⟩, 
  ⟨.op (.asg (.slot 12)), some 1, none⟩]) c29_23
abbrev c29_25 : SCode := .seq (.reg [50, 51, 1169] [
  ⟨.op (.mv (.slot 1)), none, none⟩, 
  ⟨.op (.bin .add (.slot 5) (.con (.int .i64 1))), none, none⟩, 
  ⟨.op (.asg (.slot 6)), some 1, none⟩]) c29_24
abbrev c29_26 : SCode := .seq (.reg [43, 44, 45, 46, 47, 48, 49, 1174] [
  ⟨.op (.mv (.slot 0)), none, none⟩, 
  ⟨.op (.mv (.slot 3)), none, none⟩, 
  ⟨.op (.mv (.slot 1)), none, none⟩, 
  ⟨.call 54 [(.slot 7)] false, none, none⟩, 
  ⟨.op (.iaddr 19 (.slot 5) (.slot 6)), none, none⟩, 
  ⟨.op (.faddr 2 (.slot 9)), none, none⟩, 
  ⟨.op (.faddr 2 (.slot 10)), none, none⟩, 
  ⟨.op (.store 1 false (.slot 11) (.slot 8)), none, none⟩]) c29_25
abbrev c29_27 : SCode := .seq (.reg [41, 42, 1169] [
  ⟨.op (.mv (.slot 1)), none, none⟩, 
  ⟨.op (.bin .add (.slot 5) (.con (.int .i64 1))), none, none⟩, 
  ⟨.op (.asg (.slot 6)), some 1, none⟩]) c29_26
abbrev c29_28 : SCode := .seq (.reg [35, 36, 37, 38, 39, 40, 1173] [
  ⟨.op (.mv (.slot 0)), none, none⟩, 
  ⟨.op (.mv (.slot 3)), none, none⟩, 
  ⟨.op (.mv (.slot 1)), none, none⟩, 
  ⟨.op (.iaddr 19 (.slot 5) (.slot 6)), none, none⟩, 
  ⟨.op (.faddr 2 (.slot 8)), none, none⟩, 
  ⟨.op (.faddr 1 (.slot 9)), none, none⟩, 
  ⟨.op (.store 1 false (.slot 10) (.slot 7)), none, none⟩]) c29_27
abbrev c29_29 : SCode := .seq (.reg [33, 34, 1169] [
  ⟨.op (.mv (.slot 1)), none, none⟩, 
  ⟨.op (.bin .add (.slot 5) (.con (.int .i64 1))), none, none⟩, 
  ⟨.op (.asg (.slot 6)), some 1, none⟩]) c29_28
abbrev c29_30 : SCode := .seq (.reg [27, 28, 29, 30, 31, 32, 1173] [
  ⟨.op (.mv (.slot 0)), none, none⟩, 
  ⟨.op (.mv (.slot 3)), none, none⟩, 
  ⟨.op (.mv (.slot 1)), none, none⟩, 
  ⟨.op (.iaddr 19 (.slot 5) (.slot 6)), none, none⟩, 
  ⟨.op (.faddr 2 (.slot 8)), none, none⟩, 
  ⟨.op (.faddr 0 (.slot 9)), none, none⟩, 
  ⟨.op (.store 1 false (.slot 10) (.slot 7)), none, none⟩]) c29_29
abbrev c29_31 : SCode := .seq (.reg [25, 26, 1169] [
  ⟨.op (.mv (.slot 1)), none, none⟩, 
  ⟨.op (.bin .add (.slot 5) (.con (.int .i64 1))), none, none⟩, 
  ⟨.op (.asg (.slot 6)), some 1, none⟩]) c29_30
abbrev c29_32 : SCode := .seq (.reg [19, 20, 21, 22, 23, 24, 1173] [
  ⟨.op (.mv (.slot 0)), none, none⟩, 
  ⟨.op (.mv (.slot 3)), none, none⟩, 
  ⟨.op (.mv (.slot 1)), none, none⟩, 
  ⟨.call 54 [(.slot 7)] false, none, none⟩, 
  ⟨.op (.iaddr 19 (.slot 5) (.slot 6)), none, none⟩, 
  ⟨.op (.faddr 1 (.slot 9)), none, none⟩, 
  ⟨.op (.store 1 false (.slot 10) (.slot 8)), none, none⟩]) c29_31
abbrev c29_33 : SCode := .seq (.reg [17, 18, 1169] [
  ⟨.op (.mv (.slot 1)), none, none⟩, 
  ⟨.op (.bin .add (.slot 5) (.con (.int .i64 1))), none, none⟩, 
  ⟨.op (.asg (.slot 6)), some 1, none⟩]) c29_32
abbrev c29_34 : SCode := .seq (.block 1 (.seq (.reg [12, 13, 14, 15, 16, 1172] [
  ⟨.op (.mv (.slot 0)), none, none⟩, 
  ⟨.op (.mv (.slot 3)), none, none⟩, 
  ⟨.op (.mv (.slot 1)), none, none⟩, 
  ⟨.op (.iaddr 19 (.slot 5) (.slot 6)), none, none⟩, 
  ⟨.op (.faddr 0 (.slot 8)), none, none⟩, 
  ⟨.op (.store 1 false (.slot 9) (.slot 7)), none, none⟩]) c29_33)) c29_1
abbrev c29_35 : SCode := .cond (.slot 4) (.skip) (.exit 0)
abbrev b29_0 : SCode := .seq (.seq (.reg [6, 7, 8, 1170] [
  ⟨.op (.mv (.slot 3)), none, none⟩, 
  ⟨.op (.mv (.slot 0)), none, none⟩, 
  ⟨.op (.len false (.slot 6)), none, none⟩, 
  ⟨.op (.bin .lss (.slot 5) (.slot 7)), some 4, none⟩]) c29_35) c29_34
def l29_0 : SCode := .loop b29_0
abbrev c29_37 : SCode := .block 0 (l29_0)
abbrev c29_38 : SCode := .seq (.seq (.reg [1167] [
  ⟨.op (.asg (.con (.int .i64 0))), some 3, none⟩]) c29_37) c29_0
abbrev s29 : SCode := .seq (.reg [1167] [
  ⟨.op (.asg (.con (.int .i64 0))), some 2, none⟩]) c29_38
theorem ok29 : okFn Go.Proofs.Try.prog Go.Proofs.Try.f29 v29 s29 r29 2 = true := by kernel_rfl

def v30 : List Nat := [0, 1, 4, 5, 9, 18, 28, 38, 48, 59, 71, 79, 89, 100, 112, 120, 130, 141, 153, 161, 171, 182, 194, 203]
def r30 : List SRes := [.tmp 2]
abbrev c30_0 : SCode := .seq (.reg [204, 1206] [
  ⟨.op (.mv (.slot 1)), none, none⟩, 
  ⟨.op (.asg (.slot 24)), some 2, none⟩]) (.ret)
abbrev c30_1 : SCode := .reg [10, 11, 1207] [
  ⟨.op (.mv (.slot 3)), none, none⟩, 
  ⟨.op (.bin .add (.slot 24) (.con (.int .i64 1))), none, none⟩, 
  ⟨.op (.asg (.slot 25)), some 3, none⟩]
abbrev c30_2 : SCode := .seq (.reg [1205] [
  ⟨.op (.asg (.con (.int .i64 (-1)))), some 2, none⟩]) (.ret)
abbrev c30_3 : SCode := .cond (.slot 23) c30_2 (.skip)
abbrev c30_4 : SCode := .seq (.reg [202, 1206] [
  ⟨.op (.mv (.slot 1)), none, none⟩, 
  ⟨.op (.bin .lss (.slot 24) (.con (.int .i64 0))), some 23, none⟩]) c30_3
abbrev c30_5 : SCode := .seq (.reg [195, 196, 197, 198, 199, 200, 201, 1212] [
  ⟨.op (.mv (.slot 0)), none, none⟩, 
  ⟨.op (.mv (.slot 3)), none, none⟩, 
  ⟨.op (.iaddr 19 (.slot 24) (.slot 25)), none, none⟩, 
  ⟨.op (.faddr 18 (.slot 26)), none, none⟩, 
  ⟨.op (.load 1 false (.slot 27)), none, none⟩, 
  ⟨.op (.mv (.slot 1)), none, none⟩, 
  ⟨.call 30 [(.slot 28), (.slot 29)] false, none, none⟩, 
  ⟨.op (.asg (.slot 30)), some 1, none⟩]) c30_4
abbrev c30_6 : SCode := .seq (.reg [1205] [
  ⟨.op (.asg (.con (.int .i64 (-1)))), some 2, none⟩]) (.ret)
abbrev c30_7 : SCode := .cond (.slot 22) c30_6 (.skip)
abbrev c30_8 : SCode := .seq (.seq (.reg [193, 1206] [
  ⟨.op (.mv (.slot 1)), none, none⟩, 
  ⟨.op (.bin .lss (.slot 24) (.con (.int .i64 0))), some 22, none⟩]) c30_7) c30_5
abbrev c30_9 : SCode := .seq (.reg [185, 186, 187, 188, 189, 190, 191, 192, 1213] [
  ⟨.op (.mv (.slot 0)), none, none⟩, 
  ⟨.op (.mv (.slot 3)), none, none⟩, 
  ⟨.op (.iaddr 19 (.slot 24) (.slot 25)), none, none⟩, 
  ⟨.op (.faddr 14 (.slot 26)), none, none⟩, 
  ⟨.op (.faddr 3 (.slot 27)), none, none⟩, 
  ⟨.op (.load 1 false (.slot 28)), none, none⟩, 
  ⟨.op (.mv (.slot 1)), none, none⟩, 
  ⟨.call 56 [(.slot 29), (.slot 30)] false, none, none⟩, 
  ⟨.op (.asg (.slot 31)), some 1, none⟩]) c30_8
abbrev c30_10 : SCode := .seq (.reg [183, 184, 1207] [
  ⟨.op (.mv (.slot 1)), none, none⟩, 
  ⟨.op (.bin .add (.slot 24) (.con (.int .i64 1))), none, none⟩, 
  ⟨.op (.asg (.slot 25)), some 1, none⟩]) c30_9
abbrev c30_11 : SCode := .seq (.reg [1205] [
  ⟨.op (.asg (.con (.int .i64 (-1)))), some 2, none⟩]) (.ret)
abbrev c30_12 : SCode := .cond (.slot 21) c30_11 (.skip)
abbrev c30_13 : SCode := .seq (.seq (.dreg [174, 175, 176, 177, 178, 179, 180, 181, 1213] [
  ⟨.op (.mv (.slot 0)), none, none⟩, 
  ⟨.op (.mv (.slot 3)), none, none⟩, 
  ⟨.op (.iaddr 19 (.slot 24) (.slot 25)), none, none⟩, 
  ⟨.op (.faddr 14 (.slot 26)), none, none⟩, 
  ⟨.op (.faddr 2 (.slot 27)), none, none⟩, 
  ⟨.op (.load 1 false (.slot 28)), none, none⟩, 
  ⟨.op (.mv (.slot 1)), none, none⟩, 
  ⟨.call 54 [(.slot 30)] false, none, none⟩, 
  ⟨.op (.bin .neq (.slot 29) (.slot 31)), some 21, none⟩]
  [[], [], [0, 1], [0, 1, 2], [0, 1, 2, 3], [0, 1, 2, 3, 4], [], [6], [0, 1, 2, 3, 4, 5, 6, 7]] 8 [] [([], none), ([false], none), ([true, true], none), ([true, true, true], none), ([true, true, true, true], none), ([true, true, true, true, true], none), ([false, false, false, false, false, false], none), ([false, false, false, false, false, false, true], none)] [true, true, true, true, true, true, true, true]) c30_12) c30_10
abbrev c30_14 : SCode := .seq (.reg [172, 173, 1207] [
  ⟨.op (.mv (.slot 1)), none, none⟩, 
  ⟨.op (.bin .add (.slot 24) (.con (.int .i64 1))), none, none⟩, 
  ⟨.op (.asg (.slot 25)), some 1, none⟩]) c30_13
abbrev c30_15 : SCode := .seq (.reg [1205] [
  ⟨.op (.asg (.con (.int .i64 (-1)))), some 2, none⟩]) (.ret)
abbrev c30_16 : SCode := .cond (.slot 20) c30_15 (.skip)
abbrev c30_17 : SCode := .seq (.seq (.reg [164, 165, 166, 167, 168, 169, 170, 1212] [
  ⟨.op (.mv (.slot 0)), none, none⟩, 
  ⟨.op (.mv (.slot 3)), none, none⟩, 
  ⟨.op (.iaddr 19 (.slot 24) (.slot 25)), none, none⟩, 
  ⟨.op (.faddr 14 (.slot 26)), none, none⟩, 
  ⟨.op (.faddr 1 (.slot 27)), none, none⟩, 
  ⟨.op (.load 1 false (.slot 28)), none, none⟩, 
  ⟨.op (.mv (.slot 1)), none, none⟩, 
  ⟨.op (.bin .neq (.slot 29) (.slot 30)), some 20, none⟩]) c30_16) c30_14
abbrev c30_18 : SCode := .seq (.reg [162, 163, 1207] [
  ⟨.op (.mv (.slot 1)), none, none⟩, 
  ⟨.op (.bin .add (.slot 24) (.con (.int .i64 1))), none, none⟩, 
  ⟨.op (.asg (.slot 25)), some 1, none⟩]) c30_17
abbrev c30_19 : SCode := .seq (.reg [1205] [
  ⟨.op (.asg (.con (.int .i64 (-1)))), some 2, none⟩]) (.ret)
abbrev c30_20 : SCode := .cond (.slot 19) c30_19 (.skip)
abbrev c30_21 : SCode := .seq (.seq (.reg [154, 155, 156, 157, 158, 159, 160, 1212] [
  ⟨.op (.mv (.slot 0)), none, none⟩, 
  ⟨.op (.mv (.slot 3)), none, none⟩, 
  ⟨.op (.iaddr 19 (.slot 24) (.slot 25)), none, none⟩, 
  ⟨.op (.faddr 14 (.slot 26)), none, none⟩, 
  ⟨.op (.faddr 0 (.slot 27)), none, none⟩, 
  ⟨.op (.load 1 false (.slot 28)), none, none⟩, 
  ⟨.op (.mv (.slot 1)), none, none⟩, 
  ⟨.op (.bin .neq (.slot 29) (.slot 30)), some 19, none⟩]) c30_20) c30_18
abbrev c30_22 : SCode := .seq (.reg [1205] [
  ⟨.op (.asg (.con (.int .i64 (-1)))), some 2, none⟩]) (.ret)
abbrev c30_23 : SCode := .cond (.slot 18) c30_22 (.skip)
abbrev c30_24 : SCode := .seq (.seq (.reg [152, 1206] [
  ⟨.op (.mv (.slot 1)), none, none⟩, 
  ⟨.op (.bin .lss (.slot 24) (.con (.int .i64 0))), some 18, none⟩]) c30_23) c30_21
abbrev c30_25 : SCode := .seq (.reg [144, 145, 146, 147, 148, 149, 150, 151, 1213] [
  ⟨.op (.mv (.slot 0)), none, none⟩, 
  ⟨.op (.mv (.slot 3)), none, none⟩, 
  ⟨.op (.iaddr 19 (.slot 24) (.slot 25)), none, none⟩, 
  ⟨.op (.faddr 10 (.slot 26)), none, none⟩, 
  ⟨.op (.faddr 3 (.slot 27)), none, none⟩, 
  ⟨.op (.load 1 false (.slot 28)), none, none⟩, 
  ⟨.op (.mv (.slot 1)), none, none⟩, 
  ⟨.call 56 [(.slot 29), (.slot 30)] false, none, none⟩, 
  ⟨.op (.asg (.slot 31)), some 1, none⟩]) c30_24
abbrev c30_26 : SCode := .seq (.reg [142, 143, 1207] [
  ⟨.op (.mv (.slot 1)), none, none⟩, 
  ⟨.op (.bin .add (.slot 24) (.con (.int .i64 1))), none, none⟩, 
  ⟨.op (.asg (.slot 25)), some 1, none⟩]) c30_25
abbrev c30_27 : SCode := .seq (.reg [1205] [
  ⟨.op (.asg (.con (.int .i64 (-1)))), some 2, none⟩]) (.ret)
abbrev c30_28 : SCode := .cond (.slot 17) c30_27 (.skip)
abbrev c30_29 : SCode := .seq (.seq (.dreg [133, 134, 135, 136, 137, 138, 139, 140, 1213] [
  ⟨.op (.mv (.slot 0)), none, none⟩, 
  ⟨.op (.mv (.slot 3)), none, none⟩, 
  ⟨.op (.iaddr 19 (.slot 24) (.slot 25)), none, none⟩, 
  ⟨.op (.faddr 10 (.slot 26)), none, none⟩, 
  ⟨.op (.faddr 2 (.slot 27)), none, none⟩, 
  ⟨.op (.load 1 false (.slot 28)), none, none⟩, 
  ⟨.op (.mv (.slot 1)), none, none⟩, 
  ⟨.call 54 [(.slot 30)] false, none, none⟩, 
  ⟨.op (.bin .neq (.slot 29) (.slot 31)), some 17, none⟩]
  [[], [], [0, 1], [0, 1, 2], [0, 1, 2, 3], [0, 1, 2, 3, 4], [], [6], [0, 1, 2, 3, 4, 5, 6, 7]] 8 [] [([], none), ([false], none), ([true, true], none), ([true, true, true], none), ([true, true, true, true], none), ([true, true, true, true, true], none), ([false, false, false, false, false, false], none), ([false, false, false, false, false, false, true], none)] [true, true, true, true, true, true, true, true]) c30_28) c30_26
abbrev c30_30 : SCode := .seq (.reg [131, 132, 1207] [
  ⟨.op (.mv (.slot 1)), none, none⟩, 
  ⟨.op (.bin .add (.slot 24) (.con (.int .i64 1))), none, none⟩, 
  ⟨.op (.asg (.slot 25)), some 1, none⟩]) c30_29
abbrev c30_31 : SCode := .seq (.reg [1205] [
  ⟨.op (.asg (.con (.int .i64 (-1)))), some 2, none⟩]) (.ret)
abbrev c30_32 : SCode := .cond (.slot 16) c30_31 (.skip)
abbrev c30_33 : SCode := .seq (.seq (.reg [123, 124, 125, 126, 127, 128, 129, 1212] [
  ⟨.op (.mv (.slot 0)), none, none⟩, 
  ⟨.op (.mv (.slot 3)), none, none⟩, 
  ⟨.op (.iaddr 19 (.slot 24) (.slot 25)), none, none⟩, 
  ⟨.op (.faddr 10 (.slot 26)), none, none⟩, 
  ⟨.op (.faddr 1 (.slot 27)), none, none⟩, 
  ⟨.op (.load 1 false (.slot 28)), none, none⟩, 
  ⟨.op (.mv (.slot 1)), none, none⟩, 
  ⟨.op (.bin .neq (.slot 29) (.slot 30)), some 16, none⟩]) c30_32) c30_30
abbrev c30_34 : SCode := .seq (.reg [121, 122, 1207] [
  ⟨.op (.mv (.slot 1)), none, none⟩, 
  ⟨.op (.bin .add (.slot 24) (.con (.int .i64 1))), none, none⟩, 
  ⟨.op (.asg (.slot 25)), some 1, none⟩]) c30_33
abbrev c30_35 : SCode := .seq (.reg [1205] [
  ⟨.op (.asg (.con (.int .i64 (-1)))), some 2, none⟩]) (.ret)
abbrev c30_36 : SCode := .cond (.slot 15) c30_35 (.skip)
abbrev c30_37 : SCode := .seq (.seq (.reg [113, 114, 115, 116, 117, 118, 119, 1212] [
  ⟨.op (.mv (.slot 0)), none, none⟩, 
  ⟨.op (.mv (.slot 3)), none, none⟩, 
  ⟨.op (.iaddr 19 (.slot 24) (.slot 25)), none, none⟩, 
  ⟨.op (.faddr 10 (.slot 26)), none, none⟩, 
  ⟨.op (.faddr 0 (.slot 27)), none, none⟩, 
  ⟨.op (.load 1 false (.slot 28)), none, none⟩, 
  ⟨.op (.mv (.slot 1)), none, none⟩, 
  ⟨.op (.bin .neq (.slot 29) (.slot 30)), some 15, none⟩]) c30_36) c30_34
abbrev c30_38 : SCode := .seq (.reg [1205] [
  ⟨.op (.asg (.con (.int .i64 (-1)))), some 2, none⟩]) (.ret)
abbrev c30_39 : SCode := .cond (.slot 14) c30_38 (.skip)
abbrev c30_40 : SCode := .seq (.seq (.reg [111, 1206] [
  ⟨.op (.mv (.slot 1)), none, none⟩, 
  ⟨.op (.bin .lss (.slot 24) (.con (.int .i64 0))), some 14, none⟩]) c30_39) c30_37
abbrev c30_41 : SCode := .seq (.reg [103, 104, 105, 106, 107, 108, 109, 110, 1213] [
  ⟨.op (.mv (.slot 0)), none, none⟩, 
  ⟨.op (.mv (.slot 3)), none, none⟩, 
  ⟨.op (.iaddr 19 (.slot 24) (.slot 25)), none, none⟩, 
  ⟨.op (.faddr 6 (.slot 26)), none, none⟩, 
  ⟨.op (.faddr 3 (.slot 27)), none, none⟩, 
  ⟨.op (.load 1 false (.slot 28)), none, none⟩, 
  ⟨.op (.mv (.slot 1)), none, none⟩, 
  ⟨.call 56 [(.slot 29), (.slot 30)] false, none, none⟩, 
  ⟨.op (.asg (.slot 31)), some 1, none⟩]) c30_40
abbrev c30_42 : SCode := .seq (.reg [101, 102, 1207] [
  ⟨.op (.mv (.slot 1)), none, none⟩, 
  ⟨.op (.bin .add (.slot 24) (.con (.int .i64 1))), none, none⟩, 
  ⟨.op (.asg (.slot 25)), some 1, none⟩]) c30_41
abbrev c30_43 : SCode := .seq (.reg [1205] [
  ⟨.op (.asg (.con (.int .i64 (-1)))), some 2, none⟩]) (.ret)
abbrev c30_44 : SCode := .cond (.slot 13) c30_43 (.skip)
abbrev c30_45 : SCode := .seq (.seq (.dreg [92, 93, 94, 95, 96, 97, 98, 99, 1213] [
  ⟨.op (.mv (.slot 0)), none, none⟩, 
  ⟨.op (.mv (.slot 3)), none, none⟩, 
  ⟨.op (.iaddr 19 (.slot 24) (.slot 25)), none, none⟩, 
  ⟨.op (.faddr 6 (.slot 26)), none, none⟩, 
  ⟨.op (.faddr 2 (.slot 27)), none, none⟩, 
  ⟨.op (.load 1 false (.slot 28)), none, none⟩, 
  ⟨.op (.mv (.slot 1)), none, none⟩, 
  ⟨.call 54 [(.slot 30)] false, none, none⟩, 
  ⟨.op (.bin .neq (.slot 29) (.slot 31)), some 13, none⟩]
  [[], [], [0, 1], [0, 1, 2], [0, 1, 2, 3], [0, 1, 2, 3, 4], [], [6], [0, 1, 2, 3, 4, 5, 6, 7]] 8 [] [([], none), ([false], none), ([true, true], none), ([true, true, true], none), ([true, true, true, true], none), ([true, true, true, true, true], none), ([false, false, false, false, false, false], none), ([false, false, false, false, false, false, true], none)] [true, true, true, true, true, true, true, true]) c30_44) c30_42
abbrev c30_46 : SCode := .seq (.reg [90, 91, 1207] [
  ⟨.op (.mv (.slot 1)), none, none⟩, 
  ⟨.op (.bin .add (.slot 24) (.con (.int .i64 1))), none, none⟩, 
  ⟨.op (.asg (.slot 25)), some 1, none⟩]) c30_45
abbrev c30_47 : SCode := .seq (.reg [1205] [
  ⟨.op (.asg (.con (.int .i64 (-1)))), some 2, none⟩]) (.ret)
abbrev c30_48 : SCode := .cond (.slot 12) c30_47 (.skip)
abbrev c30_49 : SCode := .seq (.seq (.reg [82, 83, 84, 85, 86, 87, 88, 1212] [
  ⟨.op (.mv (.slot 0)), none, none⟩, 
  ⟨.op (.mv (.slot 3)), none, none⟩, 
  ⟨.op (.iaddr 19 (.slot 24) (.slot 25)), none, none⟩, 
  ⟨.op (.faddr 6 (.slot 26)), none, none⟩, 
  ⟨.op (.faddr 1 (.slot 27)), none, none⟩, 
  ⟨.op (.load 1 false (.slot 28)), none, none⟩, 
  ⟨.op (.mv (.slot 1)), none, none⟩, 
  ⟨.op (.bin .neq (.slot 29) (.slot 30)), some 12, none⟩]) c30_48) c30_46
abbrev c30_50 : SCode := .seq (.reg [80, 81, 1207] [
  ⟨.op (.mv (.slot 1)), none, none⟩, 
  ⟨.op (.bin .add (.slot 24) (.con (.int .i64 1))), none, none⟩, 
  ⟨.op (.asg (.slot 25)), some 1, none⟩]) c30_49
abbrev c30_51 : SCode := .seq (.reg [1205] [
  ⟨.op (.asg (.con (.int .i64 (-1)))), some 2, none⟩]) (.ret)
abbrev c30_52 : SCode := .cond (.slot 11) c30_51 (.skip)
abbrev c30_53 : SCode := .seq (.seq (.reg [72, 73, 74, 75, 76, 77, 78, 1212] [
  ⟨.op (.mv (.slot 0)), none, none⟩, 
  ⟨.op (.mv (.slot 3)), none, none⟩, 
  ⟨.op (.iaddr 19 (.slot 24) (.slot 25)), none, none⟩, 
  ⟨.op (.faddr 6 (.slot 26)), none, none⟩, 
  ⟨.op (.faddr 0 (.slot 27)), none, none⟩, 
  ⟨.op (.load 1 false (.slot 28)), none, none⟩, 
  ⟨.op (.mv (.slot 1)), none, none⟩, 
  ⟨.op (.bin .neq (.slot 29) (.slot 30)), some 11, none⟩]) c30_52) c30_50
abbrev c30_54 : SCode := .seq (.reg [1205] [
  ⟨.op (.asg (.con (.int .i64 (-1)))), some 2, none⟩]) (.ret)
abbrev c30_55 : SCode := .cond (.slot 10) c30_54 (.skip)
abbrev c30_56 : SCode := .seq (.seq (.reg [70, 1206] [
  ⟨.op (.mv (.slot 1)), none, none⟩, 
  ⟨.op (.bin .lss (.slot 24) (.con (.int .i64 0))), some 10, none⟩]) c30_55) c30_53
abbrev c30_57 : SCode := .seq (.reg [62, 63, 64, 65, 66, 67, 68, 69, 1213] [
  ⟨.op (.mv (.slot 0)), none, none⟩, 
  ⟨.op (.mv (.slot 3)), none, none⟩, 
  ⟨.op (.iaddr 19 (.slot 24) (.slot 25)), none, none⟩, 
  ⟨.op (.faddr 2 (.slot 26)), none, none⟩, 
  ⟨.op (.faddr 3 (.slot 27)), none, none⟩, 
  ⟨.op (.load 1 false (.slot 28)), none, none⟩, 
  ⟨.op (.mv (.slot 1)), none, none⟩, 
  ⟨.call 56 [(.slot 29), (.slot 30)] false, none, none⟩, 
  ⟨.op (.asg (.slot 31)), some 1, none⟩]) c30_56
abbrev c30_58 : SCode := .seq (.reg [60, 61, 1207] [
  ⟨.op (.mv (.slot 1)), none, none⟩, 
  ⟨.op (.bin .add (.slot 24) (.con (.int .i64 1))), none, none⟩, 
  ⟨.op (.asg (.slot 25)), some 1, none⟩]) c30_57
abbrev c30_59 : SCode := .seq (.reg [1205] [
  ⟨.op (.asg (.con (.int .i64 (-1)))), some 2, none⟩]) (.ret)
abbrev c30_60 : SCode := .cond (.slot 9) c30_59 (.skip)
abbrev c30_61 : SCode := .seq (.seq (.dreg [51, 52, 53, 54, 55, 56, 57, 58, 1213] [
  ⟨.op (.mv (.slot 0)), none, none⟩, 
  ⟨.op (.mv (.slot 3)), none, none⟩, 
  ⟨.op (.iaddr 19 (.slot 24) (.slot 25)), none, none⟩, 
  ⟨.op (.faddr 2 (.slot 26)), none, none⟩, 
  ⟨.op (.faddr 2 (.slot 27)), none, none⟩, 
  ⟨.op (.load 1 false (.slot 28)), none, none⟩, 
  ⟨.op (.mv (.slot 1)), none, none⟩, 
  ⟨.call 54 [(.slot 30)] false, none, none⟩, 
  ⟨.op (.bin .neq (.slot 29) (.slot 31)), some 9, none⟩]
  [[], [], [0, 1], [0, 1, 2], [0, 1, 2, 3], [0, 1, 2, 3, 4], [], [6], [0, 1, 2, 3, 4, 5, 6, 7]] 8 [] [([], none), ([false], none), ([true, true], none), ([true, true, true], none), ([true, true, true, true], none), ([true, true, true, true, true], none), ([false, false, false, false, false, false], none), ([false, false, false, false, false, false, true], none)] [true, true, true, true, true, true, true, true]) c30_60) c30_58
abbrev c30_62 : SCode := .seq (.reg [49, 50, 1207] [
  ⟨.op (.mv (.slot 1)), none, none⟩, 
  ⟨.op (.bin .add (.slot 24) (.con (.int .i64 1))), none, none⟩, 
  ⟨.op (.asg (.slot 25)), some 1, none⟩]) c30_61
abbrev c30_63 : SCode := .seq (.reg [1205] [
  ⟨.op (.asg (.con (.int .i64 (-1)))), some 2, none⟩]) (.ret)
abbrev c30_64 : SCode := .cond (.slot 8) c30_63 (.skip)
abbrev c30_65 : SCode := .seq (.seq (.reg [41, 42, 43, 44, 45, 46, 47, 1212] [
  ⟨.op (.mv (.slot 0)), none, none⟩, 
  ⟨.op (.mv (.slot 3)), none, none⟩, 
  ⟨.op (.iaddr 19 (.slot 24) (.slot 25)), none, none⟩, 
  ⟨.op (.faddr 2 (.slot 26)), none, none⟩, 
  ⟨.op (.faddr 1 (.slot 27)), none, none⟩, 
  ⟨.op (.load 1 false (.slot 28)), none, none⟩, 
  ⟨.op (.mv (.slot 1)), none, none⟩, 
  ⟨.op (.bin .neq (.slot 29) (.slot 30)), some 8, none⟩]) c30_64) c30_62
abbrev c30_66 : SCode := .seq (.reg [39, 40, 1207] [
  ⟨.op (.mv (.slot 1)), none, none⟩, 
  ⟨.op (.bin .add (.slot 24) (.con (.int .i64 1))), none, none⟩, 
  ⟨.op (.asg (.slot 25)), some 1, none⟩]) c30_65
abbrev c30_67 : SCode := .seq (.reg [1205] [
  ⟨.op (.asg (.con (.int .i64 (-1)))), some 2, none⟩]) (.ret)
abbrev c30_68 : SCode := .cond (.slot 7) c30_67 (.skip)
abbrev c30_69 : SCode := .seq (.seq (.reg [31, 32, 33, 34, 35, 36, 37, 1212] [
  ⟨.op (.mv (.slot 0)), none, none⟩, 
  ⟨.op (.mv (.slot 3)), none, none⟩, 
  ⟨.op (.iaddr 19 (.slot 24) (.slot 25)), none, none⟩, 
  ⟨.op (.faddr 2 (.slot 26)), none, none⟩, 
  ⟨.op (.faddr 0 (.slot 27)), none, none⟩, 
  ⟨.op (.load 1 false (.slot 28)), none, none⟩, 
  ⟨.op (.mv (.slot 1)), none, none⟩, 
  ⟨.op (.bin .neq (.slot 29) (.slot 30)), some 7, none⟩]) c30_68) c30_66
abbrev c30_70 : SCode := .seq (.reg [29, 30, 1207] [
  ⟨.op (.mv (.slot 1)), none, none⟩, 
  ⟨.op (.bin .add (.slot 24) (.con (.int .i64 1))), none, none⟩, 
  ⟨.op (.asg (.slot 25)), some 1, none⟩]) c30_69
abbrev c30_71 : SCode := .seq (.reg [1205] [
  ⟨.op (.asg (.con (.int .i64 (-1)))), some 2, none⟩]) (.ret)
abbrev c30_72 : SCode := .cond (.slot 6) c30_71 (.skip)
abbrev c30_73 : SCode := .seq (.seq (.dreg [21, 22, 23, 24, 25, 26, 27, 1212] [
  ⟨.op (.mv (.slot 0)), none, none⟩, 
  ⟨.op (.mv (.slot 3)), none, none⟩, 
  ⟨.op (.iaddr 19 (.slot 24) (.slot 25)), none, none⟩, 
  ⟨.op (.faddr 1 (.slot 26)), none, none⟩, 
  ⟨.op (.load 1 false (.slot 27)), none, none⟩, 
  ⟨.op (.mv (.slot 1)), none, none⟩, 
  ⟨.call 54 [(.slot 29)] false, none, none⟩, 
  ⟨.op (.bin .neq (.slot 28) (.slot 30)), some 6, none⟩]
  [[], [], [0, 1], [0, 1, 2], [0, 1, 2, 3], [], [5], [0, 1, 2, 3, 4, 5, 6]] 7 [] [([], none), ([false], none), ([true, true], none), ([true, true, true], none), ([true, true, true, true], none), ([false, false, false, false, false], none), ([false, false, false, false, false, true], none)] [true, true, true, true, true, true, true]) c30_72) c30_70
abbrev c30_74 : SCode := .seq (.reg [19, 20, 1207] [
  ⟨.op (.mv (.slot 1)), none, none⟩, 
  ⟨.op (.bin .add (.slot 24) (.con (.int .i64 1))), none, none⟩, 
  ⟨.op (.asg (.slot 25)), some 1, none⟩]) c30_73
abbrev c30_75 : SCode := .seq (.reg [1205] [
  ⟨.op (.asg (.con (.int .i64 (-1)))), some 2, none⟩]) (.ret)
abbrev c30_76 : SCode := .cond (.slot 5) c30_75 (.skip)
abbrev c30_77 : SCode := .seq (.block 1 (.seq (.seq (.reg [12, 13, 14, 15, 16, 17, 1211] [
  ⟨.op (.mv (.slot 0)), none, none⟩, 
  ⟨.op (.mv (.slot 3)), none, none⟩, 
  ⟨.op (.iaddr 19 (.slot 24) (.slot 25)), none, none⟩, 
  ⟨.op (.faddr 0 (.slot 26)), none, none⟩, 
  ⟨.op (.load 1 false (.slot 27)), none, none⟩, 
  ⟨.op (.mv (.slot 1)), none, none⟩, 
  ⟨.op (.bin .neq (.slot 28) (.slot 29)), some 5, none⟩]) c30_76) c30_74)) c30_1
abbrev c30_78 : SCode := .cond (.slot 4) (.skip) (.exit 0)
abbrev b30_0 : SCode := .seq (.seq (.reg [6, 7, 8, 1208] [
  ⟨.op (.mv (.slot 3)), none, none⟩, 
  ⟨.op (.mv (.slot 0)), none, none⟩, 
  ⟨.op (.len false (.slot 25)), none, none⟩, 
  ⟨.op (.bin .lss (.slot 24) (.slot 26)), some 4, none⟩]) c30_78) c30_77
def l30_0 : SCode := .loop b30_0
abbrev c30_80 : SCode := .block 0 (l30_0)
abbrev c30_81 : SCode := .seq (.seq (.reg [1205] [
  ⟨.op (.asg (.con (.int .i64 0))), some 3, none⟩]) c30_80) c30_0
abbrev s30 : SCode := .seq (.reg [1205] [
  ⟨.op (.asg (.con (.int .i64 0))), some 2, none⟩]) c30_81
theorem ok30 : okFn Go.Proofs.Try.prog Go.Proofs.Try.f30 v30 s30 r30 2 = true := by kernel_rfl

def v31 : List Nat := [0, 1, 2, 4, 11, 17]
def r31 : List SRes := [.tmp 3]
abbrev c31_0 : SCode := .seq (.reg [18, 1020] [
  ⟨.op (.mv (.slot 1)), none, none⟩, 
  ⟨.op (.asg (.slot 6)), some 3, none⟩]) (.ret)
abbrev c31_1 : SCode := .seq (.reg [1019] [
  ⟨.op (.asg (.con (.int .i64 (-1)))), some 3, none⟩]) (.ret)
abbrev c31_2 : SCode := .cond (.slot 5) c31_1 (.skip)
abbrev c31_3 : SCode := .seq (.seq (.reg [16, 1020] [
  ⟨.op (.mv (.slot 1)), none, none⟩, 
  ⟨.op (.bin .lss (.slot 6) (.con (.int .i64 0))), some 5, none⟩]) c31_2) c31_0
abbrev c31_4 : SCode := .seq (.reg [12, 13, 14, 15, 1023] [
  ⟨.op (.faddr 3 (.slot 2)), none, none⟩, 
  ⟨.op (.load 1 false (.slot 6)), none, none⟩, 
  ⟨.op (.mv (.slot 1)), none, none⟩, 
  ⟨.call 57 [(.slot 7), (.slot 8)] false, none, none⟩, 
  ⟨.op (.asg (.slot 9)), some 1, none⟩]) c31_3
abbrev c31_5 : SCode := .seq (.reg [1019] [
  ⟨.op (.asg (.con (.int .i64 (-1)))), some 3, none⟩]) (.ret)
abbrev c31_6 : SCode := .cond (.slot 4) c31_5 (.skip)
abbrev c31_7 : SCode := .seq (.seq (.reg [10, 1020] [
  ⟨.op (.mv (.slot 1)), none, none⟩, 
  ⟨.op (.bin .lss (.slot 6) (.con (.int .i64 0))), some 4, none⟩]) c31_6) c31_4
abbrev c31_8 : SCode := .seq (.reg [5, 6, 7, 8, 9, 1024] [
  ⟨.op (.mv (.slot 1)), none, none⟩, 
  ⟨.op (.faddr 2 (.slot 2)), none, none⟩, 
  ⟨.op (.load 1 false (.slot 7)), none, none⟩, 
  ⟨.op (.len true (.slot 8)), none, none⟩, 
  ⟨.op (.bin .sub (.slot 6) (.slot 9)), none, none⟩, 
  ⟨.op (.asg (.slot 10)), some 1, none⟩]) c31_7
abbrev s31 : SCode := .seq (.reg [1019, 1020] [
  ⟨.op (.box 24 4 (.slot 0)), some 2, none⟩, 
  ⟨.op (.asg (.con (.int .i64 0))), some 3, none⟩]) c31_8
theorem ok31 : okFn Go.Proofs.Try.prog Go.Proofs.Try.f31 v31 s31 r31 2 = true := by kernel_rfl

def v32 : List Nat := [0, 1, 4, 11, 5, 15, 25]
def r32 : List SRes := [.tmp 2]
abbrev c32_0 : SCode := .seq (.reg [26, 1028] [
  ⟨.op (.mv (.slot 1)), none, none⟩, 
  ⟨.op (.asg (.slot 7)), some 2, none⟩]) (.ret)
abbrev c32_1 : SCode := .reg [16, 17, 1029] [
  ⟨.op (.mv (.slot 4)), none, none⟩, 
  ⟨.op (.bin .add (.slot 7) (.con (.int .i64 1))), none, none⟩, 
  ⟨.op (.asg (.slot 8)), some 4, none⟩]
abbrev c32_2 : SCode := .seq (.reg [1027] [
  ⟨.op (.asg (.con (.int .i64 (-1)))), some 2, none⟩]) (.ret)
abbrev c32_3 : SCode := .cond (.slot 6) c32_2 (.skip)
abbrev c32_4 : SCode := .seq (.reg [24, 1028] [
  ⟨.op (.mv (.slot 1)), none, none⟩, 
  ⟨.op (.bin .lss (.slot 7) (.con (.int .i64 0))), some 6, none⟩]) c32_3
abbrev c32_5 : SCode := .seq (.block 1 (.seq (.reg [18, 19, 20, 21, 22, 23, 1033] [
  ⟨.op (.mv (.slot 0)), none, none⟩, 
  ⟨.op (.mv (.slot 4)), none, none⟩, 
  ⟨.op (.iaddr 19 (.slot 7) (.slot 8)), none, none⟩, 
  ⟨.op (.load 19 true (.slot 9)), none, none⟩, 
  ⟨.op (.mv (.slot 1)), none, none⟩, 
  ⟨.call 8 [(.slot 10), (.slot 11)] false, none, none⟩, 
  ⟨.op (.asg (.slot 12)), some 1, none⟩]) c32_4)) c32_1
abbrev c32_6 : SCode := .cond (.slot 5) (.skip) (.exit 0)
abbrev b32_0 : SCode := .seq (.seq (.reg [12, 13, 14, 1030] [
  ⟨.op (.mv (.slot 4)), none, none⟩, 
  ⟨.op (.mv (.slot 0)), none, none⟩, 
  ⟨.op (.len false (.slot 8)), none, none⟩, 
  ⟨.op (.bin .lss (.slot 7) (.slot 9)), some 5, none⟩]) c32_6) c32_5
def l32_0 : SCode := .loop b32_0
abbrev c32_8 : SCode := .block 0 (l32_0)
abbrev c32_9 : SCode := .seq (.seq (.reg [1027] [
  ⟨.op (.asg (.con (.int .i64 0))), some 4, none⟩]) c32_8) c32_0
abbrev c32_10 : SCode := .seq (.reg [1027] [
  ⟨.op (.asg (.con (.int .i64 (-1)))), some 2, none⟩]) (.ret)
abbrev c32_11 : SCode := .cond (.slot 3) c32_10 (.skip)
abbrev c32_12 : SCode := .seq (.seq (.reg [10, 1028] [
  ⟨.op (.mv (.slot 1)), none, none⟩, 
  ⟨.op (.bin .lss (.slot 7) (.con (.int .i64 0))), some 3, none⟩]) c32_11) c32_9
abbrev c32_13 : SCode := .seq (.reg [6, 7, 8, 9, 1031] [
  ⟨.op (.mv (.slot 1)), none, none⟩, 
  ⟨.op (.mv (.slot 0)), none, none⟩, 
  ⟨.op (.len false (.slot 8)), none, none⟩, 
  ⟨.op (.bin .sub (.slot 7) (.slot 9)), none, none⟩, 
  ⟨.op (.asg (.slot 10)), some 1, none⟩]) c32_12
abbrev s32 : SCode := .seq (.reg [1027] [
  ⟨.op (.asg (.con (.int .i64 0))), some 2, none⟩]) c32_13
theorem ok32 : okFn Go.Proofs.Try.prog Go.Proofs.Try.f32 v32 s32 r32 2 = true := by kernel_rfl

def v33 : List Nat := [0, 1, 2, 3, 4, 18, 5, 57, 6, 72]
def r33 : List SRes := [.cell 2 4 true]
abbrev c33_0 : SCode := .seq (.reg [75, 1077] [
  ⟨.op (.load 4 true (.slot 3)), none, none⟩, 
  ⟨.op (.store 4 true (.slot 2) (.slot 10)), none, none⟩]) (.ret)
abbrev c33_1 : SCode := .seq (.reg [73, 74, 1078] [
  ⟨.op (.mv (.slot 8)), none, none⟩, 
  ⟨.call 60 [(.slot 10)] false, none, none⟩, 
  ⟨.op (.store 4 true (.slot 2) (.slot 11)), none, none⟩]) (.ret)
abbrev c33_2 : SCode := .cond (.slot 9) c33_1 (.skip)
abbrev c33_3 : SCode := .seq (.reg [71, 1077] [
  ⟨.op (.mv (.slot 8)), none, none⟩, 
  ⟨.call 58 [(.slot 10), (.con (.int .i64 0)), (.con (.int .i64 999999))] false, some 9, none⟩]) c33_2
abbrev c33_4 : SCode := .seq (.dreg [58, 59, 60, 61, 62, 63, 64, 65, 66, 67, 68, 69, 70, 1089] [
  ⟨.op (.faddr 0 (.slot 1)), none, none⟩, 
  ⟨.op (.load 1 false (.slot 10)), none, none⟩, 
  ⟨.op (.faddr 3 (.slot 3)), none, none⟩, 
  ⟨.op (.load 1 false (.slot 12)), none, none⟩, 
  ⟨.op (.iaddr 4 (.slot 13) (.con (.int .i64 0))), none, none⟩, 
  ⟨.op (.faddr 1 (.slot 14)), none, none⟩, 
  ⟨.op (.load 1 false (.slot 15)), none, none⟩, 
  ⟨.op (.faddr 3 (.slot 3)), none, none⟩, 
  ⟨.op (.load 1 false (.slot 17)), none, none⟩, 
  ⟨.op (.iaddr 4 (.slot 18) (.con (.int .i64 1))), none, none⟩, 
  ⟨.op (.faddr 1 (.slot 19)), none, none⟩, 
  ⟨.op (.load 1 false (.slot 20)), none, none⟩, 
  ⟨.call 59 [(.slot 11), (.slot 16), (.slot 21)] false, none, none⟩, 
  ⟨.op (.asg (.slot 22)), some 8, none⟩]
  [[], [0], [], [2], [2, 3], [2, 3, 4], [2, 3, 4, 5], [], [7], [7, 8], [7, 8, 9], [7, 8, 9, 10], [0, 1, 2, 3, 4, 5, 6, 7, 8, 9, 10, 11], [0, 1, 2, 3, 4, 5, 6, 7, 8, 9, 10, 11, 12]] 13 [] [([], none), ([true], none), ([false, false], none), ([false, false, true], none), ([false, false, true, true], none), ([false, false, true, true, true], none), ([false, false, true, true, true, true], none), ([false, false, false, false, false, false, false], none), ([false, false, false, false, false, false, false, true], none), ([false, false, false, false, false, false, false, true, true], none), ([false, false, false, false, false, false, false, true, true, true], none), ([false, false, false, false, false, false, false, true, true, true, true], none), ([true, true, true, true, true, true, true, true, true, true, true, true], none)] [true, true, true, true, true, true, true, true, true, true, true, true, true]) c33_3
abbrev c33_5 : SCode := .cond (.slot 7) c33_4 (.skip)
abbrev c33_6 : SCode := .seq (.seq (.reg [33, 34, 35, 36, 37, 38, 39, 40, 41, 42, 43, 44, 45, 46, 47, 48, 49, 50, 51, 52, 53, 54, 55, 56, 1100] [
  ⟨.op (.faddr 3 (.slot 3)), none, none⟩, 
  ⟨.op (.load 1 false (.slot 10)), none, none⟩, 
  ⟨.op (.len false (.slot 11)), none, none⟩, 
  ⟨.op (.bin .eql (.slot 12) (.con (.int .i64 2))), none, none⟩, 
  ⟨.op (.mv (.slot 13)), none, none⟩, 
  ⟨.op (.faddr 0 (.slot 1)), none, some (14, true)⟩, 
  ⟨.op (.load 1 false (.slot 15)), none, some (14, true)⟩, 
  ⟨.call 58 [(.slot 16), (.con (.int .i64 4)), (.con (.int .i64 8))] false, none, some (14, true)⟩, 
  ⟨.op (.pick (.slot 14) (.slot 17) (.con (.bool false))), none, none⟩, 
  ⟨.op (.mv (.slot 18)), none, none⟩, 
  ⟨.op (.faddr 3 (.slot 3)), none, some (19, true)⟩, 
  ⟨.op (.load 1 false (.slot 20)), none, some (19, true)⟩, 
  ⟨.op (.iaddr 4 (.slot 21) (.con (.int .i64 0))), none, some (19, true)⟩, 
  ⟨.op (.faddr 0 (.slot 22)), none, some (19, true)⟩, 
  ⟨.op (.load 1 false (.slot 23)), none, some (19, true)⟩, 
  ⟨.op (.bin .eql (.slot 24) (.con (.int .i64 1))), none, some (19, true)⟩, 
  ⟨.op (.pick (.slot 19) (.slot 25) (.con (.bool false))), none, none⟩, 
  ⟨.op (.mv (.slot 26)), none, none⟩, 
  ⟨.op (.faddr 3 (.slot 3)), none, some (27, true)⟩, 
  ⟨.op (.load 1 false (.slot 28)), none, some (27, true)⟩, 
  ⟨.op (.iaddr 4 (.slot 29) (.con (.int .i64 1))), none, some (27, true)⟩, 
  ⟨.op (.faddr 0 (.slot 30)), none, some (27, true)⟩, 
  ⟨.op (.load 1 false (.slot 31)), none, some (27, true)⟩, 
  ⟨.op (.bin .eql (.slot 32) (.con (.int .i64 1))), none, some (27, true)⟩, 
  ⟨.op (.pick (.slot 27) (.slot 33) (.con (.bool false))), some 7, none⟩]) c33_5) c33_0
abbrev c33_7 : SCode := .reg [19, 20, 1078] [
  ⟨.op (.mv (.slot 4)), none, none⟩, 
  ⟨.op (.bin .add (.slot 10) (.con (.int .i64 1))), none, none⟩, 
  ⟨.op (.asg (.slot 11)), some 4, none⟩]
abbrev c33_8 : SCode := .reg [27, 28, 29, 30, 31, 32, 1082] [
  ⟨.op (.faddr 3 (.slot 3)), none, none⟩, 
  ⟨.op (.load 1 false (.slot 10)), none, none⟩, 
  ⟨.op (.load 4 true (.slot 6)), none, none⟩, 
  ⟨.op (.bsl 31 1 [(.int .i64 0), (.int .i64 0), (.str []), (.osl 0 31 0 [])] [(0, 4, (.slot 12))]), none, none⟩, 
  ⟨.op (.append 31 4 (.slot 11) (.slot 13)), none, none⟩, 
  ⟨.op (.faddr 3 (.slot 3)), none, none⟩, 
  ⟨.op (.store 1 true (.slot 15) (.slot 14)), none, none⟩]
abbrev c33_9 : SCode := .seq (.block 1 (.seq (.reg [21, 22, 23, 24, 25, 26, 1082, 1083] [
  ⟨.op (.faddr 3 (.slot 1)), none, none⟩, 
  ⟨.op (.load 1 false (.slot 10)), none, none⟩, 
  ⟨.op (.mv (.slot 4)), none, none⟩, 
  ⟨.op (.iaddr 4 (.slot 11) (.slot 12)), none, none⟩, 
  ⟨.op (.load 4 true (.slot 13)), none, none⟩, 
  ⟨.call 33 [(.slot 14)] false, none, none⟩, 
  ⟨.op (.mk 31 [(.int .i64 0), (.int .i64 0), (.str []), (.osl 0 31 0 [])]), some 6, none⟩, 
  ⟨.op (.store 4 true (.slot 6) (.slot 15)), none, none⟩]) c33_8)) c33_7
abbrev c33_10 : SCode := .cond (.slot 5) (.skip) (.exit 0)
abbrev b33_0 : SCode := .seq (.seq (.reg [14, 15, 16, 17, 1080] [
  ⟨.op (.mv (.slot 4)), none, none⟩, 
  ⟨.op (.faddr 3 (.slot 1)), none, none⟩, 
  ⟨.op (.load 1 false (.slot 11)), none, none⟩, 
  ⟨.op (.len false (.slot 12)), none, none⟩, 
  ⟨.op (.bin .lss (.slot 10) (.slot 13)), some 5, none⟩]) c33_10) c33_9
def l33_0 : SCode := .loop b33_0
abbrev c33_12 : SCode := .block 0 (l33_0)
abbrev c33_13 : SCode := .seq (.seq (.reg [1076] [
  ⟨.op (.asg (.con (.int .i64 0))), some 4, none⟩]) c33_12) c33_6
abbrev c33_14 : SCode := .seq (.reg [7, 8, 9, 10, 11, 12, 13, 1083, 1084] [
  ⟨.op (.faddr 0 (.slot 1)), none, none⟩, 
  ⟨.op (.load 1 false (.slot 10)), none, none⟩, 
  ⟨.op (.faddr 1 (.slot 1)), none, none⟩, 
  ⟨.op (.load 1 false (.slot 12)), none, none⟩, 
  ⟨.op (.faddr 2 (.slot 1)), none, none⟩, 
  ⟨.op (.load 1 false (.slot 14)), none, none⟩, 
  ⟨.op (.build [(.int .i64 0), (.int .i64 0), (.str []), (.osl 0 31 0 [])] [(0, 1, (.slot 11)), (1, 1, (.slot 13)), (2, 1, (.slot 15))]), none, none⟩, 
  ⟨.op (.mk 31 [(.int .i64 0), (.int .i64 0), (.str []), (.osl 0 31 0 [])]), some 3, none⟩, 
  ⟨.op (.store 4 true (.slot 3) (.slot 16)), none, none⟩]) c33_13
abbrev s33 : SCode := .seq (.reg [1076, 1077] [
  ⟨.op (.box 31 4 (.slot 0)), some 1, none⟩, 
  ⟨.op (.mk 31 [(.int .i64 0), (.int .i64 0), (.str []), (.osl 0 31 0 [])]), some 2, none⟩]) c33_14
theorem ok33 : okFn Go.Proofs.Try.prog Go.Proofs.Try.f33 v33 s33 r33 1 = true := by kernel_rfl

def v34 : List Nat := [0, 1, 2, 3]
def r34 : List SRes := [.cell 2 4 true]
abbrev c34_0 : SCode := .seq (.reg [17, 1019] [
  ⟨.op (.load 4 true (.slot 3)), none, none⟩, 
  ⟨.op (.store 4 true (.slot 2) (.slot 4)), none, none⟩]) (.ret)
abbrev c34_1 : SCode := .seq (.reg [13, 14, 15, 16, 1022] [
  ⟨.op (.faddr 3 (.slot 1)), none, none⟩, 
  ⟨.op (.load 1 false (.slot 4)), none, none⟩, 
  ⟨.call 61 [(.slot 5)] false, none, none⟩, 
  ⟨.op (.faddr 3 (.slot 3)), none, none⟩, 
  ⟨.op (.store 1 true (.slot 7) (.slot 6)), none, none⟩]) c34_0
abbrev c34_2 : SCode := .seq (.reg [10, 11, 12, 1021] [
  ⟨.op (.faddr 2 (.slot 1)), none, none⟩, 
  ⟨.op (.load 1 false (.slot 4)), none, none⟩, 
  ⟨.op (.faddr 2 (.slot 3)), none, none⟩, 
  ⟨.op (.store 1 false (.slot 6) (.slot 5)), none, none⟩]) c34_1
abbrev c34_3 : SCode := .seq (.reg [7, 8, 9, 1021] [
  ⟨.op (.faddr 1 (.slot 1)), none, none⟩, 
  ⟨.op (.load 1 false (.slot 4)), none, none⟩, 
  ⟨.op (.faddr 1 (.slot 3)), none, none⟩, 
  ⟨.op (.store 1 false (.slot 6) (.slot 5)), none, none⟩]) c34_2
abbrev c34_4 : SCode := .seq (.reg [4, 5, 6, 1021] [
  ⟨.op (.faddr 0 (.slot 1)), none, none⟩, 
  ⟨.op (.load 1 false (.slot 4)), none, none⟩, 
  ⟨.op (.faddr 0 (.slot 3)), none, none⟩, 
  ⟨.op (.store 1 false (.slot 6) (.slot 5)), none, none⟩]) c34_3
abbrev c34_5 : SCode := .seq (.reg [1018] [
  ⟨.op (.mk 31 [(.int .i64 0), (.int .i64 0), (.str []), (.osl 0 31 0 [])]), some 3, none⟩]) c34_4
abbrev s34 : SCode := .seq (.reg [1018, 1019] [
  ⟨.op (.box 24 4 (.slot 0)), some 1, none⟩, 
  ⟨.op (.mk 31 [(.int .i64 0), (.int .i64 0), (.str []), (.osl 0 31 0 [])]), some 2, none⟩]) c34_5
theorem ok34 : okFn Go.Proofs.Try.prog Go.Proofs.Try.f34 v34 s34 r34 1 = true := by kernel_rfl

def v35 : List Nat := [0, 2, 3, 4, 11]
def r35 : List SRes := [.tmp 1]
abbrev c35_0 : SCode := .seq (.reg [22, 1024] [
  ⟨.op (.mv (.slot 2)), none, none⟩, 
  ⟨.op (.asg (.slot 5)), some 1, none⟩]) (.ret)
abbrev c35_1 : SCode := .reg [12, 13, 1025] [
  ⟨.op (.mv (.slot 3)), none, none⟩, 
  ⟨.op (.bin .add (.slot 5) (.con (.int .i64 1))), none, none⟩, 
  ⟨.op (.asg (.slot 6)), some 3, none⟩]
abbrev c35_2 : SCode := .seq (.block 1 (.reg [14, 15, 16, 17, 18, 19, 20, 21, 1031] [
  ⟨.op (.mv (.slot 2)), none, none⟩, 
  ⟨.op (.mv (.slot 3)), none, none⟩, 
  ⟨.op (.mv (.slot 0)), none, none⟩, 
  ⟨.op (.mv (.slot 3)), none, none⟩, 
  ⟨.op (.iaddr 19 (.slot 7) (.slot 8)), none, none⟩, 
  ⟨.op (.load 19 true (.slot 9)), none, none⟩, 
  ⟨.call 10 [(.slot 10)] false, none, none⟩, 
  ⟨.op (.iaddr 19 (.slot 5) (.slot 6)), none, none⟩, 
  ⟨.op (.store 19 true (.slot 12) (.slot 11)), none, none⟩])) c35_1
abbrev c35_3 : SCode := .cond (.slot 4) (.skip) (.exit 0)
abbrev b35_0 : SCode := .seq (.seq (.reg [8, 9, 10, 1026] [
  ⟨.op (.mv (.slot 3)), none, none⟩, 
  ⟨.op (.mv (.slot 0)), none, none⟩, 
  ⟨.op (.len false (.slot 6)), none, none⟩, 
  ⟨.op (.bin .lss (.slot 5) (.slot 7)), some 4, none⟩]) c35_3) c35_2
def l35_0 : SCode := .loop b35_0
abbrev c35_5 : SCode := .block 0 (l35_0)
abbrev c35_6 : SCode := .seq (.seq (.reg [1023] [
  ⟨.op (.asg (.con (.int .i64 0))), some 3, none⟩]) c35_5) c35_0
abbrev c35_7 : SCode := .seq (.reg [5, 6, 7, 1026] [
  ⟨.op (.mv (.slot 0)), none, none⟩, 
  ⟨.op (.len false (.slot 5)), none, none⟩, 
  ⟨.op (.mksl 34 [(.int .i64 0), (.str []), (.int .i64 0), (.int .i64 0), (.str []), (.osl 0 31 0 []), (.int .i64 0), (.int .i64 0), (.str []), (.osl 0 31 0 []), (.int .i64 0), (.int .i64 0), (.str []), (.osl 0 31 0 []), (.int .i64 0), (.int .i64 0), (.str []), (.osl 0 31 0 []), (.osl 0 34 0 [])] (.slot 6) (.slot 6)), none, none⟩, 
  ⟨.op (.asg (.slot 7)), some 2, none⟩]) c35_6
abbrev s35 : SCode := .seq (.reg [1023] [
  ⟨.op (.asg (.con (.osl 0 34 0 []))), some 1, none⟩]) c35_7
theorem ok35 : okFn Go.Proofs.Try.prog Go.Proofs.Try.f35 v35 s35 r35 1 = true := by kernel_rfl

def v36 : List Nat := [0, 1, 2, 3, 15, 16, 17, 18, 5, 54, 6, 71]
def r36 : List SRes := [.cell 2 4 true]
abbrev c36_0 : SCode := .seq (.reg [73, 74, 1077] [
  ⟨.op (.mv (.slot 10)), none, none⟩, 
  ⟨.op (.build [(.int .i64 0), (.int .i64 0), (.str []), (.osl 0 31 0 [])] [(0, 1, (.con (.int .i64 1))), (1, 1, (.slot 12))]), none, none⟩, 
  ⟨.op (.store 4 true (.slot 2) (.slot 13)), none, none⟩]) (.ret)
abbrev c36_1 : SCode := .seq (.reg [72, 1076] [
  ⟨.op (.load 4 true (.slot 3)), none, none⟩, 
  ⟨.op (.store 4 true (.slot 2) (.slot 12)), none, none⟩]) (.ret)
abbrev c36_2 : SCode := .cond (.slot 11) c36_1 (.skip)
abbrev c36_3 : SCode := .seq (.seq (.reg [69, 70, 1077] [
  ⟨.op (.mv (.slot 10)), none, none⟩, 
  ⟨.call 49 [(.slot 12), (.con (.int .i64 0)), (.con (.int .i64 999999))] false, none, none⟩, 
  ⟨.op (.not (.slot 13)), some 11, none⟩]) c36_2) c36_0
abbrev c36_4 : SCode := .seq (.dreg [56, 57, 58, 59, 60, 61, 62, 63, 64, 65, 66, 67, 68, 1088] [
  ⟨.op (.faddr 0 (.slot 1)), none, none⟩, 
  ⟨.op (.load 1 false (.slot 12)), none, none⟩, 
  ⟨.op (.faddr 3 (.slot 3)), none, none⟩, 
  ⟨.op (.load 1 false (.slot 14)), none, none⟩, 
  ⟨.op (.iaddr 4 (.slot 15) (.con (.int .i64 0))), none, none⟩, 
  ⟨.op (.faddr 1 (.slot 16)), none, none⟩, 
  ⟨.op (.load 1 false (.slot 17)), none, none⟩, 
  ⟨.op (.faddr 3 (.slot 3)), none, none⟩, 
  ⟨.op (.load 1 false (.slot 19)), none, none⟩, 
  ⟨.op (.iaddr 4 (.slot 20) (.con (.int .i64 1))), none, none⟩, 
  ⟨.op (.faddr 1 (.slot 21)), none, none⟩, 
  ⟨.op (.load 1 false (.slot 22)), none, none⟩, 
  ⟨.call 63 [(.slot 13), (.slot 18), (.slot 23)] false, none, none⟩, 
  ⟨.op (.asg (.slot 24)), some 10, none⟩]
  [[], [0], [], [2], [2, 3], [2, 3, 4], [2, 3, 4, 5], [], [7], [7, 8], [7, 8, 9], [7, 8, 9, 10], [0, 1, 2, 3, 4, 5, 6, 7, 8, 9, 10, 11], [0, 1, 2, 3, 4, 5, 6, 7, 8, 9, 10, 11, 12]] 13 [] [([], none), ([true], none), ([false, false], none), ([false, false, true], none), ([false, false, true, true], none), ([false, false, true, true, true], none), ([false, false, true, true, true, true], none), ([false, false, false, false, false, false, false], none), ([false, false, false, false, false, false, false, true], none), ([false, false, false, false, false, false, false, true, true], none), ([false, false, false, false, false, false, false, true, true, true], none), ([false, false, false, false, false, false, false, true, true, true, true], none), ([true, true, true, true, true, true, true, true, true, true, true, true], none)] [true, true, true, true, true, true, true, true, true, true, true, true, true]) c36_3
abbrev c36_5 : SCode := .seq (.reg [55, 1076] [
  ⟨.op (.load 4 true (.slot 3)), none, none⟩, 
  ⟨.op (.store 4 true (.slot 2) (.slot 12)), none, none⟩]) (.ret)
abbrev c36_6 : SCode := .cond (.slot 9) c36_5 (.skip)
abbrev c36_7 : SCode := .seq (.seq (.reg [29, 30, 31, 32, 33, 34, 35, 36, 37, 38, 39, 40, 41, 42, 43, 44, 45, 46, 47, 48, 49, 50, 51, 52, 53, 1100] [
  ⟨.op (.faddr 0 (.slot 1)), none, none⟩, 
  ⟨.op (.load 1 false (.slot 12)), none, none⟩, 
  ⟨.call 62 [(.slot 13)] false, none, none⟩, 
  ⟨.op (.not (.slot 14)), none, none⟩, 
  ⟨.op (.mv (.slot 15)), none, none⟩, 
  ⟨.op (.faddr 3 (.slot 3)), none, some (16, false)⟩, 
  ⟨.op (.load 1 false (.slot 17)), none, some (16, false)⟩, 
  ⟨.op (.len false (.slot 18)), none, some (16, false)⟩, 
  ⟨.op (.bin .neq (.slot 19) (.con (.int .i64 2))), none, some (16, false)⟩, 
  ⟨.op (.pick (.slot 16) (.con (.bool true)) (.slot 20)), none, none⟩, 
  ⟨.op (.mv (.slot 21)), none, none⟩, 
  ⟨.op (.faddr 3 (.slot 3)), none, some (22, false)⟩, 
  ⟨.op (.load 1 false (.slot 23)), none, some (22, false)⟩, 
  ⟨.op (.iaddr 4 (.slot 24) (.con (.int .i64 0))), none, some (22, false)⟩, 
  ⟨.op (.faddr 0 (.slot 25)), none, some (22, false)⟩, 
  ⟨.op (.load 1 false (.slot 26)), none, some (22, false)⟩, 
  ⟨.op (.bin .neq (.slot 27) (.con (.int .i64 1))), none, some (22, false)⟩, 
  ⟨.op (.pick (.slot 22) (.con (.bool true)) (.slot 28)), none, none⟩, 
  ⟨.op (.mv (.slot 29)), none, none⟩, 
  ⟨.op (.faddr 3 (.slot 3)), none, some (30, false)⟩, 
  ⟨.op (.load 1 false (.slot 31)), none, some (30, false)⟩, 
  ⟨.op (.iaddr 4 (.slot 32) (.con (.int .i64 1))), none, some (30, false)⟩, 
  ⟨.op (.faddr 0 (.slot 33)), none, some (30, false)⟩, 
  ⟨.op (.load 1 false (.slot 34)), none, some (30, false)⟩, 
  ⟨.op (.bin .neq (.slot 35) (.con (.int .i64 1))), none, some (30, false)⟩, 
  ⟨.op (.pick (.slot 30) (.con (.bool true)) (.slot 36)), some 9, none⟩]) c36_6) c36_4
abbrev c36_8 : SCode := .reg [28, 1076] [
  ⟨.op (.bin .add (.slot 6) (.con (.int .i64 1))), none, none⟩, 
  ⟨.op (.asg (.slot 12)), some 6, none⟩]
abbrev c36_9 : SCode := .dreg [21, 22, 23, 24, 25, 26, 27, 1082] [
  ⟨.op (.faddr 3 (.slot 3)), none, none⟩, 
  ⟨.op (.load 1 false (.slot 12)), none, none⟩, 
  ⟨.op (.load 4 true (.slot 8)), none, none⟩, 
  ⟨.call 36 [(.slot 14)] false, none, none⟩, 
  ⟨.op (.bsl 31 1 [(.int .i64 0), (.int .i64 0), (.str []), (.osl 0 31 0 [])] [(0, 4, (.slot 15))]), none, none⟩, 
  ⟨.op (.append 31 4 (.slot 13) (.slot 16)), none, none⟩, 
  ⟨.op (.faddr 3 (.slot 3)), none, none⟩, 
  ⟨.op (.store 1 true (.slot 18) (.slot 17)), none, none⟩]
  [[], [0], [], [2], [2, 3], [0, 1, 2, 3, 4], [0, 1, 2, 3, 4, 5], [0, 1, 2, 3, 4, 5, 6]] 5 [(4, 3)] [([], none), ([true], none), ([false, false], none), ([false, false, true], none), ([false, false, true, true], (some 3))] [true, true, true, false, true]
abbrev c36_10 : SCode := .seq (.block 1 (.seq (.reg [19, 20, 1077, 1078] [
  ⟨.op (.iaddr 4 (.slot 4) (.slot 6)), none, none⟩, 
  ⟨.op (.load 4 true (.slot 12)), none, none⟩, 
  ⟨.op (.mk 31 [(.int .i64 0), (.int .i64 0), (.str []), (.osl 0 31 0 [])]), some 8, none⟩, 
  ⟨.op (.store 4 true (.slot 8) (.slot 13)), none, none⟩]) c36_9)) c36_8
abbrev c36_11 : SCode := .seq (.cond (.slot 7) (.skip) (.exit 0)) c36_10
abbrev b36_0 : SCode := .seq (.reg [1075] [
  ⟨.op (.bin .lss (.slot 6) (.slot 5)), some 7, none⟩]) c36_11
def l36_0 : SCode := .loop b36_0
abbrev c36_13 : SCode := .block 0 (l36_0)
abbrev c36_14 : SCode := .seq (.seq (.reg [14, 1076, 1077, 1078] [
  ⟨.op (.faddr 3 (.slot 1)), none, none⟩, 
  ⟨.op (.load 1 false (.slot 12)), some 4, none⟩, 
  ⟨.op (.len false (.slot 4)), some 5, none⟩, 
  ⟨.op (.asg (.con (.int .i64 0))), some 6, none⟩]) c36_13) c36_7
abbrev c36_15 : SCode := .seq (.reg [7, 8, 9, 10, 11, 12, 13, 1082, 1083] [
  ⟨.op (.faddr 0 (.slot 1)), none, none⟩, 
  ⟨.op (.load 1 false (.slot 12)), none, none⟩, 
  ⟨.op (.faddr 1 (.slot 1)), none, none⟩, 
  ⟨.op (.load 1 false (.slot 14)), none, none⟩, 
  ⟨.op (.faddr 2 (.slot 1)), none, none⟩, 
  ⟨.op (.load 1 false (.slot 16)), none, none⟩, 
  ⟨.op (.build [(.int .i64 0), (.int .i64 0), (.str []), (.osl 0 31 0 [])] [(0, 1, (.slot 13)), (1, 1, (.slot 15)), (2, 1, (.slot 17))]), none, none⟩, 
  ⟨.op (.mk 31 [(.int .i64 0), (.int .i64 0), (.str []), (.osl 0 31 0 [])]), some 3, none⟩, 
  ⟨.op (.store 4 true (.slot 3) (.slot 18)), none, none⟩]) c36_14
abbrev s36 : SCode := .seq (.reg [1075, 1076] [
  ⟨.op (.box 31 4 (.slot 0)), some 1, none⟩, 
  ⟨.op (.mk 31 [(.int .i64 0), (.int .i64 0), (.str []), (.osl 0 31 0 [])]), some 2, none⟩]) c36_15
theorem ok36 : okFn Go.Proofs.Try.prog Go.Proofs.Try.f36 v36 s36 r36 1 = true := by kernel_rfl

def v37 : List Nat := [0, 2, 3, 6, 7, 8, 9, 5]
def r37 : List SRes := [.tmp 1]
abbrev c37_0 : SCode := .seq (.reg [18, 1020] [
  ⟨.op (.mv (.slot 2)), none, none⟩, 
  ⟨.op (.asg (.slot 8)), some 1, none⟩]) (.ret)
abbrev c37_1 : SCode := .reg [17, 1020] [
  ⟨.op (.bin .add (.slot 5) (.con (.int .i64 1))), none, none⟩, 
  ⟨.op (.asg (.slot 8)), some 5, none⟩]
abbrev c37_2 : SCode := .reg [12, 13, 14, 15, 16, 1024] [
  ⟨.op (.mv (.slot 2)), none, none⟩, 
  ⟨.op (.load 19 true (.slot 7)), none, none⟩, 
  ⟨.call 11 [(.slot 9)] false, none, none⟩, 
  ⟨.op (.bsl 34 1 [(.int .i64 0), (.str []), (.int .i64 0), (.int .i64 0), (.str []), (.osl 0 31 0 []), (.int .i64 0), (.int .i64 0), (.str []), (.osl 0 31 0 []), (.int .i64 0), (.int .i64 0), (.str []), (.osl 0 31 0 []), (.int .i64 0), (.int .i64 0), (.str []), (.osl 0 31 0 []), (.osl 0 34 0 [])] [(0, 19, (.slot 10))]), none, none⟩, 
  ⟨.op (.append 34 19 (.slot 8) (.slot 11)), none, none⟩, 
  ⟨.op (.asg (.slot 12)), some 2, none⟩]
abbrev c37_3 : SCode := .seq (.block 1 (.seq (.reg [10, 11, 1021, 1022] [
  ⟨.op (.iaddr 19 (.slot 3) (.slot 5)), none, none⟩, 
  ⟨.op (.load 19 true (.slot 8)), none, none⟩, 
  ⟨.op (.mk 34 [(.int .i64 0), (.str []), (.int .i64 0), (.int .i64 0), (.str []), (.osl 0 31 0 []), (.int .i64 0), (.int .i64 0), (.str []), (.osl 0 31 0 []), (.int .i64 0), (.int .i64 0), (.str []), (.osl 0 31 0 []), (.int .i64 0), (.int .i64 0), (.str []), (.osl 0 31 0 []), (.osl 0 34 0 [])]), some 7, none⟩, 
  ⟨.op (.store 19 true (.slot 7) (.slot 9)), none, none⟩]) c37_2)) c37_1
abbrev c37_4 : SCode := .seq (.cond (.slot 6) (.skip) (.exit 0)) c37_3
abbrev b37_0 : SCode := .seq (.reg [1019] [
  ⟨.op (.bin .lss (.slot 5) (.slot 4)), some 6, none⟩]) c37_4
def l37_0 : SCode := .loop b37_0
abbrev c37_6 : SCode := .block 0 (l37_0)
abbrev c37_7 : SCode := .seq (.seq (.reg [1019, 1020, 1021] [
  ⟨.op (.asg (.slot 0)), some 3, none⟩, 
  ⟨.op (.len false (.slot 3)), some 4, none⟩, 
  ⟨.op (.asg (.con (.int .i64 0))), some 5, none⟩]) c37_6) c37_0
abbrev c37_8 : SCode := .seq (.reg [1019] [
  ⟨.op (.asg (.con (.osl 0 34 0 []))), some 2, none⟩]) c37_7
abbrev s37 : SCode := .seq (.reg [1019] [
  ⟨.op (.asg (.con (.osl 0 34 0 []))), some 1, none⟩]) c37_8
theorem ok37 : okFn Go.Proofs.Try.prog Go.Proofs.Try.f37 v37 s37 r37 1 = true := by kernel_rfl

def v38 : List Nat := [0, 1, 2, 3, 4, 9, 14, 19, 25]
def r38 : List SRes := [.tmp 4]
abbrev c38_0 : SCode := .seq (.reg [1026] [
  ⟨.op (.asg (.con (.bool true))), some 4, none⟩]) (.ret)
abbrev c38_1 : SCode := .seq (.reg [1026] [
  ⟨.op (.asg (.con (.bool false))), some 4, none⟩]) (.ret)
abbrev c38_2 : SCode := .cond (.slot 8) c38_1 (.skip)
abbrev c38_3 : SCode := .seq (.seq (.reg [20, 21, 22, 23, 24, 1031] [
  ⟨.op (.faddr 3 (.slot 2)), none, none⟩, 
  ⟨.op (.load 1 false (.slot 9)), none, none⟩, 
  ⟨.op (.faddr 3 (.slot 3)), none, none⟩, 
  ⟨.op (.load 1 false (.slot 11)), none, none⟩, 
  ⟨.call 64 [(.slot 10), (.slot 12)] false, none, none⟩, 
  ⟨.op (.not (.slot 13)), some 8, none⟩]) c38_2) c38_0
abbrev c38_4 : SCode := .seq (.reg [1026] [
  ⟨.op (.asg (.con (.bool false))), some 4, none⟩]) (.ret)
abbrev c38_5 : SCode := .cond (.slot 7) c38_4 (.skip)
abbrev c38_6 : SCode := .seq (.seq (.reg [15, 16, 17, 18, 1030] [
  ⟨.op (.faddr 2 (.slot 2)), none, none⟩, 
  ⟨.op (.load 1 false (.slot 9)), none, none⟩, 
  ⟨.op (.faddr 2 (.slot 3)), none, none⟩, 
  ⟨.op (.load 1 false (.slot 11)), none, none⟩, 
  ⟨.op (.bin .neq (.slot 10) (.slot 12)), some 7, none⟩]) c38_5) c38_3
abbrev c38_7 : SCode := .seq (.reg [1026] [
  ⟨.op (.asg (.con (.bool false))), some 4, none⟩]) (.ret)
abbrev c38_8 : SCode := .cond (.slot 6) c38_7 (.skip)
abbrev c38_9 : SCode := .seq (.seq (.reg [10, 11, 12, 13, 1030] [
  ⟨.op (.faddr 1 (.slot 2)), none, none⟩, 
  ⟨.op (.load 1 false (.slot 9)), none, none⟩, 
  ⟨.op (.faddr 1 (.slot 3)), none, none⟩, 
  ⟨.op (.load 1 false (.slot 11)), none, none⟩, 
  ⟨.op (.bin .neq (.slot 10) (.slot 12)), some 6, none⟩]) c38_8) c38_6
abbrev c38_10 : SCode := .seq (.reg [1026] [
  ⟨.op (.asg (.con (.bool false))), some 4, none⟩]) (.ret)
abbrev c38_11 : SCode := .cond (.slot 5) c38_10 (.skip)
abbrev c38_12 : SCode := .seq (.seq (.reg [5, 6, 7, 8, 1030] [
  ⟨.op (.faddr 0 (.slot 2)), none, none⟩, 
  ⟨.op (.load 1 false (.slot 9)), none, none⟩, 
  ⟨.op (.faddr 0 (.slot 3)), none, none⟩, 
  ⟨.op (.load 1 false (.slot 11)), none, none⟩, 
  ⟨.op (.bin .neq (.slot 10) (.slot 12)), some 5, none⟩]) c38_11) c38_9
abbrev s38 : SCode := .seq (.reg [1026, 1027, 1028] [
  ⟨.op (.box 31 4 (.slot 0)), some 2, none⟩, 
  ⟨.op (.box 31 4 (.slot 1)), some 3, none⟩, 
  ⟨.op (.asg (.con (.bool false))), some 4, none⟩]) c38_12
theorem ok38 : okFn Go.Proofs.Try.prog Go.Proofs.Try.f38 v38 s38 r38 2 = true := by kernel_rfl

def v41 : List Nat := [0, 1, 4, 11, 5, 15, 25]
def r41 : List SRes := [.tmp 2]
abbrev c41_0 : SCode := .seq (.reg [26, 1028] [
  ⟨.op (.mv (.slot 1)), none, none⟩, 
  ⟨.op (.asg (.slot 7)), some 2, none⟩]) (.ret)
abbrev c41_1 : SCode := .reg [16, 17, 1029] [
  ⟨.op (.mv (.slot 4)), none, none⟩, 
  ⟨.op (.bin .add (.slot 7) (.con (.int .i64 1))), none, none⟩, 
  ⟨.op (.asg (.slot 8)), some 4, none⟩]
abbrev c41_2 : SCode := .seq (.reg [1027] [
  ⟨.op (.asg (.con (.int .i64 (-1)))), some 2, none⟩]) (.ret)
abbrev c41_3 : SCode := .cond (.slot 6) c41_2 (.skip)
abbrev c41_4 : SCode := .seq (.reg [24, 1028] [
  ⟨.op (.mv (.slot 1)), none, none⟩, 
  ⟨.op (.bin .lss (.slot 7) (.con (.int .i64 0))), some 6, none⟩]) c41_3
abbrev c41_5 : SCode := .seq (.block 1 (.seq (.reg [18, 19, 20, 21, 22, 23, 1033] [
  ⟨.op (.mv (.slot 0)), none, none⟩, 
  ⟨.op (.mv (.slot 4)), none, none⟩, 
  ⟨.op (.iaddr 2 (.slot 7) (.slot 8)), none, none⟩, 
  ⟨.op (.load 2 true (.slot 9)), none, none⟩, 
  ⟨.op (.mv (.slot 1)), none, none⟩, 
  ⟨.call 65 [(.slot 10), (.slot 11)] false, none, none⟩, 
  ⟨.op (.asg (.slot 12)), some 1, none⟩]) c41_4)) c41_1
abbrev c41_6 : SCode := .cond (.slot 5) (.skip) (.exit 0)
abbrev b41_0 : SCode := .seq (.seq (.reg [12, 13, 14, 1030] [
  ⟨.op (.mv (.slot 4)), none, none⟩, 
  ⟨.op (.mv (.slot 0)), none, none⟩, 
  ⟨.op (.len false (.slot 8)), none, none⟩, 
  ⟨.op (.bin .lss (.slot 7) (.slot 9)), some 5, none⟩]) c41_6) c41_5
def l41_0 : SCode := .loop b41_0
abbrev c41_8 : SCode := .block 0 (l41_0)
abbrev c41_9 : SCode := .seq (.seq (.reg [1027] [
  ⟨.op (.asg (.con (.int .i64 0))), some 4, none⟩]) c41_8) c41_0
abbrev c41_10 : SCode := .seq (.reg [1027] [
  ⟨.op (.asg (.con (.int .i64 (-1)))), some 2, none⟩]) (.ret)
abbrev c41_11 : SCode := .cond (.slot 3) c41_10 (.skip)
abbrev c41_12 : SCode := .seq (.seq (.reg [10, 1028] [
  ⟨.op (.mv (.slot 1)), none, none⟩, 
  ⟨.op (.bin .lss (.slot 7) (.con (.int .i64 0))), some 3, none⟩]) c41_11) c41_9
abbrev c41_13 : SCode := .seq (.reg [6, 7, 8, 9, 1031] [
  ⟨.op (.mv (.slot 1)), none, none⟩, 
  ⟨.op (.mv (.slot 0)), none, none⟩, 
  ⟨.op (.len false (.slot 8)), none, none⟩, 
  ⟨.op (.bin .sub (.slot 7) (.slot 9)), none, none⟩, 
  ⟨.op (.asg (.slot 10)), some 1, none⟩]) c41_12
abbrev s41 : SCode := .seq (.reg [1027] [
  ⟨.op (.asg (.con (.int .i64 0))), some 2, none⟩]) c41_13
theorem ok41 : okFn Go.Proofs.Try.prog Go.Proofs.Try.f41 v41 s41 r41 2 = true := by kernel_rfl

def v42 : List Nat := [0, 2, 3, 4, 11]
def r42 : List SRes := [.tmp 1]
abbrev c42_0 : SCode := .seq (.reg [22, 1024] [
  ⟨.op (.mv (.slot 2)), none, none⟩, 
  ⟨.op (.asg (.slot 5)), some 1, none⟩]) (.ret)
abbrev c42_1 : SCode := .reg [12, 13, 1025] [
  ⟨.op (.mv (.slot 3)), none, none⟩, 
  ⟨.op (.bin .add (.slot 5) (.con (.int .i64 1))), none, none⟩, 
  ⟨.op (.asg (.slot 6)), some 3, none⟩]
abbrev c42_2 : SCode := .seq (.block 1 (.reg [14, 15, 16, 17, 18, 19, 20, 21, 1031] [
  ⟨.op (.mv (.slot 2)), none, none⟩, 
  ⟨.op (.mv (.slot 3)), none, none⟩, 
  ⟨.op (.mv (.slot 0)), none, none⟩, 
  ⟨.op (.mv (.slot 3)), none, none⟩, 
  ⟨.op (.iaddr 2 (.slot 7) (.slot 8)), none, none⟩, 
  ⟨.op (.load 2 true (.slot 9)), none, none⟩, 
  ⟨.call 66 [(.slot 10)] false, none, none⟩, 
  ⟨.op (.iaddr 2 (.slot 5) (.slot 6)), none, none⟩, 
  ⟨.op (.store 2 false (.slot 12) (.slot 11)), none, none⟩])) c42_1
abbrev c42_3 : SCode := .cond (.slot 4) (.skip) (.exit 0)
abbrev b42_0 : SCode := .seq (.seq (.reg [8, 9, 10, 1026] [
  ⟨.op (.mv (.slot 3)), none, none⟩, 
  ⟨.op (.mv (.slot 0)), none, none⟩, 
  ⟨.op (.len false (.slot 6)), none, none⟩, 
  ⟨.op (.bin .lss (.slot 5) (.slot 7)), some 4, none⟩]) c42_3) c42_2
def l42_0 : SCode := .loop b42_0
abbrev c42_5 : SCode := .block 0 (l42_0)
abbrev c42_6 : SCode := .seq (.seq (.reg [1023] [
  ⟨.op (.asg (.con (.int .i64 0))), some 3, none⟩]) c42_5) c42_0
abbrev c42_7 : SCode := .seq (.reg [5, 6, 7, 1026] [
  ⟨.op (.mv (.slot 0)), none, none⟩, 
  ⟨.op (.len false (.slot 5)), none, none⟩, 
  ⟨.op (.mksl 88 [(.str []), (.int .i64 0)] (.slot 6) (.slot 6)), none, none⟩, 
  ⟨.op (.asg (.slot 7)), some 2, none⟩]) c42_6
abbrev s42 : SCode := .seq (.reg [1023] [
  ⟨.op (.asg (.con (.osl 0 88 0 []))), some 1, none⟩]) c42_7
theorem ok42 : okFn Go.Proofs.Try.prog Go.Proofs.Try.f42 v42 s42 r42 1 = true := by kernel_rfl

def v43 : List Nat := [0, 1, 2]
def r43 : List SRes := [.cell 2 2 true]
abbrev c43_0 : SCode := .seq (.dreg [3, 4, 5, 6, 7, 8, 9, 1017] [
  ⟨.op (.faddr 0 (.slot 1)), none, none⟩, 
  ⟨.op (.load 1 false (.slot 3)), none, none⟩, 
  ⟨.call 67 [(.slot 4)] false, none, none⟩, 
  ⟨.op (.faddr 1 (.slot 1)), none, none⟩, 
  ⟨.op (.load 1 false (.slot 6)), none, none⟩, 
  ⟨.call 68 [(.slot 7)] false, none, none⟩, 
  ⟨.op (.build [(.osl 0 88 0 []), (.osl 0 34 0 [])] [(0, 1, (.slot 5)), (1, 1, (.slot 8))]), none, none⟩, 
  ⟨.op (.store 2 true (.slot 2) (.slot 9)), none, none⟩]
  [[], [0], [0, 1], [], [3], [0, 1, 2, 3, 4], [0, 1, 2, 3, 4, 5], [0, 1, 2, 3, 4, 5, 6]] 7 [] [([], none), ([true], none), ([true, true], none), ([false, false, false], none), ([false, false, false, true], none), ([true, true, true, true, true], none), ([true, true, true, true, true, true], none)] [true, true, true, true, true, true, true]) (.ret)
abbrev s43 : SCode := .seq (.reg [1010, 1011] [
  ⟨.op (.box 46 2 (.slot 0)), some 1, none⟩, 
  ⟨.op (.mk 46 [(.osl 0 88 0 []), (.osl 0 34 0 [])]), some 2, none⟩]) c43_0
theorem ok43 : okFn Go.Proofs.Try.prog Go.Proofs.Try.f43 v43 s43 r43 1 = true := by kernel_rfl

def v44 : List Nat := [0, 1, 4, 10, 5, 14, 26]
def r44 : List SRes := [.tmp 2]
abbrev c44_0 : SCode := .seq (.reg [1027] [
  ⟨.op (.asg (.con (.bool true))), some 2, none⟩]) (.ret)
abbrev c44_1 : SCode := .reg [15, 16, 1029] [
  ⟨.op (.mv (.slot 4)), none, none⟩, 
  ⟨.op (.bin .add (.slot 7) (.con (.int .i64 1))), none, none⟩, 
  ⟨.op (.asg (.slot 8)), some 4, none⟩]
abbrev c44_2 : SCode := .seq (.reg [1027] [
  ⟨.op (.asg (.con (.bool false))), some 2, none⟩]) (.ret)
abbrev c44_3 : SCode := .cond (.slot 6) c44_2 (.skip)
abbrev c44_4 : SCode := .seq (.block 1 (.seq (.dreg [17, 18, 19, 20, 21, 22, 23, 24, 25, 1036] [
  ⟨.op (.mv (.slot 0)), none, none⟩, 
  ⟨.op (.mv (.slot 4)), none, none⟩, 
  ⟨.op (.iaddr 2 (.slot 7) (.slot 8)), none, none⟩, 
  ⟨.op (.load 2 true (.slot 9)), none, none⟩, 
  ⟨.op (.mv (.slot 1)), none, none⟩, 
  ⟨.op (.mv (.slot 4)), none, none⟩, 
  ⟨.op (.iaddr 2 (.slot 11) (.slot 12)), none, none⟩, 
  ⟨.op (.load 2 true (.slot 13)), none, none⟩, 
  ⟨.call 69 [(.slot 10), (.slot 14)] false, none, none⟩, 
  ⟨.op (.not (.slot 15)), some 6, none⟩]
  [[], [], [0, 1], [0, 1, 2], [], [], [4, 5], [4, 5, 6], [0, 1, 2, 3, 4, 5, 6, 7], [0, 1, 2, 3, 4, 5, 6, 7, 8]] 9 [] [([], none), ([false], none), ([true, true], none), ([true, true, true], none), ([false, false, false, false], none), ([false, false, false, false, false], none), ([false, false, false, false, true, true], none), ([false, false, false, false, true, true, true], none), ([true, true, true, true, true, true, true, true], none)] [true, true, true, true, true, true, true, true, true]) c44_3)) c44_1
abbrev c44_5 : SCode := .cond (.slot 5) (.skip) (.exit 0)
abbrev b44_0 : SCode := .seq (.seq (.reg [11, 12, 13, 1030] [
  ⟨.op (.mv (.slot 4)), none, none⟩, 
  ⟨.op (.mv (.slot 0)), none, none⟩, 
  ⟨.op (.len false (.slot 8)), none, none⟩, 
  ⟨.op (.bin .lss (.slot 7) (.slot 9)), some 5, none⟩]) c44_5) c44_4
def l44_0 : SCode := .loop b44_0
abbrev c44_7 : SCode := .block 0 (l44_0)
abbrev c44_8 : SCode := .seq (.seq (.reg [1027] [
  ⟨.op (.asg (.con (.int .i64 0))), some 4, none⟩]) c44_7) c44_0
abbrev c44_9 : SCode := .seq (.reg [1027] [
  ⟨.op (.asg (.con (.bool false))), some 2, none⟩]) (.ret)
abbrev c44_10 : SCode := .cond (.slot 3) c44_9 (.skip)
abbrev c44_11 : SCode := .seq (.seq (.reg [6, 7, 8, 9, 1031] [
  ⟨.op (.mv (.slot 0)), none, none⟩, 
  ⟨.op (.len false (.slot 7)), none, none⟩, 
  ⟨.op (.mv (.slot 1)), none, none⟩, 
  ⟨.op (.len false (.slot 9)), none, none⟩, 
  ⟨.op (.bin .neq (.slot 8) (.slot 10)), some 3, none⟩]) c44_10) c44_8
abbrev s44 : SCode := .seq (.reg [1027] [
  ⟨.op (.asg (.con (.bool false))), some 2, none⟩]) c44_11
theorem ok44 : okFn Go.Proofs.Try.prog Go.Proofs.Try.f44 v44 s44 r44 2 = true := by kernel_rfl

def v45 : List Nat := [0, 1, 4, 5, 9]
def r45 : List SRes := [.tmp 2]
abbrev c45_0 : SCode := .seq (.reg [27, 1029] [
  ⟨.op (.mv (.slot 1)), none, none⟩, 
  ⟨.op (.asg (.slot 5)), some 2, none⟩]) (.ret)
abbrev c45_1 : SCode := .reg [10, 11, 1030] [
  ⟨.op (.mv (.slot 3)), none, none⟩, 
  ⟨.op (.bin .add (.slot 5) (.con (.int .i64 1))), none, none⟩, 
  ⟨.op (.asg (.slot 6)), some 3, none⟩]
abbrev c45_2 : SCode := .reg [25, 26, 1030] [
  ⟨.op (.mv (.slot 1)), none, none⟩, 
  ⟨.op (.bin .add (.slot 5) (.con (.int .i64 1))), none, none⟩, 
  ⟨.op (.asg (.slot 6)), some 1, none⟩]
abbrev c45_3 : SCode := .seq (.reg [20, 21, 22, 23, 24, 1033] [
  ⟨.op (.mv (.slot 0)), none, none⟩, 
  ⟨.op (.mv (.slot 3)), none, none⟩, 
  ⟨.op (.mv (.slot 1)), none, none⟩, 
  ⟨.op (.iaddr 2 (.slot 5) (.slot 6)), none, none⟩, 
  ⟨.op (.faddr 1 (.slot 8)), none, none⟩, 
  ⟨.op (.store 1 false (.slot 9) (.slot 7)), none, none⟩]) c45_2
abbrev c45_4 : SCode := .seq (.reg [18, 19, 1030] [
  ⟨.op (.mv (.slot 1)), none, none⟩, 
  ⟨.op (.bin .add (.slot 5) (.con (.int .i64 1))), none, none⟩, 
  ⟨.op (.asg (.slot 6)), some 1, none⟩]) c45_3
abbrev c45_5 : SCode := .seq (.block 1 (.seq (.reg [12, 13, 14, 15, 16, 17, 1034] [
  ⟨.op (.mv (.slot 0)), none, none⟩, 
  ⟨.op (.mv (.slot 3)), none, none⟩, 
  ⟨.op (.mv (.slot 1)), none, none⟩, 
  ⟨.call 54 [(.slot 7)] false, none, none⟩, 
  ⟨.op (.iaddr 2 (.slot 5) (.slot 6)), none, none⟩, 
  ⟨.op (.faddr 0 (.slot 9)), none, none⟩, 
  ⟨.op (.store 1 false (.slot 10) (.slot 8)), none, none⟩]) c45_4)) c45_1
abbrev c45_6 : SCode := .cond (.slot 4) (.skip) (.exit 0)
abbrev b45_0 : SCode := .seq (.seq (.reg [6, 7, 8, 1031] [
  ⟨.op (.mv (.slot 3)), none, none⟩, 
  ⟨.op (.mv (.slot 0)), none, none⟩, 
  ⟨.op (.len false (.slot 6)), none, none⟩, 
  ⟨.op (.bin .lss (.slot 5) (.slot 7)), some 4, none⟩]) c45_6) c45_5
def l45_0 : SCode := .loop b45_0
abbrev c45_8 : SCode := .block 0 (l45_0)
abbrev c45_9 : SCode := .seq (.seq (.reg [1028] [
  ⟨.op (.asg (.con (.int .i64 0))), some 3, none⟩]) c45_8) c45_0
abbrev s45 : SCode := .seq (.reg [1028] [
  ⟨.op (.asg (.con (.int .i64 0))), some 2, none⟩]) c45_9
theorem ok45 : okFn Go.Proofs.Try.prog Go.Proofs.Try.f45 v45 s45 r45 2 = true := by kernel_rfl

def v46 : List Nat := [0, 1, 4, 5, 9, 19, 28]
def r46 : List SRes := [.tmp 2]
abbrev c46_0 : SCode := .seq (.reg [31, 1033] [
  ⟨.op (.mv (.slot 1)), none, none⟩, 
  ⟨.op (.asg (.slot 7)), some 2, none⟩]) (.ret)
abbrev c46_1 : SCode := .reg [10, 11, 1034] [
  ⟨.op (.mv (.slot 3)), none, none⟩, 
  ⟨.op (.bin .add (.slot 7) (.con (.int .i64 1))), none, none⟩, 
  ⟨.op (.asg (.slot 8)), some 3, none⟩]
abbrev c46_2 : SCode := .reg [29, 30, 1034] [
  ⟨.op (.mv (.slot 1)), none, none⟩, 
  ⟨.op (.bin .add (.slot 7) (.con (.int .i64 1))), none, none⟩, 
  ⟨.op (.asg (.slot 8)), some 1, none⟩]
abbrev c46_3 : SCode := .seq (.reg [1032] [
  ⟨.op (.asg (.con (.int .i64 (-1)))), some 2, none⟩]) (.ret)
abbrev c46_4 : SCode := .cond (.slot 6) c46_3 (.skip)
abbrev c46_5 : SCode := .seq (.seq (.reg [22, 23, 24, 25, 26, 27, 1038] [
  ⟨.op (.mv (.slot 0)), none, none⟩, 
  ⟨.op (.mv (.slot 3)), none, none⟩, 
  ⟨.op (.iaddr 2 (.slot 7) (.slot 8)), none, none⟩, 
  ⟨.op (.faddr 1 (.slot 9)), none, none⟩, 
  ⟨.op (.load 1 false (.slot 10)), none, none⟩, 
  ⟨.op (.mv (.slot 1)), none, none⟩, 
  ⟨.op (.bin .neq (.slot 11) (.slot 12)), some 6, none⟩]) c46_4) c46_2
abbrev c46_6 : SCode := .seq (.reg [20, 21, 1034] [
  ⟨.op (.mv (.slot 1)), none, none⟩, 
  ⟨.op (.bin .add (.slot 7) (.con (.int .i64 1))), none, none⟩, 
  ⟨.op (.asg (.slot 8)), some 1, none⟩]) c46_5
abbrev c46_7 : SCode := .seq (.reg [1032] [
  ⟨.op (.asg (.con (.int .i64 (-1)))), some 2, none⟩]) (.ret)
abbrev c46_8 : SCode := .cond (.slot 5) c46_7 (.skip)
abbrev c46_9 : SCode := .seq (.block 1 (.seq (.seq (.dreg [12, 13, 14, 15, 16, 17, 18, 1039] [
  ⟨.op (.mv (.slot 0)), none, none⟩, 
  ⟨.op (.mv (.slot 3)), none, none⟩, 
  ⟨.op (.iaddr 2 (.slot 7) (.slot 8)), none, none⟩, 
  ⟨.op (.faddr 0 (.slot 9)), none, none⟩, 
  ⟨.op (.load 1 false (.slot 10)), none, none⟩, 
  ⟨.op (.mv (.slot 1)), none, none⟩, 
  ⟨.call 54 [(.slot 12)] false, none, none⟩, 
  ⟨.op (.bin .neq (.slot 11) (.slot 13)), some 5, none⟩]
  [[], [], [0, 1], [0, 1, 2], [0, 1, 2, 3], [], [5], [0, 1, 2, 3, 4, 5, 6]] 7 [] [([], none), ([false], none), ([true, true], none), ([true, true, true], none), ([true, true, true, true], none), ([false, false, false, false, false], none), ([false, false, false, false, false, true], none)] [true, true, true, true, true, true, true]) c46_8) c46_6)) c46_1
abbrev c46_10 : SCode := .cond (.slot 4) (.skip) (.exit 0)
abbrev b46_0 : SCode := .seq (.seq (.reg [6, 7, 8, 1035] [
  ⟨.op (.mv (.slot 3)), none, none⟩, 
  ⟨.op (.mv (.slot 0)), none, none⟩, 
  ⟨.op (.len false (.slot 8)), none, none⟩, 
  ⟨.op (.bin .lss (.slot 7) (.slot 9)), some 4, none⟩]) c46_10) c46_9
def l46_0 : SCode := .loop b46_0
abbrev c46_12 : SCode := .block 0 (l46_0)
abbrev c46_13 : SCode := .seq (.seq (.reg [1032] [
  ⟨.op (.asg (.con (.int .i64 0))), some 3, none⟩]) c46_12) c46_0
abbrev s46 : SCode := .seq (.reg [1032] [
  ⟨.op (.asg (.con (.int .i64 0))), some 2, none⟩]) c46_13
theorem ok46 : okFn Go.Proofs.Try.prog Go.Proofs.Try.f46 v46 s46 r46 2 = true := by kernel_rfl

def v49 : List Nat := [0, 1, 2, 6]
def r49 : List SRes := [.tmp 3]
abbrev c49_0 : SCode := .seq (.reg [7, 8, 9, 10, 11, 12, 13, 14, 1023] [
  ⟨.op (.mv (.slot 0)), none, none⟩, 
  ⟨.op (.mv (.slot 1)), none, none⟩, 
  ⟨.op (.bin .geq (.slot 4) (.slot 5)), none, none⟩, 
  ⟨.op (.mv (.slot 6)), none, none⟩, 
  ⟨.op (.mv (.slot 0)), none, some (7, true)⟩, 
  ⟨.op (.mv (.slot 2)), none, some (7, true)⟩, 
  ⟨.op (.bin .leq (.slot 8) (.slot 9)), none, some (7, true)⟩, 
  ⟨.op (.pick (.slot 7) (.slot 10) (.con (.bool false))), none, none⟩, 
  ⟨.op (.asg (.slot 11)), some 3, none⟩]) (.ret)
abbrev s49 : SCode := .seq (.reg [1015] [
  ⟨.op (.asg (.con (.bool false))), some 3, none⟩]) c49_0
theorem ok49 : okFn Go.Proofs.Try.prog Go.Proofs.Try.f49 v49 s49 r49 3 = true := by kernel_rfl

def v52 : List Nat := [0, 1, 2]
def r52 : List SRes := [.cell 2 19 true]
abbrev c52_0 : SCode := .seq (.dreg [3, 4, 5, 6, 7, 8, 9, 10, 11, 12, 13, 14, 15, 16, 17, 18, 19, 20, 21, 22, 1043] [
  ⟨.op (.faddr 0 (.slot 1)), none, none⟩, 
  ⟨.op (.load 1 false (.slot 3)), none, none⟩, 
  ⟨.op (.faddr 1 (.slot 1)), none, none⟩, 
  ⟨.op (.load 1 false (.slot 5)), none, none⟩, 
  ⟨.op (.faddr 2 (.slot 1)), none, none⟩, 
  ⟨.op (.load 4 true (.slot 7)), none, none⟩, 
  ⟨.call 76 [(.slot 8)] false, none, none⟩, 
  ⟨.op (.faddr 6 (.slot 1)), none, none⟩, 
  ⟨.op (.load 4 true (.slot 10)), none, none⟩, 
  ⟨.call 76 [(.slot 11)] false, none, none⟩, 
  ⟨.op (.faddr 10 (.slot 1)), none, none⟩, 
  ⟨.op (.load 4 true (.slot 13)), none, none⟩, 
  ⟨.call 76 [(.slot 14)] false, none, none⟩, 
  ⟨.op (.faddr 14 (.slot 1)), none, none⟩, 
  ⟨.op (.load 4 true (.slot 16)), none, none⟩, 
  ⟨.call 76 [(.slot 17)] false, none, none⟩, 
  ⟨.op (.faddr 18 (.slot 1)), none, none⟩, 
  ⟨.op (.load 1 false (.slot 19)), none, none⟩, 
  ⟨.call 68 [(.slot 20)] false, none, none⟩, 
  ⟨.op (.build [(.int .i64 0), (.str []), (.int .i64 0), (.int .i64 0), (.str []), (.osl 0 31 0 []), (.int .i64 0), (.int .i64 0), (.str []), (.osl 0 31 0 []), (.int .i64 0), (.int .i64 0), (.str []), (.osl 0 31 0 []), (.int .i64 0), (.int .i64 0), (.str []), (.osl 0 31 0 []), (.osl 0 34 0 [])] [(0, 1, (.slot 4)), (1, 1, (.slot 6)), (2, 4, (.slot 9)), (6, 4, (.slot 12)), (10, 4, (.slot 15)), (14, 4, (.slot 18)), (18, 1, (.slot 21))]), none, none⟩, 
  ⟨.op (.store 19 true (.slot 2) (.slot 22)), none, none⟩]
  [[], [0], [], [2], [], [4], [4, 5], [], [7], [4, 5, 6, 7, 8], [], [10], [4, 5, 6, 7, 8, 9, 10, 11], [], [13], [4, 5, 6, 7, 8, 9, 10, 11, 12, 13, 14], [], [16], [4, 5, 6, 7, 8, 9, 10, 11, 12, 13, 14, 15, 16, 17], [0, 1, 2, 3, 4, 5, 6, 7, 8, 9, 10, 11, 12, 13, 14, 15, 16, 17, 18], [0, 1, 2, 3, 4, 5, 6, 7, 8, 9, 10, 11, 12, 13, 14, 15, 16, 17, 18, 19]] 20 [] [([], none), ([true], none), ([false, false], none), ([false, false, true], none), ([false, false, false, false], none), ([false, false, false, false, true], none), ([false, false, false, false, true, true], none), ([false, false, false, false, false, false, false], none), ([false, false, false, false, false, false, false, true], none), ([false, false, false, false, true, true, true, true, true], none), ([false, false, false, false, false, false, false, false, false, false], none), ([false, false, false, false, false, false, false, false, false, false, true], none), ([false, false, false, false, true, true, true, true, true, true, true, true], none), ([false, false, false, false, false, false, false, false, false, false, false, false, false], none), ([false, false, false, false, false, false, false, false, false, false, false, false, false, true], none), ([false, false, false, false, true, true, true, true, true, true, true, true, true, true, true], none), ([false, false, false, false, false, false, false, false, false, false, false, false, false, false, false, false], none), ([false, false, false, false, false, false, false, false, false, false, false, false, false, false, false, false, true], none), ([false, false, false, false, true, true, true, true, true, true, true, true, true, true, true, true, true, true], none), ([true, true, true, true, true, true, true, true, true, true, true, true, true, true, true, true, true, true, true], none)] [true, true, true, true, true, true, true, true, true, true, true, true, true, true, true, true, true, true, true, true]) (.ret)
abbrev s52 : SCode := .seq (.reg [1023, 1024] [
  ⟨.op (.box 34 19 (.slot 0)), some 1, none⟩, 
  ⟨.op (.mk 34 [(.int .i64 0), (.str []), (.int .i64 0), (.int .i64 0), (.str []), (.osl 0 31 0 []), (.int .i64 0), (.int .i64 0), (.str []), (.osl 0 31 0 []), (.int .i64 0), (.int .i64 0), (.str []), (.osl 0 31 0 []), (.int .i64 0), (.int .i64 0), (.str []), (.osl 0 31 0 []), (.osl 0 34 0 [])]), some 2, none⟩]) c52_0
theorem ok52 : okFn Go.Proofs.Try.prog Go.Proofs.Try.f52 v52 s52 r52 1 = true := by kernel_rfl

def v54 : List Nat := [0, 2, 5, 3, 7]
def r54 : List SRes := [.tmp 1]
abbrev c54_0 : SCode := .seq (.reg [18, 19, 1022] [
  ⟨.op (.mv (.slot 3)), none, none⟩, 
  ⟨.op (.bin .add (.con (.str [109])) (.slot 5)), none, none⟩, 
  ⟨.op (.asg (.slot 6)), some 1, none⟩]) (.ret)
abbrev c54_1 : SCode := .reg [16, 17, 1022] [
  ⟨.op (.mv (.slot 0)), none, none⟩, 
  ⟨.op (.bin .quo (.slot 5) (.con (.int .i64 10))), none, none⟩, 
  ⟨.op (.asg (.slot 6)), some 0, none⟩]
abbrev c54_2 : SCode := .block 1 (.seq (.reg [8, 9, 10, 11, 12, 13, 14, 15, 1028] [
  ⟨.op (.mv (.slot 0)), none, none⟩, 
  ⟨.op (.bin .rem (.slot 5) (.con (.int .i64 10))), none, none⟩, 
  ⟨.op (.bin .add (.con (.int .i64 48)) (.slot 6)), none, none⟩, 
  ⟨.op (.conv .u8 (.slot 7)), none, none⟩, 
  ⟨.op (.bsl 5 1 [(.int .u8 0)] [(0, 1, (.slot 8))]), none, none⟩, 
  ⟨.op (.b2s (.slot 9)), none, none⟩, 
  ⟨.op (.mv (.slot 3)), none, none⟩, 
  ⟨.op (.bin .add (.slot 10) (.slot 11)), none, none⟩, 
  ⟨.op (.asg (.slot 12)), some 3, none⟩]) c54_1)
abbrev c54_3 : SCode := .cond (.slot 4) (.skip) (.exit 0)
abbrev b54_0 : SCode := .seq (.seq (.reg [6, 1021] [
  ⟨.op (.mv (.slot 0)), none, none⟩, 
  ⟨.op (.bin .gtr (.slot 5) (.con (.int .i64 0))), some 4, none⟩]) c54_3) c54_2
def l54_0 : SCode := .loop b54_0
abbrev c54_5 : SCode := .seq (.block 0 (l54_0)) c54_0
abbrev c54_6 : SCode := .seq (.reg [1020] [
  ⟨.op (.asg (.con (.str []))), some 3, none⟩]) c54_5
abbrev c54_7 : SCode := .seq (.reg [1020] [
  ⟨.op (.asg (.con (.str [109, 48]))), some 1, none⟩]) (.ret)
abbrev c54_8 : SCode := .cond (.slot 2) c54_7 (.skip)
abbrev c54_9 : SCode := .seq (.seq (.reg [4, 1021] [
  ⟨.op (.mv (.slot 0)), none, none⟩, 
  ⟨.op (.bin .leq (.slot 5) (.con (.int .i64 0))), some 2, none⟩]) c54_8) c54_6
abbrev s54 : SCode := .seq (.reg [1020] [
  ⟨.op (.asg (.con (.str []))), some 1, none⟩]) c54_9
theorem ok54 : okFn Go.Proofs.Try.prog Go.Proofs.Try.f54 v54 s54 r54 1 = true := by kernel_rfl

def v55 : List Nat := [0, 1, 4, 5, 9]
def r55 : List SRes := [.tmp 2]
abbrev c55_0 : SCode := .seq (.reg [41, 1043] [
  ⟨.op (.mv (.slot 1)), none, none⟩, 
  ⟨.op (.asg (.slot 5)), some 2, none⟩]) (.ret)
abbrev c55_1 : SCode := .reg [10, 11, 1044] [
  ⟨.op (.mv (.slot 3)), none, none⟩, 
  ⟨.op (.bin .add (.slot 5) (.con (.int .i64 1))), none, none⟩, 
  ⟨.op (.asg (.slot 6)), some 3, none⟩]
abbrev c55_2 : SCode := .reg [34, 35, 36, 37, 38, 39, 40, 1049] [
  ⟨.op (.mv (.slot 0)), none, none⟩, 
  ⟨.op (.mv (.slot 3)), none, none⟩, 
  ⟨.op (.iaddr 4 (.slot 5) (.slot 6)), none, none⟩, 
  ⟨.op (.faddr 3 (.slot 7)), none, none⟩, 
  ⟨.op (.load 1 false (.slot 8)), none, none⟩, 
  ⟨.op (.mv (.slot 1)), none, none⟩, 
  ⟨.callm (.con (.fn 55 [])) [((.slot 9), true), ((.slot 10), false)], none, none⟩, 
  ⟨.op (.asg (.slot 11)), some 1, none⟩]
abbrev c55_3 : SCode := .seq (.reg [32, 33, 1044] [
  ⟨.op (.mv (.slot 1)), none, none⟩, 
  ⟨.op (.bin .add (.slot 5) (.con (.int .i64 1))), none, none⟩, 
  ⟨.op (.asg (.slot 6)), some 1, none⟩]) c55_2
abbrev c55_4 : SCode := .seq (.reg [26, 27, 28, 29, 30, 31, 1048] [
  ⟨.op (.mv (.slot 0)), none, none⟩, 
  ⟨.op (.mv (.slot 3)), none, none⟩, 
  ⟨.op (.mv (.slot 1)), none, none⟩, 
  ⟨.call 54 [(.slot 7)] false, none, none⟩, 
  ⟨.op (.iaddr 4 (.slot 5) (.slot 6)), none, none⟩, 
  ⟨.op (.faddr 2 (.slot 9)), none, none⟩, 
  ⟨.op (.store 1 false (.slot 10) (.slot 8)), none, none⟩]) c55_3
abbrev c55_5 : SCode := .seq (.reg [24, 25, 1044] [
  ⟨.op (.mv (.slot 1)), none, none⟩, 
  ⟨.op (.bin .add (.slot 5) (.con (.int .i64 1))), none, none⟩, 
  ⟨.op (.asg (.slot 6)), some 1, none⟩]) c55_4
abbrev c55_6 : SCode := .seq (.reg [19, 20, 21, 22, 23, 1047] [
  ⟨.op (.mv (.slot 0)), none, none⟩, 
  ⟨.op (.mv (.slot 3)), none, none⟩, 
  ⟨.op (.mv (.slot 1)), none, none⟩, 
  ⟨.op (.iaddr 4 (.slot 5) (.slot 6)), none, none⟩, 
  ⟨.op (.faddr 1 (.slot 8)), none, none⟩, 
  ⟨.op (.store 1 false (.slot 9) (.slot 7)), none, none⟩]) c55_5
abbrev c55_7 : SCode := .seq (.reg [17, 18, 1044] [
  ⟨.op (.mv (.slot 1)), none, none⟩, 
  ⟨.op (.bin .add (.slot 5) (.con (.int .i64 1))), none, none⟩, 
  ⟨.op (.asg (.slot 6)), some 1, none⟩]) c55_6
abbrev c55_8 : SCode := .seq (.block 1 (.seq (.reg [12, 13, 14, 15, 16, 1047] [
  ⟨.op (.mv (.slot 0)), none, none⟩, 
  ⟨.op (.mv (.slot 3)), none, none⟩, 
  ⟨.op (.mv (.slot 1)), none, none⟩, 
  ⟨.op (.iaddr 4 (.slot 5) (.slot 6)), none, none⟩, 
  ⟨.op (.faddr 0 (.slot 8)), none, none⟩, 
  ⟨.op (.store 1 false (.slot 9) (.slot 7)), none, none⟩]) c55_7)) c55_1
abbrev c55_9 : SCode := .cond (.slot 4) (.skip) (.exit 0)
abbrev b55_0 : SCode := .seq (.seq (.reg [6, 7, 8, 1045] [
  ⟨.op (.mv (.slot 3)), none, none⟩, 
  ⟨.op (.mv (.slot 0)), none, none⟩, 
  ⟨.op (.len false (.slot 6)), none, none⟩, 
  ⟨.op (.bin .lss (.slot 5) (.slot 7)), some 4, none⟩]) c55_9) c55_8
def l55_0 : SCode := .loop b55_0
abbrev c55_11 : SCode := .block 0 (l55_0)
abbrev c55_12 : SCode := .seq (.seq (.reg [1042] [
  ⟨.op (.asg (.con (.int .i64 0))), some 3, none⟩]) c55_11) c55_0
abbrev s55 : SCode := .seq (.reg [1042] [
  ⟨.op (.asg (.con (.int .i64 0))), some 2, none⟩]) c55_12
theorem ok55 : okFn Go.Proofs.Try.prog Go.Proofs.Try.f55 v55 s55 r55 2 = true := by kernel_rfl

def v56 : List Nat := [0, 1, 4, 5, 9, 18, 27, 37, 48]
def r56 : List SRes := [.tmp 2]
abbrev c56_0 : SCode := .seq (.reg [49, 1051] [
  ⟨.op (.mv (.slot 1)), none, none⟩, 
  ⟨.op (.asg (.slot 9)), some 2, none⟩]) (.ret)
abbrev c56_1 : SCode := .reg [10, 11, 1052] [
  ⟨.op (.mv (.slot 3)), none, none⟩, 
  ⟨.op (.bin .add (.slot 9) (.con (.int .i64 1))), none, none⟩, 
  ⟨.op (.asg (.slot 10)), some 3, none⟩]
abbrev c56_2 : SCode := .seq (.reg [1050] [
  ⟨.op (.asg (.con (.int .i64 (-1)))), some 2, none⟩]) (.ret)
abbrev c56_3 : SCode := .cond (.slot 8) c56_2 (.skip)
abbrev c56_4 : SCode := .seq (.reg [47, 1051] [
  ⟨.op (.mv (.slot 1)), none, none⟩, 
  ⟨.op (.bin .lss (.slot 9) (.con (.int .i64 0))), some 8, none⟩]) c56_3
abbrev c56_5 : SCode := .seq (.reg [40, 41, 42, 43, 44, 45, 46, 1057] [
  ⟨.op (.mv (.slot 0)), none, none⟩, 
  ⟨.op (.mv (.slot 3)), none, none⟩, 
  ⟨.op (.iaddr 4 (.slot 9) (.slot 10)), none, none⟩, 
  ⟨.op (.faddr 3 (.slot 11)), none, none⟩, 
  ⟨.op (.load 1 false (.slot 12)), none, none⟩, 
  ⟨.op (.mv (.slot 1)), none, none⟩, 
  ⟨.call 56 [(.slot 13), (.slot 14)] false, none, none⟩, 
  ⟨.op (.asg (.slot 15)), some 1, none⟩]) c56_4
abbrev c56_6 : SCode := .seq (.reg [38, 39, 1052] [
  ⟨.op (.mv (.slot 1)), none, none⟩, 
  ⟨.op (.bin .add (.slot 9) (.con (.int .i64 1))), none, none⟩, 
  ⟨.op (.asg (.slot 10)), some 1, none⟩]) c56_5
abbrev c56_7 : SCode := .seq (.reg [1050] [
  ⟨.op (.asg (.con (.int .i64 (-1)))), some 2, none⟩]) (.ret)
abbrev c56_8 : SCode := .cond (.slot 7) c56_7 (.skip)
abbrev c56_9 : SCode := .seq (.seq (.dreg [30, 31, 32, 33, 34, 35, 36, 1057] [
  ⟨.op (.mv (.slot 0)), none, none⟩, 
  ⟨.op (.mv (.slot 3)), none, none⟩, 
  ⟨.op (.iaddr 4 (.slot 9) (.slot 10)), none, none⟩, 
  ⟨.op (.faddr 2 (.slot 11)), none, none⟩, 
  ⟨.op (.load 1 false (.slot 12)), none, none⟩, 
  ⟨.op (.mv (.slot 1)), none, none⟩, 
  ⟨.call 54 [(.slot 14)] false, none, none⟩, 
  ⟨.op (.bin .neq (.slot 13) (.slot 15)), some 7, none⟩]
  [[], [], [0, 1], [0, 1, 2], [0, 1, 2, 3], [], [5], [0, 1, 2, 3, 4, 5, 6]] 7 [] [([], none), ([false], none), ([true, true], none), ([true, true, true], none), ([true, true, true, true], none), ([false, false, false, false, false], none), ([false, false, false, false, false, true], none)] [true, true, true, true, true, true, true]) c56_8) c56_6
abbrev c56_10 : SCode := .seq (.reg [28, 29, 1052] [
  ⟨.op (.mv (.slot 1)), none, none⟩, 
  ⟨.op (.bin .add (.slot 9) (.con (.int .i64 1))), none, none⟩, 
  ⟨.op (.asg (.slot 10)), some 1, none⟩]) c56_9
abbrev c56_11 : SCode := .seq (.reg [1050] [
  ⟨.op (.asg (.con (.int .i64 (-1)))), some 2, none⟩]) (.ret)
abbrev c56_12 : SCode := .cond (.slot 6) c56_11 (.skip)
abbrev c56_13 : SCode := .seq (.seq (.reg [21, 22, 23, 24, 25, 26, 1056] [
  ⟨.op (.mv (.slot 0)), none, none⟩, 
  ⟨.op (.mv (.slot 3)), none, none⟩, 
  ⟨.op (.iaddr 4 (.slot 9) (.slot 10)), none, none⟩, 
  ⟨.op (.faddr 1 (.slot 11)), none, none⟩, 
  ⟨.op (.load 1 false (.slot 12)), none, none⟩, 
  ⟨.op (.mv (.slot 1)), none, none⟩, 
  ⟨.op (.bin .neq (.slot 13) (.slot 14)), some 6, none⟩]) c56_12) c56_10
abbrev c56_14 : SCode := .seq (.reg [19, 20, 1052] [
  ⟨.op (.mv (.slot 1)), none, none⟩, 
  ⟨.op (.bin .add (.slot 9) (.con (.int .i64 1))), none, none⟩, 
  ⟨.op (.asg (.slot 10)), some 1, none⟩]) c56_13
abbrev c56_15 : SCode := .seq (.reg [1050] [
  ⟨.op (.asg (.con (.int .i64 (-1)))), some 2, none⟩]) (.ret)
abbrev c56_16 : SCode := .cond (.slot 5) c56_15 (.skip)
abbrev c56_17 : SCode := .seq (.block 1 (.seq (.seq (.reg [12, 13, 14, 15, 16, 17, 1056] [
  ⟨.op (.mv (.slot 0)), none, none⟩, 
  ⟨.op (.mv (.slot 3)), none, none⟩, 
  ⟨.op (.iaddr 4 (.slot 9) (.slot 10)), none, none⟩, 
  ⟨.op (.faddr 0 (.slot 11)), none, none⟩, 
  ⟨.op (.load 1 false (.slot 12)), none, none⟩, 
  ⟨.op (.mv (.slot 1)), none, none⟩, 
  ⟨.op (.bin .neq (.slot 13) (.slot 14)), some 5, none⟩]) c56_16) c56_14)) c56_1
abbrev c56_18 : SCode := .cond (.slot 4) (.skip) (.exit 0)
abbrev b56_0 : SCode := .seq (.seq (.reg [6, 7, 8, 1053] [
  ⟨.op (.mv (.slot 3)), none, none⟩, 
  ⟨.op (.mv (.slot 0)), none, none⟩, 
  ⟨.op (.len false (.slot 10)), none, none⟩, 
  ⟨.op (.bin .lss (.slot 9) (.slot 11)), some 4, none⟩]) c56_18) c56_17
def l56_0 : SCode := .loop b56_0
abbrev c56_20 : SCode := .block 0 (l56_0)
abbrev c56_21 : SCode := .seq (.seq (.reg [1050] [
  ⟨.op (.asg (.con (.int .i64 0))), some 3, none⟩]) c56_20) c56_0
abbrev s56 : SCode := .seq (.reg [1050] [
  ⟨.op (.asg (.con (.int .i64 0))), some 2, none⟩]) c56_21
theorem ok56 : okFn Go.Proofs.Try.prog Go.Proofs.Try.f56 v56 s56 r56 2 = true := by kernel_rfl

def v57 : List Nat := [0, 1, 4, 11, 5, 15, 25]
def r57 : List SRes := [.tmp 2]
abbrev c57_0 : SCode := .seq (.reg [26, 1028] [
  ⟨.op (.mv (.slot 1)), none, none⟩, 
  ⟨.op (.asg (.slot 7)), some 2, none⟩]) (.ret)
abbrev c57_1 : SCode := .reg [16, 17, 1029] [
  ⟨.op (.mv (.slot 4)), none, none⟩, 
  ⟨.op (.bin .add (.slot 7) (.con (.int .i64 1))), none, none⟩, 
  ⟨.op (.asg (.slot 8)), some 4, none⟩]
abbrev c57_2 : SCode := .seq (.reg [1027] [
  ⟨.op (.asg (.con (.int .i64 (-1)))), some 2, none⟩]) (.ret)
abbrev c57_3 : SCode := .cond (.slot 6) c57_2 (.skip)
abbrev c57_4 : SCode := .seq (.reg [24, 1028] [
  ⟨.op (.mv (.slot 1)), none, none⟩, 
  ⟨.op (.bin .lss (.slot 7) (.con (.int .i64 0))), some 6, none⟩]) c57_3
abbrev c57_5 : SCode := .seq (.block 1 (.seq (.reg [18, 19, 20, 21, 22, 23, 1033] [
  ⟨.op (.mv (.slot 0)), none, none⟩, 
  ⟨.op (.mv (.slot 4)), none, none⟩, 
  ⟨.op (.iaddr 4 (.slot 7) (.slot 8)), none, none⟩, 
  ⟨.op (.load 4 true (.slot 9)), none, none⟩, 
  ⟨.op (.mv (.slot 1)), none, none⟩, 
  ⟨.call 31 [(.slot 10), (.slot 11)] false, none, none⟩, 
  ⟨.op (.asg (.slot 12)), some 1, none⟩]) c57_4)) c57_1
abbrev c57_6 : SCode := .cond (.slot 5) (.skip) (.exit 0)
abbrev b57_0 : SCode := .seq (.seq (.reg [12, 13, 14, 1030] [
  ⟨.op (.mv (.slot 4)), none, none⟩, 
  ⟨.op (.mv (.slot 0)), none, none⟩, 
  ⟨.op (.len false (.slot 8)), none, none⟩, 
  ⟨.op (.bin .lss (.slot 7) (.slot 9)), some 5, none⟩]) c57_6) c57_5
def l57_0 : SCode := .loop b57_0
abbrev c57_8 : SCode := .block 0 (l57_0)
abbrev c57_9 : SCode := .seq (.seq (.reg [1027] [
  ⟨.op (.asg (.con (.int .i64 0))), some 4, none⟩]) c57_8) c57_0
abbrev c57_10 : SCode := .seq (.reg [1027] [
  ⟨.op (.asg (.con (.int .i64 (-1)))), some 2, none⟩]) (.ret)
abbrev c57_11 : SCode := .cond (.slot 3) c57_10 (.skip)
abbrev c57_12 : SCode := .seq (.seq (.reg [10, 1028] [
  ⟨.op (.mv (.slot 1)), none, none⟩, 
  ⟨.op (.bin .lss (.slot 7) (.con (.int .i64 0))), some 3, none⟩]) c57_11) c57_9
abbrev c57_13 : SCode := .seq (.reg [6, 7, 8, 9, 1031] [
  ⟨.op (.mv (.slot 1)), none, none⟩, 
  ⟨.op (.mv (.slot 0)), none, none⟩, 
  ⟨.op (.len false (.slot 8)), none, none⟩, 
  ⟨.op (.bin .sub (.slot 7) (.slot 9)), none, none⟩, 
  ⟨.op (.asg (.slot 10)), some 1, none⟩]) c57_12
abbrev s57 : SCode := .seq (.reg [1027] [
  ⟨.op (.asg (.con (.int .i64 0))), some 2, none⟩]) c57_13
theorem ok57 : okFn Go.Proofs.Try.prog Go.Proofs.Try.f57 v57 s57 r57 2 = true := by kernel_rfl

def v58 : List Nat := [0, 1, 2, 6]
def r58 : List SRes := [.tmp 3]
abbrev c58_0 : SCode := .seq (.reg [7, 8, 9, 10, 11, 12, 13, 14, 1023] [
  ⟨.op (.mv (.slot 0)), none, none⟩, 
  ⟨.op (.mv (.slot 1)), none, none⟩, 
  ⟨.op (.bin .geq (.slot 4) (.slot 5)), none, none⟩, 
  ⟨.op (.mv (.slot 6)), none, none⟩, 
  ⟨.op (.mv (.slot 0)), none, some (7, true)⟩, 
  ⟨.op (.mv (.slot 2)), none, some (7, true)⟩, 
  ⟨.op (.bin .leq (.slot 8) (.slot 9)), none, some (7, true)⟩, 
  ⟨.op (.pick (.slot 7) (.slot 10) (.con (.bool false))), none, none⟩, 
  ⟨.op (.asg (.slot 11)), some 3, none⟩]) (.ret)
abbrev s58 : SCode := .seq (.reg [1015] [
  ⟨.op (.asg (.con (.bool false))), some 3, none⟩]) c58_0
theorem ok58 : okFn Go.Proofs.Try.prog Go.Proofs.Try.f58 v58 s58 r58 3 = true := by kernel_rfl

def v59 : List Nat := [0, 1, 2, 6, 7, 8, 13, 18, 23, 27, 32]
def r59 : List SRes := [.tmp 3]
abbrev c59_0 : SCode := .seq (.reg [34, 1036] [
  ⟨.op (.mv (.slot 2)), none, none⟩, 
  ⟨.op (.asg (.slot 11)), some 3, none⟩]) (.ret)
abbrev c59_1 : SCode := .seq (.reg [33, 1036] [
  ⟨.op (.mv (.slot 1)), none, none⟩, 
  ⟨.op (.asg (.slot 11)), some 3, none⟩]) (.ret)
abbrev c59_2 : SCode := .cond (.slot 10) c59_1 (.skip)
abbrev c59_3 : SCode := .seq (.seq (.reg [30, 31, 1037] [
  ⟨.op (.mv (.slot 1)), none, none⟩, 
  ⟨.op (.mv (.slot 2)), none, none⟩, 
  ⟨.op (.bin .gtr (.slot 11) (.slot 12)), some 10, none⟩]) c59_2) c59_0
abbrev c59_4 : SCode := .seq (.reg [10, 11, 12, 1038] [
  ⟨.op (.mv (.slot 1)), none, none⟩, 
  ⟨.op (.mv (.slot 2)), none, none⟩, 
  ⟨.call 77 [(.slot 11), (.slot 12)] false, none, none⟩, 
  ⟨.op (.asg (.slot 13)), some 3, none⟩]) (.ret)
abbrev c59_5 : SCode := .seq (.reg [15, 16, 17, 1038] [
  ⟨.op (.mv (.slot 1)), none, none⟩, 
  ⟨.op (.mv (.slot 2)), none, none⟩, 
  ⟨.call 78 [(.slot 11), (.slot 12)] false, none, none⟩, 
  ⟨.op (.asg (.slot 13)), some 3, none⟩]) (.ret)
abbrev c59_6 : SCode := .seq (.reg [20, 21, 22, 1038] [
  ⟨.op (.mv (.slot 1)), none, none⟩, 
  ⟨.op (.mv (.slot 2)), none, none⟩, 
  ⟨.call 79 [(.slot 11), (.slot 12)] false, none, none⟩, 
  ⟨.op (.asg (.slot 13)), some 3, none⟩]) (.ret)
abbrev c59_7 : SCode := .seq (.reg [29, 1036] [
  ⟨.op (.mv (.slot 2)), none, none⟩, 
  ⟨.op (.asg (.slot 11)), some 3, none⟩]) (.ret)
abbrev c59_8 : SCode := .seq (.reg [28, 1036] [
  ⟨.op (.mv (.slot 1)), none, none⟩, 
  ⟨.op (.asg (.slot 11)), some 3, none⟩]) (.ret)
abbrev c59_9 : SCode := .cond (.slot 9) c59_8 (.skip)
abbrev c59_10 : SCode := .seq (.seq (.reg [25, 26, 1037] [
  ⟨.op (.mv (.slot 1)), none, none⟩, 
  ⟨.op (.mv (.slot 2)), none, none⟩, 
  ⟨.op (.bin .lss (.slot 11) (.slot 12)), some 9, none⟩]) c59_9) c59_7
abbrev c59_11 : SCode := .cond (.slot 8) c59_10 (.skip)
abbrev c59_12 : SCode := .seq (.reg [24, 1036] [
  ⟨.op (.bin .eql (.slot 4) (.con (.int .i64 7))), none, none⟩, 
  ⟨.op (.asg (.slot 11)), some 8, none⟩]) c59_11
abbrev c59_13 : SCode := .cond (.slot 7) c59_6 c59_12
abbrev c59_14 : SCode := .seq (.reg [19, 1036] [
  ⟨.op (.bin .eql (.slot 4) (.con (.int .i64 6))), none, none⟩, 
  ⟨.op (.asg (.slot 11)), some 7, none⟩]) c59_13
abbrev c59_15 : SCode := .cond (.slot 6) c59_5 c59_14
abbrev c59_16 : SCode := .seq (.reg [14, 1036] [
  ⟨.op (.bin .eql (.slot 4) (.con (.int .i64 5))), none, none⟩, 
  ⟨.op (.asg (.slot 11)), some 6, none⟩]) c59_15
abbrev c59_17 : SCode := .cond (.slot 5) c59_4 c59_16
abbrev c59_18 : SCode := .block 0 (.seq (.reg [9, 1036] [
  ⟨.op (.bin .eql (.slot 4) (.con (.int .i64 4))), none, none⟩, 
  ⟨.op (.asg (.slot 11)), some 5, none⟩]) c59_17)
abbrev c59_19 : SCode := .seq (.seq (.reg [1035] [
  ⟨.op (.asg (.slot 0)), some 4, none⟩]) c59_18) c59_3
abbrev s59 : SCode := .seq (.reg [1035] [
  ⟨.op (.asg (.con (.int .i64 0))), some 3, none⟩]) c59_19
theorem ok59 : okFn Go.Proofs.Try.prog Go.Proofs.Try.f59 v59 s59 r59 3 = true := by kernel_rfl

def v60 : List Nat := [0, 2]
def r60 : List SRes := [.cell 1 4 true]
abbrev c60_0 : SCode := .seq (.reg [3, 4, 1007] [
  ⟨.op (.mv (.slot 0)), none, none⟩, 
  ⟨.op (.build [(.int .i64 0), (.int .i64 0), (.str []), (.osl 0 31 0 [])] [(0, 1, (.con (.int .i64 1))), (1, 1, (.slot 2))]), none, none⟩, 
  ⟨.op (.store 4 true (.slot 1) (.slot 3)), none, none⟩]) (.ret)
abbrev s60 : SCode := .seq (.reg [1005] [
  ⟨.op (.mk 31 [(.int .i64 0), (.int .i64 0), (.str []), (.osl 0 31 0 [])]), some 1, none⟩]) c60_0
theorem ok60 : okFn Go.Proofs.Try.prog Go.Proofs.Try.f60 v60 s60 r60 1 = true := by kernel_rfl

def v61 : List Nat := [0, 2, 3, 4, 11]
def r61 : List SRes := [.tmp 1]
abbrev c61_0 : SCode := .seq (.reg [22, 1024] [
  ⟨.op (.mv (.slot 2)), none, none⟩, 
  ⟨.op (.asg (.slot 5)), some 1, none⟩]) (.ret)
abbrev c61_1 : SCode := .reg [12, 13, 1025] [
  ⟨.op (.mv (.slot 3)), none, none⟩, 
  ⟨.op (.bin .add (.slot 5) (.con (.int .i64 1))), none, none⟩, 
  ⟨.op (.asg (.slot 6)), some 3, none⟩]
abbrev c61_2 : SCode := .seq (.block 1 (.reg [14, 15, 16, 17, 18, 19, 20, 21, 1031] [
  ⟨.op (.mv (.slot 2)), none, none⟩, 
  ⟨.op (.mv (.slot 3)), none, none⟩, 
  ⟨.op (.mv (.slot 0)), none, none⟩, 
  ⟨.op (.mv (.slot 3)), none, none⟩, 
  ⟨.op (.iaddr 4 (.slot 7) (.slot 8)), none, none⟩, 
  ⟨.op (.load 4 true (.slot 9)), none, none⟩, 
  ⟨.call 34 [(.slot 10)] false, none, none⟩, 
  ⟨.op (.iaddr 4 (.slot 5) (.slot 6)), none, none⟩, 
  ⟨.op (.store 4 true (.slot 12) (.slot 11)), none, none⟩])) c61_1
abbrev c61_3 : SCode := .cond (.slot 4) (.skip) (.exit 0)
abbrev b61_0 : SCode := .seq (.seq (.reg [8, 9, 10, 1026] [
  ⟨.op (.mv (.slot 3)), none, none⟩, 
  ⟨.op (.mv (.slot 0)), none, none⟩, 
  ⟨.op (.len false (.slot 6)), none, none⟩, 
  ⟨.op (.bin .lss (.slot 5) (.slot 7)), some 4, none⟩]) c61_3) c61_2
def l61_0 : SCode := .loop b61_0
abbrev c61_5 : SCode := .block 0 (l61_0)
abbrev c61_6 : SCode := .seq (.seq (.reg [1023] [
  ⟨.op (.asg (.con (.int .i64 0))), some 3, none⟩]) c61_5) c61_0
abbrev c61_7 : SCode := .seq (.reg [5, 6, 7, 1026] [
  ⟨.op (.mv (.slot 0)), none, none⟩, 
  ⟨.op (.len false (.slot 5)), none, none⟩, 
  ⟨.op (.mksl 31 [(.int .i64 0), (.int .i64 0), (.str []), (.osl 0 31 0 [])] (.slot 6) (.slot 6)), none, none⟩, 
  ⟨.op (.asg (.slot 7)), some 2, none⟩]) c61_6
abbrev s61 : SCode := .seq (.reg [1023] [
  ⟨.op (.asg (.con (.osl 0 31 0 []))), some 1, none⟩]) c61_7
theorem ok61 : okFn Go.Proofs.Try.prog Go.Proofs.Try.f61 v61 s61 r61 1 = true := by kernel_rfl

def v62 : List Nat := [0, 2]
def r62 : List SRes := [.tmp 1]
abbrev c62_0 : SCode := .seq (.reg [3, 4, 1007] [
  ⟨.op (.mv (.slot 0)), none, none⟩, 
  ⟨.call 49 [(.slot 2), (.con (.int .i64 4)), (.con (.int .i64 8))] false, none, none⟩, 
  ⟨.op (.asg (.slot 3)), some 1, none⟩]) (.ret)
abbrev s62 : SCode := .seq (.reg [1005] [
  ⟨.op (.asg (.con (.bool false))), some 1, none⟩]) c62_0
theorem ok62 : okFn Go.Proofs.Try.prog Go.Proofs.Try.f62 v62 s62 r62 1 = true := by kernel_rfl

def v63 : List Nat := [0, 1, 2, 6, 7, 8, 13, 18, 23]
def r63 : List SRes := [.tmp 3]
abbrev c63_0 : SCode := .seq (.reg [28, 29, 30, 1034] [
  ⟨.op (.mv (.slot 1)), none, none⟩, 
  ⟨.op (.mv (.slot 2)), none, none⟩, 
  ⟨.op (.minmax true (.slot 9) (.slot 10)), none, none⟩, 
  ⟨.op (.asg (.slot 11)), some 3, none⟩]) (.ret)
abbrev c63_1 : SCode := .seq (.reg [10, 11, 12, 1034] [
  ⟨.op (.mv (.slot 1)), none, none⟩, 
  ⟨.op (.mv (.slot 2)), none, none⟩, 
  ⟨.call 80 [(.slot 9), (.slot 10)] false, none, none⟩, 
  ⟨.op (.asg (.slot 11)), some 3, none⟩]) (.ret)
abbrev c63_2 : SCode := .seq (.reg [15, 16, 17, 1034] [
  ⟨.op (.mv (.slot 1)), none, none⟩, 
  ⟨.op (.mv (.slot 2)), none, none⟩, 
  ⟨.call 81 [(.slot 9), (.slot 10)] false, none, none⟩, 
  ⟨.op (.asg (.slot 11)), some 3, none⟩]) (.ret)
abbrev c63_3 : SCode := .seq (.reg [20, 21, 22, 1034] [
  ⟨.op (.mv (.slot 1)), none, none⟩, 
  ⟨.op (.mv (.slot 2)), none, none⟩, 
  ⟨.call 82 [(.slot 9), (.slot 10)] false, none, none⟩, 
  ⟨.op (.asg (.slot 11)), some 3, none⟩]) (.ret)
abbrev c63_4 : SCode := .seq (.reg [25, 26, 27, 1034] [
  ⟨.op (.mv (.slot 1)), none, none⟩, 
  ⟨.op (.mv (.slot 2)), none, none⟩, 
  ⟨.op (.minmax false (.slot 9) (.slot 10)), none, none⟩, 
  ⟨.op (.asg (.slot 11)), some 3, none⟩]) (.ret)
abbrev c63_5 : SCode := .cond (.slot 8) c63_4 (.skip)
abbrev c63_6 : SCode := .seq (.reg [24, 1032] [
  ⟨.op (.bin .eql (.slot 4) (.con (.int .i64 7))), none, none⟩, 
  ⟨.op (.asg (.slot 9)), some 8, none⟩]) c63_5
abbrev c63_7 : SCode := .cond (.slot 7) c63_3 c63_6
abbrev c63_8 : SCode := .seq (.reg [19, 1032] [
  ⟨.op (.bin .eql (.slot 4) (.con (.int .i64 6))), none, none⟩, 
  ⟨.op (.asg (.slot 9)), some 7, none⟩]) c63_7
abbrev c63_9 : SCode := .cond (.slot 6) c63_2 c63_8
abbrev c63_10 : SCode := .seq (.reg [14, 1032] [
  ⟨.op (.bin .eql (.slot 4) (.con (.int .i64 5))), none, none⟩, 
  ⟨.op (.asg (.slot 9)), some 6, none⟩]) c63_9
abbrev c63_11 : SCode := .cond (.slot 5) c63_1 c63_10
abbrev c63_12 : SCode := .block 0 (.seq (.reg [9, 1032] [
  ⟨.op (.bin .eql (.slot 4) (.con (.int .i64 4))), none, none⟩, 
  ⟨.op (.asg (.slot 9)), some 5, none⟩]) c63_11)
abbrev c63_13 : SCode := .seq (.seq (.reg [1031] [
  ⟨.op (.asg (.slot 0)), some 4, none⟩]) c63_12) c63_0
abbrev s63 : SCode := .seq (.reg [1031] [
  ⟨.op (.asg (.con (.int .i64 0))), some 3, none⟩]) c63_13
theorem ok63 : okFn Go.Proofs.Try.prog Go.Proofs.Try.f63 v63 s63 r63 3 = true := by kernel_rfl

def v64 : List Nat := [0, 1, 4, 10, 5, 14, 26]
def r64 : List SRes := [.tmp 2]
abbrev c64_0 : SCode := .seq (.reg [1027] [
  ⟨.op (.asg (.con (.bool true))), some 2, none⟩]) (.ret)
abbrev c64_1 : SCode := .reg [15, 16, 1029] [
  ⟨.op (.mv (.slot 4)), none, none⟩, 
  ⟨.op (.bin .add (.slot 7) (.con (.int .i64 1))), none, none⟩, 
  ⟨.op (.asg (.slot 8)), some 4, none⟩]
abbrev c64_2 : SCode := .seq (.reg [1027] [
  ⟨.op (.asg (.con (.bool false))), some 2, none⟩]) (.ret)
abbrev c64_3 : SCode := .cond (.slot 6) c64_2 (.skip)
abbrev c64_4 : SCode := .seq (.block 1 (.seq (.dreg [17, 18, 19, 20, 21, 22, 23, 24, 25, 1036] [
  ⟨.op (.mv (.slot 0)), none, none⟩, 
  ⟨.op (.mv (.slot 4)), none, none⟩, 
  ⟨.op (.iaddr 4 (.slot 7) (.slot 8)), none, none⟩, 
  ⟨.op (.load 4 true (.slot 9)), none, none⟩, 
  ⟨.op (.mv (.slot 1)), none, none⟩, 
  ⟨.op (.mv (.slot 4)), none, none⟩, 
  ⟨.op (.iaddr 4 (.slot 11) (.slot 12)), none, none⟩, 
  ⟨.op (.load 4 true (.slot 13)), none, none⟩, 
  ⟨.call 38 [(.slot 10), (.slot 14)] false, none, none⟩, 
  ⟨.op (.not (.slot 15)), some 6, none⟩]
  [[], [], [0, 1], [0, 1, 2], [], [], [4, 5], [4, 5, 6], [0, 1, 2, 3, 4, 5, 6, 7], [0, 1, 2, 3, 4, 5, 6, 7, 8]] 9 [] [([], none), ([false], none), ([true, true], none), ([true, true, true], none), ([false, false, false, false], none), ([false, false, false, false, false], none), ([false, false, false, false, true, true], none), ([false, false, false, false, true, true, true], none), ([true, true, true, true, true, true, true, true], none)] [true, true, true, true, true, true, true, true, true]) c64_3)) c64_1
abbrev c64_5 : SCode := .cond (.slot 5) (.skip) (.exit 0)
abbrev b64_0 : SCode := .seq (.seq (.reg [11, 12, 13, 1030] [
  ⟨.op (.mv (.slot 4)), none, none⟩, 
  ⟨.op (.mv (.slot 0)), none, none⟩, 
  ⟨.op (.len false (.slot 8)), none, none⟩, 
  ⟨.op (.bin .lss (.slot 7) (.slot 9)), some 5, none⟩]) c64_5) c64_4
def l64_0 : SCode := .loop b64_0
abbrev c64_7 : SCode := .block 0 (l64_0)
abbrev c64_8 : SCode := .seq (.seq (.reg [1027] [
  ⟨.op (.asg (.con (.int .i64 0))), some 4, none⟩]) c64_7) c64_0
abbrev c64_9 : SCode := .seq (.reg [1027] [
  ⟨.op (.asg (.con (.bool false))), some 2, none⟩]) (.ret)
abbrev c64_10 : SCode := .cond (.slot 3) c64_9 (.skip)
abbrev c64_11 : SCode := .seq (.seq (.reg [6, 7, 8, 9, 1031] [
  ⟨.op (.mv (.slot 0)), none, none⟩, 
  ⟨.op (.len false (.slot 7)), none, none⟩, 
  ⟨.op (.mv (.slot 1)), none, none⟩, 
  ⟨.op (.len false (.slot 9)), none, none⟩, 
  ⟨.op (.bin .neq (.slot 8) (.slot 10)), some 3, none⟩]) c64_10) c64_8
abbrev s64 : SCode := .seq (.reg [1027] [
  ⟨.op (.asg (.con (.bool false))), some 2, none⟩]) c64_11
theorem ok64 : okFn Go.Proofs.Try.prog Go.Proofs.Try.f64 v64 s64 r64 2 = true := by kernel_rfl

def v65 : List Nat := [0, 1, 2, 4, 11]
def r65 : List SRes := [.tmp 3]
abbrev c65_0 : SCode := .seq (.reg [12, 1014] [
  ⟨.op (.mv (.slot 1)), none, none⟩, 
  ⟨.op (.asg (.slot 5)), some 3, none⟩]) (.ret)
abbrev c65_1 : SCode := .seq (.reg [1013] [
  ⟨.op (.asg (.con (.int .i64 (-1)))), some 3, none⟩]) (.ret)
abbrev c65_2 : SCode := .cond (.slot 4) c65_1 (.skip)
abbrev c65_3 : SCode := .seq (.seq (.reg [10, 1014] [
  ⟨.op (.mv (.slot 1)), none, none⟩, 
  ⟨.op (.bin .lss (.slot 5) (.con (.int .i64 0))), some 4, none⟩]) c65_2) c65_0
abbrev c65_4 : SCode := .seq (.reg [5, 6, 7, 8, 9, 1018] [
  ⟨.op (.mv (.slot 1)), none, none⟩, 
  ⟨.op (.faddr 0 (.slot 2)), none, none⟩, 
  ⟨.op (.load 1 false (.slot 6)), none, none⟩, 
  ⟨.op (.len true (.slot 7)), none, none⟩, 
  ⟨.op (.bin .sub (.slot 5) (.slot 8)), none, none⟩, 
  ⟨.op (.asg (.slot 9)), some 1, none⟩]) c65_3
abbrev s65 : SCode := .seq (.reg [1013, 1014] [
  ⟨.op (.box 87 2 (.slot 0)), some 2, none⟩, 
  ⟨.op (.asg (.con (.int .i64 0))), some 3, none⟩]) c65_4
theorem ok65 : okFn Go.Proofs.Try.prog Go.Proofs.Try.f65 v65 s65 r65 2 = true := by kernel_rfl

def v66 : List Nat := [0, 1, 2, 3]
def r66 : List SRes := [.cell 2 2 true]
abbrev c66_0 : SCode := .seq (.reg [10, 1012] [
  ⟨.op (.load 2 true (.slot 3)), none, none⟩, 
  ⟨.op (.store 2 false (.slot 2) (.slot 4)), none, none⟩]) (.ret)
abbrev c66_1 : SCode := .seq (.reg [7, 8, 9, 1014] [
  ⟨.op (.faddr 1 (.slot 1)), none, none⟩, 
  ⟨.op (.load 1 false (.slot 4)), none, none⟩, 
  ⟨.op (.faddr 1 (.slot 3)), none, none⟩, 
  ⟨.op (.store 1 false (.slot 6) (.slot 5)), none, none⟩]) c66_0
abbrev c66_2 : SCode := .seq (.reg [4, 5, 6, 1014] [
  ⟨.op (.faddr 0 (.slot 1)), none, none⟩, 
  ⟨.op (.load 1 false (.slot 4)), none, none⟩, 
  ⟨.op (.faddr 0 (.slot 3)), none, none⟩, 
  ⟨.op (.store 1 false (.slot 6) (.slot 5)), none, none⟩]) c66_1
abbrev c66_3 : SCode := .seq (.reg [1011] [
  ⟨.op (.mk 88 [(.str []), (.int .i64 0)]), some 3, none⟩]) c66_2
abbrev s66 : SCode := .seq (.reg [1011, 1012] [
  ⟨.op (.box 87 2 (.slot 0)), some 1, none⟩, 
  ⟨.op (.mk 88 [(.str []), (.int .i64 0)]), some 2, none⟩]) c66_3
theorem ok66 : okFn Go.Proofs.Try.prog Go.Proofs.Try.f66 v66 s66 r66 1 = true := by kernel_rfl

def v67 : List Nat := [0, 2, 4]
def r67 : List SRes := [.tmp 1]
abbrev c67_0 : SCode := .seq (.reg [5, 6, 7, 1011] [
  ⟨.op (.bsl 88 0 [(.str []), (.int .i64 0)] []), none, none⟩, 
  ⟨.op (.mv (.slot 0)), none, none⟩, 
  ⟨.op (.append 88 2 (.slot 3) (.slot 4)), none, none⟩, 
  ⟨.op (.asg (.slot 5)), some 1, none⟩]) (.ret)
abbrev c67_1 : SCode := .seq (.reg [1008] [
  ⟨.op (.asg (.con (.osl 0 88 0 []))), some 1, none⟩]) (.ret)
abbrev c67_2 : SCode := .cond (.slot 2) c67_1 (.skip)
abbrev c67_3 : SCode := .seq (.seq (.reg [3, 1009] [
  ⟨.op (.mv (.slot 0)), none, none⟩, 
  ⟨.op (.isnil false (.slot 3)), some 2, none⟩]) c67_2) c67_0
abbrev s67 : SCode := .seq (.reg [1008] [
  ⟨.op (.asg (.con (.osl 0 88 0 []))), some 1, none⟩]) c67_3
theorem ok67 : okFn Go.Proofs.Try.prog Go.Proofs.Try.f67 v67 s67 r67 1 = true := by kernel_rfl

def v68 : List Nat := [0, 2, 3, 6, 7, 8, 9, 5]
def r68 : List SRes := [.tmp 1]
abbrev c68_0 : SCode := .seq (.reg [18, 1020] [
  ⟨.op (.mv (.slot 2)), none, none⟩, 
  ⟨.op (.asg (.slot 8)), some 1, none⟩]) (.ret)
abbrev c68_1 : SCode := .reg [17, 1020] [
  ⟨.op (.bin .add (.slot 5) (.con (.int .i64 1))), none, none⟩, 
  ⟨.op (.asg (.slot 8)), some 5, none⟩]
abbrev c68_2 : SCode := .reg [12, 13, 14, 15, 16, 1024] [
  ⟨.op (.mv (.slot 2)), none, none⟩, 
  ⟨.op (.load 19 true (.slot 7)), none, none⟩, 
  ⟨.call 52 [(.slot 9)] false, none, none⟩, 
  ⟨.op (.bsl 34 1 [(.int .i64 0), (.str []), (.int .i64 0), (.int .i64 0), (.str []), (.osl 0 31 0 []), (.int .i64 0), (.int .i64 0), (.str []), (.osl 0 31 0 []), (.int .i64 0), (.int .i64 0), (.str []), (.osl 0 31 0 []), (.int .i64 0), (.int .i64 0), (.str []), (.osl 0 31 0 []), (.osl 0 34 0 [])] [(0, 19, (.slot 10))]), none, none⟩, 
  ⟨.op (.append 34 19 (.slot 8) (.slot 11)), none, none⟩, 
  ⟨.op (.asg (.slot 12)), some 2, none⟩]
abbrev c68_3 : SCode := .seq (.block 1 (.seq (.reg [10, 11, 1021, 1022] [
  ⟨.op (.iaddr 19 (.slot 3) (.slot 5)), none, none⟩, 
  ⟨.op (.load 19 true (.slot 8)), none, none⟩, 
  ⟨.op (.mk 34 [(.int .i64 0), (.str []), (.int .i64 0), (.int .i64 0), (.str []), (.osl 0 31 0 []), (.int .i64 0), (.int .i64 0), (.str []), (.osl 0 31 0 []), (.int .i64 0), (.int .i64 0), (.str []), (.osl 0 31 0 []), (.int .i64 0), (.int .i64 0), (.str []), (.osl 0 31 0 []), (.osl 0 34 0 [])]), some 7, none⟩, 
  ⟨.op (.store 19 true (.slot 7) (.slot 9)), none, none⟩]) c68_2)) c68_1
abbrev c68_4 : SCode := .seq (.cond (.slot 6) (.skip) (.exit 0)) c68_3
abbrev b68_0 : SCode := .seq (.reg [1019] [
  ⟨.op (.bin .lss (.slot 5) (.slot 4)), some 6, none⟩]) c68_4
def l68_0 : SCode := .loop b68_0
abbrev c68_6 : SCode := .block 0 (l68_0)
abbrev c68_7 : SCode := .seq (.seq (.reg [1019, 1020, 1021] [
  ⟨.op (.asg (.slot 0)), some 3, none⟩, 
  ⟨.op (.len false (.slot 3)), some 4, none⟩, 
  ⟨.op (.asg (.con (.int .i64 0))), some 5, none⟩]) c68_6) c68_0
abbrev c68_8 : SCode := .seq (.reg [1019] [
  ⟨.op (.asg (.con (.osl 0 34 0 []))), some 2, none⟩]) c68_7
abbrev s68 : SCode := .seq (.reg [1019] [
  ⟨.op (.asg (.con (.osl 0 34 0 []))), some 1, none⟩]) c68_8
theorem ok68 : okFn Go.Proofs.Try.prog Go.Proofs.Try.f68 v68 s68 r68 1 = true := by kernel_rfl

def v69 : List Nat := [0, 1, 2, 3, 4, 9, 14]
def r69 : List SRes := [.tmp 4]
abbrev c69_0 : SCode := .seq (.reg [1015] [
  ⟨.op (.asg (.con (.bool true))), some 4, none⟩]) (.ret)
abbrev c69_1 : SCode := .seq (.reg [1015] [
  ⟨.op (.asg (.con (.bool false))), some 4, none⟩]) (.ret)
abbrev c69_2 : SCode := .cond (.slot 6) c69_1 (.skip)
abbrev c69_3 : SCode := .seq (.seq (.reg [10, 11, 12, 13, 1019] [
  ⟨.op (.faddr 1 (.slot 2)), none, none⟩, 
  ⟨.op (.load 1 false (.slot 7)), none, none⟩, 
  ⟨.op (.faddr 1 (.slot 3)), none, none⟩, 
  ⟨.op (.load 1 false (.slot 9)), none, none⟩, 
  ⟨.op (.bin .neq (.slot 8) (.slot 10)), some 6, none⟩]) c69_2) c69_0
abbrev c69_4 : SCode := .seq (.reg [1015] [
  ⟨.op (.asg (.con (.bool false))), some 4, none⟩]) (.ret)
abbrev c69_5 : SCode := .cond (.slot 5) c69_4 (.skip)
abbrev c69_6 : SCode := .seq (.seq (.reg [5, 6, 7, 8, 1019] [
  ⟨.op (.faddr 0 (.slot 2)), none, none⟩, 
  ⟨.op (.load 1 false (.slot 7)), none, none⟩, 
  ⟨.op (.faddr 0 (.slot 3)), none, none⟩, 
  ⟨.op (.load 1 false (.slot 9)), none, none⟩, 
  ⟨.op (.bin .neq (.slot 8) (.slot 10)), some 5, none⟩]) c69_5) c69_3
abbrev s69 : SCode := .seq (.reg [1015, 1016, 1017] [
  ⟨.op (.box 88 2 (.slot 0)), some 2, none⟩, 
  ⟨.op (.box 88 2 (.slot 1)), some 3, none⟩, 
  ⟨.op (.asg (.con (.bool false))), some 4, none⟩]) c69_6
theorem ok69 : okFn Go.Proofs.Try.prog Go.Proofs.Try.f69 v69 s69 r69 2 = true := by kernel_rfl

def v76 : List Nat := [0, 1, 2, 3, 9, 10, 11, 12, 5]
def r76 : List SRes := [.cell 2 4 true]
abbrev c76_0 : SCode := .seq (.reg [23, 1025] [
  ⟨.op (.load 4 true (.slot 3)), none, none⟩, 
  ⟨.op (.store 4 true (.slot 2) (.slot 9)), none, none⟩]) (.ret)
abbrev c76_1 : SCode := .reg [22, 1025] [
  ⟨.op (.bin .add (.slot 6) (.con (.int .i64 1))), none, none⟩, 
  ⟨.op (.asg (.slot 9)), some 6, none⟩]
abbrev c76_2 : SCode := .dreg [15, 16, 17, 18, 19, 20, 21, 1031] [
  ⟨.op (.faddr 3 (.slot 3)), none, none⟩, 
  ⟨.op (.load 1 false (.slot 9)), none, none⟩, 
  ⟨.op (.load 4 true (.slot 8)), none, none⟩, 
  ⟨.call 76 [(.slot 11)] false, none, none⟩, 
  ⟨.op (.bsl 31 1 [(.int .i64 0), (.int .i64 0), (.str []), (.osl 0 31 0 [])] [(0, 4, (.slot 12))]), none, none⟩, 
  ⟨.op (.append 31 4 (.slot 10) (.slot 13)), none, none⟩, 
  ⟨.op (.faddr 3 (.slot 3)), none, none⟩, 
  ⟨.op (.store 1 true (.slot 15) (.slot 14)), none, none⟩]
  [[], [0], [], [2], [2, 3], [0, 1, 2, 3, 4], [0, 1, 2, 3, 4, 5], [0, 1, 2, 3, 4, 5, 6]] 5 [(4, 3)] [([], none), ([true], none), ([false, false], none), ([false, false, true], none), ([false, false, true, true], (some 3))] [true, true, true, false, true]
abbrev c76_3 : SCode := .seq (.block 1 (.seq (.reg [13, 14, 1026, 1027] [
  ⟨.op (.iaddr 4 (.slot 4) (.slot 6)), none, none⟩, 
  ⟨.op (.load 4 true (.slot 9)), none, none⟩, 
  ⟨.op (.mk 31 [(.int .i64 0), (.int .i64 0), (.str []), (.osl 0 31 0 [])]), some 8, none⟩, 
  ⟨.op (.store 4 true (.slot 8) (.slot 10)), none, none⟩]) c76_2)) c76_1
abbrev c76_4 : SCode := .seq (.cond (.slot 7) (.skip) (.exit 0)) c76_3
abbrev b76_0 : SCode := .seq (.reg [1024] [
  ⟨.op (.bin .lss (.slot 6) (.slot 5)), some 7, none⟩]) c76_4
def l76_0 : SCode := .loop b76_0
abbrev c76_6 : SCode := .block 0 (l76_0)
abbrev c76_7 : SCode := .seq (.seq (.reg [8, 1025, 1026, 1027] [
  ⟨.op (.faddr 3 (.slot 1)), none, none⟩, 
  ⟨.op (.load 1 false (.slot 9)), some 4, none⟩, 
  ⟨.op (.len false (.slot 4)), some 5, none⟩, 
  ⟨.op (.asg (.con (.int .i64 0))), some 6, none⟩]) c76_6) c76_0
abbrev c76_8 : SCode := .seq (.reg [7, 1025] [
  ⟨.op (.faddr 3 (.slot 3)), none, none⟩, 
  ⟨.op (.store 1 true (.slot 9) (.con (.osl 0 31 0 []))), none, none⟩]) c76_7
abbrev c76_9 : SCode := .seq (.reg [6, 1025, 1026] [
  ⟨.op (.load 4 true (.slot 1)), none, none⟩, 
  ⟨.op (.mk 31 [(.int .i64 0), (.int .i64 0), (.str []), (.osl 0 31 0 [])]), some 3, none⟩, 
  ⟨.op (.store 4 true (.slot 3) (.slot 9)), none, none⟩]) c76_8
abbrev s76 : SCode := .seq (.reg [1024, 1025] [
  ⟨.op (.box 31 4 (.slot 0)), some 1, none⟩, 
  ⟨.op (.mk 31 [(.int .i64 0), (.int .i64 0), (.str []), (.osl 0 31 0 [])]), some 2, none⟩]) c76_9
theorem ok76 : okFn Go.Proofs.Try.prog Go.Proofs.Try.f76 v76 s76 r76 1 = true := by kernel_rfl

def v77 : List Nat := [0, 1, 4]
def r77 : List SRes := [.tmp 2]
abbrev c77_0 : SCode := .seq (.reg [5, 6, 7, 8, 9, 10, 1017] [
  ⟨.op (.mv (.slot 0)), none, none⟩, 
  ⟨.call 87 [(.slot 3)] false, none, none⟩, 
  ⟨.op (.mv (.slot 1)), none, none⟩, 
  ⟨.call 87 [(.slot 5)] false, none, none⟩, 
  ⟨.op (.bin .add (.slot 4) (.slot 6)), none, none⟩, 
  ⟨.call 87 [(.slot 7)] false, none, none⟩, 
  ⟨.op (.asg (.slot 8)), some 2, none⟩]) (.ret)
abbrev s77 : SCode := .seq (.reg [1011] [
  ⟨.op (.asg (.con (.int .i64 0))), some 2, none⟩]) c77_0
theorem ok77 : okFn Go.Proofs.Try.prog Go.Proofs.Try.f77 v77 s77 r77 2 = true := by kernel_rfl

def v78 : List Nat := [0, 1, 4]
def r78 : List SRes := [.tmp 2]
abbrev c78_0 : SCode := .seq (.reg [5, 6, 7, 8, 9, 10, 1017] [
  ⟨.op (.mv (.slot 0)), none, none⟩, 
  ⟨.call 87 [(.slot 3)] false, none, none⟩, 
  ⟨.op (.mv (.slot 1)), none, none⟩, 
  ⟨.call 87 [(.slot 5)] false, none, none⟩, 
  ⟨.op (.bin .sub (.slot 4) (.slot 6)), none, none⟩, 
  ⟨.call 87 [(.slot 7)] false, none, none⟩, 
  ⟨.op (.asg (.slot 8)), some 2, none⟩]) (.ret)
abbrev s78 : SCode := .seq (.reg [1011] [
  ⟨.op (.asg (.con (.int .i64 0))), some 2, none⟩]) c78_0
theorem ok78 : okFn Go.Proofs.Try.prog Go.Proofs.Try.f78 v78 s78 r78 2 = true := by kernel_rfl

def v79 : List Nat := [0, 1, 4]
def r79 : List SRes := [.tmp 2]
abbrev c79_0 : SCode := .seq (.reg [5, 6, 7, 8, 9, 10, 1017] [
  ⟨.op (.mv (.slot 0)), none, none⟩, 
  ⟨.call 87 [(.slot 3)] false, none, none⟩, 
  ⟨.op (.mv (.slot 1)), none, none⟩, 
  ⟨.call 87 [(.slot 5)] false, none, none⟩, 
  ⟨.op (.bin .mul (.slot 4) (.slot 6)), none, none⟩, 
  ⟨.call 87 [(.slot 7)] false, none, none⟩, 
  ⟨.op (.asg (.slot 8)), some 2, none⟩]) (.ret)
abbrev s79 : SCode := .seq (.reg [1011] [
  ⟨.op (.asg (.con (.int .i64 0))), some 2, none⟩]) c79_0
theorem ok79 : okFn Go.Proofs.Try.prog Go.Proofs.Try.f79 v79 s79 r79 2 = true := by kernel_rfl

def v80 : List Nat := [0, 1, 4]
def r80 : List SRes := [.tmp 2]
abbrev c80_0 : SCode := .seq (.reg [5, 6, 7, 8, 9, 10, 1017] [
  ⟨.op (.mv (.slot 0)), none, none⟩, 
  ⟨.call 88 [(.slot 3)] false, none, none⟩, 
  ⟨.op (.mv (.slot 1)), none, none⟩, 
  ⟨.call 88 [(.slot 5)] false, none, none⟩, 
  ⟨.op (.bin .add (.slot 4) (.slot 6)), none, none⟩, 
  ⟨.call 88 [(.slot 7)] false, none, none⟩, 
  ⟨.op (.asg (.slot 8)), some 2, none⟩]) (.ret)
abbrev s80 : SCode := .seq (.reg [1011] [
  ⟨.op (.asg (.con (.int .i64 0))), some 2, none⟩]) c80_0
theorem ok80 : okFn Go.Proofs.Try.prog Go.Proofs.Try.f80 v80 s80 r80 2 = true := by kernel_rfl

def v81 : List Nat := [0, 1, 4]
def r81 : List SRes := [.tmp 2]
abbrev c81_0 : SCode := .seq (.reg [5, 6, 7, 8, 9, 10, 1017] [
  ⟨.op (.mv (.slot 0)), none, none⟩, 
  ⟨.call 88 [(.slot 3)] false, none, none⟩, 
  ⟨.op (.mv (.slot 1)), none, none⟩, 
  ⟨.call 88 [(.slot 5)] false, none, none⟩, 
  ⟨.op (.bin .sub (.slot 4) (.slot 6)), none, none⟩, 
  ⟨.call 88 [(.slot 7)] false, none, none⟩, 
  ⟨.op (.asg (.slot 8)), some 2, none⟩]) (.ret)
abbrev s81 : SCode := .seq (.reg [1011] [
  ⟨.op (.asg (.con (.int .i64 0))), some 2, none⟩]) c81_0
theorem ok81 : okFn Go.Proofs.Try.prog Go.Proofs.Try.f81 v81 s81 r81 2 = true := by kernel_rfl

def v82 : List Nat := [0, 1, 4]
def r82 : List SRes := [.tmp 2]
abbrev c82_0 : SCode := .seq (.reg [5, 6, 7, 8, 9, 10, 1017] [
  ⟨.op (.mv (.slot 0)), none, none⟩, 
  ⟨.call 88 [(.slot 3)] false, none, none⟩, 
  ⟨.op (.mv (.slot 1)), none, none⟩, 
  ⟨.call 88 [(.slot 5)] false, none, none⟩, 
  ⟨.op (.bin .mul (.slot 4) (.slot 6)), none, none⟩, 
  ⟨.call 88 [(.slot 7)] false, none, none⟩, 
  ⟨.op (.asg (.slot 8)), some 2, none⟩]) (.ret)
abbrev s82 : SCode := .seq (.reg [1011] [
  ⟨.op (.asg (.con (.int .i64 0))), some 2, none⟩]) c82_0
theorem ok82 : okFn Go.Proofs.Try.prog Go.Proofs.Try.f82 v82 s82 r82 2 = true := by kernel_rfl

def v87 : List Nat := [0, 2, 3, 7]
def r87 : List SRes := [.tmp 1]
abbrev c87_0 : SCode := .seq (.reg [10, 1012] [
  ⟨.op (.mv (.slot 2)), none, none⟩, 
  ⟨.op (.asg (.slot 4)), some 1, none⟩]) (.ret)
abbrev c87_1 : SCode := .seq (.reg [8, 9, 1013] [
  ⟨.op (.mv (.slot 2)), none, none⟩, 
  ⟨.op (.bin .sub (.slot 4) (.con (.int .i64 4294967296))), none, none⟩, 
  ⟨.op (.asg (.slot 5)), some 1, none⟩]) (.ret)
abbrev c87_2 : SCode := .cond (.slot 3) c87_1 (.skip)
abbrev c87_3 : SCode := .seq (.seq (.reg [6, 1012] [
  ⟨.op (.mv (.slot 2)), none, none⟩, 
  ⟨.op (.bin .geq (.slot 4) (.con (.int .i64 2147483648))), some 3, none⟩]) c87_2) c87_0
abbrev c87_4 : SCode := .seq (.reg [4, 5, 1013] [
  ⟨.op (.mv (.slot 0)), none, none⟩, 
  ⟨.op (.bin .and (.slot 4) (.con (.int .i64 4294967295))), none, none⟩, 
  ⟨.op (.asg (.slot 5)), some 2, none⟩]) c87_3
abbrev s87 : SCode := .seq (.reg [1011] [
  ⟨.op (.asg (.con (.int .i64 0))), some 1, none⟩]) c87_4
theorem ok87 : okFn Go.Proofs.Try.prog Go.Proofs.Try.f87 v87 s87 r87 1 = true := by kernel_rfl

def v88 : List Nat := [0, 2]
def r88 : List SRes := [.tmp 1]
abbrev c88_0 : SCode := .seq (.reg [3, 4, 5, 1009] [
  ⟨.op (.mv (.slot 0)), none, none⟩, 
  ⟨.op (.conv .i32 (.slot 2)), none, none⟩, 
  ⟨.op (.conv .i64 (.slot 3)), none, none⟩, 
  ⟨.op (.asg (.slot 4)), some 1, none⟩]) (.ret)
abbrev s88 : SCode := .seq (.reg [1006] [
  ⟨.op (.asg (.con (.int .i64 0))), some 1, none⟩]) c88_0
theorem ok88 : okFn Go.Proofs.Try.prog Go.Proofs.Try.f88 v88 s88 r88 1 = true := by kernel_rfl

end Go.AmC
