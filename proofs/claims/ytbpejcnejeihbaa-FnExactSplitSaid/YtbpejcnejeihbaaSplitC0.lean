/- Part of a proof: see the last text of this folder. -/
import Derived.Test.YtbpejcnejeihbaaAmG
import Derived.KernelRfl
import Derived.Test.YtbpejcnejeihbaaProg
set_option maxRecDepth 100000
namespace Go.AmC
open Go Go.AM
def v7 : List Nat := [0, 1, 2, 4, 5, 20, 6, 7, 8, 9, 10, 44, 49, 11, 65, 12, 13, 73, 76, 14, 15, 92, 97, 100]
def r7 : List SRes := [.tmp 3]
abbrev c7_0 : SCode := .seq (.reg [1101] [
  ⟨.op (.asg (.con (.bool true))), some 3, none⟩]) (.ret)
abbrev c7_1 : SCode := .seq (.reg [1101] [
  ⟨.op (.asg (.con (.bool false))), some 3, none⟩]) (.ret)
abbrev c7_2 : SCode := .cond (.slot 23) c7_1 (.skip)
abbrev c7_3 : SCode := .seq (.seq (.reg [98, 99, 1103] [
  ⟨.op (.mv (.slot 16)), none, none⟩, 
  ⟨.op (.mv (.slot 15)), none, none⟩, 
  ⟨.op (.bin .neq (.slot 24) (.slot 25)), some 23, none⟩]) c7_2) c7_0
abbrev c7_4 : SCode := .seq (.reg [1101] [
  ⟨.op (.asg (.con (.bool false))), some 3, none⟩]) (.ret)
abbrev c7_5 : SCode := .cond (.slot 22) c7_4 (.skip)
abbrev c7_6 : SCode := .seq (.seq (.reg [96, 1102] [
  ⟨.op (.mv (.slot 16)), none, none⟩, 
  ⟨.op (.bin .lss (.slot 24) (.con (.int .i64 0))), some 22, none⟩]) c7_5) c7_3
abbrev c7_7 : SCode := .seq (.reg [93, 94, 95, 1104] [
  ⟨.op (.mv (.slot 9)), none, none⟩, 
  ⟨.op (.mv (.slot 16)), none, none⟩, 
  ⟨.call 30 [(.slot 24), (.slot 25)] false, none, none⟩, 
  ⟨.op (.asg (.slot 26)), some 16, none⟩]) c7_6
abbrev c7_8 : SCode := .seq (.reg [1101] [
  ⟨.op (.asg (.con (.int .i64 1))), some 16, none⟩]) c7_7
abbrev c7_9 : SCode := .seq (.reg [1101] [
  ⟨.op (.asg (.con (.bool false))), some 3, none⟩]) (.ret)
abbrev c7_10 : SCode := .cond (.slot 21) c7_9 (.skip)
abbrev c7_11 : SCode := .seq (.seq (.reg [84, 85, 86, 87, 88, 89, 90, 91, 1109] [
  ⟨.op (.mv (.slot 19)), none, none⟩, 
  ⟨.op (.mv (.slot 6)), none, none⟩, 
  ⟨.call 28 [(.slot 24), (.slot 25)] false, none, none⟩, 
  ⟨.op (.not (.slot 26)), none, none⟩, 
  ⟨.op (.mv (.slot 27)), none, none⟩, 
  ⟨.op (.mv (.slot 20)), none, some (28, false)⟩, 
  ⟨.op (.mv (.slot 7)), none, some (28, false)⟩, 
  ⟨.op (.beq true (.slot 29) (.slot 30)), none, some (28, false)⟩, 
  ⟨.op (.pick (.slot 28) (.con (.bool true)) (.slot 31)), some 21, none⟩]) c7_10) c7_8
abbrev c7_12 : SCode := .seq (.reg [78, 79, 80, 81, 77, 82, 83, 1108, 1109] [
  ⟨.op (.load 19 true (.slot 2)), none, none⟩, 
  ⟨.call 10 [(.slot 24)] false, none, none⟩, 
  ⟨.op (.mv (.slot 1)), none, none⟩, 
  ⟨.call 27 [(.slot 25), (.slot 26)] false, none, none⟩, 
  ⟨.op (.mvt 27), none, none⟩, 
  ⟨.op (.ext 28 0), none, none⟩, 
  ⟨.op (.ext 28 1), none, none⟩, 
  ⟨.op (.asg (.slot 29)), some 19, none⟩, 
  ⟨.op (.asg (.slot 30)), some 20, none⟩]) c7_11
abbrev c7_13 : SCode := .seq (.reg [1101] [
  ⟨.op (.asg (.con (.bool false))), some 3, none⟩]) (.ret)
abbrev c7_14 : SCode := .cond (.slot 18) c7_13 (.skip)
abbrev c7_15 : SCode := .seq (.seq (.reg [74, 75, 1103] [
  ⟨.op (.mv (.slot 16)), none, none⟩, 
  ⟨.op (.mv (.slot 15)), none, none⟩, 
  ⟨.op (.bin .neq (.slot 24) (.slot 25)), some 18, none⟩]) c7_14) c7_12
abbrev c7_16 : SCode := .seq (.reg [1101] [
  ⟨.op (.asg (.con (.bool false))), some 3, none⟩]) (.ret)
abbrev c7_17 : SCode := .cond (.slot 17) c7_16 (.skip)
abbrev c7_18 : SCode := .seq (.seq (.reg [72, 1102] [
  ⟨.op (.mv (.slot 16)), none, none⟩, 
  ⟨.op (.bin .lss (.slot 24) (.con (.int .i64 0))), some 17, none⟩]) c7_17) c7_15
abbrev c7_19 : SCode := .seq (.reg [69, 70, 71, 1104] [
  ⟨.op (.mv (.slot 9)), none, none⟩, 
  ⟨.op (.mv (.slot 16)), none, none⟩, 
  ⟨.call 30 [(.slot 24), (.slot 25)] false, none, none⟩, 
  ⟨.op (.asg (.slot 26)), some 16, none⟩]) c7_18
abbrev c7_20 : SCode := .seq (.reg [1101] [
  ⟨.op (.asg (.con (.int .i64 1))), some 16, none⟩]) c7_19
abbrev c7_21 : SCode := .seq (.reg [66, 67, 68, 1104] [
  ⟨.op (.mv (.slot 9)), none, none⟩, 
  ⟨.op (.mv (.slot 15)), none, none⟩, 
  ⟨.callm (.con (.fn 29 [])) [((.slot 24), true), ((.slot 25), false)], none, none⟩, 
  ⟨.op (.asg (.slot 26)), some 15, none⟩]) c7_20
abbrev c7_22 : SCode := .seq (.reg [1101] [
  ⟨.op (.asg (.con (.int .i64 1))), some 15, none⟩]) c7_21
abbrev c7_23 : SCode := .seq (.reg [1101] [
  ⟨.op (.asg (.con (.bool false))), some 3, none⟩]) (.ret)
abbrev c7_24 : SCode := .cond (.slot 14) c7_23 (.skip)
abbrev c7_25 : SCode := .seq (.seq (.reg [53, 54, 55, 56, 57, 58, 59, 60, 61, 62, 63, 64, 1113] [
  ⟨.op (.mv (.slot 13)), none, none⟩, 
  ⟨.op (.bin .lss (.slot 24) (.con (.int .i64 0))), none, none⟩, 
  ⟨.op (.mv (.slot 25)), none, none⟩, 
  ⟨.op (.mv (.slot 9)), none, some (26, false)⟩, 
  ⟨.op (.mv (.slot 6)), none, some (26, false)⟩, 
  ⟨.call 28 [(.slot 27), (.slot 28)] false, none, some (26, false)⟩, 
  ⟨.op (.not (.slot 29)), none, some (26, false)⟩, 
  ⟨.op (.pick (.slot 26) (.con (.bool true)) (.slot 30)), none, none⟩, 
  ⟨.op (.mv (.slot 31)), none, none⟩, 
  ⟨.op (.mv (.slot 10)), none, some (32, false)⟩, 
  ⟨.op (.mv (.slot 7)), none, some (32, false)⟩, 
  ⟨.op (.beq true (.slot 33) (.slot 34)), none, some (32, false)⟩, 
  ⟨.op (.pick (.slot 32) (.con (.bool true)) (.slot 35)), some 14, none⟩]) c7_24) c7_22
abbrev c7_26 : SCode := .seq (.reg [50, 51, 52, 1104] [
  ⟨.op (.load 19 true (.slot 8)), none, none⟩, 
  ⟨.op (.mv (.slot 13)), none, none⟩, 
  ⟨.callm (.con (.fn 13 [])) [((.slot 24), true), ((.slot 25), false)], none, none⟩, 
  ⟨.op (.asg (.slot 26)), some 13, none⟩]) c7_25
abbrev c7_27 : SCode := .seq (.reg [1101] [
  ⟨.op (.asg (.con (.int .i64 1))), some 13, none⟩]) c7_26
abbrev c7_28 : SCode := .seq (.reg [1101] [
  ⟨.op (.asg (.con (.bool false))), some 3, none⟩]) (.ret)
abbrev c7_29 : SCode := .cond (.slot 12) c7_28 (.skip)
abbrev c7_30 : SCode := .seq (.seq (.dreg [45, 46, 47, 48, 1105] [
  ⟨.op (.load 19 true (.slot 8)), none, none⟩, 
  ⟨.op (.load 19 true (.slot 2)), none, none⟩, 
  ⟨.call 10 [(.slot 25)] false, none, none⟩, 
  ⟨.call 12 [(.slot 24), (.slot 26)] false, none, none⟩, 
  ⟨.op (.not (.slot 27)), some 12, none⟩]
  [[], [], [1], [0, 1, 2], [0, 1, 2, 3]] 4 [] [([], none), ([false], none), ([false, true], none), ([true, true, true], none)] [true, true, true, true]) c7_29) c7_27
abbrev c7_31 : SCode := .seq (.reg [1101] [
  ⟨.op (.asg (.con (.bool false))), some 3, none⟩]) (.ret)
abbrev c7_32 : SCode := .cond (.slot 11) c7_31 (.skip)
abbrev c7_33 : SCode := .seq (.seq (.reg [36, 37, 38, 39, 40, 41, 42, 43, 1109] [
  ⟨.op (.mv (.slot 9)), none, none⟩, 
  ⟨.op (.mv (.slot 6)), none, none⟩, 
  ⟨.call 28 [(.slot 24), (.slot 25)] false, none, none⟩, 
  ⟨.op (.not (.slot 26)), none, none⟩, 
  ⟨.op (.mv (.slot 27)), none, none⟩, 
  ⟨.op (.mv (.slot 10)), none, some (28, false)⟩, 
  ⟨.op (.mv (.slot 7)), none, some (28, false)⟩, 
  ⟨.op (.beq true (.slot 29) (.slot 30)), none, some (28, false)⟩, 
  ⟨.op (.pick (.slot 28) (.con (.bool true)) (.slot 31)), some 11, none⟩]) c7_32) c7_30
abbrev c7_34 : SCode := .seq (.reg [31, 32, 33, 30, 34, 35, 1107, 1108] [
  ⟨.op (.load 19 true (.slot 8)), none, none⟩, 
  ⟨.op (.mv (.slot 1)), none, none⟩, 
  ⟨.call 27 [(.slot 24), (.slot 25)] false, none, none⟩, 
  ⟨.op (.mvt 26), none, none⟩, 
  ⟨.op (.ext 27 0), none, none⟩, 
  ⟨.op (.ext 27 1), none, none⟩, 
  ⟨.op (.asg (.slot 28)), some 9, none⟩, 
  ⟨.op (.asg (.slot 29)), some 10, none⟩]) c7_33
abbrev c7_35 : SCode := .seq (.reg [28, 29, 1103, 1104] [
  ⟨.op (.load 19 true (.slot 2)), none, none⟩, 
  ⟨.call 10 [(.slot 24)] false, none, none⟩, 
  ⟨.op (.mk 34 [(.int .i64 0), (.str []), (.int .i64 0), (.int .i64 0), (.str []), (.osl 0 31 0 []), (.int .i64 0), (.int .i64 0), (.str []), (.osl 0 31 0 []), (.int .i64 0), (.int .i64 0), (.str []), (.osl 0 31 0 []), (.int .i64 0), (.int .i64 0), (.str []), (.osl 0 31 0 []), (.osl 0 34 0 [])]), some 8, none⟩, 
  ⟨.op (.store 19 true (.slot 8) (.slot 25)), none, none⟩]) c7_34
abbrev c7_36 : SCode := .seq (.reg [22, 23, 24, 25, 21, 26, 27, 1108, 1109] [
  ⟨.op (.load 19 true (.slot 2)), none, none⟩, 
  ⟨.call 10 [(.slot 24)] false, none, none⟩, 
  ⟨.op (.mv (.slot 1)), none, none⟩, 
  ⟨.call 26 [(.slot 25), (.slot 26)] false, none, none⟩, 
  ⟨.op (.mvt 27), none, none⟩, 
  ⟨.op (.ext 28 0), none, none⟩, 
  ⟨.op (.ext 28 1), none, none⟩, 
  ⟨.op (.asg (.slot 29)), some 6, none⟩, 
  ⟨.op (.asg (.slot 30)), some 7, none⟩]) c7_35
abbrev c7_37 : SCode := .seq (.reg [1101] [
  ⟨.op (.asg (.con (.bool true))), some 3, none⟩]) (.ret)
abbrev c7_38 : SCode := .cond (.slot 5) c7_37 (.skip)
abbrev c7_39 : SCode := .seq (.seq (.reg [19, 1102] [
  ⟨.op (.mv (.slot 4)), none, none⟩, 
  ⟨.op (.bin .lss (.slot 24) (.con (.int .i64 0))), some 5, none⟩]) c7_38) c7_36
abbrev c7_40 : SCode := .seq (.reg [16, 17, 18, 1104] [
  ⟨.op (.load 19 true (.slot 2)), none, none⟩, 
  ⟨.op (.mv (.slot 4)), none, none⟩, 
  ⟨.call 8 [(.slot 24), (.slot 25)] false, none, none⟩, 
  ⟨.op (.asg (.slot 26)), some 4, none⟩]) c7_39
abbrev c7_41 : SCode := .seq (.reg [1101] [
  ⟨.op (.asg (.con (.int .i64 1048576))), some 4, none⟩]) c7_40
abbrev s7 : SCode := .seq (.reg [1101, 1102] [
  ⟨.op (.box 27 19 (.slot 0)), some 2, none⟩, 
  ⟨.op (.asg (.con (.bool false))), some 3, none⟩]) c7_41
theorem ok7 : okFn Go.Proofs.Try.prog Go.Proofs.Try.f7 v7 s7 r7 2 = true := by kernel_rfl

def v8 : List Nat := [0, 1, 2, 4, 11, 17, 23, 29, 35, 41]
def r8 : List SRes := [.tmp 3]
abbrev c8_0 : SCode := .seq (.reg [42, 1044] [
  ⟨.op (.mv (.slot 1)), none, none⟩, 
  ⟨.op (.asg (.slot 10)), some 3, none⟩]) (.ret)
abbrev c8_1 : SCode := .seq (.reg [1043] [
  ⟨.op (.asg (.con (.int .i64 (-1)))), some 3, none⟩]) (.ret)
abbrev c8_2 : SCode := .cond (.slot 9) c8_1 (.skip)
abbrev c8_3 : SCode := .seq (.seq (.reg [40, 1044] [
  ⟨.op (.mv (.slot 1)), none, none⟩, 
  ⟨.op (.bin .lss (.slot 10) (.con (.int .i64 0))), some 9, none⟩]) c8_2) c8_0
abbrev c8_4 : SCode := .seq (.reg [36, 37, 38, 39, 1047] [
  ⟨.op (.faddr 18 (.slot 2)), none, none⟩, 
  ⟨.op (.load 1 false (.slot 10)), none, none⟩, 
  ⟨.op (.mv (.slot 1)), none, none⟩, 
  ⟨.call 32 [(.slot 11), (.slot 12)] false, none, none⟩, 
  ⟨.op (.asg (.slot 13)), some 1, none⟩]) c8_3
abbrev c8_5 : SCode := .seq (.reg [1043] [
  ⟨.op (.asg (.con (.int .i64 (-1)))), some 3, none⟩]) (.ret)
abbrev c8_6 : SCode := .cond (.slot 8) c8_5 (.skip)
abbrev c8_7 : SCode := .seq (.seq (.reg [34, 1044] [
  ⟨.op (.mv (.slot 1)), none, none⟩, 
  ⟨.op (.bin .lss (.slot 10) (.con (.int .i64 0))), some 8, none⟩]) c8_6) c8_4
abbrev c8_8 : SCode := .seq (.reg [30, 31, 32, 33, 1047] [
  ⟨.op (.faddr 14 (.slot 2)), none, none⟩, 
  ⟨.op (.load 4 true (.slot 10)), none, none⟩, 
  ⟨.op (.mv (.slot 1)), none, none⟩, 
  ⟨.call 31 [(.slot 11), (.slot 12)] false, none, none⟩, 
  ⟨.op (.asg (.slot 13)), some 1, none⟩]) c8_7
abbrev c8_9 : SCode := .seq (.reg [1043] [
  ⟨.op (.asg (.con (.int .i64 (-1)))), some 3, none⟩]) (.ret)
abbrev c8_10 : SCode := .cond (.slot 7) c8_9 (.skip)
abbrev c8_11 : SCode := .seq (.seq (.reg [28, 1044] [
  ⟨.op (.mv (.slot 1)), none, none⟩, 
  ⟨.op (.bin .lss (.slot 10) (.con (.int .i64 0))), some 7, none⟩]) c8_10) c8_8
abbrev c8_12 : SCode := .seq (.reg [24, 25, 26, 27, 1047] [
  ⟨.op (.faddr 10 (.slot 2)), none, none⟩, 
  ⟨.op (.load 4 true (.slot 10)), none, none⟩, 
  ⟨.op (.mv (.slot 1)), none, none⟩, 
  ⟨.call 31 [(.slot 11), (.slot 12)] false, none, none⟩, 
  ⟨.op (.asg (.slot 13)), some 1, none⟩]) c8_11
abbrev c8_13 : SCode := .seq (.reg [1043] [
  ⟨.op (.asg (.con (.int .i64 (-1)))), some 3, none⟩]) (.ret)
abbrev c8_14 : SCode := .cond (.slot 6) c8_13 (.skip)
abbrev c8_15 : SCode := .seq (.seq (.reg [22, 1044] [
  ⟨.op (.mv (.slot 1)), none, none⟩, 
  ⟨.op (.bin .lss (.slot 10) (.con (.int .i64 0))), some 6, none⟩]) c8_14) c8_12
abbrev c8_16 : SCode := .seq (.reg [18, 19, 20, 21, 1047] [
  ⟨.op (.faddr 6 (.slot 2)), none, none⟩, 
  ⟨.op (.load 4 true (.slot 10)), none, none⟩, 
  ⟨.op (.mv (.slot 1)), none, none⟩, 
  ⟨.call 31 [(.slot 11), (.slot 12)] false, none, none⟩, 
  ⟨.op (.asg (.slot 13)), some 1, none⟩]) c8_15
abbrev c8_17 : SCode := .seq (.reg [1043] [
  ⟨.op (.asg (.con (.int .i64 (-1)))), some 3, none⟩]) (.ret)
abbrev c8_18 : SCode := .cond (.slot 5) c8_17 (.skip)
abbrev c8_19 : SCode := .seq (.seq (.reg [16, 1044] [
  ⟨.op (.mv (.slot 1)), none, none⟩, 
  ⟨.op (.bin .lss (.slot 10) (.con (.int .i64 0))), some 5, none⟩]) c8_18) c8_16
abbrev c8_20 : SCode := .seq (.reg [12, 13, 14, 15, 1047] [
  ⟨.op (.faddr 2 (.slot 2)), none, none⟩, 
  ⟨.op (.load 4 true (.slot 10)), none, none⟩, 
  ⟨.op (.mv (.slot 1)), none, none⟩, 
  ⟨.call 31 [(.slot 11), (.slot 12)] false, none, none⟩, 
  ⟨.op (.asg (.slot 13)), some 1, none⟩]) c8_19
abbrev c8_21 : SCode := .seq (.reg [1043] [
  ⟨.op (.asg (.con (.int .i64 (-1)))), some 3, none⟩]) (.ret)
abbrev c8_22 : SCode := .cond (.slot 4) c8_21 (.skip)
abbrev c8_23 : SCode := .seq (.seq (.reg [10, 1044] [
  ⟨.op (.mv (.slot 1)), none, none⟩, 
  ⟨.op (.bin .lss (.slot 10) (.con (.int .i64 0))), some 4, none⟩]) c8_22) c8_20
abbrev c8_24 : SCode := .seq (.reg [5, 6, 7, 8, 9, 1048] [
  ⟨.op (.mv (.slot 1)), none, none⟩, 
  ⟨.op (.faddr 1 (.slot 2)), none, none⟩, 
  ⟨.op (.load 1 false (.slot 11)), none, none⟩, 
  ⟨.op (.len true (.slot 12)), none, none⟩, 
  ⟨.op (.bin .sub (.slot 10) (.slot 13)), none, none⟩, 
  ⟨.op (.asg (.slot 14)), some 1, none⟩]) c8_23
abbrev s8 : SCode := .seq (.reg [1043, 1044] [
  ⟨.op (.box 27 19 (.slot 0)), some 2, none⟩, 
  ⟨.op (.asg (.con (.int .i64 0))), some 3, none⟩]) c8_24
theorem ok8 : okFn Go.Proofs.Try.prog Go.Proofs.Try.f8 v8 s8 r8 2 = true := by kernel_rfl

def v10 : List Nat := [0, 1, 2, 3]
def r10 : List SRes := [.cell 2 19 true]
abbrev c10_0 : SCode := .seq (.reg [30, 1032] [
  ⟨.op (.load 19 true (.slot 3)), none, none⟩, 
  ⟨.op (.store 19 true (.slot 2) (.slot 4)), none, none⟩]) (.ret)
abbrev c10_1 : SCode := .seq (.reg [26, 27, 28, 29, 1035] [
  ⟨.op (.faddr 18 (.slot 1)), none, none⟩, 
  ⟨.op (.load 1 false (.slot 4)), none, none⟩, 
  ⟨.call 35 [(.slot 5)] false, none, none⟩, 
  ⟨.op (.faddr 18 (.slot 3)), none, none⟩, 
  ⟨.op (.store 1 true (.slot 7) (.slot 6)), none, none⟩]) c10_0
abbrev c10_2 : SCode := .seq (.reg [22, 23, 24, 25, 1035] [
  ⟨.op (.faddr 14 (.slot 1)), none, none⟩, 
  ⟨.op (.load 4 true (.slot 4)), none, none⟩, 
  ⟨.call 34 [(.slot 5)] false, none, none⟩, 
  ⟨.op (.faddr 14 (.slot 3)), none, none⟩, 
  ⟨.op (.store 4 true (.slot 7) (.slot 6)), none, none⟩]) c10_1
abbrev c10_3 : SCode := .seq (.reg [18, 19, 20, 21, 1035] [
  ⟨.op (.faddr 10 (.slot 1)), none, none⟩, 
  ⟨.op (.load 4 true (.slot 4)), none, none⟩, 
  ⟨.call 34 [(.slot 5)] false, none, none⟩, 
  ⟨.op (.faddr 10 (.slot 3)), none, none⟩, 
  ⟨.op (.store 4 true (.slot 7) (.slot 6)), none, none⟩]) c10_2
abbrev c10_4 : SCode := .seq (.reg [14, 15, 16, 17, 1035] [
  ⟨.op (.faddr 6 (.slot 1)), none, none⟩, 
  ⟨.op (.load 4 true (.slot 4)), none, none⟩, 
  ⟨.call 34 [(.slot 5)] false, none, none⟩, 
  ⟨.op (.faddr 6 (.slot 3)), none, none⟩, 
  ⟨.op (.store 4 true (.slot 7) (.slot 6)), none, none⟩]) c10_3
abbrev c10_5 : SCode := .seq (.reg [10, 11, 12, 13, 1035] [
  ⟨.op (.faddr 2 (.slot 1)), none, none⟩, 
  ⟨.op (.load 4 true (.slot 4)), none, none⟩, 
  ⟨.call 34 [(.slot 5)] false, none, none⟩, 
  ⟨.op (.faddr 2 (.slot 3)), none, none⟩, 
  ⟨.op (.store 4 true (.slot 7) (.slot 6)), none, none⟩]) c10_4
abbrev c10_6 : SCode := .seq (.reg [7, 8, 9, 1034] [
  ⟨.op (.faddr 1 (.slot 1)), none, none⟩, 
  ⟨.op (.load 1 false (.slot 4)), none, none⟩, 
  ⟨.op (.faddr 1 (.slot 3)), none, none⟩, 
  ⟨.op (.store 1 false (.slot 6) (.slot 5)), none, none⟩]) c10_5
abbrev c10_7 : SCode := .seq (.reg [4, 5, 6, 1034] [
  ⟨.op (.faddr 0 (.slot 1)), none, none⟩, 
  ⟨.op (.load 1 false (.slot 4)), none, none⟩, 
  ⟨.op (.faddr 0 (.slot 3)), none, none⟩, 
  ⟨.op (.store 1 false (.slot 6) (.slot 5)), none, none⟩]) c10_6
abbrev c10_8 : SCode := .seq (.reg [1031] [
  ⟨.op (.mk 34 [(.int .i64 0), (.str []), (.int .i64 0), (.int .i64 0), (.str []), (.osl 0 31 0 []), (.int .i64 0), (.int .i64 0), (.str []), (.osl 0 31 0 []), (.int .i64 0), (.int .i64 0), (.str []), (.osl 0 31 0 []), (.int .i64 0), (.int .i64 0), (.str []), (.osl 0 31 0 []), (.osl 0 34 0 [])]), some 3, none⟩]) c10_7
abbrev s10 : SCode := .seq (.reg [1031, 1032] [
  ⟨.op (.box 27 19 (.slot 0)), some 1, none⟩, 
  ⟨.op (.mk 34 [(.int .i64 0), (.str []), (.int .i64 0), (.int .i64 0), (.str []), (.osl 0 31 0 []), (.int .i64 0), (.int .i64 0), (.str []), (.osl 0 31 0 []), (.int .i64 0), (.int .i64 0), (.str []), (.osl 0 31 0 []), (.int .i64 0), (.int .i64 0), (.str []), (.osl 0 31 0 []), (.osl 0 34 0 [])]), some 2, none⟩]) c10_8
theorem ok10 : okFn Go.Proofs.Try.prog Go.Proofs.Try.f10 v10 s10 r10 1 = true := by kernel_rfl

def v12 : List Nat := [0, 1, 2, 3, 4, 9, 14, 20, 26, 32, 38, 44]
def r12 : List SRes := [.tmp 4]
abbrev c12_0 : SCode := .seq (.reg [1045] [
  ⟨.op (.asg (.con (.bool true))), some 4, none⟩]) (.ret)
abbrev c12_1 : SCode := .seq (.reg [1045] [
  ⟨.op (.asg (.con (.bool false))), some 4, none⟩]) (.ret)
abbrev c12_2 : SCode := .cond (.slot 11) c12_1 (.skip)
abbrev c12_3 : SCode := .seq (.seq (.reg [39, 40, 41, 42, 43, 1050] [
  ⟨.op (.faddr 18 (.slot 2)), none, none⟩, 
  ⟨.op (.load 1 false (.slot 12)), none, none⟩, 
  ⟨.op (.faddr 18 (.slot 3)), none, none⟩, 
  ⟨.op (.load 1 false (.slot 14)), none, none⟩, 
  ⟨.call 28 [(.slot 13), (.slot 15)] false, none, none⟩, 
  ⟨.op (.not (.slot 16)), some 11, none⟩]) c12_2) c12_0
abbrev c12_4 : SCode := .seq (.reg [1045] [
  ⟨.op (.asg (.con (.bool false))), some 4, none⟩]) (.ret)
abbrev c12_5 : SCode := .cond (.slot 10) c12_4 (.skip)
abbrev c12_6 : SCode := .seq (.seq (.reg [33, 34, 35, 36, 37, 1050] [
  ⟨.op (.faddr 14 (.slot 2)), none, none⟩, 
  ⟨.op (.load 4 true (.slot 12)), none, none⟩, 
  ⟨.op (.faddr 14 (.slot 3)), none, none⟩, 
  ⟨.op (.load 4 true (.slot 14)), none, none⟩, 
  ⟨.call 38 [(.slot 13), (.slot 15)] false, none, none⟩, 
  ⟨.op (.not (.slot 16)), some 10, none⟩]) c12_5) c12_3
abbrev c12_7 : SCode := .seq (.reg [1045] [
  ⟨.op (.asg (.con (.bool false))), some 4, none⟩]) (.ret)
abbrev c12_8 : SCode := .cond (.slot 9) c12_7 (.skip)
abbrev c12_9 : SCode := .seq (.seq (.reg [27, 28, 29, 30, 31, 1050] [
  ⟨.op (.faddr 10 (.slot 2)), none, none⟩, 
  ⟨.op (.load 4 true (.slot 12)), none, none⟩, 
  ⟨.op (.faddr 10 (.slot 3)), none, none⟩, 
  ⟨.op (.load 4 true (.slot 14)), none, none⟩, 
  ⟨.call 38 [(.slot 13), (.slot 15)] false, none, none⟩, 
  ⟨.op (.not (.slot 16)), some 9, none⟩]) c12_8) c12_6
abbrev c12_10 : SCode := .seq (.reg [1045] [
  ⟨.op (.asg (.con (.bool false))), some 4, none⟩]) (.ret)
abbrev c12_11 : SCode := .cond (.slot 8) c12_10 (.skip)
abbrev c12_12 : SCode := .seq (.seq (.reg [21, 22, 23, 24, 25, 1050] [
  ⟨.op (.faddr 6 (.slot 2)), none, none⟩, 
  ⟨.op (.load 4 true (.slot 12)), none, none⟩, 
  ⟨.op (.faddr 6 (.slot 3)), none, none⟩, 
  ⟨.op (.load 4 true (.slot 14)), none, none⟩, 
  ⟨.call 38 [(.slot 13), (.slot 15)] false, none, none⟩, 
  ⟨.op (.not (.slot 16)), some 8, none⟩]) c12_11) c12_9
abbrev c12_13 : SCode := .seq (.reg [1045] [
  ⟨.op (.asg (.con (.bool false))), some 4, none⟩]) (.ret)
abbrev c12_14 : SCode := .cond (.slot 7) c12_13 (.skip)
abbrev c12_15 : SCode := .seq (.seq (.reg [15, 16, 17, 18, 19, 1050] [
  ⟨.op (.faddr 2 (.slot 2)), none, none⟩, 
  ⟨.op (.load 4 true (.slot 12)), none, none⟩, 
  ⟨.op (.faddr 2 (.slot 3)), none, none⟩, 
  ⟨.op (.load 4 true (.slot 14)), none, none⟩, 
  ⟨.call 38 [(.slot 13), (.slot 15)] false, none, none⟩, 
  ⟨.op (.not (.slot 16)), some 7, none⟩]) c12_14) c12_12
abbrev c12_16 : SCode := .seq (.reg [1045] [
  ⟨.op (.asg (.con (.bool false))), some 4, none⟩]) (.ret)
abbrev c12_17 : SCode := .cond (.slot 6) c12_16 (.skip)
abbrev c12_18 : SCode := .seq (.seq (.reg [10, 11, 12, 13, 1049] [
  ⟨.op (.faddr 1 (.slot 2)), none, none⟩, 
  ⟨.op (.load 1 false (.slot 12)), none, none⟩, 
  ⟨.op (.faddr 1 (.slot 3)), none, none⟩, 
  ⟨.op (.load 1 false (.slot 14)), none, none⟩, 
  ⟨.op (.bin .neq (.slot 13) (.slot 15)), some 6, none⟩]) c12_17) c12_15
abbrev c12_19 : SCode := .seq (.reg [1045] [
  ⟨.op (.asg (.con (.bool false))), some 4, none⟩]) (.ret)
abbrev c12_20 : SCode := .cond (.slot 5) c12_19 (.skip)
abbrev c12_21 : SCode := .seq (.seq (.reg [5, 6, 7, 8, 1049] [
  ⟨.op (.faddr 0 (.slot 2)), none, none⟩, 
  ⟨.op (.load 1 false (.slot 12)), none, none⟩, 
  ⟨.op (.faddr 0 (.slot 3)), none, none⟩, 
  ⟨.op (.load 1 false (.slot 14)), none, none⟩, 
  ⟨.op (.bin .neq (.slot 13) (.slot 15)), some 5, none⟩]) c12_20) c12_18
abbrev s12 : SCode := .seq (.reg [1045, 1046, 1047] [
  ⟨.op (.box 34 19 (.slot 0)), some 2, none⟩, 
  ⟨.op (.box 34 19 (.slot 1)), some 3, none⟩, 
  ⟨.op (.asg (.con (.bool false))), some 4, none⟩]) c12_21
theorem ok12 : okFn Go.Proofs.Try.prog Go.Proofs.Try.f12 v12 s12 r12 2 = true := by kernel_rfl

def v13 : List Nat := [0, 1, 2, 4]
def r13 : List SRes := [.tmp 3]
abbrev c13_0 : SCode := .seq (.reg [25, 1027] [
  ⟨.op (.mv (.slot 1)), none, none⟩, 
  ⟨.op (.asg (.slot 4)), some 3, none⟩]) (.ret)
abbrev c13_1 : SCode := .seq (.reg [21, 22, 23, 24, 1030] [
  ⟨.op (.faddr 18 (.slot 2)), none, none⟩, 
  ⟨.op (.load 1 false (.slot 4)), none, none⟩, 
  ⟨.op (.mv (.slot 1)), none, none⟩, 
  ⟨.callm (.con (.fn 29 [])) [((.slot 5), true), ((.slot 6), false)], none, none⟩, 
  ⟨.op (.asg (.slot 7)), some 1, none⟩]) c13_0
abbrev c13_2 : SCode := .seq (.reg [17, 18, 19, 20, 1030] [
  ⟨.op (.faddr 14 (.slot 2)), none, none⟩, 
  ⟨.op (.load 4 true (.slot 4)), none, none⟩, 
  ⟨.op (.mv (.slot 1)), none, none⟩, 
  ⟨.callm (.con (.fn 39 [])) [((.slot 5), true), ((.slot 6), false)], none, none⟩, 
  ⟨.op (.asg (.slot 7)), some 1, none⟩]) c13_1
abbrev c13_3 : SCode := .seq (.reg [13, 14, 15, 16, 1030] [
  ⟨.op (.faddr 10 (.slot 2)), none, none⟩, 
  ⟨.op (.load 4 true (.slot 4)), none, none⟩, 
  ⟨.op (.mv (.slot 1)), none, none⟩, 
  ⟨.callm (.con (.fn 39 [])) [((.slot 5), true), ((.slot 6), false)], none, none⟩, 
  ⟨.op (.asg (.slot 7)), some 1, none⟩]) c13_2
abbrev c13_4 : SCode := .seq (.reg [9, 10, 11, 12, 1030] [
  ⟨.op (.faddr 6 (.slot 2)), none, none⟩, 
  ⟨.op (.load 4 true (.slot 4)), none, none⟩, 
  ⟨.op (.mv (.slot 1)), none, none⟩, 
  ⟨.callm (.con (.fn 39 [])) [((.slot 5), true), ((.slot 6), false)], none, none⟩, 
  ⟨.op (.asg (.slot 7)), some 1, none⟩]) c13_3
abbrev c13_5 : SCode := .seq (.reg [5, 6, 7, 8, 1030] [
  ⟨.op (.faddr 2 (.slot 2)), none, none⟩, 
  ⟨.op (.load 4 true (.slot 4)), none, none⟩, 
  ⟨.op (.mv (.slot 1)), none, none⟩, 
  ⟨.callm (.con (.fn 39 [])) [((.slot 5), true), ((.slot 6), false)], none, none⟩, 
  ⟨.op (.asg (.slot 7)), some 1, none⟩]) c13_4
abbrev s13 : SCode := .seq (.reg [1026, 1027] [
  ⟨.op (.box 34 19 (.slot 0)), some 2, none⟩, 
  ⟨.op (.asg (.con (.int .i64 0))), some 3, none⟩]) c13_5
theorem ok13 : okFn Go.Proofs.Try.prog Go.Proofs.Try.f13 v13 s13 r13 2 = true := by kernel_rfl

def v22 : List Nat := [0, 1, 2, 4, 5, 6]
def r22 : List SRes := [.tmp 3]
abbrev c22_0 : SCode := .seq (.reg [12, 13, 14, 15, 16, 17, 18, 19, 20, 21, 22, 23, 24, 25, 26, 27, 28, 1046] [
  ⟨.op (.mv (.slot 5)), none, none⟩, 
  ⟨.op (.mv (.slot 6)), none, none⟩, 
  ⟨.op (.mv (.slot 1)), none, some (7, true)⟩, 
  ⟨.op (.mv (.slot 4)), none, some (7, true)⟩, 
  ⟨.op (.iaddr 3 (.slot 9) (.con (.int .i64 0))), none, some (7, true)⟩, 
  ⟨.op (.faddr 1 (.slot 10)), none, some (7, true)⟩, 
  ⟨.op (.load 1 false (.slot 11)), none, some (7, true)⟩, 
  ⟨.op (.bin .geq (.slot 8) (.slot 12)), none, some (7, true)⟩, 
  ⟨.op (.pick (.slot 7) (.slot 13) (.con (.bool false))), none, none⟩, 
  ⟨.op (.mv (.slot 14)), none, none⟩, 
  ⟨.op (.mv (.slot 1)), none, some (15, true)⟩, 
  ⟨.op (.mv (.slot 4)), none, some (15, true)⟩, 
  ⟨.op (.iaddr 3 (.slot 17) (.con (.int .i64 0))), none, some (15, true)⟩, 
  ⟨.op (.faddr 2 (.slot 18)), none, some (15, true)⟩, 
  ⟨.op (.load 1 false (.slot 19)), none, some (15, true)⟩, 
  ⟨.op (.bin .lss (.slot 16) (.slot 20)), none, some (15, true)⟩, 
  ⟨.op (.pick (.slot 15) (.slot 21) (.con (.bool false))), none, none⟩, 
  ⟨.op (.asg (.slot 22)), some 3, none⟩]) (.ret)
abbrev c22_1 : SCode := .seq (.reg [8, 9, 7, 10, 11, 1034, 1035] [
  ⟨.op (.load 19 true (.slot 2)), none, none⟩, 
  ⟨.call 47 [(.slot 6)] false, none, none⟩, 
  ⟨.op (.mvt 7), none, none⟩, 
  ⟨.op (.ext 8 0), none, none⟩, 
  ⟨.op (.ext 8 1), none, none⟩, 
  ⟨.op (.asg (.slot 9)), some 4, none⟩, 
  ⟨.op (.asg (.slot 10)), some 5, none⟩]) c22_0
abbrev s22 : SCode := .seq (.reg [1029, 1030] [
  ⟨.op (.box 34 19 (.slot 0)), some 2, none⟩, 
  ⟨.op (.asg (.con (.bool false))), some 3, none⟩]) c22_1
theorem ok22 : okFn Go.Proofs.Try.prog Go.Proofs.Try.f22 v22 s22 r22 2 = true := by kernel_rfl

def v23 : List Nat := [0, 1, 2, 4, 5, 6]
def r23 : List SRes := [.tmp 3]
abbrev c23_0 : SCode := .seq (.dreg [12, 13, 14, 15, 16, 17, 18, 19, 20, 21, 22, 23, 24, 25, 1040] [
  ⟨.op (.mv (.slot 5)), none, none⟩, 
  ⟨.op (.mv (.slot 6)), none, none⟩, 
  ⟨.op (.mv (.slot 1)), none, some (7, true)⟩, 
  ⟨.op (.mv (.slot 4)), none, some (7, true)⟩, 
  ⟨.op (.iaddr 3 (.slot 9) (.con (.int .i64 0))), none, some (7, true)⟩, 
  ⟨.op (.faddr 1 (.slot 10)), none, some (7, true)⟩, 
  ⟨.op (.load 1 false (.slot 11)), none, some (7, true)⟩, 
  ⟨.op (.mv (.slot 4)), none, some (7, true)⟩, 
  ⟨.op (.iaddr 3 (.slot 13) (.con (.int .i64 0))), none, some (7, true)⟩, 
  ⟨.op (.faddr 2 (.slot 14)), none, some (7, true)⟩, 
  ⟨.op (.load 1 false (.slot 15)), none, some (7, true)⟩, 
  ⟨.op (.bin .sub (.slot 16) (.con (.int .i64 1))), none, some (7, true)⟩, 
  ⟨.call 49 [(.slot 8), (.slot 12), (.slot 17)] false, none, some (7, true)⟩, 
  ⟨.op (.pick (.slot 7) (.slot 18) (.con (.bool false))), none, none⟩, 
  ⟨.op (.asg (.slot 19)), some 3, none⟩]
  [[], [0], [0, 1], [0, 1], [0, 1, 3], [0, 1, 3, 4], [0, 1, 3, 4, 5], [0, 1], [0, 1, 7], [0, 1, 7, 8], [0, 1, 7, 8, 9], [0, 1, 7, 8, 9, 10], [0, 1, 2, 3, 4, 5, 6, 7, 8, 9, 10, 11], [0, 1, 2, 3, 4, 5, 6, 7, 8, 9, 10, 11, 12], [0, 1, 2, 3, 4, 5, 6, 7, 8, 9, 10, 11, 12, 13]] 14 [] [([], none), ([true], none), ([true, true], none), ([true, true, false], none), ([true, true, false, true], none), ([true, true, false, true, true], none), ([true, true, false, true, true, true], none), ([true, true, false, false, false, false, false], none), ([true, true, false, false, false, false, false, true], none), ([true, true, false, false, false, false, false, true, true], none), ([true, true, false, false, false, false, false, true, true, true], none), ([true, true, false, false, false, false, false, true, true, true, true], none), ([true, true, true, true, true, true, true, true, true, true, true, true], none), ([true, true, true, true, true, true, true, true, true, true, true, true, true], none)] [true, true, true, true, true, true, true, true, true, true, true, true, true, true]) (.ret)
abbrev c23_1 : SCode := .seq (.reg [8, 9, 7, 10, 11, 1031, 1032] [
  ⟨.op (.load 19 true (.slot 2)), none, none⟩, 
  ⟨.call 48 [(.slot 6)] false, none, none⟩, 
  ⟨.op (.mvt 7), none, none⟩, 
  ⟨.op (.ext 8 0), none, none⟩, 
  ⟨.op (.ext 8 1), none, none⟩, 
  ⟨.op (.asg (.slot 9)), some 4, none⟩, 
  ⟨.op (.asg (.slot 10)), some 5, none⟩]) c23_0
abbrev s23 : SCode := .seq (.reg [1026, 1027] [
  ⟨.op (.box 34 19 (.slot 0)), some 2, none⟩, 
  ⟨.op (.asg (.con (.bool false))), some 3, none⟩]) c23_1
theorem ok23 : okFn Go.Proofs.Try.prog Go.Proofs.Try.f23 v23 s23 r23 2 = true := by kernel_rfl

def v26 : List Nat := [0, 1, 2, 4, 5, 6, 14]
def r26 : List SRes := [.tmp 3, .tmp 4]
abbrev c26_0 : SCode := .seq (.reg [28, 1030, 1031] [
  ⟨.op (.mv (.slot 5)), none, none⟩, 
  ⟨.op (.asg (.slot 7)), some 3, none⟩, 
  ⟨.op (.asg (.con (.bool true))), some 4, none⟩]) (.ret)
abbrev c26_1 : SCode := .seq (.reg [22, 23, 24, 25, 26, 27, 1035] [
  ⟨.op (.mv (.slot 5)), none, none⟩, 
  ⟨.op (.mv (.slot 1)), none, none⟩, 
  ⟨.op (.bin .add (.slot 8) (.con (.int .i64 1))), none, none⟩, 
  ⟨.call 51 [(.slot 9)] false, none, none⟩, 
  ⟨.op (.iaddr 19 (.slot 7) (.con (.int .i64 1))), none, none⟩, 
  ⟨.op (.faddr 10 (.slot 11)), none, none⟩, 
  ⟨.op (.store 4 true (.slot 12) (.slot 10)), none, none⟩]) c26_0
abbrev c26_2 : SCode := .seq (.reg [17, 18, 19, 20, 21, 1034] [
  ⟨.op (.mv (.slot 5)), none, none⟩, 
  ⟨.op (.mv (.slot 1)), none, none⟩, 
  ⟨.call 51 [(.slot 8)] false, none, none⟩, 
  ⟨.op (.iaddr 19 (.slot 7) (.con (.int .i64 0))), none, none⟩, 
  ⟨.op (.faddr 14 (.slot 10)), none, none⟩, 
  ⟨.op (.store 4 true (.slot 11) (.slot 9)), none, none⟩]) c26_1
abbrev c26_3 : SCode := .seq (.reg [15, 16, 1031, 1032] [
  ⟨.op (.mv (.slot 5)), none, none⟩, 
  ⟨.op (.cut 19 (.slot 7) (.con (.int .i64 1))), none, none⟩, 
  ⟨.op (.asg (.slot 8)), some 3, none⟩, 
  ⟨.op (.asg (.con (.bool false))), some 4, none⟩]) (.ret)
abbrev c26_4 : SCode := .cond (.slot 6) c26_3 (.skip)
abbrev c26_5 : SCode := .seq (.seq (.reg [11, 12, 13, 1032] [
  ⟨.op (.load 19 true (.slot 2)), none, none⟩, 
  ⟨.op (.mv (.slot 1)), none, none⟩, 
  ⟨.call 22 [(.slot 7), (.slot 8)] false, none, none⟩, 
  ⟨.op (.not (.slot 9)), some 6, none⟩]) c26_4) c26_2
abbrev c26_6 : SCode := .seq (.reg [7, 8, 9, 10, 1033] [
  ⟨.op (.load 19 true (.slot 2)), none, none⟩, 
  ⟨.op (.load 19 true (.slot 2)), none, none⟩, 
  ⟨.op (.bsl 34 2 [(.int .i64 0), (.str []), (.int .i64 0), (.int .i64 0), (.str []), (.osl 0 31 0 []), (.int .i64 0), (.int .i64 0), (.str []), (.osl 0 31 0 []), (.int .i64 0), (.int .i64 0), (.str []), (.osl 0 31 0 []), (.int .i64 0), (.int .i64 0), (.str []), (.osl 0 31 0 []), (.osl 0 34 0 [])] [(0, 19, (.slot 7)), (19, 19, (.slot 8))]), none, none⟩, 
  ⟨.call 50 [(.slot 9)] false, none, none⟩, 
  ⟨.op (.asg (.slot 10)), some 5, none⟩]) c26_5
abbrev s26 : SCode := .seq (.reg [1029, 1030, 1031] [
  ⟨.op (.box 34 19 (.slot 0)), some 2, none⟩, 
  ⟨.op (.asg (.con (.osl 0 34 0 []))), some 3, none⟩, 
  ⟨.op (.asg (.con (.bool false))), some 4, none⟩]) c26_6
theorem ok26 : okFn Go.Proofs.Try.prog Go.Proofs.Try.f26 v26 s26 r26 2 = true := by kernel_rfl

def v27 : List Nat := [0, 1, 2, 4, 5, 6, 13, 7]
def r27 : List SRes := [.tmp 3, .tmp 4]
abbrev c27_0 : SCode := .seq (.reg [25, 26, 27, 1031, 1032] [
  ⟨.op (.load 19 true (.slot 5)), none, none⟩, 
  ⟨.op (.load 19 true (.slot 7)), none, none⟩, 
  ⟨.op (.bsl 34 2 [(.int .i64 0), (.str []), (.int .i64 0), (.int .i64 0), (.str []), (.osl 0 31 0 []), (.int .i64 0), (.int .i64 0), (.str []), (.osl 0 31 0 []), (.int .i64 0), (.int .i64 0), (.str []), (.osl 0 31 0 []), (.int .i64 0), (.int .i64 0), (.str []), (.osl 0 31 0 []), (.osl 0 34 0 [])] [(0, 19, (.slot 8)), (19, 19, (.slot 9))]), none, none⟩, 
  ⟨.op (.asg (.slot 10)), some 3, none⟩, 
  ⟨.op (.asg (.con (.bool true))), some 4, none⟩]) (.ret)
abbrev c27_1 : SCode := .seq (.reg [21, 22, 23, 24, 1032] [
  ⟨.op (.mv (.slot 1)), none, none⟩, 
  ⟨.op (.bin .add (.slot 8) (.con (.int .i64 1))), none, none⟩, 
  ⟨.call 53 [(.slot 9)] false, none, none⟩, 
  ⟨.op (.faddr 10 (.slot 7)), none, none⟩, 
  ⟨.op (.store 4 true (.slot 11) (.slot 10)), none, none⟩]) c27_0
abbrev c27_2 : SCode := .seq (.reg [18, 19, 20, 1031] [
  ⟨.op (.mv (.slot 1)), none, none⟩, 
  ⟨.call 53 [(.slot 8)] false, none, none⟩, 
  ⟨.op (.faddr 14 (.slot 5)), none, none⟩, 
  ⟨.op (.store 4 true (.slot 10) (.slot 9)), none, none⟩]) c27_1
abbrev c27_3 : SCode := .seq (.reg [16, 17, 1030, 1031] [
  ⟨.op (.load 19 true (.slot 2)), none, none⟩, 
  ⟨.call 52 [(.slot 8)] false, none, none⟩, 
  ⟨.op (.mk 34 [(.int .i64 0), (.str []), (.int .i64 0), (.int .i64 0), (.str []), (.osl 0 31 0 []), (.int .i64 0), (.int .i64 0), (.str []), (.osl 0 31 0 []), (.int .i64 0), (.int .i64 0), (.str []), (.osl 0 31 0 []), (.int .i64 0), (.int .i64 0), (.str []), (.osl 0 31 0 []), (.osl 0 34 0 [])]), some 7, none⟩, 
  ⟨.op (.store 19 true (.slot 7) (.slot 9)), none, none⟩]) c27_2
abbrev c27_4 : SCode := .seq (.reg [14, 15, 1030, 1031] [
  ⟨.op (.load 19 true (.slot 5)), none, none⟩, 
  ⟨.op (.bsl 34 1 [(.int .i64 0), (.str []), (.int .i64 0), (.int .i64 0), (.str []), (.osl 0 31 0 []), (.int .i64 0), (.int .i64 0), (.str []), (.osl 0 31 0 []), (.int .i64 0), (.int .i64 0), (.str []), (.osl 0 31 0 []), (.int .i64 0), (.int .i64 0), (.str []), (.osl 0 31 0 []), (.osl 0 34 0 [])] [(0, 19, (.slot 8))]), none, none⟩, 
  ⟨.op (.asg (.slot 9)), some 3, none⟩, 
  ⟨.op (.asg (.con (.bool false))), some 4, none⟩]) (.ret)
abbrev c27_5 : SCode := .cond (.slot 6) c27_4 (.skip)
abbrev c27_6 : SCode := .seq (.seq (.reg [10, 11, 12, 1031] [
  ⟨.op (.load 19 true (.slot 2)), none, none⟩, 
  ⟨.op (.mv (.slot 1)), none, none⟩, 
  ⟨.call 23 [(.slot 8), (.slot 9)] false, none, none⟩, 
  ⟨.op (.not (.slot 10)), some 6, none⟩]) c27_5) c27_3
abbrev c27_7 : SCode := .seq (.reg [8, 9, 1030, 1031] [
  ⟨.op (.load 19 true (.slot 2)), none, none⟩, 
  ⟨.call 52 [(.slot 8)] false, none, none⟩, 
  ⟨.op (.mk 34 [(.int .i64 0), (.str []), (.int .i64 0), (.int .i64 0), (.str []), (.osl 0 31 0 []), (.int .i64 0), (.int .i64 0), (.str []), (.osl 0 31 0 []), (.int .i64 0), (.int .i64 0), (.str []), (.osl 0 31 0 []), (.int .i64 0), (.int .i64 0), (.str []), (.osl 0 31 0 []), (.osl 0 34 0 [])]), some 5, none⟩, 
  ⟨.op (.store 19 true (.slot 5) (.slot 9)), none, none⟩]) c27_6
abbrev s27 : SCode := .seq (.reg [1028, 1029, 1030] [
  ⟨.op (.box 34 19 (.slot 0)), some 2, none⟩, 
  ⟨.op (.asg (.con (.osl 0 34 0 []))), some 3, none⟩, 
  ⟨.op (.asg (.con (.bool false))), some 4, none⟩]) c27_7
theorem ok27 : okFn Go.Proofs.Try.prog Go.Proofs.Try.f27 v27 s27 r27 2 = true := by kernel_rfl

def v28 : List Nat := [0, 1, 4, 10, 5, 14, 26]
def r28 : List SRes := [.tmp 2]
abbrev c28_0 : SCode := .seq (.reg [1027] [
  ⟨.op (.asg (.con (.bool true))), some 2, none⟩]) (.ret)
abbrev c28_1 : SCode := .reg [15, 16, 1029] [
  ⟨.op (.mv (.slot 4)), none, none⟩, 
  ⟨.op (.bin .add (.slot 7) (.con (.int .i64 1))), none, none⟩, 
  ⟨.op (.asg (.slot 8)), some 4, none⟩]
abbrev c28_2 : SCode := .seq (.reg [1027] [
  ⟨.op (.asg (.con (.bool false))), some 2, none⟩]) (.ret)
abbrev c28_3 : SCode := .cond (.slot 6) c28_2 (.skip)
abbrev c28_4 : SCode := .seq (.block 1 (.seq (.dreg [17, 18, 19, 20, 21, 22, 23, 24, 25, 1036] [
  ⟨.op (.mv (.slot 0)), none, none⟩, 
  ⟨.op (.mv (.slot 4)), none, none⟩, 
  ⟨.op (.iaddr 19 (.slot 7) (.slot 8)), none, none⟩, 
  ⟨.op (.load 19 true (.slot 9)), none, none⟩, 
  ⟨.op (.mv (.slot 1)), none, none⟩, 
  ⟨.op (.mv (.slot 4)), none, none⟩, 
  ⟨.op (.iaddr 19 (.slot 11) (.slot 12)), none, none⟩, 
  ⟨.op (.load 19 true (.slot 13)), none, none⟩, 
  ⟨.call 12 [(.slot 10), (.slot 14)] false, none, none⟩, 
  ⟨.op (.not (.slot 15)), some 6, none⟩]
  [[], [], [0, 1], [0, 1, 2], [], [], [4, 5], [4, 5, 6], [0, 1, 2, 3, 4, 5, 6, 7], [0, 1, 2, 3, 4, 5, 6, 7, 8]] 9 [] [([], none), ([false], none), ([true, true], none), ([true, true, true], none), ([false, false, false, false], none), ([false, false, false, false, false], none), ([false, false, false, false, true, true], none), ([false, false, false, false, true, true, true], none), ([true, true, true, true, true, true, true, true], none)] [true, true, true, true, true, true, true, true, true]) c28_3)) c28_1
abbrev c28_5 : SCode := .cond (.slot 5) (.skip) (.exit 0)
abbrev b28_0 : SCode := .seq (.seq (.reg [11, 12, 13, 1030] [
  ⟨.op (.mv (.slot 4)), none, none⟩, 
  ⟨.op (.mv (.slot 0)), none, none⟩, 
  ⟨.op (.len false (.slot 8)), none, none⟩, 
  ⟨.op (.bin .lss (.slot 7) (.slot 9)), some 5, none⟩]) c28_5) c28_4
def l28_0 : SCode := .loop b28_0
abbrev c28_7 : SCode := .block 0 (l28_0)
abbrev c28_8 : SCode := .seq (.seq (.reg [1027] [
  ⟨.op (.asg (.con (.int .i64 0))), some 4, none⟩]) c28_7) c28_0
abbrev c28_9 : SCode := .seq (.reg [1027] [
  ⟨.op (.asg (.con (.bool false))), some 2, none⟩]) (.ret)
abbrev c28_10 : SCode := .cond (.slot 3) c28_9 (.skip)
abbrev c28_11 : SCode := .seq (.seq (.reg [6, 7, 8, 9, 1031] [
  ⟨.op (.mv (.slot 0)), none, none⟩, 
  ⟨.op (.len false (.slot 7)), none, none⟩, 
  ⟨.op (.mv (.slot 1)), none, none⟩, 
  ⟨.op (.len false (.slot 9)), none, none⟩, 
  ⟨.op (.bin .neq (.slot 8) (.slot 10)), some 3, none⟩]) c28_10) c28_8
abbrev s28 : SCode := .seq (.reg [1027] [
  ⟨.op (.asg (.con (.bool false))), some 2, none⟩]) c28_11
theorem ok28 : okFn Go.Proofs.Try.prog Go.Proofs.Try.f28 v28 s28 r28 2 = true := by kernel_rfl

def v29 : List Nat := [0, 1, 4, 5, 9]
def r29 : List SRes := [.tmp 2]
abbrev c29_0 : SCode := .seq (.reg [166, 1168] [
  ⟨.op (.mv (.slot 1)), none, none⟩, 
  ⟨.op (.asg (.slot 5)), some 2, none⟩]) (.ret)
abbrev c29_1 : SCode := .reg [10, 11, 1169] [
  ⟨.op (.mv (.slot 3)), none, none⟩, 
  ⟨.op (.bin .add (.slot 5) (.con (.int .i64 1))), none, none⟩, 
  ⟨.op (.asg (.slot 6)), some 3, none⟩]
abbrev c29_2 : SCode := .reg [159, 160, 161, 162, 163, 164, 165, 1174] [
  ⟨.op (.mv (.slot 0)), none, none⟩, 
  ⟨.op (.mv (.slot 3)), none, none⟩, 
  ⟨.op (.iaddr 19 (.slot 5) (.slot 6)), none, none⟩, 
  ⟨.op (.faddr 18 (.slot 7)), none, none⟩, 
  ⟨.op (.load 1 false (.slot 8)), none, none⟩, 
  ⟨.op (.mv (.slot 1)), none, none⟩, 
  ⟨.callm (.con (.fn 29 [])) [((.slot 9), true), ((.slot 10), false)], none, none⟩, 
  ⟨.op (.asg (.slot 11)), some 1, none⟩]
abbrev c29_3 : SCode := .seq (.reg [151, 152, 153, 154, 155, 156, 157, 158, 1175] [
  ⟨.op (.mv (.slot 0)), none, none⟩, 
  ⟨.op (.mv (.slot 3)), none, none⟩, 
  ⟨.op (.iaddr 19 (.slot 5) (.slot 6)), none, none⟩, 
  ⟨.op (.faddr 14 (.slot 7)), none, none⟩, 
  ⟨.op (.faddr 3 (.slot 8)), none, none⟩, 
  ⟨.op (.load 1 false (.slot 9)), none, none⟩, 
  ⟨.op (.mv (.slot 1)), none, none⟩, 
  ⟨.callm (.con (.fn 55 [])) [((.slot 10), true), ((.slot 11), false)], none, none⟩, 
  ⟨.op (.asg (.slot 12)), some 1, none⟩]) c29_2
abbrev c29_4 : SCode := .seq (.reg [149, 150, 1169] [
  ⟨.op (.mv (.slot 1)), none, none⟩, 
  ⟨.op (.bin .add (.slot 5) (.con (.int .i64 1))), none, none⟩, 
  ⟨.op (.asg (.slot 6)), some 1, none⟩]) c29_3
abbrev c29_5 : SCode := .seq (.reg [142, 143, 144, 145, 146, 147, 148, 1174] [
  ⟨.op (.mv (.slot 0)), none, none⟩, 
  ⟨.op (.mv (.slot 3)), none, none⟩, 
  ⟨.op (.mv (.slot 1)), none, none⟩, 
  ⟨.call 54 [(.slot 7)] false, none, none⟩, 
  ⟨.op (.iaddr 19 (.slot 5) (.slot 6)), none, none⟩, 
  ⟨.op (.faddr 14 (.slot 9)), none, none⟩, 
  ⟨.op (.faddr 2 (.slot 10)), none, none⟩, 
  ⟨.op (.store 1 false (.slot 11) (.slot 8)), none, none⟩]) c29_4
abbrev c29_6 : SCode := .seq (.reg [140, 141, 1169] [
  ⟨.op (.mv (.slot 1)), none, none⟩, 
  ⟨.op (.bin .add (.slot 5) (.con (.int .i64 1))), none, none⟩, 
  ⟨.op (.asg (.slot 6)), some 1, none⟩]) c29_5
abbrev c29_7 : SCode := .seq (.reg [134, 135, 136, 137, 138, 139, 1173] [
  ⟨.op (.mv (.slot 0)), none, none⟩, 
  ⟨.op (.mv (.slot 3)), none, none⟩, 
  ⟨.op (.mv (.slot 1)), none, none⟩, 
  ⟨.op (.iaddr 19 (.slot 5) (.slot 6)), none, none⟩, 
  ⟨.op (.faddr 14 (.slot 8)), none, none⟩, 
  ⟨.op (.faddr 1 (.slot 9)), none, none⟩, 
  ⟨.op (.store 1 false (.slot 10) (.slot 7)), none, none⟩]) c29_6
abbrev c29_8 : SCode := .seq (.reg [132, 133, 1169] [
  ⟨.op (.mv (.slot 1)), none, none⟩, 
  ⟨.op (.bin .add (.slot 5) (.con (.int .i64 1))), none, none⟩, 
  ⟨.op (.asg (.slot 6)), some 1, none⟩]) c29_7
abbrev c29_9 : SCode := .seq (.reg [126, 127, 128, 129, 130, 131, 1173] [
  ⟨.op (.mv (.slot 0)), none, none⟩, 
  ⟨.op (.mv (.slot 3)), none, none⟩, 
  ⟨.op (.mv (.slot 1)), none, none⟩, 
  ⟨.op (.iaddr 19 (.slot 5) (.slot 6)), none, none⟩, 
  ⟨.op (.faddr 14 (.slot 8)), none, none⟩, 
  ⟨.op (.faddr 0 (.slot 9)), none, none⟩, 
  ⟨.op (.store 1 false (.slot 10) (.slot 7)), none, none⟩]) c29_8
abbrev c29_10 : SCode := .seq (.reg [118, 119, 120, 121, 122, 123, 124, 125, 1175] [
  ⟨.op (.mv (.slot 0)), none, none⟩, 
  ⟨.op (.mv (.slot 3)), none, none⟩, 
  ⟨.op (.iaddr 19 (.slot 5) (.slot 6)), none, none⟩, 
  ⟨.op (.faddr 10 (.slot 7)), none, none⟩, 
  ⟨.op (.faddr 3 (.slot 8)), none, none⟩, 
  ⟨.op (.load 1 false (.slot 9)), none, none⟩, 
  ⟨.op (.mv (.slot 1)), none, none⟩, 
  ⟨.callm (.con (.fn 55 [])) [((.slot 10), true), ((.slot 11), false)], none, none⟩, 
  ⟨.op (.asg (.slot 12)), some 1, none⟩]) c29_9
abbrev c29_11 : SCode := .seq (.reg [116, 117, 1169] [
  ⟨.op (.mv (.slot 1)), none, none⟩, 
  ⟨.op (.bin .add (.slot 5) (.con (.int .i64 1))), none, none⟩, 
  ⟨.op (.asg (.slot 6)), some 1, none⟩]) c29_10
abbrev c29_12 : SCode := .seq (.reg [109, 110, 111, 112, 113, 114, 115, 1174] [
  ⟨.op (.mv (.slot 0)), none, none⟩, 
  ⟨.op (.mv (.slot 3)), none, none⟩, 
  ⟨.op (.mv (.slot 1)), none, none⟩, 
  ⟨.call 54 [(.slot 7)] false, none, none⟩, 
  ⟨.op (.iaddr 19 (.slot 5) (.slot 6)), none, none⟩, 
  ⟨.op (.faddr 10 (.slot 9)), none, none⟩, 
  ⟨.op (.faddr 2 (.slot 10)), none, none⟩, 
  ⟨.op (.store 1 false (.slot 11) (.slot 8)), none, none⟩]) c29_11
abbrev c29_13 : SCode := .seq (.reg [107, 108, 1169] [
  ⟨.op (.mv (.slot 1)), none, none⟩, 
  ⟨.op (.bin .add (.slot 5) (.con (.int .i64 1))), none, none⟩, 
  ⟨.op (.asg (.slot 6)), some 1, none⟩]) c29_12
abbrev c29_14 : SCode := .seq (.reg [101, 102, 103, 104, 105, 106, 1173] [
  ⟨.op (.mv (.slot 0)), none, none⟩, 
  ⟨.op (.mv (.slot 3)), none, none⟩, 
  ⟨.op (.mv (.slot 1)), none, none⟩, 
  ⟨.op (.iaddr 19 (.slot 5) (.slot 6)), none, none⟩, 
  ⟨.op (.faddr 10 (.slot 8)), none, none⟩, 
  ⟨.op (.faddr 1 (.slot 9)), none, none⟩, 
  ⟨.op (.store 1 false (.slot 10) (.slot 7)), none, none⟩]) c29_13
abbrev c29_15 : SCode := .seq (.reg [99, 100, 1169] [
  ⟨.op (.mv (.slot 1)), none, none⟩, 
  ⟨.op (.bin .add (.slot 5) (.con (.int .i64 1))), none, none⟩, 
  ⟨.op (.asg (.slot 6)), some 1, none⟩]) c29_14
abbrev c29_16 : SCode := .seq (.reg [93, 94, 95, 96, 97, 98, 1173] [
  ⟨.op (.mv (.slot 0)), none, none⟩, 
  ⟨.op (.mv (.slot 3)), none, none⟩, 
  ⟨.op (.mv (.slot 1)), none, none⟩, 
  ⟨.op (.iaddr 19 (.slot 5) (.slot 6)), none, none⟩, 
  ⟨.op (.faddr 10 (.slot 8)), none, none⟩, 
  ⟨.op (.faddr 0 (.slot 9)), none, none⟩, 
  ⟨.op (.store 1 false (.slot 10) (.slot 7)), none, none⟩]) c29_15
abbrev c29_17 : SCode := .seq (.reg [85, 86, 87, 88, 89, 90, 91, 92, 1175] [
  ⟨.op (.mv (.slot 0)), none, none⟩, 
  ⟨.op (.mv (.slot 3)), none, none⟩, 
  ⟨.op (.iaddr 19 (.slot 5) (.slot 6)), none, none⟩, 
  ⟨.op (.faddr 6 (.slot 7)), none, none⟩, 
  ⟨.op (.faddr 3 (.slot 8)), none, none⟩, 
  ⟨.op (.load 1 false (.slot 9)), none, none⟩, 
  ⟨.op (.mv (.slot 1)), none, none⟩, 
  ⟨.callm (.con (.fn 55 [])) [((.slot 10), true), ((.slot 11), false)], none, none⟩, 
  ⟨.op (.asg (.slot 12)), some 1, none⟩]) c29_16
abbrev c29_18 : SCode := .seq (.reg [83, 84, 1169] [
  ⟨.op (.mv (.slot 1)), none, none⟩, 
  ⟨.op (.bin .add (.slot 5) (.con (.int .i64 1))), none, none⟩, 
  ⟨.op (.asg (.slot 6)), some 1, none⟩]) c29_17
abbrev c29_19 : SCode := .seq (.reg [76, 77, 78, 79, 80, 81, 82, 1174] [
  ⟨.op (.mv (.slot 0)), none, none⟩, 
  ⟨.op (.mv (.slot 3)), none, none⟩, 
  ⟨.op (.mv (.slot 1)), none, none⟩, 
  ⟨.call 54 [(.slot 7)] false, none, none⟩, 
  ⟨.op (.iaddr 19 (.slot 5) (.slot 6)), none, none⟩, 
  ⟨.op (.faddr 6 (.slot 9)), none, none⟩, 
  ⟨.op (.faddr 2 (.slot 10)), none, none⟩, 
  ⟨.op (.store 1 false (.slot 11) (.slot 8)), none, none⟩]) c29_18
abbrev c29_20 : SCode := .seq (.reg [74, 75, 1169] [
  ⟨.op (.mv (.slot 1)), none, none⟩, 
  ⟨.op (.bin .add (.slot 5) (.con (.int .i64 1))), none, none⟩, 
  ⟨.op (.asg (.slot 6)), some 1, none⟩]) c29_19
abbrev c29_21 : SCode := .seq (.reg [68, 69, 70, 71, 72, 73, 1173] [
  ⟨.op (.mv (.slot 0)), none, none⟩, 
  ⟨.op (.mv (.slot 3)), none, none⟩, 
  ⟨.op (.mv (.slot 1)), none, none⟩, 
  ⟨.op (.iaddr 19 (.slot 5) (.slot 6)), none, none⟩, 
  ⟨.op (.faddr 6 (.slot 8)), none, none⟩, 
  ⟨.op (.faddr 1 (.slot 9)), none, none⟩, 
  ⟨.op (.store 1 false (.slot 10) (.slot 7)), none, none⟩]) c29_20
abbrev c29_22 : SCode := .seq (.reg [66, 67, 1169] [
  ⟨.op (.mv (.slot 1)), none, none⟩, 
  ⟨.op (.bin .add (.slot 5) (.con (.int .i64 1))), none, none⟩, 
  ⟨.op (.asg (.slot 6)), some 1, none⟩]) c29_21
abbrev c29_23 : SCode := .seq (.reg [60, 61, 62, 63, 64, 65, 1173] [
  ⟨.op (.mv (.slot 0)), none, none⟩, 
  ⟨.op (.mv (.slot 3)), none, none⟩, 
  ⟨.op (.mv (.slot 1)), none, none⟩, 
  ⟨.op (.iaddr 19 (.slot 5) (.slot 6)), none, none⟩, 
  ⟨.op (.faddr 6 (.slot 8)), none, none⟩, 
  ⟨.op (.faddr 0 (.slot 9)), none, none⟩, 
  ⟨.op (.store 1 false (.slot 10) (.slot 7)), none, none⟩]) c29_22
abbrev c29_24 : SCode := .seq (.reg [52, 53, 54, 55, 56, 57, 58, 59, 1175] [
  ⟨.op (.mv (.slot 0)), none, none⟩, 
  ⟨.op (.mv (.slot 3)), none, none⟩, 
  ⟨.op (.iaddr 19 (.slot 5) (.slot 6)), none, none⟩, 
  ⟨.op (.faddr 2 (.slot 7)), none, none⟩, 
  ⟨.op (.faddr 3 (.slot 8)), none, none⟩, 
  ⟨.op (.load 1 false (.slot 9)), none, none⟩, 
  ⟨.op (.mv (.slot 1)), none, none⟩, 
  ⟨.callm (.con (.fn 55 [])) [((.slot 10), true), ((.slot 11), false)], none, none⟩, 
  ⟨.op (.asg (.slot 12)), some 1, none⟩]) c29_23
abbrev c29_25 : SCode := .seq (.reg [50, 51, 1169] [
  ⟨.op (.mv (.slot 1)), none, none⟩, 
  ⟨.op (.bin .add (.slot 5) (.con (.int .i64 1))), none, none⟩, 
  ⟨.op (.asg (.slot 6)), some 1, none⟩]) c29_24
abbrev c29_26 : SCode := .seq (.reg [43, 44, 45, 46, 47, 48, 49, 1174] [
  ⟨.op (.mv (.slot 0)), none, none⟩, 
  ⟨.op (.mv (.slot 3)), none, none⟩, 
  ⟨.op (.mv (.slot 1)), none, none⟩, 
  ⟨.call 54 [(.slot 7)] false, none, none⟩, 
  ⟨.op (.iaddr 19 (.slot 5) (.slot 6)), none, none⟩, 
  ⟨.op (.faddr 2 (.slot 9)), none, none⟩, 
  ⟨.op (.faddr 2 (.slot 10)), none, none⟩, 
  ⟨.op (.store 1 false (.slot 11) (.slot 8)), none, none⟩]) c29_25
abbrev c29_27 : SCode := .seq (.reg [41, 42, 1169] [
  ⟨.op (.mv (.slot 1)), none, none⟩, 
  ⟨.op (.bin .add (.slot 5) (.con (.int .i64 1))), none, none⟩, 
  ⟨.op (.asg (.slot 6)), some 1, none⟩]) c29_26
abbrev c29_28 : SCode := .seq (.reg [35, 36, 37, 38, 39, 40, 1173] [
  ⟨.op (.mv (.slot 0)), none, none⟩, 
  ⟨.op (.mv (.slot 3)), none, none⟩, 
  ⟨.op (.mv (.slot 1)), none, none⟩, 
  ⟨.op (.iaddr 19 (.slot 5) (.slot 6)), none, none⟩, 
  ⟨.op (.faddr 2 (.slot 8)), none, none⟩, 
  ⟨.op (.faddr 1 (.slot 9)), none, none⟩, 
  ⟨.op (.store 1 false (.slot 10) (.slot 7)), none, none⟩]) c29_27
abbrev c29_29 : SCode := .seq (.reg [33, 34, 1169] [
  ⟨.op (.mv (.slot 1)), none, none⟩, 
  ⟨.op (.bin .add (.slot 5) (.con (.int .i64 1))), none, none⟩, 
  ⟨.op (.asg (.slot 6)), some 1, none⟩]) c29_28
abbrev c29_30 : SCode := .seq (.reg [27, 28, 29, 30, 31, 32, 1173] [
  ⟨.op (.mv (.slot 0)), none, none⟩, 
  ⟨.op (.mv (.slot 3)), none, none⟩, 
  ⟨.op (.mv (.slot 1)), none, none⟩, 
  ⟨.op (.iaddr 19 (.slot 5) (.slot 6)), none, none⟩, 
  ⟨.op (.faddr 2 (.slot 8)), none, none⟩, 
  ⟨.op (.faddr 0 (.slot 9)), none, none⟩, 
  ⟨.op (.store 1 false (.slot 10) (.slot 7)), none, none⟩]) c29_29
abbrev c29_31 : SCode := .seq (.reg [25, 26, 1169] [
  ⟨.op (.mv (.slot 1)), none, none⟩, 
  ⟨.op (.bin .add (.slot 5) (.con (.int .i64 1))), none, none⟩, 
  ⟨.op (.asg (.slot 6)), some 1, none⟩]) c29_30
abbrev c29_32 : SCode := .seq (.reg [19, 20, 21, 22, 23, 24, 1173] [
  ⟨.op (.mv (.slot 0)), none, none⟩, 
  ⟨.op (.mv (.slot 3)), none, none⟩, 
  ⟨.op (.mv (.slot 1)), none, none⟩, 
  ⟨.call 54 [(.slot 7)] false, none, none⟩, 
  ⟨.op (.iaddr 19 (.slot 5) (.slot 6)), none, none⟩, 
  ⟨.op (.faddr 1 (.slot 9)), none, none⟩, 
  ⟨.op (.store 1 false (.slot 10) (.slot 8)), none, none⟩]) c29_31
abbrev c29_33 : SCode := .seq (.reg [17, 18, 1169] [
  ⟨.op (.mv (.slot 1)), none, none⟩, 
  ⟨.op (.bin .add (.slot 5) (.con (.int .i64 1))), none, none⟩, 
  ⟨.op (.asg (.slot 6)), some 1, none⟩]) c29_32
abbrev c29_34 : SCode := .seq (.block 1 (.seq (.reg [12, 13, 14, 15, 16, 1172] [
  ⟨.op (.mv (.slot 0)), none, none⟩, 
  ⟨.op (.mv (.slot 3)), none, none⟩, 
  ⟨.op (.mv (.slot 1)), none, none⟩, 
  ⟨.op (.iaddr 19 (.slot 5) (.slot 6)), none, none⟩, 
  ⟨.op (.faddr 0 (.slot 8)), none, none⟩, 
  ⟨.op (.store 1 false (.slot 9) (.slot 7)), none, none⟩]) c29_33)) c29_1
abbrev c29_35 : SCode := .cond (.slot 4) (.skip) (.exit 0)
abbrev b29_0 : SCode := .seq (.seq (.reg [6, 7, 8, 1170] [
  ⟨.op (.mv (.slot 3)), none, none⟩, 
  ⟨.op (.mv (.slot 0)), none, none⟩, 
  ⟨.op (.len false (.slot 6)), none, none⟩, 
  ⟨.op (.bin .lss (.slot 5) (.slot 7)), some 4, none⟩]) c29_35) c29_34
def l29_0 : SCode := .loop b29_0
abbrev c29_37 : SCode := .block 0 (l29_0)
abbrev c29_38 : SCode := .seq (.seq (.reg [1167] [
  ⟨.op (.asg (.con (.int .i64 0))), some 3, none⟩]) c29_37) c29_0
abbrev s29 : SCode := .seq (.reg [1167] [
  ⟨.op (.asg (.con (.int .i64 0))), some 2, none⟩]) c29_38
theorem ok29 : okFn Go.Proofs.Try.prog Go.Proofs.Try.f29 v29 s29 r29 2 = true := by kernel_rfl

def v30 : List Nat := [0, 1, 4, 5, 9, 18, 28, 38, 48, 59, 71, 79, 89, 100, 112, 120, 130, 141, 153, 161, 171, 182, 194, 203]
def r30 : List SRes := [.tmp 2]
abbrev c30_0 : SCode := .seq (.reg [204, 1206] [
  ⟨.op (.mv (.slot 1)), none, none⟩, 
  ⟨.op (.asg (.slot 24)), some 2, none⟩]) (.ret)
abbrev c30_1 : SCode := .reg [10, 11, 1207] [
  ⟨.op (.mv (.slot 3)), none, none⟩, 
  ⟨.op (.bin .add (.slot 24) (.con (.int .i64 1))), none, none⟩, 
  ⟨.op (.asg (.slot 25)), some 3, none⟩]
abbrev c30_2 : SCode := .seq (.reg [1205] [
  ⟨.op (.asg (.con (.int .i64 (-1)))), some 2, none⟩]) (.ret)
abbrev c30_3 : SCode := .cond (.slot 23) c30_2 (.skip)
abbrev c30_4 : SCode := .seq (.reg [202, 1206] [
  ⟨.op (.mv (.slot 1)), none, none⟩, 
  ⟨.op (.bin .lss (.slot 24) (.con (.int .i64 0))), some 23, none⟩]) c30_3
abbrev c30_5 : SCode := .seq (.reg [195, 196, 197, 198, 199, 200, 201, 1212] [
  ⟨.op (.mv (.slot 0)), none, none⟩, 
  ⟨.op (.mv (.slot 3)), none, none⟩, 
  ⟨.op (.iaddr 19 (.slot 24) (.slot 25)), none, none⟩, 
  ⟨.op (.faddr 18 (.slot 26)), none, none⟩, 
  ⟨.op (.load 1 false (.slot 27)), none, none⟩, 
  ⟨.op (.mv (.slot 1)), none, none⟩, 
  ⟨.call 30 [(.slot 28), (.slot 29)] false, none, none⟩, 
  ⟨.op (.asg (.slot 30)), some 1, none⟩]) c30_4
abbrev c30_6 : SCode := .seq (.reg [1205] [
  ⟨.op (.asg (.con (.int .i64 (-1)))), some 2, none⟩]) (.ret)
abbrev c30_7 : SCode := .cond (.slot 22) c30_6 (.skip)
abbrev c30_8 : SCode := .seq (.seq (.reg [193, 1206] [
  ⟨.op (.mv (.slot 1)), none, none⟩, 
  ⟨.op (.bin .lss (.slot 24) (.con (.int .i64 0))), some 22, none⟩]) c30_7) c30_5
abbrev c30_9 : SCode := .seq (.reg [185, 186, 187, 188, 189, 190, 191, 192, 1213] [
  ⟨.op (.mv (.slot 0)), none, none⟩, 
  ⟨.op (.mv (.slot 3)), none, none⟩, 
  ⟨.op (.iaddr 19 (.slot 24) (.slot 25)), none, none⟩, 
  ⟨.op (.faddr 14 (.slot 26)), none, none⟩, 
  ⟨.op (.faddr 3 (.slot 27)), none, none⟩, 
  ⟨.op (.load 1 false (.slot 28)), none, none⟩, 
  ⟨.op (.mv (.slot 1)), none, none⟩, 
  ⟨.call 56 [(.slot 29), (.slot 30)] false, none, none⟩, 
  ⟨.op (.asg (.slot 31)), some 1, none⟩]) c30_8
abbrev c30_10 : SCode := .seq (.reg [183, 184, 1207] [
  ⟨.op (.mv (.slot 1)), none, none⟩, 
  ⟨.op (.bin .add (.slot 24) (.con (.int .i64 1))), none, none⟩, 
  ⟨.op (.asg (.slot 25)), some 1, none⟩]) c30_9
abbrev c30_11 : SCode := .seq (.reg [1205] [
  ⟨.op (.asg (.con (.int .i64 (-1)))), some 2, none⟩]) (.ret)
abbrev c30_12 : SCode := .cond (.slot 21) c30_11 (.skip)
abbrev c30_13 : SCode := .seq (.seq (.dreg [174, 175, 176, 177, 178, 179, 180, 181, 1213] [
  ⟨.op (.mv (.slot 0)), none, none⟩, 
  ⟨.op (.mv (.slot 3)), none, none⟩, 
  ⟨.op (.iaddr 19 (.slot 24) (.slot 25)), none, none⟩, 
  ⟨.op (.faddr 14 (.slot 26)), none, none⟩, 
  ⟨.op (.faddr 2 (.slot 27)), none, none⟩, 
  ⟨.op (.load 1 false (.slot 28)), none, none⟩, 
  ⟨.op (.mv (.slot 1)), none, none⟩, 
  ⟨.call 54 [(.slot 30)] false, none, none⟩, 
  ⟨.op (.bin .neq (.slot 29) (.slot 31)), some 21, none⟩]
  [[], [], [0, 1], [0, 1, 2], [0, 1, 2, 3], [0, 1, 2, 3, 4], [], [6], [0, 1, 2, 3, 4, 5, 6, 7]] 8 [] [([], none), ([false], none), ([true, true], none), ([true, true, true], none), ([true, true, true, true], none), ([true, true, true, true, true], none), ([false, false, false, false, false, false], none), ([false, false, false, false, false, false, true], none)] [true, true, true, true, true, true, true, true]) c30_12) c30_10
abbrev c30_14 : SCode := .seq (.reg [172, 173, 1207] [
  ⟨.op (.mv (.slot 1)), none, none⟩, 
  ⟨.op (.bin .add (.slot 24) (.con (.int .i64 1))), none, none⟩, 
  ⟨.op (.asg (.slot 25)), some 1, none⟩]) c30_13
abbrev c30_15 : SCode := .seq (.reg [1205] [
  ⟨.op (.asg (.con (.int .i64 (-1)))), some 2, none⟩]) (.ret)
abbrev c30_16 : SCode := .cond (.slot 20) c30_15 (.skip)
abbrev c30_17 : SCode := .seq (.seq (.reg [164, 165, 166, 167, 168, 169, 170, 1212] [
  ⟨.op (.mv (.slot 0)), none, none⟩, 
  ⟨.op (.mv (.slot 3)), none, none⟩, 
  ⟨.op (.iaddr 19 (.slot 24) (.slot 25)), none, none⟩, 
  ⟨.op (.faddr 14 (.slot 26)), none, none⟩, 
  ⟨.op (.faddr 1 (.slot 27)), none, none⟩, 
  ⟨.op (.load 1 false (.slot 28)), none, none⟩, 
  ⟨.op (.mv (.slot 1)), none, none⟩, 
  ⟨.op (.bin .neq (.slot 29) (.slot 30)), some 20, none⟩]) c30_16) c30_14
abbrev c30_18 : SCode := .seq (.reg [162, 163, 1207] [
  ⟨.op (.mv (.slot 1)), none, none⟩, 
  ⟨.op (.bin .add (.slot 24) (.con (.int .i64 1))), none, none⟩, 
  ⟨.op (.asg (.slot 25)), some 1, none⟩]) c30_17
abbrev c30_19 : SCode := .seq (.reg [1205] [
  ⟨.op (.asg (.con (.int .i64 (-1)))), some 2, none⟩]) (.ret)
abbrev c30_20 : SCode := .cond (.slot 19) c30_19 (.skip)
abbrev c30_21 : SCode := .seq (.seq (.reg [154, 155, 156, 157, 158, 159, 160, 1212] [
  ⟨.op (.mv (.slot 0)), none, none⟩, 
  ⟨.op (.mv (.slot 3)), none, none⟩, 
  ⟨.op (.iaddr 19 (.slot 24) (.slot 25)), none, none⟩, 
  ⟨.op (.faddr 14 (.slot 26)), none, none⟩, 
  ⟨.op (.faddr 0 (.slot 27)), none, none⟩, 
  ⟨.op (.load 1 false (.slot 28)), none, none⟩, 
  ⟨.op (.mv (.slot 1)), none, none⟩, 
  ⟨.op (.bin .neq (.slot 29) (.slot 30)), some 19, none⟩]) c30_20) c30_18
abbrev c30_22 : SCode := .seq (.reg [1205] [
  ⟨.op (.asg (.con (.int .i64 (-1)))), some 2, none⟩]) (.ret)
abbrev c30_23 : SCode := .cond (.slot 18) c30_22 (.skip)
abbrev c30_24 : SCode := .seq (.seq (.reg [152, 1206] [
  ⟨.op (.mv (.slot 1)), none, none⟩, 
  ⟨.op (.bin .lss (.slot 24) (.con (.int .i64 0))), some 18, none⟩]) c30_23) c30_21
abbrev c30_25 : SCode := .seq (.reg [144, 145, 146, 147, 148, 149, 150, 151, 1213] [
  ⟨.op (.mv (.slot 0)), none, none⟩, 
  ⟨.op (.mv (.slot 3)), none, none⟩, 
  ⟨.op (.iaddr 19 (.slot 24) (.slot 25)), none, none⟩, 
  ⟨.op (.faddr 10 (.slot 26)), none, none⟩, 
  ⟨.op (.faddr 3 (.slot 27)), none, none⟩, 
  ⟨.op (.load 1 false (.slot 28)), none, none⟩, 
  ⟨.op (.mv (.slot 1)), none, none⟩, 
  ⟨.call 56 [(.slot 29), (.slot 30)] false, none, none⟩, 
  ⟨.op (.asg (.slot 31)), some 1, none⟩]) c30_24
abbrev c30_26 : SCode := .seq (.reg [142, 143, 1207] [
  ⟨.op (.mv (.slot 1)), none, none⟩, 
  ⟨.op (.bin .add (.slot 24) (.con (.int .i64 1))), none, none⟩, 
  ⟨.op (.asg (.slot 25)), some 1, none⟩]) c30_25
abbrev c30_27 : SCode := .seq (.reg [1205] [
  ⟨.op (.asg (.con (.int .i64 (-1)))), some 2, none⟩]) (.ret)
abbrev c30_28 : SCode := .cond (.slot 17) c30_27 (.skip)
abbrev c30_29 : SCode := .seq (.seq (.dreg [133, 134, 135, 136, 137, 138, 139, 140, 1213] [
  ⟨.op (.mv (.slot 0)), none, none⟩, 
  ⟨.op (.mv (.slot 3)), none, none⟩, 
  ⟨.op (.iaddr 19 (.slot 24) (.slot 25)), none, none⟩, 
  ⟨.op (.faddr 10 (.slot 26)), none, none⟩, 
  ⟨.op (.faddr 2 (.slot 27)), none, none⟩, 
  ⟨.op (.load 1 false (.slot 28)), none, none⟩, 
  ⟨.op (.mv (.slot 1)), none, none⟩, 
  ⟨.call 54 [(.slot 30)] false, none, none⟩, 
  ⟨.op (.bin .neq (.slot 29) (.slot 31)), some 17, none⟩]
  [[], [], [0, 1], [0, 1, 2], [0, 1, 2, 3], [0, 1, 2, 3, 4], [], [6], [0, 1, 2, 3, 4, 5, 6, 7]] 8 [] [([], none), ([false], none), ([true, true], none), ([true, true, true], none), ([true, true, true, true], none), ([true, true, true, true, true], none), ([false, false, false, false, false, false], none), ([false, false, false, false, false, false, true], none)] [true, true, true, true, true, true, true, true]) c30_28) c30_26
abbrev c30_30 : SCode := .seq (.reg [131, 132, 1207] [
  ⟨.op (.mv (.slot 1)), none, none⟩, 
  ⟨.op (.bin .add (.slot 24) (.con (.int .i64 1))), none, none⟩, 
  ⟨.op (.asg (.slot 25)), some 1, none⟩]) c30_29
abbrev c30_31 : SCode := .seq (.reg [1205] [
  ⟨.op (.asg (.con (.int .i64 (-1)))), some 2, none⟩]) (.ret)
abbrev c30_32 : SCode := .cond (.slot 16) c30_31 (.skip)
abbrev c30_33 : SCode := .seq (.seq (.reg [123, 124, 125, 126, 127, 128, 129, 1212] [
  ⟨.op (.mv (.slot 0)), none, none⟩, 
  ⟨.op (.mv (.slot 3)), none, none⟩, 
  ⟨.op (.iaddr 19 (.slot 24) (.slot 25)), none, none⟩, 
  ⟨.op (.faddr 10 (.slot 26)), none, none⟩, 
  ⟨.op (.faddr 1 (.slot 27)), none, none⟩, 
  ⟨.op (.load 1 false (.slot 28)), none, none⟩, 
  ⟨.op (.mv (.slot 1)), none, none⟩, 
  ⟨.op (.bin .neq (.slot 29) (.slot 30)), some 16, none⟩]) c30_32) c30_30
abbrev c30_34 : SCode := .seq (.reg [121, 122, 1207] [
  ⟨.op (.mv (.slot 1)), none, none⟩, 
  ⟨.op (.bin .add (.slot 24) (.con (.int .i64 1))), none, none⟩, 
  ⟨.op (.asg (.slot 25)), some 1, none⟩]) c30_33
abbrev c30_35 : SCode := .seq (.reg [1205] [
  ⟨.op (.asg (.con (.int .i64 (-1)))), some 2, none⟩]) (.ret)
abbrev c30_36 : SCode := .cond (.slot 15) c30_35 (.skip)
abbrev c30_37 : SCode := .seq (.seq (.reg [113, 114, 115, 116, 117, 118, 119, 1212] [
  ⟨.op (.mv (.slot 0)), none, none⟩, 
  ⟨.op (.mv (.slot 3)), none, none⟩, 
  ⟨.op (.iaddr 19 (.slot 24) (.slot 25)), none, none⟩, 
  ⟨.op (.faddr 10 (.slot 26)), none, none⟩, 
  ⟨.op (.faddr 0 (.slot 27)), none, none⟩, 
  ⟨.op (.load 1 false (.slot 28)), none, none⟩, 
  ⟨.op (.mv (.slot 1)), none, none⟩, 
  ⟨.op (.bin .neq (.slot 29) (.slot 30)), some 15, none⟩]) c30_36) c30_34
abbrev c30_38 : SCode := .seq (.reg [1205] [
  ⟨.op (.asg (.con (.int .i64 (-1)))), some 2, none⟩]) (.ret)
abbrev c30_39 : SCode := .cond (.slot 14) c30_38 (.skip)
abbrev c30_40 : SCode := .seq (.seq (.reg [111, 1206] [
  ⟨.op (.mv (.slot 1)), none, none⟩, 
  ⟨.op (.bin .lss (.slot 24) (.con (.int .i64 0))), some 14, none⟩]) c30_39) c30_37
abbrev c30_41 : SCode := .seq (.reg [103, 104, 105, 106, 107, 108, 109, 110, 1213] [
  ⟨.op (.mv (.slot 0)), none, none⟩, 
  ⟨.op (.mv (.slot 3)), none, none⟩, 
  ⟨.op (.iaddr 19 (.slot 24) (.slot 25)), none, none⟩, 
  ⟨.op (.faddr 6 (.slot 26)), none, none⟩, 
  ⟨.op (.faddr 3 (.slot 27)), none, none⟩, 
  ⟨.op (.load 1 false (.slot 28)), none, none⟩, 
  ⟨.op (.mv (.slot 1)), none, none⟩, 
  ⟨.call 56 [(.slot 29), (.slot 30)] false, none, none⟩, 
  ⟨.op (.asg (.slot 31)), some 1, none⟩]) c30_40
abbrev c30_42 : SCode := .seq (.reg [101, 102, 1207] [
  ⟨.op (.mv (.slot 1)), none, none⟩, 
  ⟨.op (.bin .add (.slot 24) (.con (.int .i64 1))), none, none⟩, 
  ⟨.op (.asg (.slot 25)), some 1, none⟩]) c30_41
abbrev c30_43 : SCode := .seq (.reg [1205] [
  ⟨.op (.asg (.con (.int .i64 (-1)))), some 2, none⟩]) (.ret)
abbrev c30_44 : SCode := .cond (.slot 13) c30_43 (.skip)
abbrev c30_45 : SCode := .seq (.seq (.dreg [92, 93, 94, 95, 96, 97, 98, 99, 1213] [
  ⟨.op (.mv (.slot 0)), none, none⟩, 
  ⟨.op (.mv (.slot 3)), none, none⟩, 
  ⟨.op (.iaddr 19 (.slot 24) (.slot 25)), none, none⟩, 
  ⟨.op (.faddr 6 (.slot 26)), none, none⟩, 
  ⟨.op (.faddr 2 (.slot 27)), none, none⟩, 
  ⟨.op (.load 1 false (.slot 28)), none, none⟩, 
  ⟨.op (.mv (.slot 1)), none, none⟩, 
  ⟨.call 54 [(.slot 30)] false, none, none⟩, 
  ⟨.op (.bin .neq (.slot 29) (.slot 31)), some 13, none⟩]
  [[], [], [0, 1], [0, 1, 2], [0, 1, 2, 3], [0, 1, 2, 3, 4], [], [6], [0, 1, 2, 3, 4, 5, 6, 7]] 8 [] [([], none), ([false], none), ([true, true], none), ([true, true, true], none), ([true, true, true, true], none), ([true, true, true, true, true], none), ([false, false, false, false, false, false], none), ([false, false, false, false, false, false, true], none)] [true, true, true, true, true, true, true, true]) c30_44) c30_42
abbrev c30_46 : SCode := .seq (.reg [90, 91, 1207] [
  ⟨.op (.mv (.slot 1)), none, none⟩, 
  ⟨.op (.bin .add (.slot 24) (.con (.int .i64 1))), none, none⟩, 
  ⟨.op (.asg (.slot 25)), some 1, none⟩]) c30_45
abbrev c30_47 : SCode := .seq (.reg [1205] [
  ⟨.op (.asg (.con (.int .i64 (-1)))), some 2, none⟩]) (.ret)
abbrev c30_48 : SCode := .cond (.slot 12) c30_47 (.skip)
abbrev c30_49 : SCode := .seq (.seq (.reg [82, 83, 84, 85, 86, 87, 88, 1212] [
  ⟨.op (.mv (.slot 0)), none, none⟩, 
  ⟨.op (.mv (.slot 3)), none, none⟩, 
  ⟨.op (.iaddr 19 (.slot 24) (.slot 25)), none, none⟩, 
  ⟨.op (.faddr 6 (.slot 26)), none, none⟩, 
  ⟨.op (.faddr 1 (.slot 27)), none, none⟩, 
  ⟨.op (.load 1 false (.slot 28)), none, none⟩, 
  ⟨.op (.mv (.slot 1)), none, none⟩, 
  ⟨.op (.bin .neq (.slot 29) (.slot 30)), some 12, none⟩]) c30_48) c30_46
abbrev c30_50 : SCode := .seq (.reg [80, 81, 1207] [
  ⟨.op (.mv (.slot 1)), none, none⟩, 
  ⟨.op (.bin .add (.slot 24) (.con (.int .i64 1))), none, none⟩, 
  ⟨.op (.asg (.slot 25)), some 1, none⟩]) c30_49
abbrev c30_51 : SCode := .seq (.reg [1205] [
  ⟨.op (.asg (.con (.int .i64 (-1)))), some 2, none⟩]) (.ret)
abbrev c30_52 : SCode := .cond (.slot 11) c30_51 (.skip)
abbrev c30_53 : SCode := .seq (.seq (.reg [72, 73, 74, 75, 76, 77, 78, 1212] [
  ⟨.op (.mv (.slot 0)), none, none⟩, 
  ⟨.op (.mv (.slot 3)), none, none⟩, 
  ⟨.op (.iaddr 19 (.slot 24) (.slot 25)), none, none⟩, 
  ⟨.op (.faddr 6 (.slot 26)), none, none⟩, 
  ⟨.op (.faddr 0 (.slot 27)), none, none⟩, 
  ⟨.op (.load 1 false (.slot 28)), none, none⟩, 
  ⟨.op (.mv (.slot 1)), none, none⟩, 
  ⟨.op (.bin .neq (.slot 29) (.slot 30)), some 11, none⟩]) c30_52) c30_50
abbrev c30_54 : SCode := .seq (.reg [1205] [
  ⟨.op (.asg (.con (.int .i64 (-1)))), some 2, none⟩]) (.ret)
abbrev c30_55 : SCode := .cond (.slot 10) c30_54 (.skip)
abbrev c30_56 : SCode := .seq (.seq (.reg [70, 1206] [
  ⟨.op (.mv (.slot 1)), none, none⟩, 
  ⟨.op (.bin .lss (.slot 24) (.con (.int .i64 0))), some 10, none⟩]) c30_55) c30_53
abbrev c30_57 : SCode := .seq (.reg [62, 63, 64, 65, 66, 67, 68, 69, 1213] [
  ⟨.op (.mv (.slot 0)), none, none⟩, 
  ⟨.op (.mv (.slot 3)), none, none⟩, 
  ⟨.op (.iaddr 19 (.slot 24) (.slot 25)), none, none⟩, 
  ⟨.op (.faddr 2 (.slot 26)), none, none⟩, 
  ⟨.op (.faddr 3 (.slot 27)), none, none⟩, 
  ⟨.op (.load 1 false (.slot 28)), none, none⟩, 
  ⟨.op (.mv (.slot 1)), none, none⟩, 
  ⟨.call 56 [(.slot 29), (.slot 30)] false, none, none⟩, 
  ⟨.op (.asg (.slot 31)), some 1, none⟩]) c30_56
abbrev c30_58 : SCode := .seq (.reg [60, 61, 1207] [
  ⟨.op (.mv (.slot 1)), none, none⟩, 
  ⟨.op (.bin .add (.slot 24) (.con (.int .i64 1))), none, none⟩, 
  ⟨.op (.asg (.slot 25)), some 1, none⟩]) c30_57
abbrev c30_59 : SCode := .seq (.reg [1205] [
  ⟨.op (.asg (.con (.int .i64 (-1)))), some 2, none⟩]) (.ret)
abbrev c30_60 : SCode := .cond (.slot 9) c30_59 (.skip)
abbrev c30_61 : SCode := .seq (.seq (.dreg [51, 52, 53, 54, 55, 56, 57, 58, 1213] [
  ⟨.op (.mv (.slot 0)), none, none⟩, 
  ⟨.op (.mv (.slot 3)), none, none⟩, 
  ⟨.op (.iaddr 19 (.slot 24) (.slot 25)), none, none⟩, 
  ⟨.op (.faddr 2 (.slot 26)), none, none⟩, 
  ⟨.op (.faddr 2 (.slot 27)), none, none⟩, 
  ⟨.op (.load 1 false (.slot 28)), none, none⟩, 
  ⟨.op (.mv (.slot 1)), none, none⟩, 
  ⟨.call 54 [(.slot 30)] false, none, none⟩, 
  ⟨.op (.bin .neq (.slot 29) (.slot 31)), some 9, none⟩]
  [[], [], [0, 1], [0, 1, 2], [0, 1, 2, 3], [0, 1, 2, 3, 4], [], [6], [0, 1, 2, 3, 4, 5, 6, 7]] 8 [] [([], none), ([false], none), ([true, true], none), ([true, true, true], none), ([true, true, true, true], none), ([true, true, true, true, true], none), ([false, false, false, false, false, false], none), ([false, false, false, false, false, false, true], none)] [true, true, true, true, true, true, true, true]) c30_60) c30_58
abbrev c30_62 : SCode := .seq (.reg [49, 50, 1207] [
  ⟨.op (.mv (.slot 1)), none, none⟩, 
  ⟨.op (.bin .add (.slot 24) (.con (.int .i64 1))), none, none⟩, 
  ⟨.op (.asg (.slot 25)), some 1, none⟩]) c30_61
abbrev c30_63 : SCode := .seq (.reg [1205] [
  ⟨.op (.asg (.con (.int .i64 (-1)))), some 2, none⟩]) (.ret)
abbrev c30_64 : SCode := .cond (.slot 8) c30_63 (.skip)
abbrev c30_65 : SCode := .seq (.seq (.reg [41, 42, 43, 44, 45, 46, 47, 1212] [
  ⟨.op (.mv (.slot 0)), none, none⟩, 
  ⟨.op (.mv (.slot 3)), none, none⟩, 
  ⟨.op (.iaddr 19 (.slot 24) (.slot 25)), none, none⟩, 
  ⟨.op (.faddr 2 (.slot 26)), none, none⟩, 
  ⟨.op (.faddr 1 (.slot 27)), none, none⟩, 
  ⟨.op (.load 1 false (.slot 28)), none, none⟩, 
  ⟨.op (.mv (.slot 1)), none, none⟩, 
  ⟨.op (.bin .neq (.slot 29) (.slot 30)), some 8, none⟩]) c30_64) c30_62
abbrev c30_66 : SCode := .seq (.reg [39, 40, 1207] [
  ⟨.op (.mv (.slot 1)), none, none⟩, 
  ⟨.op (.bin .add (.slot 24) (.con (.int .i64 1))), none, none⟩, 
  ⟨.op (.asg (.slot 25)), some 1, none⟩]) c30_65
abbrev c30_67 : SCode := .seq (.reg [1205] [
  ⟨.op (.asg (.con (.int .i64 (-1)))), some 2, none⟩]) (.ret)
abbrev c30_68 : SCode := .cond (.slot 7) c30_67 (.skip)
abbrev c30_69 : SCode := .seq (.seq (.reg [31, 32, 33, 34, 35, 36, 37, 1212] [
  ⟨.op (.mv (.slot 0)), none, none⟩, 
  ⟨.op (.mv (.slot 3)), none, none⟩, 
  ⟨.op (.iaddr 19 (.slot 24) (.slot 25)), none, none⟩, 
  ⟨.op (.faddr 2 (.slot 26)), none, none⟩, 
  ⟨.op (.faddr 0 (.slot 27)), none, none⟩, 
  ⟨.op (.load 1 false (.slot 28)), none, none⟩, 
  ⟨.op (.mv (.slot 1)), none, none⟩, 
  ⟨.op (.bin .neq (.slot 29) (.slot 30)), some 7, none⟩]) c30_68) c30_66
abbrev c30_70 : SCode := .seq (.reg [29, 30, 1207] [
  ⟨.op (.mv (.slot 1)), none, none⟩, 
  ⟨.op (.bin .add (.slot 24) (.con (.int .i64 1))), none, none⟩, 
  ⟨.op (.asg (.slot 25)), some 1, none⟩]) c30_69
abbrev c30_71 : SCode := .seq (.reg [1205] [
  ⟨.op (.asg (.con (.int .i64 (-1)))), some 2, none⟩]) (.ret)
abbrev c30_72 : SCode := .cond (.slot 6) c30_71 (.skip)
abbrev c30_73 : SCode := .seq (.seq (.dreg [21, 22, 23, 24, 25, 26, 27, 1212] [
  ⟨.op (.mv (.slot 0)), none, none⟩, 
  ⟨.op (.mv (.slot 3)), none, none⟩, 
  ⟨.op (.iaddr 19 (.slot 24) (.slot 25)), none, none⟩, 
  ⟨.op (.faddr 1 (.slot 26)), none, none⟩, 
  ⟨.op (.load 1 false (.slot 27)), none, none⟩, 
  ⟨.op (.mv (.slot 1)), none, none⟩, 
  ⟨.call 54 [(.slot 29)] false, none, none⟩, 
  ⟨.op (.bin .neq (.slot 28) (.slot 30)), some 6, none⟩]
  [[], [], [0, 1], [0, 1, 2], [0, 1, 2, 3], [], [5], [0, 1, 2, 3, 4, 5, 6]] 7 [] [([], none), ([false], none), ([true, true], none), ([true, true, true], none), ([true, true, true, true], none), ([false, false, false, false, false], none), ([false, false, false, false, false, true], none)] [true, true, true, true, true, true, true]) c30_72) c30_70
abbrev c30_74 : SCode := .seq (.reg [19, 20, 1207] [
  ⟨.op (.mv (.slot 1)), none, none⟩, 
  ⟨.op (.bin .add (.slot 24) (.con (.int .i64 1))), none, none⟩, 
  ⟨.op (.asg (.slot 25)), some 1, none⟩]) c30_73
abbrev c30_75 : SCode := .seq (.reg [1205] [
  ⟨.op (.asg (.con (.int .i64 (-1)))), some 2, none⟩]) (.ret)
abbrev c30_76 : SCode := .cond (.slot 5) c30_75 (.skip)
abbrev c30_77 : SCode := .seq (.block 1 (.seq (.seq (.reg [12, 13, 14, 15, 16, 17, 1211] [
  ⟨.op (.mv (.slot 0)), none, none⟩, 
  ⟨.op (.mv (.slot 3)), none, none⟩, 
  ⟨.op (.iaddr 19 (.slot 24) (.slot 25)), none, none⟩, 
  ⟨.op (.faddr 0 (.slot 26)), none, none⟩, 
  ⟨.op (.load 1 false (.slot 27)), none, none⟩, 
  ⟨.op (.mv (.slot 1)), none, none⟩, 
  ⟨.op (.bin .neq (.slot 28) (.slot 29)), some 5, none⟩]) c30_76) c30_74)) c30_1
abbrev c30_78 : SCode := .cond (.slot 4) (.skip) (.exit 0)
abbrev b30_0 : SCode := .seq (.seq (.reg [6, 7, 8, 1208] [
  ⟨.op (.mv (.slot 3)), none, none⟩, 
  ⟨.op (.mv (.slot 0)), none, none⟩, 
  ⟨.op (.len false (.slot 25)), none, none⟩, 
  ⟨.op (.bin .lss (.slot 24) (.slot 26)), some 4, none⟩]) c30_78) c30_77
def l30_0 : SCode := .loop b30_0
abbrev c30_80 : SCode := .block 0 (l30_0)
abbrev c30_81 : SCode := .seq (.seq (.reg [1205] [
  ⟨.op (.asg (.con (.int .i64 0))), some 3, none⟩]) c30_80) c30_0
abbrev s30 : SCode := .seq (.reg [1205] [
  ⟨.op (.asg (.con (.int .i64 0))), some 2, none⟩]) c30_81
theorem ok30 : okFn Go.Proofs.Try.prog Go.Proofs.Try.f30 v30 s30 r30 2 = true := by kernel_rfl

def v31 : List Nat := [0, 1, 2, 4, 11, 17]
def r31 : List SRes := [.tmp 3]
abbrev c31_0 : SCode := .seq (.reg [18, 1020] [
  ⟨.op (.mv (.slot 1)), none, none⟩, 
  ⟨.op (.asg (.slot 6)), some 3, none⟩]) (.ret)
abbrev c31_1 : SCode := .seq (.reg [1019] [
  ⟨.op (.asg (.con (.int .i64 (-1)))), some 3, none⟩]) (.ret)
abbrev c31_2 : SCode := .cond (.slot 5) c31_1 (.skip)
abbrev c31_3 : SCode := .seq (.seq (.reg [16, 1020] [
  ⟨.op (.mv (.slot 1)), none, none⟩, 
  ⟨.op (.bin .lss (.slot 6) (.con (.int .i64 0))), some 5, none⟩]) c31_2) c31_0
abbrev c31_4 : SCode := .seq (.reg [12, 13, 14, 15, 1023] [
  ⟨.op (.faddr 3 (.slot 2)), none, none⟩, 
  ⟨.op (.load 1 false (.slot 6)), none, none⟩, 
  ⟨.op (.mv (.slot 1)), none, none⟩, 
  ⟨.call 57 [(.slot 7), (.slot 8)] false, none, none⟩, 
  ⟨.op (.asg (.slot 9)), some 1, none⟩]) c31_3
abbrev c31_5 : SCode := .seq (.reg [1019] [
  ⟨.op (.asg (.con (.int .i64 (-1)))), some 3, none⟩]) (.ret)
abbrev c31_6 : SCode := .cond (.slot 4) c31_5 (.skip)
abbrev c31_7 : SCode := .seq (.seq (.reg [10, 1020] [
  ⟨.op (.mv (.slot 1)), none, none⟩, 
  ⟨.op (.bin .lss (.slot 6) (.con (.int .i64 0))), some 4, none⟩]) c31_6) c31_4
abbrev c31_8 : SCode := .seq (.reg [5, 6, 7, 8, 9, 1024] [
  ⟨.op (.mv (.slot 1)), none, none⟩, 
  ⟨.op (.faddr 2 (.slot 2)), none, none⟩, 
  ⟨.op (.load 1 false (.slot 7)), none, none⟩, 
  ⟨.op (.len true (.slot 8)), none, none⟩, 
  ⟨.op (.bin .sub (.slot 6) (.slot 9)), none, none⟩, 
  ⟨.op (.asg (.slot 10)), some 1, none⟩]) c31_7
abbrev s31 : SCode := .seq (.reg [1019, 1020] [
  ⟨.op (.box 24 4 (.slot 0)), some 2, none⟩, 
  ⟨.op (.asg (.con (.int .i64 0))), some 3, none⟩]) c31_8
theorem ok31 : okFn Go.Proofs.Try.prog Go.Proofs.Try.f31 v31 s31 r31 2 = true := by kernel_rfl

def v32 : List Nat := [0, 1, 4, 11, 5, 15, 25]
def r32 : List SRes := [.tmp 2]
abbrev c32_0 : SCode := .seq (.reg [26, 1028] [
  ⟨.op (.mv (.slot 1)), none, none⟩, 
  ⟨.op (.asg (.slot 7)), some 2, none⟩]) (.ret)
abbrev c32_1 : SCode := .reg [16, 17, 1029] [
  ⟨.op (.mv (.slot 4)), none, none⟩, 
  ⟨.op (.bin .add (.slot 7) (.con (.int .i64 1))), none, none⟩, 
  ⟨.op (.asg (.slot 8)), some 4, none⟩]
abbrev c32_2 : SCode := .seq (.reg [1027] [
  ⟨.op (.asg (.con (.int .i64 (-1)))), some 2, none⟩]) (.ret)
abbrev c32_3 : SCode := .cond (.slot 6) c32_2 (.skip)
abbrev c32_4 : SCode := .seq (.reg [24, 1028] [
  ⟨.op (.mv (.slot 1)), none, none⟩, 
  ⟨.op (.bin .lss (.slot 7) (.con (.int .i64 0))), some 6, none⟩]) c32_3
abbrev c32_5 : SCode := .seq (.block 1 (.seq (.reg [18, 19, 20, 21, 22, 23, 1033] [
  ⟨.op (.mv (.slot 0)), none, none⟩, 
  ⟨.op (.mv (.slot 4)), none, none⟩, 
  ⟨.op (.iaddr 19 (.slot 7) (.slot 8)), none, none⟩, 
  ⟨.op (.load 19 true (.slot 9)), none, none⟩, 
  ⟨.op (.mv (.slot 1)), none, none⟩, 
  ⟨.call 8 [(.slot 10), (.slot 11)] false, none, none⟩, 
  ⟨.op (.asg (.slot 12)), some 1, none⟩]) c32_4)) c32_1
abbrev c32_6 : SCode := .cond (.slot 5) (.skip) (.exit 0)
abbrev b32_0 : SCode := .seq (.seq (.reg [12, 13, 14, 1030] [
  ⟨.op (.mv (.slot 4)), none, none⟩, 
  ⟨.op (.mv (.slot 0)), none, none⟩, 
  ⟨.op (.len false (.slot 8)), none, none⟩, 
  ⟨.op (.bin .lss (.slot 7) (.slot 9)), some 5, none⟩]) c32_6) c32_5
def l32_0 : SCode := .loop b32_0
abbrev c32_8 : SCode := .block 0 (l32_0)
abbrev c32_9 : SCode := .seq (.seq (.reg [1027] [
  ⟨.op (.asg (.con (.int .i64 0))), some 4, none⟩]) c32_8) c32_0
abbrev c32_10 : SCode := .seq (.reg [1027] [
  ⟨.op (.asg (.con (.int .i64 (-1)))), some 2, none⟩]) (.ret)
abbrev c32_11 : SCode := .cond (.slot 3) c32_10 (.skip)
abbrev c32_12 : SCode := .seq (.seq (.reg [10, 1028] [
  ⟨.op (.mv (.slot 1)), none, none⟩, 
  ⟨.op (.bin .lss (.slot 7) (.con (.int .i64 0))), some 3, none⟩]) c32_11) c32_9
abbrev c32_13 : SCode := .seq (.reg [6, 7, 8, 9, 1031] [
  ⟨.op (.mv (.slot 1)), none, none⟩, 
  ⟨.op (.mv (.slot 0)), none, none⟩, 
  ⟨.op (.len false (.slot 8)), none, none⟩, 
  ⟨.op (.bin .sub (.slot 7) (.slot 9)), none, none⟩, 
  ⟨.op (.asg (.slot 10)), some 1, none⟩]) c32_12
abbrev s32 : SCode := .seq (.reg [1027] [
  ⟨.op (.asg (.con (.int .i64 0))), some 2, none⟩]) c32_13
theorem ok32 : okFn Go.Proofs.Try.prog Go.Proofs.Try.f32 v32 s32 r32 2 = true := by kernel_rfl

def v34 : List Nat := [0, 1, 2, 3]
def r34 : List SRes := [.cell 2 4 true]
abbrev c34_0 : SCode := .seq (.reg [17, 1019] [
  ⟨.op (.load 4 true (.slot 3)), none, none⟩, 
  ⟨.op (.store 4 true (.slot 2) (.slot 4)), none, none⟩]) (.ret)
abbrev c34_1 : SCode := .seq (.reg [13, 14, 15, 16, 1022] [
  ⟨.op (.faddr 3 (.slot 1)), none, none⟩, 
  ⟨.op (.load 1 false (.slot 4)), none, none⟩, 
  ⟨.call 61 [(.slot 5)] false, none, none⟩, 
  ⟨.op (.faddr 3 (.slot 3)), none, none⟩, 
  ⟨.op (.store 1 true (.slot 7) (.slot 6)), none, none⟩]) c34_0
abbrev c34_2 : SCode := .seq (.reg [10, 11, 12, 1021] [
  ⟨.op (.faddr 2 (.slot 1)), none, none⟩, 
  ⟨.op (.load 1 false (.slot 4)), none, none⟩, 
  ⟨.op (.faddr 2 (.slot 3)), none, none⟩, 
  ⟨.op (.store 1 false (.slot 6) (.slot 5)), none, none⟩]) c34_1
abbrev c34_3 : SCode := .seq (.reg [7, 8, 9, 1021] [
  ⟨.op (.faddr 1 (.slot 1)), none, none⟩, 
  ⟨.op (.load 1 false (.slot 4)), none, none⟩, 
  ⟨.op (.faddr 1 (.slot 3)), none, none⟩, 
  ⟨.op (.store 1 false (.slot 6) (.slot 5)), none, none⟩]) c34_2
abbrev c34_4 : SCode := .seq (.reg [4, 5, 6, 1021] [
  ⟨.op (.faddr 0 (.slot 1)), none, none⟩, 
  ⟨.op (.load 1 false (.slot 4)), none, none⟩, 
  ⟨.op (.faddr 0 (.slot 3)), none, none⟩, 
  ⟨.op (.store 1 false (.slot 6) (.slot 5)), none, none⟩]) c34_3
abbrev c34_5 : SCode := .seq (.reg [1018] [
  ⟨.op (.mk 31 [(.int .i64 0), (.int .i64 0), (.str []), (.osl 0 31 0 [])]), some 3, none⟩]) c34_4
abbrev s34 : SCode := .seq (.reg [1018, 1019] [
  ⟨.op (.box 24 4 (.slot 0)), some 1, none⟩, 
  ⟨.op (.mk 31 [(.int .i64 0), (.int .i64 0), (.str []), (.osl 0 31 0 [])]), some 2, none⟩]) c34_5
theorem ok34 : okFn Go.Proofs.Try.prog Go.Proofs.Try.f34 v34 s34 r34 1 = true := by kernel_rfl

def v35 : List Nat := [0, 2, 3, 4, 11]
def r35 : List SRes := [.tmp 1]
abbrev c35_0 : SCode := .seq (.reg [22, 1024] [
  ⟨.op (.mv (.slot 2)), none, none⟩, 
  ⟨.op (.asg (.slot 5)), some 1, none⟩]) (.ret)
abbrev c35_1 : SCode := .reg [12, 13, 1025] [
  ⟨.op (.mv (.slot 3)), none, none⟩, 
  ⟨.op (.bin .add (.slot 5) (.con (.int .i64 1))), none, none⟩, 
  ⟨.op (.asg (.slot 6)), some 3, none⟩]
abbrev c35_2 : SCode := .seq (.block 1 (.reg [14, 15, 16, 17, 18, 19, 20, 21, 1031] [
  ⟨.op (.mv (.slot 2)), none, none⟩, 
  ⟨.op (.mv (.slot 3)), none, none⟩, 
  ⟨.op (.mv (.slot 0)), none, none⟩, 
  ⟨.op (.mv (.slot 3)), none, none⟩, 
  ⟨.op (.iaddr 19 (.slot 7) (.slot 8)), none, none⟩, 
  ⟨.op (.load 19 true (.slot 9)), none, none⟩, 
  ⟨.call 10 [(.slot 10)] false, none, none⟩, 
  ⟨.op (.iaddr 19 (.slot 5) (.slot 6)), none, none⟩, 
  ⟨.op (.store 19 true (.slot 12) (.slot 11)), none, none⟩])) c35_1
abbrev c35_3 : SCode := .cond (.slot 4) (.skip) (.exit 0)
abbrev b35_0 : SCode := .seq (.seq (.reg [8, 9, 10, 1026] [
  ⟨.op (.mv (.slot 3)), none, none⟩, 
  ⟨.op (.mv (.slot 0)), none, none⟩, 
  ⟨.op (.len false (.slot 6)), none, none⟩, 
  ⟨.op (.bin .lss (.slot 5) (.slot 7)), some 4, none⟩]) c35_3) c35_2
def l35_0 : SCode := .loop b35_0
abbrev c35_5 : SCode := .block 0 (l35_0)
abbrev c35_6 : SCode := .seq (.seq (.reg [1023] [
  ⟨.op (.asg (.con (.int .i64 0))), some 3, none⟩]) c35_5) c35_0
abbrev c35_7 : SCode := .seq (.reg [5, 6, 7, 1026] [
  ⟨.op (.mv (.slot 0)), none, none⟩, 
  ⟨.op (.len false (.slot 5)), none, none⟩, 
  ⟨.op (.mksl 34 [(.int .i64 0), (.str []), (.int .i64 0), (.int .i64 0), (.str []), (.osl 0 31 0 []), (.int .i64 0), (.int .i64 0), (.str []), (.osl 0 31 0 []), (.int .i64 0), (.int .i64 0), (.str []), (.osl 0 31 0 []), (.int .i64 0), (.int .i64 0), (.str []), (.osl 0 31 0 []), (.osl 0 34 0 [])] (.slot 6) (.slot 6)), none, none⟩, 
  ⟨.op (.asg (.slot 7)), some 2, none⟩]) c35_6
abbrev s35 : SCode := .seq (.reg [1023] [
  ⟨.op (.asg (.con (.osl 0 34 0 []))), some 1, none⟩]) c35_7
theorem ok35 : okFn Go.Proofs.Try.prog Go.Proofs.Try.f35 v35 s35 r35 1 = true := by kernel_rfl

def v38 : List Nat := [0, 1, 2, 3, 4, 9, 14, 19, 25]
def r38 : List SRes := [.tmp 4]
abbrev c38_0 : SCode := .seq (.reg [1026] [
  ⟨.op (.asg (.con (.bool true))), some 4, none⟩]) (.ret)
abbrev c38_1 : SCode := .seq (.reg [1026] [
  ⟨.op (.asg (.con (.bool false))), some 4, none⟩]) (.ret)
abbrev c38_2 : SCode := .cond (.slot 8) c38_1 (.skip)
abbrev c38_3 : SCode := .seq (.seq (.reg [20, 21, 22, 23, 24, 1031] [
  ⟨.op (.faddr 3 (.slot 2)), none, none⟩, 
  ⟨.op (.load 1 false (.slot 9)), none, none⟩, 
  ⟨.op (.faddr 3 (.slot 3)), none, none⟩, 
  ⟨.op (.load 1 false (.slot 11)), none, none⟩, 
  ⟨.call 64 [(.slot 10), (.slot 12)] false, none, none⟩, 
  ⟨.op (.not (.slot 13)), some 8, none⟩]) c38_2) c38_0
abbrev c38_4 : SCode := .seq (.reg [1026] [
  ⟨.op (.asg (.con (.bool false))), some 4, none⟩]) (.ret)
abbrev c38_5 : SCode := .cond (.slot 7) c38_4 (.skip)
abbrev c38_6 : SCode := .seq (.seq (.reg [15, 16, 17, 18, 1030] [
  ⟨.op (.faddr 2 (.slot 2)), none, none⟩, 
  ⟨.op (.load 1 false (.slot 9)), none, none⟩, 
  ⟨.op (.faddr 2 (.slot 3)), none, none⟩, 
  ⟨.op (.load 1 false (.slot 11)), none, none⟩, 
  ⟨.op (.bin .neq (.slot 10) (.slot 12)), some 7, none⟩]) c38_5) c38_3
abbrev c38_7 : SCode := .seq (.reg [1026] [
  ⟨.op (.asg (.con (.bool false))), some 4, none⟩]) (.ret)
abbrev c38_8 : SCode := .cond (.slot 6) c38_7 (.skip)
abbrev c38_9 : SCode := .seq (.seq (.reg [10, 11, 12, 13, 1030] [
  ⟨.op (.faddr 1 (.slot 2)), none, none⟩, 
  ⟨.op (.load 1 false (.slot 9)), none, none⟩, 
  ⟨.op (.faddr 1 (.slot 3)), none, none⟩, 
  ⟨.op (.load 1 false (.slot 11)), none, none⟩, 
  ⟨.op (.bin .neq (.slot 10) (.slot 12)), some 6, none⟩]) c38_8) c38_6
abbrev c38_10 : SCode := .seq (.reg [1026] [
  ⟨.op (.asg (.con (.bool false))), some 4, none⟩]) (.ret)
abbrev c38_11 : SCode := .cond (.slot 5) c38_10 (.skip)
abbrev c38_12 : SCode := .seq (.seq (.reg [5, 6, 7, 8, 1030] [
  ⟨.op (.faddr 0 (.slot 2)), none, none⟩, 
  ⟨.op (.load 1 false (.slot 9)), none, none⟩, 
  ⟨.op (.faddr 0 (.slot 3)), none, none⟩, 
  ⟨.op (.load 1 false (.slot 11)), none, none⟩, 
  ⟨.op (.bin .neq (.slot 10) (.slot 12)), some 5, none⟩]) c38_11) c38_9
abbrev s38 : SCode := .seq (.reg [1026, 1027, 1028] [
  ⟨.op (.box 31 4 (.slot 0)), some 2, none⟩, 
  ⟨.op (.box 31 4 (.slot 1)), some 3, none⟩, 
  ⟨.op (.asg (.con (.bool false))), some 4, none⟩]) c38_12
theorem ok38 : okFn Go.Proofs.Try.prog Go.Proofs.Try.f38 v38 s38 r38 2 = true := by kernel_rfl

def v39 : List Nat := [0, 1, 2, 4]
def r39 : List SRes := [.tmp 3]
abbrev c39_0 : SCode := .seq (.reg [9, 1011] [
  ⟨.op (.mv (.slot 1)), none, none⟩, 
  ⟨.op (.asg (.slot 4)), some 3, none⟩]) (.ret)
abbrev c39_1 : SCode := .seq (.reg [5, 6, 7, 8, 1014] [
  ⟨.op (.faddr 3 (.slot 2)), none, none⟩, 
  ⟨.op (.load 1 false (.slot 4)), none, none⟩, 
  ⟨.op (.mv (.slot 1)), none, none⟩, 
  ⟨.callm (.con (.fn 55 [])) [((.slot 5), true), ((.slot 6), false)], none, none⟩, 
  ⟨.op (.asg (.slot 7)), some 1, none⟩]) c39_0
abbrev s39 : SCode := .seq (.reg [1010, 1011] [
  ⟨.op (.box 31 4 (.slot 0)), some 2, none⟩, 
  ⟨.op (.asg (.con (.int .i64 0))), some 3, none⟩]) c39_1
theorem ok39 : okFn Go.Proofs.Try.prog Go.Proofs.Try.f39 v39 s39 r39 2 = true := by kernel_rfl

def v47 : List Nat := [0, 1, 2, 3, 4, 5, 18]
def r47 : List SRes := [.tmp 2, .tmp 3]
abbrev c47_0 : SCode := .seq (.reg [20, 1022, 1023] [
  ⟨.op (.mv (.slot 4)), none, none⟩, 
  ⟨.op (.asg (.slot 7)), some 2, none⟩, 
  ⟨.op (.asg (.con (.bool true))), some 3, none⟩]) (.ret)
abbrev c47_1 : SCode := .seq (.reg [19, 1022, 1023] [
  ⟨.op (.bsl 75 0 [(.str []), (.int .i64 0), (.int .i64 0)] []), none, none⟩, 
  ⟨.op (.asg (.slot 7)), some 2, none⟩, 
  ⟨.op (.asg (.con (.bool false))), some 3, none⟩]) (.ret)
abbrev c47_2 : SCode := .cond (.slot 6) c47_1 (.skip)
abbrev c47_3 : SCode := .seq (.seq (.reg [12, 13, 14, 15, 16, 17, 1027] [
  ⟨.op (.mv (.slot 5)), none, none⟩, 
  ⟨.op (.not (.slot 7)), none, none⟩, 
  ⟨.op (.mv (.slot 8)), none, none⟩, 
  ⟨.op (.mv (.slot 4)), none, some (9, false)⟩, 
  ⟨.call 71 [(.slot 10)] false, none, some (9, false)⟩, 
  ⟨.op (.not (.slot 11)), none, some (9, false)⟩, 
  ⟨.op (.pick (.slot 9) (.con (.bool true)) (.slot 12)), some 6, none⟩]) c47_2) c47_0
abbrev c47_4 : SCode := .seq (.reg [7, 8, 9, 6, 10, 11, 1027, 1028] [
  ⟨.op (.bsl 75 0 [(.str []), (.int .i64 0), (.int .i64 0)] []), none, none⟩, 
  ⟨.op (.load 19 true (.slot 1)), none, none⟩, 
  ⟨.call 70 [(.slot 7), (.slot 8)] false, none, none⟩, 
  ⟨.op (.mvt 9), none, none⟩, 
  ⟨.op (.ext 10 0), none, none⟩, 
  ⟨.op (.ext 10 1), none, none⟩, 
  ⟨.op (.asg (.slot 11)), some 4, none⟩, 
  ⟨.op (.asg (.slot 12)), some 5, none⟩]) c47_3
abbrev s47 : SCode := .seq (.reg [1021, 1022, 1023] [
  ⟨.op (.box 34 19 (.slot 0)), some 1, none⟩, 
  ⟨.op (.asg (.con (.osl 0 75 0 []))), some 2, none⟩, 
  ⟨.op (.asg (.con (.bool false))), some 3, none⟩]) c47_4
theorem ok47 : okFn Go.Proofs.Try.prog Go.Proofs.Try.f47 v47 s47 r47 1 = true := by kernel_rfl

def v48 : List Nat := [0, 1, 2, 3, 8, 4, 5, 21]
def r48 : List SRes := [.tmp 2, .tmp 3]
abbrev c48_0 : SCode := .seq (.reg [22, 1024, 1025] [
  ⟨.op (.mv (.slot 5)), none, none⟩, 
  ⟨.op (.asg (.slot 8)), some 2, none⟩, 
  ⟨.op (.asg (.con (.bool true))), some 3, none⟩]) (.ret)
abbrev c48_1 : SCode := .seq (.reg [1023, 1024] [
  ⟨.op (.asg (.con (.osl 0 75 0 []))), some 2, none⟩, 
  ⟨.op (.asg (.con (.bool false))), some 3, none⟩]) (.ret)
abbrev c48_2 : SCode := .cond (.slot 7) c48_1 (.skip)
abbrev c48_3 : SCode := .seq (.seq (.reg [15, 16, 17, 18, 19, 20, 1029] [
  ⟨.op (.mv (.slot 6)), none, none⟩, 
  ⟨.op (.not (.slot 8)), none, none⟩, 
  ⟨.op (.mv (.slot 9)), none, none⟩, 
  ⟨.op (.mv (.slot 5)), none, some (10, false)⟩, 
  ⟨.call 73 [(.slot 11)] false, none, some (10, false)⟩, 
  ⟨.op (.not (.slot 12)), none, some (10, false)⟩, 
  ⟨.op (.pick (.slot 10) (.con (.bool true)) (.slot 13)), some 7, none⟩]) c48_2) c48_0
abbrev c48_4 : SCode := .seq (.reg [10, 11, 12, 9, 13, 14, 1029, 1030] [
  ⟨.op (.load 19 true (.slot 1)), none, none⟩, 
  ⟨.op (.bsl 34 1 [(.int .i64 0), (.str []), (.int .i64 0), (.int .i64 0), (.str []), (.osl 0 31 0 []), (.int .i64 0), (.int .i64 0), (.str []), (.osl 0 31 0 []), (.int .i64 0), (.int .i64 0), (.str []), (.osl 0 31 0 []), (.int .i64 0), (.int .i64 0), (.str []), (.osl 0 31 0 []), (.osl 0 34 0 [])] [(0, 19, (.slot 8))]), none, none⟩, 
  ⟨.call 72 [(.slot 9)] false, none, none⟩, 
  ⟨.op (.mvt 10), none, none⟩, 
  ⟨.op (.ext 11 0), none, none⟩, 
  ⟨.op (.ext 11 1), none, none⟩, 
  ⟨.op (.asg (.slot 12)), some 5, none⟩, 
  ⟨.op (.asg (.slot 13)), some 6, none⟩]) c48_3
abbrev c48_5 : SCode := .seq (.reg [1023, 1024] [
  ⟨.op (.asg (.con (.osl 0 75 0 []))), some 2, none⟩, 
  ⟨.op (.asg (.con (.bool false))), some 3, none⟩]) (.ret)
abbrev c48_6 : SCode := .cond (.slot 4) c48_5 (.skip)
abbrev c48_7 : SCode := .seq (.seq (.reg [6, 7, 1025] [
  ⟨.op (.faddr 0 (.slot 1)), none, none⟩, 
  ⟨.op (.load 1 false (.slot 8)), none, none⟩, 
  ⟨.op (.bin .neq (.slot 9) (.con (.int .i64 3))), some 4, none⟩]) c48_6) c48_4
abbrev s48 : SCode := .seq (.reg [1023, 1024, 1025] [
  ⟨.op (.box 34 19 (.slot 0)), some 1, none⟩, 
  ⟨.op (.asg (.con (.osl 0 75 0 []))), some 2, none⟩, 
  ⟨.op (.asg (.con (.bool false))), some 3, none⟩]) c48_7
theorem ok48 : okFn Go.Proofs.Try.prog Go.Proofs.Try.f48 v48 s48 r48 1 = true := by kernel_rfl

def v49 : List Nat := [0, 1, 2, 6]
def r49 : List SRes := [.tmp 3]
abbrev c49_0 : SCode := .seq (.reg [7, 8, 9, 10, 11, 12, 13, 14, 1023] [
  ⟨.op (.mv (.slot 0)), none, none⟩, 
  ⟨.op (.mv (.slot 1)), none, none⟩, 
  ⟨.op (.bin .geq (.slot 4) (.slot 5)), none, none⟩, 
  ⟨.op (.mv (.slot 6)), none, none⟩, 
  ⟨.op (.mv (.slot 0)), none, some (7, true)⟩, 
  ⟨.op (.mv (.slot 2)), none, some (7, true)⟩, 
  ⟨.op (.bin .leq (.slot 8) (.slot 9)), none, some (7, true)⟩, 
  ⟨.op (.pick (.slot 7) (.slot 10) (.con (.bool false))), none, none⟩, 
  ⟨.op (.asg (.slot 11)), some 3, none⟩]) (.ret)
abbrev s49 : SCode := .seq (.reg [1015] [
  ⟨.op (.asg (.con (.bool false))), some 3, none⟩]) c49_0
theorem ok49 : okFn Go.Proofs.Try.prog Go.Proofs.Try.f49 v49 s49 r49 3 = true := by kernel_rfl

def v50 : List Nat := [0, 2, 3, 4, 10, 5]
def r50 : List SRes := [.tmp 1]
abbrev c50_0 : SCode := .seq (.reg [40, 1042] [
  ⟨.op (.mv (.slot 2)), none, none⟩, 
  ⟨.op (.asg (.slot 6)), some 1, none⟩]) (.ret)
abbrev c50_1 : SCode := .reg [11, 12, 1043] [
  ⟨.op (.mv (.slot 3)), none, none⟩, 
  ⟨.op (.bin .add (.slot 6) (.con (.int .i64 1))), none, none⟩, 
  ⟨.op (.asg (.slot 7)), some 3, none⟩]
abbrev c50_2 : SCode := .dreg [17, 18, 19, 20, 21, 22, 23, 24, 25, 26, 27, 28, 29, 30, 31, 32, 33, 34, 35, 36, 37, 38, 39, 1064] [
  ⟨.op (.mv (.slot 2)), none, none⟩, 
  ⟨.op (.faddr 0 (.slot 5)), none, none⟩, 
  ⟨.op (.load 1 false (.slot 7)), none, none⟩, 
  ⟨.op (.faddr 1 (.slot 5)), none, none⟩, 
  ⟨.op (.load 1 false (.slot 9)), none, none⟩, 
  ⟨.op (.faddr 2 (.slot 5)), none, none⟩, 
  ⟨.op (.load 4 true (.slot 11)), none, none⟩, 
  ⟨.call 74 [(.slot 12)] false, none, none⟩, 
  ⟨.op (.faddr 6 (.slot 5)), none, none⟩, 
  ⟨.op (.load 4 true (.slot 14)), none, none⟩, 
  ⟨.call 74 [(.slot 15)] false, none, none⟩, 
  ⟨.op (.faddr 10 (.slot 5)), none, none⟩, 
  ⟨.op (.load 4 true (.slot 17)), none, none⟩, 
  ⟨.call 74 [(.slot 18)] false, none, none⟩, 
  ⟨.op (.faddr 14 (.slot 5)), none, none⟩, 
  ⟨.op (.load 4 true (.slot 20)), none, none⟩, 
  ⟨.call 74 [(.slot 21)] false, none, none⟩, 
  ⟨.op (.faddr 18 (.slot 5)), none, none⟩, 
  ⟨.op (.load 1 false (.slot 23)), none, none⟩, 
  ⟨.call 50 [(.slot 24)] false, none, none⟩, 
  ⟨.op (.build [(.int .i64 0), (.str []), (.int .i64 0), (.int .i64 0), (.str []), (.osl 0 31 0 []), (.int .i64 0), (.int .i64 0), (.str []), (.osl 0 31 0 []), (.int .i64 0), (.int .i64 0), (.str []), (.osl 0 31 0 []), (.int .i64 0), (.int .i64 0), (.str []), (.osl 0 31 0 []), (.osl 0 34 0 [])] [(0, 1, (.slot 8)), (1, 1, (.slot 10)), (2, 4, (.slot 13)), (6, 4, (.slot 16)), (10, 4, (.slot 19)), (14, 4, (.slot 22)), (18, 1, (.slot 25))]), none, none⟩, 
  ⟨.op (.bsl 34 1 [(.int .i64 0), (.str []), (.int .i64 0), (.int .i64 0), (.str []), (.osl 0 31 0 []), (.int .i64 0), (.int .i64 0), (.str []), (.osl 0 31 0 []), (.int .i64 0), (.int .i64 0), (.str []), (.osl 0 31 0 []), (.int .i64 0), (.int .i64 0), (.str []), (.osl 0 31 0 []), (.osl 0 34 0 [])] [(0, 19, (.slot 26))]), none, none⟩, 
  ⟨.op (.append 34 19 (.slot 6) (.slot 27)), none, none⟩, 
  ⟨.op (.asg (.slot 28)), some 2, none⟩]
  [[], [], [1], [], [3], [], [5], [5, 6], [], [8], [5, 6, 7, 8, 9], [], [11], [5, 6, 7, 8, 9, 10, 11, 12], [], [14], [5, 6, 7, 8, 9, 10, 11, 12, 13, 14, 15], [], [17], [5, 6, 7, 8, 9, 10, 11, 12, 13, 14, 15, 16, 17, 18], [1, 2, 3, 4, 5, 6, 7, 8, 9, 10, 11, 12, 13, 14, 15, 16, 17, 18, 19], [1, 2, 3, 4, 5, 6, 7, 8, 9, 10, 11, 12, 13, 14, 15, 16, 17, 18, 19, 20], [0, 1, 2, 3, 4, 5, 6, 7, 8, 9, 10, 11, 12, 13, 14, 15, 16, 17, 18, 19, 20, 21], [0, 1, 2, 3, 4, 5, 6, 7, 8, 9, 10, 11, 12, 13, 14, 15, 16, 17, 18, 19, 20, 21, 22]] 22 [(21, 20), (21, 7), (21, 10), (21, 13), (21, 16), (21, 19)] [([], none), ([false], none), ([false, true], none), ([false, false, false], none), ([false, false, false, true], none), ([false, false, false, false, false], none), ([false, false, false, false, false, true], none), ([false, false, false, false, false, true, true], none), ([false, false, false, false, false, false, false, false], none), ([false, false, false, false, false, false, false, false, true], none), ([false, false, false, false, false, true, true, true, true, true], none), ([false, false, false, false, false, false, false, false, false, false, false], none), ([false, false, false, false, false, false, false, false, false, false, false, true], none), ([false, false, false, false, false, true, true, true, true, true, true, true, true], none), ([false, false, false, false, false, false, false, false, false, false, false, false, false, false], none), ([false, false, false, false, false, false, false, false, false, false, false, false, false, false, true], none), ([false, false, false, false, false, true, true, true, true, true, true, true, true, true, true, true], none), ([false, false, false, false, false, false, false, false, false, false, false, false, false, false, false, false, false], none), ([false, false, false, false, false, false, false, false, false, false, false, false, false, false, false, false, false, true], none), ([false, false, false, false, false, true, true, true, true, true, true, true, true, true, true, true, true, true, true], none), ([false, true, true, true, true, true, true, true, true, true, true, true, true, true, true, true, true, true, true, true], none), ([false, true, true, true, true, true, true, true, true, true, true, true, true, true, true, true, true, true, true, true, true], (some [20, 7, 10, 13, 16, 19]))] [true, true, true, true, true, true, true, false, true, true, false, true, true, false, true, true, false, true, true, false, false, true]
abbrev c50_3 : SCode := .seq (.block 1 (.seq (.reg [13, 14, 15, 16, 1045, 1046] [
  ⟨.op (.mv (.slot 0)), none, none⟩, 
  ⟨.op (.mv (.slot 3)), none, none⟩, 
  ⟨.op (.iaddr 19 (.slot 6) (.slot 7)), none, none⟩, 
  ⟨.op (.load 19 true (.slot 8)), none, none⟩, 
  ⟨.op (.mk 34 [(.int .i64 0), (.str []), (.int .i64 0), (.int .i64 0), (.str []), (.osl 0 31 0 []), (.int .i64 0), (.int .i64 0), (.str []), (.osl 0 31 0 []), (.int .i64 0), (.int .i64 0), (.str []), (.osl 0 31 0 []), (.int .i64 0), (.int .i64 0), (.str []), (.osl 0 31 0 []), (.osl 0 34 0 [])]), some 5, none⟩, 
  ⟨.op (.store 19 true (.slot 5) (.slot 9)), none, none⟩]) c50_2)) c50_1
abbrev c50_4 : SCode := .cond (.slot 4) (.skip) (.exit 0)
abbrev b50_0 : SCode := .seq (.seq (.reg [7, 8, 9, 1044] [
  ⟨.op (.mv (.slot 3)), none, none⟩, 
  ⟨.op (.mv (.slot 0)), none, none⟩, 
  ⟨.op (.len false (.slot 7)), none, none⟩, 
  ⟨.op (.bin .lss (.slot 6) (.slot 8)), some 4, none⟩]) c50_4) c50_3
def l50_0 : SCode := .loop b50_0
abbrev c50_6 : SCode := .block 0 (l50_0)
abbrev c50_7 : SCode := .seq (.seq (.reg [1041] [
  ⟨.op (.asg (.con (.int .i64 0))), some 3, none⟩]) c50_6) c50_0
abbrev c50_8 : SCode := .seq (.reg [6, 1042] [
  ⟨.op (.bsl 34 0 [(.int .i64 0), (.str []), (.int .i64 0), (.int .i64 0), (.str []), (.osl 0 31 0 []), (.int .i64 0), (.int .i64 0), (.str []), (.osl 0 31 0 []), (.int .i64 0), (.int .i64 0), (.str []), (.osl 0 31 0 []), (.int .i64 0), (.int .i64 0), (.str []), (.osl 0 31 0 []), (.osl 0 34 0 [])] []), none, none⟩, 
  ⟨.op (.asg (.slot 6)), some 2, none⟩]) c50_7
abbrev s50 : SCode := .seq (.reg [1041] [
  ⟨.op (.asg (.con (.osl 0 34 0 []))), some 1, none⟩]) c50_8
theorem ok50 : okFn Go.Proofs.Try.prog Go.Proofs.Try.f50 v50 s50 r50 1 = true := by kernel_rfl

def v51 : List Nat := [0, 2, 4]
def r51 : List SRes := [.cell 1 4 true]
abbrev c51_0 : SCode := .seq (.reg [10, 11, 1014] [
  ⟨.op (.mv (.slot 0)), none, none⟩, 
  ⟨.call 60 [(.slot 3)] false, none, none⟩, 
  ⟨.op (.store 4 true (.slot 1) (.slot 4)), none, none⟩]) (.ret)
abbrev c51_1 : SCode := .seq (.reg [5, 6, 7, 8, 9, 1017] [
  ⟨.call 60 [(.con (.int .i64 0))] false, none, none⟩, 
  ⟨.op (.mv (.slot 0)), none, none⟩, 
  ⟨.op (.neg (.slot 4)), none, none⟩, 
  ⟨.call 60 [(.slot 5)] false, none, none⟩, 
  ⟨.call 75 [(.con (.int .i64 5)), (.slot 3), (.slot 6)] false, none, none⟩, 
  ⟨.op (.store 4 true (.slot 1) (.slot 7)), none, none⟩]) (.ret)
abbrev c51_2 : SCode := .cond (.slot 2) c51_1 (.skip)
abbrev c51_3 : SCode := .seq (.seq (.reg [3, 1013] [
  ⟨.op (.mv (.slot 0)), none, none⟩, 
  ⟨.op (.bin .lss (.slot 3) (.con (.int .i64 0))), some 2, none⟩]) c51_2) c51_0
abbrev s51 : SCode := .seq (.reg [1012] [
  ⟨.op (.mk 31 [(.int .i64 0), (.int .i64 0), (.str []), (.osl 0 31 0 [])]), some 1, none⟩]) c51_3
theorem ok51 : okFn Go.Proofs.Try.prog Go.Proofs.Try.f51 v51 s51 r51 1 = true := by kernel_rfl

def v52 : List Nat := [0, 1, 2]
def r52 : List SRes := [.cell 2 19 true]
abbrev c52_0 : SCode := .seq (.dreg [3, 4, 5, 6, 7, 8, 9, 10, 11, 12, 13, 14, 15, 16, 17, 18, 19, 20, 21, 22, 1043] [
  ⟨.op (.faddr 0 (.slot 1)), none, none⟩, 
  ⟨.op (.load 1 false (.slot 3)), none, none⟩, 
  ⟨.op (.faddr 1 (.slot 1)), none, none⟩, 
  ⟨.op (.load 1 false (.slot 5)), none, none⟩, 
  ⟨.op (.faddr 2 (.slot 1)), none, none⟩, 
  ⟨.op (.load 4 true (.slot 7)), none, none⟩, 
  ⟨.call 76 [(.slot 8)] false, none, none⟩, 
  ⟨.op (.faddr 6 (.slot 1)), none, none⟩, 
  ⟨.op (.load 4 true (.slot 10)), none, none⟩, 
  ⟨.call 76 [(.slot 11)] false, none, none⟩, 
  ⟨.op (.faddr 10 (.slot 1)), none, none⟩, 
  ⟨.op (.load 4 true (.slot 13)), none, none⟩, 
  ⟨.call 76 [(.slot 14)] false, none, none⟩, 
  ⟨.op (.faddr 14 (.slot 1)), none, none⟩, 
  ⟨.op (.load 4 true (.slot 16)), none, none⟩, 
  ⟨.call 76 [(.slot 17)] false, none, none⟩, 
  ⟨.op (.faddr 18 (.slot 1)), none, none⟩, 
  ⟨.op (.load 1 false (.slot 19)), none, none⟩, 
  ⟨.call 68 [(.slot 20)] false, none, none⟩, 
  ⟨.op (.build [(.int .i64 0), (.str []), (.int .i64 0), (.int .i64 0), (.str []), (.osl 0 31 0 []), (.int .i64 0), (.int .i64 0), (.str []), (.osl 0 31 0 []), (.int .i64 0), (.int .i64 0), (.str []), (.osl 0 31 0 []), (.int .i64 0), (.int .i64 0), (.str []), (.osl 0 31 0 []), (.osl 0 34 0 [])] [(0, 1, (.slot 4)), (1, 1, (.slot 6)), (2, 4, (.slot 9)), (6, 4, (.slot 12)), (10, 4, (.slot 15)), (14, 4, (.slot 18)), (18, 1, (.slot 21))]), none, none⟩, 
  ⟨.op (.store 19 true (.slot 2) (.slot 22)), none, none⟩]
  [[], [0], [], [2], [], [4], [4, 5], [], [7], [4, 5, 6, 7, 8], [], [10], [4, 5, 6, 7, 8, 9, 10, 11], [], [13], [4, 5, 6, 7, 8, 9, 10, 11, 12, 13, 14], [], [16], [4, 5, 6, 7, 8, 9, 10, 11, 12, 13, 14, 15, 16, 17], [0, 1, 2, 3, 4, 5, 6, 7, 8, 9, 10, 11, 12, 13, 14, 15, 16, 17, 18], [0, 1, 2, 3, 4, 5, 6, 7, 8, 9, 10, 11, 12, 13, 14, 15, 16, 17, 18, 19]] 20 [] [([], none), ([true], none), ([false, false], none), ([false, false, true], none), ([false, false, false, false], none), ([false, false, false, false, true], none), ([false, false, false, false, true, true], none), ([false, false, false, false, false, false, false], none), ([false, false, false, false, false, false, false, true], none), ([false, false, false, false, true, true, true, true, true], none), ([false, false, false, false, false, false, false, false, false, false], none), ([false, false, false, false, false, false, false, false, false, false, true], none), ([false, false, false, false, true, true, true, true, true, true, true, true], none), ([false, false, false, false, false, false, false, false, false, false, false, false, false], none), ([false, false, false, false, false, false, false, false, false, false, false, false, false, true], none), ([false, false, false, false, true, true, true, true, true, true, true, true, true, true, true], none), ([false, false, false, false, false, false, false, false, false, false, false, false, false, false, false, false], none), ([false, false, false, false, false, false, false, false, false, false, false, false, false, false, false, false, true], none), ([false, false, false, false, true, true, true, true, true, true, true, true, true, true, true, true, true, true], none), ([true, true, true, true, true, true, true, true, true, true, true, true, true, true, true, true, true, true, true], none)] [true, true, true, true, true, true, true, true, true, true, true, true, true, true, true, true, true, true, true, true]) (.ret)
abbrev s52 : SCode := .seq (.reg [1023, 1024] [
  ⟨.op (.box 34 19 (.slot 0)), some 1, none⟩, 
  ⟨.op (.mk 34 [(.int .i64 0), (.str []), (.int .i64 0), (.int .i64 0), (.str []), (.osl 0 31 0 []), (.int .i64 0), (.int .i64 0), (.str []), (.osl 0 31 0 []), (.int .i64 0), (.int .i64 0), (.str []), (.osl 0 31 0 []), (.int .i64 0), (.int .i64 0), (.str []), (.osl 0 31 0 []), (.osl 0 34 0 [])]), some 2, none⟩]) c52_0
theorem ok52 : okFn Go.Proofs.Try.prog Go.Proofs.Try.f52 v52 s52 r52 1 = true := by kernel_rfl

def v53 : List Nat := [0, 2, 4]
def r53 : List SRes := [.cell 1 4 true]
abbrev c53_0 : SCode := .seq (.reg [11, 12, 1015] [
  ⟨.op (.mv (.slot 0)), none, none⟩, 
  ⟨.op (.build [(.int .i64 0), (.int .i64 0), (.str []), (.osl 0 31 0 [])] [(0, 1, (.con (.int .i64 1))), (1, 1, (.slot 3))]), none, none⟩, 
  ⟨.op (.store 4 true (.slot 1) (.slot 4)), none, none⟩]) (.ret)
abbrev c53_1 : SCode := .seq (.reg [5, 6, 7, 8, 9, 10, 1019] [
  ⟨.op (.build [(.int .i64 0), (.int .i64 0), (.str []), (.osl 0 31 0 [])] [(0, 1, (.con (.int .i64 1)))]), none, none⟩, 
  ⟨.op (.mv (.slot 0)), none, none⟩, 
  ⟨.op (.neg (.slot 4)), none, none⟩, 
  ⟨.op (.build [(.int .i64 0), (.int .i64 0), (.str []), (.osl 0 31 0 [])] [(0, 1, (.con (.int .i64 1))), (1, 1, (.slot 5))]), none, none⟩, 
  ⟨.op (.bsl 31 2 [(.int .i64 0), (.int .i64 0), (.str []), (.osl 0 31 0 [])] [(0, 4, (.slot 3)), (4, 4, (.slot 6))]), none, none⟩, 
  ⟨.op (.build [(.int .i64 0), (.int .i64 0), (.str []), (.osl 0 31 0 [])] [(0, 1, (.con (.int .i64 5))), (3, 1, (.slot 7))]), none, none⟩, 
  ⟨.op (.store 4 true (.slot 1) (.slot 8)), none, none⟩]) (.ret)
abbrev c53_2 : SCode := .cond (.slot 2) c53_1 (.skip)
abbrev c53_3 : SCode := .seq (.seq (.reg [3, 1014] [
  ⟨.op (.mv (.slot 0)), none, none⟩, 
  ⟨.op (.bin .lss (.slot 3) (.con (.int .i64 0))), some 2, none⟩]) c53_2) c53_0
abbrev s53 : SCode := .seq (.reg [1013] [
  ⟨.op (.mk 31 [(.int .i64 0), (.int .i64 0), (.str []), (.osl 0 31 0 [])]), some 1, none⟩]) c53_3
theorem ok53 : okFn Go.Proofs.Try.prog Go.Proofs.Try.f53 v53 s53 r53 1 = true := by kernel_rfl

def v54 : List Nat := [0, 2, 5, 3, 7]
def r54 : List SRes := [.tmp 1]
abbrev c54_0 : SCode := .seq (.reg [18, 19, 1022] [
  ⟨.op (.mv (.slot 3)), none, none⟩, 
  ⟨.op (.bin .add (.con (.str [109])) (.slot 5)), none, none⟩, 
  ⟨.op (.asg (.slot 6)), some 1, none⟩]) (.ret)
abbrev c54_1 : SCode := .reg [16, 17, 1022] [
  ⟨.op (.mv (.slot 0)), none, none⟩, 
  ⟨.op (.bin .quo (.slot 5) (.con (.int .i64 10))), none, none⟩, 
  ⟨.op (.asg (.slot 6)), some 0, none⟩]
abbrev c54_2 : SCode := .block 1 (.seq (.reg [8, 9, 10, 11, 12, 13, 14, 15, 1028] [
  ⟨.op (.mv (.slot 0)), none, none⟩, 
  ⟨.op (.bin .rem (.slot 5) (.con (.int .i64 10))), none, none⟩, 
  ⟨.op (.bin .add (.con (.int .i64 48)) (.slot 6)), none, none⟩, 
  ⟨.op (.conv .u8 (.slot 7)), none, none⟩, 
  ⟨.op (.bsl 5 1 [(.int .u8 0)] [(0, 1, (.slot 8))]), none, none⟩, 
  ⟨.op (.b2s (.slot 9)), none, none⟩, 
  ⟨.op (.mv (.slot 3)), none, none⟩, 
  ⟨.op (.bin .add (.slot 10) (.slot 11)), none, none⟩, 
  ⟨.op (.asg (.slot 12)), some 3, none⟩]) c54_1)
abbrev c54_3 : SCode := .cond (.slot 4) (.skip) (.exit 0)
abbrev b54_0 : SCode := .seq (.seq (.reg [6, 1021] [
  ⟨.op (.mv (.slot 0)), none, none⟩, 
  ⟨.op (.bin .gtr (.slot 5) (.con (.int .i64 0))), some 4, none⟩]) c54_3) c54_2
def l54_0 : SCode := .loop b54_0
abbrev c54_5 : SCode := .seq (.block 0 (l54_0)) c54_0
abbrev c54_6 : SCode := .seq (.reg [1020] [
  ⟨.op (.asg (.con (.str []))), some 3, none⟩]) c54_5
abbrev c54_7 : SCode := .seq (.reg [1020] [
  ⟨.op (.asg (.con (.str [109, 48]))), some 1, none⟩]) (.ret)
abbrev c54_8 : SCode := .cond (.slot 2) c54_7 (.skip)
abbrev c54_9 : SCode := .seq (.seq (.reg [4, 1021] [
  ⟨.op (.mv (.slot 0)), none, none⟩, 
  ⟨.op (.bin .leq (.slot 5) (.con (.int .i64 0))), some 2, none⟩]) c54_8) c54_6
abbrev s54 : SCode := .seq (.reg [1020] [
  ⟨.op (.asg (.con (.str []))), some 1, none⟩]) c54_9
theorem ok54 : okFn Go.Proofs.Try.prog Go.Proofs.Try.f54 v54 s54 r54 1 = true := by kernel_rfl

def v55 : List Nat := [0, 1, 4, 5, 9]
def r55 : List SRes := [.tmp 2]
abbrev c55_0 : SCode := .seq (.reg [41, 1043] [
  ⟨.op (.mv (.slot 1)), none, none⟩, 
  ⟨.op (.asg (.slot 5)), some 2, none⟩]) (.ret)
abbrev c55_1 : SCode := .reg [10, 11, 1044] [
  ⟨.op (.mv (.slot 3)), none, none⟩, 
  ⟨.op (.bin .add (.slot 5) (.con (.int .i64 1))), none, none⟩, 
  ⟨.op (.asg (.slot 6)), some 3, none⟩]
abbrev c55_2 : SCode := .reg [34, 35, 36, 37, 38, 39, 40, 1049] [
  ⟨.op (.mv (.slot 0)), none, none⟩, 
  ⟨.op (.mv (.slot 3)), none, none⟩, 
  ⟨.op (.iaddr 4 (.slot 5) (.slot 6)), none, none⟩, 
  ⟨.op (.faddr 3 (.slot 7)), none, none⟩, 
  ⟨.op (.load 1 false (.slot 8)), none, none⟩, 
  ⟨.op (.mv (.slot 1)), none, none⟩, 
  ⟨.callm (.con (.fn 55 [])) [((.slot 9), true), ((.slot 10), false)], none, none⟩, 
  ⟨.op (.asg (.slot 11)), some 1, none⟩]
abbrev c55_3 : SCode := .seq (.reg [32, 33, 1044] [
  ⟨.op (.mv (.slot 1)), none, none⟩, 
  ⟨.op (.bin .add (.slot 5) (.con (.int .i64 1))), none, none⟩, 
  ⟨.op (.asg (.slot 6)), some 1, none⟩]) c55_2
abbrev c55_4 : SCode := .seq (.reg [26, 27, 28, 29, 30, 31, 1048] [
  ⟨.op (.mv (.slot 0)), none, none⟩, 
  ⟨.op (.mv (.slot 3)), none, none⟩, 
  ⟨.op (.mv (.slot 1)), none, none⟩, 
  ⟨.call 54 [(.slot 7)] false, none, none⟩, 
  ⟨.op (.iaddr 4 (.slot 5) (.slot 6)), none, none⟩, 
  ⟨.op (.faddr 2 (.slot 9)), none, none⟩, 
  ⟨.op (.store 1 false (.slot 10) (.slot 8)), none, none⟩]) c55_3
abbrev c55_5 : SCode := .seq (.reg [24, 25, 1044] [
  ⟨.op (.mv (.slot 1)), none, none⟩, 
  ⟨.op (.bin .add (.slot 5) (.con (.int .i64 1))), none, none⟩, 
  ⟨.op (.asg (.slot 6)), some 1, none⟩]) c55_4
abbrev c55_6 : SCode := .seq (.reg [19, 20, 21, 22, 23, 1047] [
  ⟨.op (.mv (.slot 0)), none, none⟩, 
  ⟨.op (.mv (.slot 3)), none, none⟩, 
  ⟨.op (.mv (.slot 1)), none, none⟩, 
  ⟨.op (.iaddr 4 (.slot 5) (.slot 6)), none, none⟩, 
  ⟨.op (.faddr 1 (.slot 8)), none, none⟩, 
  ⟨.op (.store 1 false (.slot 9) (.slot 7)), none, none⟩]) c55_5
abbrev c55_7 : SCode := .seq (.reg [17, 18, 1044] [
  ⟨.op (.mv (.slot 1)), none, none⟩, 
  ⟨.op (.bin .add (.slot 5) (.con (.int .i64 1))), none, none⟩, 
  ⟨.op (.asg (.slot 6)), some 1, none⟩]) c55_6
abbrev c55_8 : SCode := .seq (.block 1 (.seq (.reg [12, 13, 14, 15, 16, 1047] [
  ⟨.op (.mv (.slot 0)), none, none⟩, 
  ⟨.op (.mv (.slot 3)), none, none⟩, 
  ⟨.op (.mv (.slot 1)), none, none⟩, 
  ⟨.op (.iaddr 4 (.slot 5) (.slot 6)), none, none⟩, 
  ⟨.op (.faddr 0 (.slot 8)), none, none⟩, 
  ⟨.op (.store 1 false (.slot 9) (.slot 7)), none, none⟩]) c55_7)) c55_1
abbrev c55_9 : SCode := .cond (.slot 4) (.skip) (.exit 0)
abbrev b55_0 : SCode := .seq (.seq (.reg [6, 7, 8, 1045] [
  ⟨.op (.mv (.slot 3)), none, none⟩, 
  ⟨.op (.mv (.slot 0)), none, none⟩, 
  ⟨.op (.len false (.slot 6)), none, none⟩, 
  ⟨.op (.bin .lss (.slot 5) (.slot 7)), some 4, none⟩]) c55_9) c55_8
def l55_0 : SCode := .loop b55_0
abbrev c55_11 : SCode := .block 0 (l55_0)
abbrev c55_12 : SCode := .seq (.seq (.reg [1042] [
  ⟨.op (.asg (.con (.int .i64 0))), some 3, none⟩]) c55_11) c55_0
abbrev s55 : SCode := .seq (.reg [1042] [
  ⟨.op (.asg (.con (.int .i64 0))), some 2, none⟩]) c55_12
theorem ok55 : okFn Go.Proofs.Try.prog Go.Proofs.Try.f55 v55 s55 r55 2 = true := by kernel_rfl

def v56 : List Nat := [0, 1, 4, 5, 9, 18, 27, 37, 48]
def r56 : List SRes := [.tmp 2]
abbrev c56_0 : SCode := .seq (.reg [49, 1051] [
  ⟨.op (.mv (.slot 1)), none, none⟩, 
  ⟨.op (.asg (.slot 9)), some 2, none⟩]) (.ret)
abbrev c56_1 : SCode := .reg [10, 11, 1052] [
  ⟨.op (.mv (.slot 3)), none, none⟩, 
  ⟨.op (.bin .add (.slot 9) (.con (.int .i64 1))), none, none⟩, 
  ⟨.op (.asg (.slot 10)), some 3, none⟩]
abbrev c56_2 : SCode := .seq (.reg [1050] [
  ⟨.op (.asg (.con (.int .i64 (-1)))), some 2, none⟩]) (.ret)
abbrev c56_3 : SCode := .cond (.slot 8) c56_2 (.skip)
abbrev c56_4 : SCode := .seq (.reg [47, 1051] [
  ⟨.op (.mv (.slot 1)), none, none⟩, 
  ⟨.op (.bin .lss (.slot 9) (.con (.int .i64 0))), some 8, none⟩]) c56_3
abbrev c56_5 : SCode := .seq (.reg [40, 41, 42, 43, 44, 45, 46, 1057] [
  ⟨.op (.mv (.slot 0)), none, none⟩, 
  ⟨.op (.mv (.slot 3)), none, none⟩, 
  ⟨.op (.iaddr 4 (.slot 9) (.slot 10)), none, none⟩, 
  ⟨.op (.faddr 3 (.slot 11)), none, none⟩, 
  ⟨.op (.load 1 false (.slot 12)), none, none⟩, 
  ⟨.op (.mv (.slot 1)), none, none⟩, 
  ⟨.call 56 [(.slot 13), (.slot 14)] false, none, none⟩, 
  ⟨.op (.asg (.slot 15)), some 1, none⟩]) c56_4
abbrev c56_6 : SCode := .seq (.reg [38, 39, 1052] [
  ⟨.op (.mv (.slot 1)), none, none⟩, 
  ⟨.op (.bin .add (.slot 9) (.con (.int .i64 1))), none, none⟩, 
  ⟨.op (.asg (.slot 10)), some 1, none⟩]) c56_5
abbrev c56_7 : SCode := .seq (.reg [1050] [
  ⟨.op (.asg (.con (.int .i64 (-1)))), some 2, none⟩]) (.ret)
abbrev c56_8 : SCode := .cond (.slot 7) c56_7 (.skip)
abbrev c56_9 : SCode := .seq (.seq (.dreg [30, 31, 32, 33, 34, 35, 36, 1057] [
  ⟨.op (.mv (.slot 0)), none, none⟩, 
  ⟨.op (.mv (.slot 3)), none, none⟩, 
  ⟨.op (.iaddr 4 (.slot 9) (.slot 10)), none, none⟩, 
  ⟨.op (.faddr 2 (.slot 11)), none, none⟩, 
  ⟨.op (.load 1 false (.slot 12)), none, none⟩, 
  ⟨.op (.mv (.slot 1)), none, none⟩, 
  ⟨.call 54 [(.slot 14)] false, none, none⟩, 
  ⟨.op (.bin .neq (.slot 13) (.slot 15)), some 7, none⟩]
  [[], [], [0, 1], [0, 1, 2], [0, 1, 2, 3], [], [5], [0, 1, 2, 3, 4, 5, 6]] 7 [] [([], none), ([false], none), ([true, true], none), ([true, true, true], none), ([true, true, true, true], none), ([false, false, false, false, false], none), ([false, false, false, false, false, true], none)] [true, true, true, true, true, true, true]) c56_8) c56_6
abbrev c56_10 : SCode := .seq (.reg [28, 29, 1052] [
  ⟨.op (.mv (.slot 1)), none, none⟩, 
  ⟨.op (.bin .add (.slot 9) (.con (.int .i64 1))), none, none⟩, 
  ⟨.op (.asg (.slot 10)), some 1, none⟩]) c56_9
abbrev c56_11 : SCode := .seq (.reg [1050] [
  ⟨.op (.asg (.con (.int .i64 (-1)))), some 2, none⟩]) (.ret)
abbrev c56_12 : SCode := .cond (.slot 6) c56_11 (.skip)
abbrev c56_13 : SCode := .seq (.seq (.reg [21, 22, 23, 24, 25, 26, 1056] [
  ⟨.op (.mv (.slot 0)), none, none⟩, 
  ⟨.op (.mv (.slot 3)), none, none⟩, 
  ⟨.op (.iaddr 4 (.slot 9) (.slot 10)), none, none⟩, 
  ⟨.op (.faddr 1 (.slot 11)), none, none⟩, 
  ⟨.op (.load 1 false (.slot 12)), none, none⟩, 
  ⟨.op (.mv (.slot 1)), none, none⟩, 
  ⟨.op (.bin .neq (.slot 13) (.slot 14)), some 6, none⟩]) c56_12) c56_10
abbrev c56_14 : SCode := .seq (.reg [19, 20, 1052] [
  ⟨.op (.mv (.slot 1)), none, none⟩, 
  ⟨.op (.bin .add (.slot 9) (.con (.int .i64 1))), none, none⟩, 
  ⟨.op (.asg (.slot 10)), some 1, none⟩]) c56_13
abbrev c56_15 : SCode := .seq (.reg [1050] [
  ⟨.op (.asg (.con (.int .i64 (-1)))), some 2, none⟩]) (.ret)
abbrev c56_16 : SCode := .cond (.slot 5) c56_15 (.skip)
abbrev c56_17 : SCode := .seq (.block 1 (.seq (.seq (.reg [12, 13, 14, 15, 16, 17, 1056] [
  ⟨.op (.mv (.slot 0)), none, none⟩, 
  ⟨.op (.mv (.slot 3)), none, none⟩, 
  ⟨.op (.iaddr 4 (.slot 9) (.slot 10)), none, none⟩, 
  ⟨.op (.faddr 0 (.slot 11)), none, none⟩, 
  ⟨.op (.load 1 false (.slot 12)), none, none⟩, 
  ⟨.op (.mv (.slot 1)), none, none⟩, 
  ⟨.op (.bin .neq (.slot 13) (.slot 14)), some 5, none⟩]) c56_16) c56_14)) c56_1
abbrev c56_18 : SCode := .cond (.slot 4) (.skip) (.exit 0)
abbrev b56_0 : SCode := .seq (.seq (.reg [6, 7, 8, 1053] [
  ⟨.op (.mv (.slot 3)), none, none⟩, 
  ⟨.op (.mv (.slot 0)), none, none⟩, 
  ⟨.op (.len false (.slot 10)), none, none⟩, 
  ⟨.op (.bin .lss (.slot 9) (.slot 11)), some 4, none⟩]) c56_18) c56_17
def l56_0 : SCode := .loop b56_0
abbrev c56_20 : SCode := .block 0 (l56_0)
abbrev c56_21 : SCode := .seq (.seq (.reg [1050] [
  ⟨.op (.asg (.con (.int .i64 0))), some 3, none⟩]) c56_20) c56_0
abbrev s56 : SCode := .seq (.reg [1050] [
  ⟨.op (.asg (.con (.int .i64 0))), some 2, none⟩]) c56_21
theorem ok56 : okFn Go.Proofs.Try.prog Go.Proofs.Try.f56 v56 s56 r56 2 = true := by kernel_rfl

def v57 : List Nat := [0, 1, 4, 11, 5, 15, 25]
def r57 : List SRes := [.tmp 2]
abbrev c57_0 : SCode := .seq (.reg [26, 1028] [
  ⟨.op (.mv (.slot 1)), none, none⟩, 
  ⟨.op (.asg (.slot 7)), some 2, none⟩]) (.ret)
abbrev c57_1 : SCode := .reg [16, 17, 1029] [
  ⟨.op (.mv (.slot 4)), none, none⟩, 
  ⟨.op (.bin .add (.slot 7) (.con (.int .i64 1))), none, none⟩, 
  ⟨.op (.asg (.slot 8)), some 4, none⟩]
abbrev c57_2 : SCode := .seq (.reg [1027] [
  ⟨.op (.asg (.con (.int .i64 (-1)))), some 2, none⟩]) (.ret)
abbrev c57_3 : SCode := .cond (.slot 6) c57_2 (.skip)
abbrev c57_4 : SCode := .seq (.reg [24, 1028] [
  ⟨.op (.mv (.slot 1)), none, none⟩, 
  ⟨.op (.bin .lss (.slot 7) (.con (.int .i64 0))), some 6, none⟩]) c57_3
abbrev c57_5 : SCode := .seq (.block 1 (.seq (.reg [18, 19, 20, 21, 22, 23, 1033] [
  ⟨.op (.mv (.slot 0)), none, none⟩, 
  ⟨.op (.mv (.slot 4)), none, none⟩, 
  ⟨.op (.iaddr 4 (.slot 7) (.slot 8)), none, none⟩, 
  ⟨.op (.load 4 true (.slot 9)), none, none⟩, 
  ⟨.op (.mv (.slot 1)), none, none⟩, 
  ⟨.call 31 [(.slot 10), (.slot 11)] false, none, none⟩, 
  ⟨.op (.asg (.slot 12)), some 1, none⟩]) c57_4)) c57_1
abbrev c57_6 : SCode := .cond (.slot 5) (.skip) (.exit 0)
abbrev b57_0 : SCode := .seq (.seq (.reg [12, 13, 14, 1030] [
  ⟨.op (.mv (.slot 4)), none, none⟩, 
  ⟨.op (.mv (.slot 0)), none, none⟩, 
  ⟨.op (.len false (.slot 8)), none, none⟩, 
  ⟨.op (.bin .lss (.slot 7) (.slot 9)), some 5, none⟩]) c57_6) c57_5
def l57_0 : SCode := .loop b57_0
abbrev c57_8 : SCode := .block 0 (l57_0)
abbrev c57_9 : SCode := .seq (.seq (.reg [1027] [
  ⟨.op (.asg (.con (.int .i64 0))), some 4, none⟩]) c57_8) c57_0
abbrev c57_10 : SCode := .seq (.reg [1027] [
  ⟨.op (.asg (.con (.int .i64 (-1)))), some 2, none⟩]) (.ret)
abbrev c57_11 : SCode := .cond (.slot 3) c57_10 (.skip)
abbrev c57_12 : SCode := .seq (.seq (.reg [10, 1028] [
  ⟨.op (.mv (.slot 1)), none, none⟩, 
  ⟨.op (.bin .lss (.slot 7) (.con (.int .i64 0))), some 3, none⟩]) c57_11) c57_9
abbrev c57_13 : SCode := .seq (.reg [6, 7, 8, 9, 1031] [
  ⟨.op (.mv (.slot 1)), none, none⟩, 
  ⟨.op (.mv (.slot 0)), none, none⟩, 
  ⟨.op (.len false (.slot 8)), none, none⟩, 
  ⟨.op (.bin .sub (.slot 7) (.slot 9)), none, none⟩, 
  ⟨.op (.asg (.slot 10)), some 1, none⟩]) c57_12
abbrev s57 : SCode := .seq (.reg [1027] [
  ⟨.op (.asg (.con (.int .i64 0))), some 2, none⟩]) c57_13
theorem ok57 : okFn Go.Proofs.Try.prog Go.Proofs.Try.f57 v57 s57 r57 2 = true := by kernel_rfl

def v58 : List Nat := [0, 1, 2, 6]
def r58 : List SRes := [.tmp 3]
abbrev c58_0 : SCode := .seq (.reg [7, 8, 9, 10, 11, 12, 13, 14, 1023] [
  ⟨.op (.mv (.slot 0)), none, none⟩, 
  ⟨.op (.mv (.slot 1)), none, none⟩, 
  ⟨.op (.bin .geq (.slot 4) (.slot 5)), none, none⟩, 
  ⟨.op (.mv (.slot 6)), none, none⟩, 
  ⟨.op (.mv (.slot 0)), none, some (7, true)⟩, 
  ⟨.op (.mv (.slot 2)), none, some (7, true)⟩, 
  ⟨.op (.bin .leq (.slot 8) (.slot 9)), none, some (7, true)⟩, 
  ⟨.op (.pick (.slot 7) (.slot 10) (.con (.bool false))), none, none⟩, 
  ⟨.op (.asg (.slot 11)), some 3, none⟩]) (.ret)
abbrev s58 : SCode := .seq (.reg [1015] [
  ⟨.op (.asg (.con (.bool false))), some 3, none⟩]) c58_0
theorem ok58 : okFn Go.Proofs.Try.prog Go.Proofs.Try.f58 v58 s58 r58 3 = true := by kernel_rfl

def v60 : List Nat := [0, 2]
def r60 : List SRes := [.cell 1 4 true]
abbrev c60_0 : SCode := .seq (.reg [3, 4, 1007] [
  ⟨.op (.mv (.slot 0)), none, none⟩, 
  ⟨.op (.build [(.int .i64 0), (.int .i64 0), (.str []), (.osl 0 31 0 [])] [(0, 1, (.con (.int .i64 1))), (1, 1, (.slot 2))]), none, none⟩, 
  ⟨.op (.store 4 true (.slot 1) (.slot 3)), none, none⟩]) (.ret)
abbrev s60 : SCode := .seq (.reg [1005] [
  ⟨.op (.mk 31 [(.int .i64 0), (.int .i64 0), (.str []), (.osl 0 31 0 [])]), some 1, none⟩]) c60_0
theorem ok60 : okFn Go.Proofs.Try.prog Go.Proofs.Try.f60 v60 s60 r60 1 = true := by kernel_rfl

def v61 : List Nat := [0, 2, 3, 4, 11]
def r61 : List SRes := [.tmp 1]
abbrev c61_0 : SCode := .seq (.reg [22, 1024] [
  ⟨.op (.mv (.slot 2)), none, none⟩, 
  ⟨.op (.asg (.slot 5)), some 1, none⟩]) (.ret)
abbrev c61_1 : SCode := .reg [12, 13, 1025] [
  ⟨.op (.mv (.slot 3)), none, none⟩, 
  ⟨.op (.bin .add (.slot 5) (.con (.int .i64 1))), none, none⟩, 
  ⟨.op (.asg (.slot 6)), some 3, none⟩]
abbrev c61_2 : SCode := .seq (.block 1 (.reg [14, 15, 16, 17, 18, 19, 20, 21, 1031] [
  ⟨.op (.mv (.slot 2)), none, none⟩, 
  ⟨.op (.mv (.slot 3)), none, none⟩, 
  ⟨.op (.mv (.slot 0)), none, none⟩, 
  ⟨.op (.mv (.slot 3)), none, none⟩, 
  ⟨.op (.iaddr 4 (.slot 7) (.slot 8)), none, none⟩, 
  ⟨.op (.load 4 true (.slot 9)), none, none⟩, 
  ⟨.call 34 [(.slot 10)] false, none, none⟩, 
  ⟨.op (.iaddr 4 (.slot 5) (.slot 6)), none, none⟩, 
  ⟨.op (.store 4 true (.slot 12) (.slot 11)), none, none⟩])) c61_1
abbrev c61_3 : SCode := .cond (.slot 4) (.skip) (.exit 0)
abbrev b61_0 : SCode := .seq (.seq (.reg [8, 9, 10, 1026] [
  ⟨.op (.mv (.slot 3)), none, none⟩, 
  ⟨.op (.mv (.slot 0)), none, none⟩, 
  ⟨.op (.len false (.slot 6)), none, none⟩, 
  ⟨.op (.bin .lss (.slot 5) (.slot 7)), some 4, none⟩]) c61_3) c61_2
def l61_0 : SCode := .loop b61_0
abbrev c61_5 : SCode := .block 0 (l61_0)
abbrev c61_6 : SCode := .seq (.seq (.reg [1023] [
  ⟨.op (.asg (.con (.int .i64 0))), some 3, none⟩]) c61_5) c61_0
abbrev c61_7 : SCode := .seq (.reg [5, 6, 7, 1026] [
  ⟨.op (.mv (.slot 0)), none, none⟩, 
  ⟨.op (.len false (.slot 5)), none, none⟩, 
  ⟨.op (.mksl 31 [(.int .i64 0), (.int .i64 0), (.str []), (.osl 0 31 0 [])] (.slot 6) (.slot 6)), none, none⟩, 
  ⟨.op (.asg (.slot 7)), some 2, none⟩]) c61_6
abbrev s61 : SCode := .seq (.reg [1023] [
  ⟨.op (.asg (.con (.osl 0 31 0 []))), some 1, none⟩]) c61_7
theorem ok61 : okFn Go.Proofs.Try.prog Go.Proofs.Try.f61 v61 s61 r61 1 = true := by kernel_rfl

def v62 : List Nat := [0, 2]
def r62 : List SRes := [.tmp 1]
abbrev c62_0 : SCode := .seq (.reg [3, 4, 1007] [
  ⟨.op (.mv (.slot 0)), none, none⟩, 
  ⟨.call 49 [(.slot 2), (.con (.int .i64 4)), (.con (.int .i64 8))] false, none, none⟩, 
  ⟨.op (.asg (.slot 3)), some 1, none⟩]) (.ret)
abbrev s62 : SCode := .seq (.reg [1005] [
  ⟨.op (.asg (.con (.bool false))), some 1, none⟩]) c62_0
theorem ok62 : okFn Go.Proofs.Try.prog Go.Proofs.Try.f62 v62 s62 r62 1 = true := by kernel_rfl

def v64 : List Nat := [0, 1, 4, 10, 5, 14, 26]
def r64 : List SRes := [.tmp 2]
abbrev c64_0 : SCode := .seq (.reg [1027] [
  ⟨.op (.asg (.con (.bool true))), some 2, none⟩]) (.ret)
abbrev c64_1 : SCode := .reg [15, 16, 1029] [
  ⟨.op (.mv (.slot 4)), none, none⟩, 
  ⟨.op (.bin .add (.slot 7) (.con (.int .i64 1))), none, none⟩, 
  ⟨.op (.asg (.slot 8)), some 4, none⟩]
abbrev c64_2 : SCode := .seq (.reg [1027] [
  ⟨.op (.asg (.con (.bool false))), some 2, none⟩]) (.ret)
abbrev c64_3 : SCode := .cond (.slot 6) c64_2 (.skip)
abbrev c64_4 : SCode := .seq (.block 1 (.seq (.dreg [17, 18, 19, 20, 21, 22, 23, 24, 25, 1036] [
  ⟨.op (.mv (.slot 0)), none, none⟩, 
  ⟨.op (.mv (.slot 4)), none, none⟩, 
  ⟨.op (.iaddr 4 (.slot 7) (.slot 8)), none, none⟩, 
  ⟨.op (.load 4 true (.slot 9)), none, none⟩, 
  ⟨.op (.mv (.slot 1)), none, none⟩, 
  ⟨.op (.mv (.slot 4)), none, none⟩, 
  ⟨.op (.iaddr 4 (.slot 11) (.slot 12)), none, none⟩, 
  ⟨.op (.load 4 true (.slot 13)), none, none⟩, 
  ⟨.call 38 [(.slot 10), (.slot 14)] false, none, none⟩, 
  ⟨.op (.not (.slot 15)), some 6, none⟩]
  [[], [], [0, 1], [0, 1, 2], [], [], [4, 5], [4, 5, 6], [0, 1, 2, 3, 4, 5, 6, 7], [0, 1, 2, 3, 4, 5, 6, 7, 8]] 9 [] [([], none), ([false], none), ([true, true], none), ([true, true, true], none), ([false, false, false, false], none), ([false, false, false, false, false], none), ([false, false, false, false, true, true], none), ([false, false, false, false, true, true, true], none), ([true, true, true, true, true, true, true, true], none)] [true, true, true, true, true, true, true, true, true]) c64_3)) c64_1
abbrev c64_5 : SCode := .cond (.slot 5) (.skip) (.exit 0)
abbrev b64_0 : SCode := .seq (.seq (.reg [11, 12, 13, 1030] [
  ⟨.op (.mv (.slot 4)), none, none⟩, 
  ⟨.op (.mv (.slot 0)), none, none⟩, 
  ⟨.op (.len false (.slot 8)), none, none⟩, 
  ⟨.op (.bin .lss (.slot 7) (.slot 9)), some 5, none⟩]) c64_5) c64_4
def l64_0 : SCode := .loop b64_0
abbrev c64_7 : SCode := .block 0 (l64_0)
abbrev c64_8 : SCode := .seq (.seq (.reg [1027] [
  ⟨.op (.asg (.con (.int .i64 0))), some 4, none⟩]) c64_7) c64_0
abbrev c64_9 : SCode := .seq (.reg [1027] [
  ⟨.op (.asg (.con (.bool false))), some 2, none⟩]) (.ret)
abbrev c64_10 : SCode := .cond (.slot 3) c64_9 (.skip)
abbrev c64_11 : SCode := .seq (.seq (.reg [6, 7, 8, 9, 1031] [
  ⟨.op (.mv (.slot 0)), none, none⟩, 
  ⟨.op (.len false (.slot 7)), none, none⟩, 
  ⟨.op (.mv (.slot 1)), none, none⟩, 
  ⟨.op (.len false (.slot 9)), none, none⟩, 
  ⟨.op (.bin .neq (.slot 8) (.slot 10)), some 3, none⟩]) c64_10) c64_8
abbrev s64 : SCode := .seq (.reg [1027] [
  ⟨.op (.asg (.con (.bool false))), some 2, none⟩]) c64_11
theorem ok64 : okFn Go.Proofs.Try.prog Go.Proofs.Try.f64 v64 s64 r64 2 = true := by kernel_rfl

def v68 : List Nat := [0, 2, 3, 6, 7, 8, 9, 5]
def r68 : List SRes := [.tmp 1]
abbrev c68_0 : SCode := .seq (.reg [18, 1020] [
  ⟨.op (.mv (.slot 2)), none, none⟩, 
  ⟨.op (.asg (.slot 8)), some 1, none⟩]) (.ret)
abbrev c68_1 : SCode := .reg [17, 1020] [
  ⟨.op (.bin .add (.slot 5) (.con (.int .i64 1))), none, none⟩, 
  ⟨.op (.asg (.slot 8)), some 5, none⟩]
abbrev c68_2 : SCode := .reg [12, 13, 14, 15, 16, 1024] [
  ⟨.op (.mv (.slot 2)), none, none⟩, 
  ⟨.op (.load 19 true (.slot 7)), none, none⟩, 
  ⟨.call 52 [(.slot 9)] false, none, none⟩, 
  ⟨.op (.bsl 34 1 [(.int .i64 0), (.str []), (.int .i64 0), (.int .i64 0), (.str []), (.osl 0 31 0 []), (.int .i64 0), (.int .i64 0), (.str []), (.osl 0 31 0 []), (.int .i64 0), (.int .i64 0), (.str []), (.osl 0 31 0 []), (.int .i64 0), (.int .i64 0), (.str []), (.osl 0 31 0 []), (.osl 0 34 0 [])] [(0, 19, (.slot 10))]), none, none⟩, 
  ⟨.op (.append 34 19 (.slot 8) (.slot 11)), none, none⟩, 
  ⟨.op (.asg (.slot 12)), some 2, none⟩]
abbrev c68_3 : SCode := .seq (.block 1 (.seq (.reg [10, 11, 1021, 1022] [
  ⟨.op (.iaddr 19 (.slot 3) (.slot 5)), none, none⟩, 
  ⟨.op (.load 19 true (.slot 8)), none, none⟩, 
  ⟨.op (.mk 34 [(.int .i64 0), (.str []), (.int .i64 0), (.int .i64 0), (.str []), (.osl 0 31 0 []), (.int .i64 0), (.int .i64 0), (.str []), (.osl 0 31 0 []), (.int .i64 0), (.int .i64 0), (.str []), (.osl 0 31 0 []), (.int .i64 0), (.int .i64 0), (.str []), (.osl 0 31 0 []), (.osl 0 34 0 [])]), some 7, none⟩, 
  ⟨.op (.store 19 true (.slot 7) (.slot 9)), none, none⟩]) c68_2)) c68_1
abbrev c68_4 : SCode := .seq (.cond (.slot 6) (.skip) (.exit 0)) c68_3
abbrev b68_0 : SCode := .seq (.reg [1019] [
  ⟨.op (.bin .lss (.slot 5) (.slot 4)), some 6, none⟩]) c68_4
def l68_0 : SCode := .loop b68_0
abbrev c68_6 : SCode := .block 0 (l68_0)
abbrev c68_7 : SCode := .seq (.seq (.reg [1019, 1020, 1021] [
  ⟨.op (.asg (.slot 0)), some 3, none⟩, 
  ⟨.op (.len false (.slot 3)), some 4, none⟩, 
  ⟨.op (.asg (.con (.int .i64 0))), some 5, none⟩]) c68_6) c68_0
abbrev c68_8 : SCode := .seq (.reg [1019] [
  ⟨.op (.asg (.con (.osl 0 34 0 []))), some 2, none⟩]) c68_7
abbrev s68 : SCode := .seq (.reg [1019] [
  ⟨.op (.asg (.con (.osl 0 34 0 []))), some 1, none⟩]) c68_8
theorem ok68 : okFn Go.Proofs.Try.prog Go.Proofs.Try.f68 v68 s68 r68 1 = true := by kernel_rfl

def v70 : List Nat := [0, 1, 3, 4, 5, 6, 7, 8, 9, 35, 10, 51, 60, 11, 12, 72]
def r70 : List SRes := [.tmp 3, .tmp 4]
abbrev c70_0 : SCode := .seq (.reg [75, 1077, 1078] [
  ⟨.op (.mv (.slot 0)), none, none⟩, 
  ⟨.op (.asg (.slot 16)), some 3, none⟩, 
  ⟨.op (.asg (.con (.bool true))), some 4, none⟩]) (.ret)
abbrev c70_1 : SCode := .reg [52, 53, 1078] [
  ⟨.op (.mv (.slot 10)), none, none⟩, 
  ⟨.op (.bin .add (.slot 16) (.con (.int .i64 1))), none, none⟩, 
  ⟨.op (.asg (.slot 17)), some 10, none⟩]
abbrev c70_2 : SCode := .reg [74, 1077] [
  ⟨.op (.mv (.slot 13)), none, none⟩, 
  ⟨.op (.asg (.slot 16)), some 0, none⟩]
abbrev c70_3 : SCode := .seq (.reg [73, 1077, 1078] [
  ⟨.op (.mv (.slot 0)), none, none⟩, 
  ⟨.op (.asg (.slot 16)), some 3, none⟩, 
  ⟨.op (.asg (.con (.bool false))), some 4, none⟩]) (.ret)
abbrev c70_4 : SCode := .cond (.slot 15) c70_3 (.skip)
abbrev c70_5 : SCode := .seq (.seq (.reg [71, 1077] [
  ⟨.op (.mv (.slot 14)), none, none⟩, 
  ⟨.op (.not (.slot 16)), some 15, none⟩]) c70_4) c70_2
abbrev c70_6 : SCode := .seq (.reg [62, 63, 64, 65, 66, 67, 68, 61, 69, 70, 1086, 1087] [
  ⟨.op (.mv (.slot 0)), none, none⟩, 
  ⟨.op (.faddr 18 (.slot 2)), none, none⟩, 
  ⟨.op (.load 1 false (.slot 17)), none, none⟩, 
  ⟨.op (.mv (.slot 10)), none, none⟩, 
  ⟨.op (.iaddr 19 (.slot 18) (.slot 19)), none, none⟩, 
  ⟨.op (.load 19 true (.slot 20)), none, none⟩, 
  ⟨.call 70 [(.slot 16), (.slot 21)] false, none, none⟩, 
  ⟨.op (.mvt 22), none, none⟩, 
  ⟨.op (.ext 23 0), none, none⟩, 
  ⟨.op (.ext 23 1), none, none⟩, 
  ⟨.op (.asg (.slot 24)), some 13, none⟩, 
  ⟨.op (.asg (.slot 25)), some 14, none⟩]) c70_5
abbrev c70_7 : SCode := .cond (.slot 12) c70_6 (.skip)
abbrev c70_8 : SCode := .seq (.block 1 (.seq (.reg [54, 55, 56, 57, 58, 59, 1082] [
  ⟨.op (.faddr 18 (.slot 2)), none, none⟩, 
  ⟨.op (.load 1 false (.slot 16)), none, none⟩, 
  ⟨.op (.mv (.slot 10)), none, none⟩, 
  ⟨.op (.iaddr 19 (.slot 17) (.slot 18)), none, none⟩, 
  ⟨.op (.faddr 0 (.slot 19)), none, none⟩, 
  ⟨.op (.load 1 false (.slot 20)), none, none⟩, 
  ⟨.op (.bin .eql (.slot 21) (.con (.int .i64 3))), some 12, none⟩]) c70_7)) c70_1
abbrev c70_9 : SCode := .cond (.slot 11) (.skip) (.exit 0)
abbrev b70_0 : SCode := .seq (.seq (.reg [47, 48, 49, 50, 1080] [
  ⟨.op (.mv (.slot 10)), none, none⟩, 
  ⟨.op (.faddr 18 (.slot 2)), none, none⟩, 
  ⟨.op (.load 1 false (.slot 17)), none, none⟩, 
  ⟨.op (.len false (.slot 18)), none, none⟩, 
  ⟨.op (.bin .lss (.slot 16) (.slot 19)), some 11, none⟩]) c70_9) c70_8
def l70_0 : SCode := .loop b70_0
abbrev c70_11 : SCode := .block 0 (l70_0)
abbrev c70_12 : SCode := .seq (.seq (.reg [1076] [
  ⟨.op (.asg (.con (.int .i64 0))), some 10, none⟩]) c70_11) c70_0
abbrev c70_13 : SCode := .seq (.dreg [37, 38, 39, 40, 41, 42, 43, 44, 45, 46, 1086] [
  ⟨.op (.bsl 75 0 [(.str []), (.int .i64 0), (.int .i64 0)] []), none, none⟩, 
  ⟨.op (.mv (.slot 0)), none, none⟩, 
  ⟨.op (.append 75 3 (.slot 16) (.slot 17)), none, none⟩, 
  ⟨.op (.faddr 1 (.slot 2)), none, none⟩, 
  ⟨.op (.load 1 false (.slot 19)), none, none⟩, 
  ⟨.op (.mv (.slot 5)), none, none⟩, 
  ⟨.op (.mv (.slot 7)), none, none⟩, 
  ⟨.op (.build [(.str []), (.int .i64 0), (.int .i64 0)] [(0, 1, (.slot 20)), (1, 1, (.slot 21)), (2, 1, (.slot 22))]), none, none⟩, 
  ⟨.op (.bsl 75 1 [(.str []), (.int .i64 0), (.int .i64 0)] [(0, 3, (.slot 23))]), none, none⟩, 
  ⟨.op (.append 75 3 (.slot 18) (.slot 24)), none, none⟩, 
  ⟨.op (.asg (.slot 25)), some 0, none⟩]
  [[], [], [0, 1], [], [3], [], [], [3, 4, 5, 6], [3, 4, 5, 6, 7], [0, 1, 2, 3, 4, 5, 6, 7, 8], [0, 1, 2, 3, 4, 5, 6, 7, 8, 9]] 10 [(0, 1000000), (2, 0), (8, 7), (9, 2)] [([], (some [1000000])), ([false], none), ([true, true], (some [0])), ([false, false, false], none), ([false, false, false, true], none), ([false, false, false, false, false], none), ([false, false, false, false, false, false], none), ([false, false, false, true, true, true, true], none), ([false, false, false, true, true, true, true, true], (some [7])), ([false, true, true, true, true, true, true, false, true], (some [2]))] [false, true, false, true, true, true, true, false, true, true]) c70_12
abbrev c70_14 : SCode := .seq (.reg [36, 1077, 1078] [
  ⟨.op (.mv (.slot 0)), none, none⟩, 
  ⟨.op (.asg (.slot 16)), some 3, none⟩, 
  ⟨.op (.asg (.con (.bool false))), some 4, none⟩]) (.ret)
abbrev c70_15 : SCode := .cond (.slot 9) c70_14 (.skip)
abbrev c70_16 : SCode := .seq (.seq (.reg [25, 26, 27, 28, 29, 30, 31, 32, 33, 34, 1086] [
  ⟨.op (.faddr 0 (.slot 2)), none, none⟩, 
  ⟨.op (.load 1 false (.slot 16)), none, none⟩, 
  ⟨.op (.bin .neq (.slot 17) (.con (.int .i64 3))), none, none⟩, 
  ⟨.op (.mv (.slot 18)), none, none⟩, 
  ⟨.op (.mv (.slot 6)), none, some (19, false)⟩, 
  ⟨.op (.not (.slot 20)), none, some (19, false)⟩, 
  ⟨.op (.pick (.slot 19) (.con (.bool true)) (.slot 21)), none, none⟩, 
  ⟨.op (.mv (.slot 22)), none, none⟩, 
  ⟨.op (.mv (.slot 8)), none, some (23, false)⟩, 
  ⟨.op (.not (.slot 24)), none, some (23, false)⟩, 
  ⟨.op (.pick (.slot 23) (.con (.bool true)) (.slot 25)), some 9, none⟩]) c70_15) c70_13
abbrev c70_17 : SCode := .seq (.reg [20, 21, 22, 19, 23, 24, 1082, 1083] [
  ⟨.op (.faddr 14 (.slot 2)), none, none⟩, 
  ⟨.op (.load 4 true (.slot 16)), none, none⟩, 
  ⟨.call 83 [(.slot 17)] false, none, none⟩, 
  ⟨.op (.mvt 18), none, none⟩, 
  ⟨.op (.ext 19 0), none, none⟩, 
  ⟨.op (.ext 19 1), none, none⟩, 
  ⟨.op (.asg (.slot 20)), some 7, none⟩, 
  ⟨.op (.asg (.slot 21)), some 8, none⟩]) c70_16
abbrev c70_18 : SCode := .seq (.reg [14, 15, 16, 13, 17, 18, 1082, 1083] [
  ⟨.op (.faddr 10 (.slot 2)), none, none⟩, 
  ⟨.op (.load 4 true (.slot 16)), none, none⟩, 
  ⟨.call 83 [(.slot 17)] false, none, none⟩, 
  ⟨.op (.mvt 18), none, none⟩, 
  ⟨.op (.ext 19 0), none, none⟩, 
  ⟨.op (.ext 19 1), none, none⟩, 
  ⟨.op (.asg (.slot 20)), some 5, none⟩, 
  ⟨.op (.asg (.slot 21)), some 6, none⟩]) c70_17
abbrev s70 : SCode := .seq (.reg [1076, 1077, 1078] [
  ⟨.op (.box 34 19 (.slot 1)), some 2, none⟩, 
  ⟨.op (.asg (.con (.osl 0 75 0 []))), some 3, none⟩, 
  ⟨.op (.asg (.con (.bool false))), some 4, none⟩]) c70_18
theorem ok70 : okFn Go.Proofs.Try.prog Go.Proofs.Try.f70 v70 s70 r70 2 = true := by kernel_rfl

def v71 : List Nat := [0, 2, 3, 7, 20]
def r71 : List SRes := [.tmp 1]
abbrev c71_0 : SCode := .seq (.reg [21, 22, 1025] [
  ⟨.op (.mv (.slot 0)), none, none⟩, 
  ⟨.call 84 [(.slot 5)] false, none, none⟩, 
  ⟨.op (.asg (.slot 6)), some 1, none⟩]) (.ret)
abbrev c71_1 : SCode := .reg [8, 9, 1025] [
  ⟨.op (.mv (.slot 2)), none, none⟩, 
  ⟨.op (.bin .add (.slot 5) (.con (.int .i64 1))), none, none⟩, 
  ⟨.op (.asg (.slot 6)), some 2, none⟩]
abbrev c71_2 : SCode := .seq (.reg [1023] [
  ⟨.op (.asg (.con (.bool false))), some 1, none⟩]) (.ret)
abbrev c71_3 : SCode := .cond (.slot 4) c71_2 (.skip)
abbrev c71_4 : SCode := .seq (.block 1 (.seq (.dreg [10, 11, 12, 13, 14, 15, 16, 17, 18, 19, 1033] [
  ⟨.op (.mv (.slot 0)), none, none⟩, 
  ⟨.op (.mv (.slot 2)), none, none⟩, 
  ⟨.op (.iaddr 3 (.slot 5) (.slot 6)), none, none⟩, 
  ⟨.op (.faddr 1 (.slot 7)), none, none⟩, 
  ⟨.op (.load 1 false (.slot 8)), none, none⟩, 
  ⟨.op (.mv (.slot 0)), none, none⟩, 
  ⟨.op (.mv (.slot 2)), none, none⟩, 
  ⟨.op (.iaddr 3 (.slot 10) (.slot 11)), none, none⟩, 
  ⟨.op (.faddr 2 (.slot 12)), none, none⟩, 
  ⟨.op (.load 1 false (.slot 13)), none, none⟩, 
  ⟨.op (.bin .gtr (.slot 9) (.slot 14)), some 4, none⟩]
  [[], [], [0, 1], [0, 1, 2], [0, 1, 2, 3], [], [], [5, 6], [5, 6, 7], [5, 6, 7, 8], [0, 1, 2, 3, 4, 5, 6, 7, 8, 9]] 10 [] [([], none), ([false], none), ([true, true], none), ([true, true, true], none), ([true, true, true, true], none), ([false, false, false, false, false], none), ([false, false, false, false, false, false], none), ([false, false, false, false, false, true, true], none), ([false, false, false, false, false, true, true, true], none), ([false, false, false, false, false, true, true, true, true], none)] [true, true, true, true, true, true, true, true, true, true]) c71_3)) c71_1
abbrev c71_5 : SCode := .cond (.slot 3) (.skip) (.exit 0)
abbrev b71_0 : SCode := .seq (.seq (.reg [4, 5, 6, 1026] [
  ⟨.op (.mv (.slot 2)), none, none⟩, 
  ⟨.op (.mv (.slot 0)), none, none⟩, 
  ⟨.op (.len false (.slot 6)), none, none⟩, 
  ⟨.op (.bin .lss (.slot 5) (.slot 7)), some 3, none⟩]) c71_5) c71_4
def l71_0 : SCode := .loop b71_0
abbrev c71_7 : SCode := .block 0 (l71_0)
abbrev c71_8 : SCode := .seq (.seq (.reg [1023] [
  ⟨.op (.asg (.con (.int .i64 0))), some 2, none⟩]) c71_7) c71_0
abbrev s71 : SCode := .seq (.reg [1023] [
  ⟨.op (.asg (.con (.bool false))), some 1, none⟩]) c71_8
theorem ok71 : okFn Go.Proofs.Try.prog Go.Proofs.Try.f71 v71 s71 r71 1 = true := by kernel_rfl

def v72 : List Nat := [0, 2, 3, 4, 5, 14, 15, 16, 17, 7, 22, 8, 9, 10, 11, 12, 13]
def r72 : List SRes := [.tmp 1, .tmp 2]
abbrev c72_0 : SCode := .seq (.reg [63, 64, 1067, 1068] [
  ⟨.op (.mv (.slot 3)), none, none⟩, 
  ⟨.op (.mv (.slot 4)), none, none⟩, 
  ⟨.op (.asg (.slot 17)), some 1, none⟩, 
  ⟨.op (.asg (.slot 18)), some 2, none⟩]) (.ret)
abbrev c72_1 : SCode := .reg [62, 1066] [
  ⟨.op (.bin .add (.slot 7) (.con (.int .i64 1))), none, none⟩, 
  ⟨.op (.asg (.slot 17)), some 7, none⟩]
abbrev c72_2 : SCode := .reg [59, 60, 61, 1068] [
  ⟨.op (.mv (.slot 3)), none, none⟩, 
  ⟨.op (.mv (.slot 15)), none, none⟩, 
  ⟨.op (.append 75 3 (.slot 17) (.slot 18)), none, none⟩, 
  ⟨.op (.asg (.slot 19)), some 3, none⟩]
abbrev c72_3 : SCode := .seq (.reg [51, 52, 53, 54, 55, 56, 57, 58, 1073] [
  ⟨.op (.mv (.slot 3)), none, none⟩, 
  ⟨.op (.faddr 1 (.slot 9)), none, none⟩, 
  ⟨.op (.load 1 false (.slot 18)), none, none⟩, 
  ⟨.op (.mv (.slot 11)), none, none⟩, 
  ⟨.op (.mv (.slot 13)), none, none⟩, 
  ⟨.op (.build [(.str []), (.int .i64 0), (.int .i64 0)] [(0, 1, (.slot 19)), (1, 1, (.slot 20)), (2, 1, (.slot 21))]), none, none⟩, 
  ⟨.op (.bsl 75 1 [(.str []), (.int .i64 0), (.int .i64 0)] [(0, 3, (.slot 22))]), none, none⟩, 
  ⟨.op (.append 75 3 (.slot 17) (.slot 23)), none, none⟩, 
  ⟨.op (.asg (.slot 24)), some 3, none⟩]) c72_2
abbrev c72_4 : SCode := .seq (.reg [41, 42, 43, 44, 45, 46, 47, 48, 49, 50, 1075] [
  ⟨.op (.mv (.slot 4)), none, none⟩, 
  ⟨.op (.mv (.slot 17)), none, none⟩, 
  ⟨.op (.mv (.slot 12)), none, some (18, true)⟩, 
  ⟨.op (.pick (.slot 18) (.slot 19) (.con (.bool false))), none, none⟩, 
  ⟨.op (.mv (.slot 20)), none, none⟩, 
  ⟨.op (.mv (.slot 14)), none, some (21, true)⟩, 
  ⟨.op (.pick (.slot 21) (.slot 22) (.con (.bool false))), none, none⟩, 
  ⟨.op (.mv (.slot 23)), none, none⟩, 
  ⟨.op (.mv (.slot 16)), none, some (24, true)⟩, 
  ⟨.op (.pick (.slot 24) (.slot 25) (.con (.bool false))), none, none⟩, 
  ⟨.op (.asg (.slot 26)), some 4, none⟩]) c72_3
abbrev c72_5 : SCode := .seq (.reg [36, 37, 38, 35, 39, 40, 1071, 1072] [
  ⟨.op (.faddr 18 (.slot 9)), none, none⟩, 
  ⟨.op (.load 1 false (.slot 17)), none, none⟩, 
  ⟨.call 72 [(.slot 18)] false, none, none⟩, 
  ⟨.op (.mvt 19), none, none⟩, 
  ⟨.op (.ext 20 0), none, none⟩, 
  ⟨.op (.ext 20 1), none, none⟩, 
  ⟨.op (.asg (.slot 21)), some 15, none⟩, 
  ⟨.op (.asg (.slot 22)), some 16, none⟩]) c72_4
abbrev c72_6 : SCode := .seq (.reg [30, 31, 32, 29, 33, 34, 1071, 1072] [
  ⟨.op (.faddr 14 (.slot 9)), none, none⟩, 
  ⟨.op (.load 4 true (.slot 17)), none, none⟩, 
  ⟨.call 85 [(.slot 18)] false, none, none⟩, 
  ⟨.op (.mvt 19), none, none⟩, 
  ⟨.op (.ext 20 0), none, none⟩, 
  ⟨.op (.ext 20 1), none, none⟩, 
  ⟨.op (.asg (.slot 21)), some 13, none⟩, 
  ⟨.op (.asg (.slot 22)), some 14, none⟩]) c72_5
abbrev c72_7 : SCode := .seq (.reg [24, 25, 26, 23, 27, 28, 1071, 1072] [
  ⟨.op (.faddr 10 (.slot 9)), none, none⟩, 
  ⟨.op (.load 4 true (.slot 17)), none, none⟩, 
  ⟨.call 85 [(.slot 18)] false, none, none⟩, 
  ⟨.op (.mvt 19), none, none⟩, 
  ⟨.op (.ext 20 0), none, none⟩, 
  ⟨.op (.ext 20 1), none, none⟩, 
  ⟨.op (.asg (.slot 21)), some 11, none⟩, 
  ⟨.op (.asg (.slot 22)), some 12, none⟩]) c72_6
abbrev c72_8 : SCode := .cond (.slot 10) (.exit 1) (.skip)
abbrev c72_9 : SCode := .seq (.seq (.reg [20, 21, 1067] [
  ⟨.op (.faddr 0 (.slot 9)), none, none⟩, 
  ⟨.op (.load 1 false (.slot 17)), none, none⟩, 
  ⟨.op (.bin .neq (.slot 18) (.con (.int .i64 3))), some 10, none⟩]) c72_8) c72_7
abbrev c72_10 : SCode := .seq (.block 1 (.seq (.reg [18, 19, 1067, 1068] [
  ⟨.op (.iaddr 19 (.slot 5) (.slot 7)), none, none⟩, 
  ⟨.op (.load 19 true (.slot 17)), none, none⟩, 
  ⟨.op (.mk 34 [(.int .i64 0), (.str []), (.int .i64 0), (.int .i64 0), (.str []), (.osl 0 31 0 []), (.int .i64 0), (.int .i64 0), (.str []), (.osl 0 31 0 []), (.int .i64 0), (.int .i64 0), (.str []), (.osl 0 31 0 []), (.int .i64 0), (.int .i64 0), (.str []), (.osl 0 31 0 []), (.osl 0 34 0 [])]), some 9, none⟩, 
  ⟨.op (.store 19 true (.slot 9) (.slot 18)), none, none⟩]) c72_9)) c72_1
abbrev c72_11 : SCode := .seq (.cond (.slot 8) (.skip) (.exit 0)) c72_10
abbrev b72_0 : SCode := .seq (.reg [1065] [
  ⟨.op (.bin .lss (.slot 7) (.slot 6)), some 8, none⟩]) c72_11
def l72_0 : SCode := .loop b72_0
abbrev c72_13 : SCode := .block 0 (l72_0)
abbrev c72_14 : SCode := .seq (.seq (.reg [1065, 1066, 1067] [
  ⟨.op (.asg (.slot 0)), some 5, none⟩, 
  ⟨.op (.len false (.slot 5)), some 6, none⟩, 
  ⟨.op (.asg (.con (.int .i64 0))), some 7, none⟩]) c72_13) c72_0
abbrev c72_15 : SCode := .seq (.reg [1065] [
  ⟨.op (.asg (.con (.bool true))), some 4, none⟩]) c72_14
abbrev c72_16 : SCode := .seq (.reg [1065] [
  ⟨.op (.asg (.con (.osl 0 75 0 []))), some 3, none⟩]) c72_15
abbrev s72 : SCode := .seq (.reg [1065, 1066] [
  ⟨.op (.asg (.con (.osl 0 75 0 []))), some 1, none⟩, 
  ⟨.op (.asg (.con (.bool false))), some 2, none⟩]) c72_16
theorem ok72 : okFn Go.Proofs.Try.prog Go.Proofs.Try.f72 v72 s72 r72 1 = true := by kernel_rfl

def v73 : List Nat := [0, 2, 5, 6, 7, 8, 4, 15]
def r73 : List SRes := [.tmp 1]
abbrev c73_0 : SCode := .seq (.reg [17, 18, 1021] [
  ⟨.op (.mv (.slot 0)), none, none⟩, 
  ⟨.call 86 [(.slot 8)] false, none, none⟩, 
  ⟨.op (.asg (.slot 9)), some 1, none⟩]) (.ret)
abbrev c73_1 : SCode := .reg [16, 1020] [
  ⟨.op (.bin .add (.slot 4) (.con (.int .i64 1))), none, none⟩, 
  ⟨.op (.asg (.slot 8)), some 4, none⟩]
abbrev c73_2 : SCode := .seq (.reg [1019] [
  ⟨.op (.asg (.con (.bool false))), some 1, none⟩]) (.ret)
abbrev c73_3 : SCode := .cond (.slot 7) c73_2 (.skip)
abbrev c73_4 : SCode := .seq (.reg [11, 12, 13, 14, 1023] [
  ⟨.op (.faddr 1 (.slot 6)), none, none⟩, 
  ⟨.op (.load 1 false (.slot 8)), none, none⟩, 
  ⟨.op (.faddr 2 (.slot 6)), none, none⟩, 
  ⟨.op (.load 1 false (.slot 10)), none, none⟩, 
  ⟨.op (.bin .gtr (.slot 9) (.slot 11)), some 7, none⟩]) c73_3
abbrev c73_5 : SCode := .seq (.block 1 (.seq (.reg [9, 10, 1021, 1022] [
  ⟨.op (.iaddr 3 (.slot 2) (.slot 4)), none, none⟩, 
  ⟨.op (.load 3 true (.slot 8)), none, none⟩, 
  ⟨.op (.mk 75 [(.str []), (.int .i64 0), (.int .i64 0)]), some 6, none⟩, 
  ⟨.op (.store 3 false (.slot 6) (.slot 9)), none, none⟩]) c73_4)) c73_1
abbrev c73_6 : SCode := .seq (.cond (.slot 5) (.skip) (.exit 0)) c73_5
abbrev b73_0 : SCode := .seq (.reg [1019] [
  ⟨.op (.bin .lss (.slot 4) (.slot 3)), some 5, none⟩]) c73_6
def l73_0 : SCode := .loop b73_0
abbrev c73_8 : SCode := .block 0 (l73_0)
abbrev c73_9 : SCode := .seq (.seq (.reg [1019, 1020, 1021] [
  ⟨.op (.asg (.slot 0)), some 2, none⟩, 
  ⟨.op (.len false (.slot 2)), some 3, none⟩, 
  ⟨.op (.asg (.con (.int .i64 0))), some 4, none⟩]) c73_8) c73_0
abbrev s73 : SCode := .seq (.reg [1019] [
  ⟨.op (.asg (.con (.bool false))), some 1, none⟩]) c73_9
theorem ok73 : okFn Go.Proofs.Try.prog Go.Proofs.Try.f73 v73 s73 r73 1 = true := by kernel_rfl

def v74 : List Nat := [0, 1, 2, 3, 4, 17, 5]
def r74 : List SRes := [.cell 2 4 true]
abbrev c74_0 : SCode := .seq (.reg [32, 1034] [
  ⟨.op (.load 4 true (.slot 3)), none, none⟩, 
  ⟨.op (.store 4 true (.slot 2) (.slot 7)), none, none⟩]) (.ret)
abbrev c74_1 : SCode := .reg [18, 19, 1035] [
  ⟨.op (.mv (.slot 4)), none, none⟩, 
  ⟨.op (.bin .add (.slot 7) (.con (.int .i64 1))), none, none⟩, 
  ⟨.op (.asg (.slot 8)), some 4, none⟩]
abbrev c74_2 : SCode := .reg [26, 27, 28, 29, 30, 31, 1039] [
  ⟨.op (.faddr 3 (.slot 3)), none, none⟩, 
  ⟨.op (.load 1 false (.slot 7)), none, none⟩, 
  ⟨.op (.load 4 true (.slot 6)), none, none⟩, 
  ⟨.op (.bsl 31 1 [(.int .i64 0), (.int .i64 0), (.str []), (.osl 0 31 0 [])] [(0, 4, (.slot 9))]), none, none⟩, 
  ⟨.op (.append 31 4 (.slot 8) (.slot 10)), none, none⟩, 
  ⟨.op (.faddr 3 (.slot 3)), none, none⟩, 
  ⟨.op (.store 1 true (.slot 12) (.slot 11)), none, none⟩]
abbrev c74_3 : SCode := .seq (.block 1 (.seq (.reg [20, 21, 22, 23, 24, 25, 1039, 1040] [
  ⟨.op (.faddr 3 (.slot 1)), none, none⟩, 
  ⟨.op (.load 1 false (.slot 7)), none, none⟩, 
  ⟨.op (.mv (.slot 4)), none, none⟩, 
  ⟨.op (.iaddr 4 (.slot 8) (.slot 9)), none, none⟩, 
  ⟨.op (.load 4 true (.slot 10)), none, none⟩, 
  ⟨.call 74 [(.slot 11)] false, none, none⟩, 
  ⟨.op (.mk 31 [(.int .i64 0), (.int .i64 0), (.str []), (.osl 0 31 0 [])]), some 6, none⟩, 
  ⟨.op (.store 4 true (.slot 6) (.slot 12)), none, none⟩]) c74_2)) c74_1
abbrev c74_4 : SCode := .cond (.slot 5) (.skip) (.exit 0)
abbrev b74_0 : SCode := .seq (.seq (.reg [13, 14, 15, 16, 1037] [
  ⟨.op (.mv (.slot 4)), none, none⟩, 
  ⟨.op (.faddr 3 (.slot 1)), none, none⟩, 
  ⟨.op (.load 1 false (.slot 8)), none, none⟩, 
  ⟨.op (.len false (.slot 9)), none, none⟩, 
  ⟨.op (.bin .lss (.slot 7) (.slot 10)), some 5, none⟩]) c74_4) c74_3
def l74_0 : SCode := .loop b74_0
abbrev c74_6 : SCode := .block 0 (l74_0)
abbrev c74_7 : SCode := .seq (.seq (.reg [1033] [
  ⟨.op (.asg (.con (.int .i64 0))), some 4, none⟩]) c74_6) c74_0
abbrev c74_8 : SCode := .seq (.reg [6, 7, 8, 9, 10, 11, 12, 1040, 1041] [
  ⟨.op (.faddr 0 (.slot 1)), none, none⟩, 
  ⟨.op (.load 1 false (.slot 7)), none, none⟩, 
  ⟨.op (.faddr 1 (.slot 1)), none, none⟩, 
  ⟨.op (.load 1 false (.slot 9)), none, none⟩, 
  ⟨.op (.faddr 2 (.slot 1)), none, none⟩, 
  ⟨.op (.load 1 false (.slot 11)), none, none⟩, 
  ⟨.op (.build [(.int .i64 0), (.int .i64 0), (.str []), (.osl 0 31 0 [])] [(0, 1, (.slot 8)), (1, 1, (.slot 10)), (2, 1, (.slot 12))]), none, none⟩, 
  ⟨.op (.mk 31 [(.int .i64 0), (.int .i64 0), (.str []), (.osl 0 31 0 [])]), some 3, none⟩, 
  ⟨.op (.store 4 true (.slot 3) (.slot 13)), none, none⟩]) c74_7
abbrev s74 : SCode := .seq (.reg [1033, 1034] [
  ⟨.op (.box 31 4 (.slot 0)), some 1, none⟩, 
  ⟨.op (.mk 31 [(.int .i64 0), (.int .i64 0), (.str []), (.osl 0 31 0 [])]), some 2, none⟩]) c74_8
theorem ok74 : okFn Go.Proofs.Try.prog Go.Proofs.Try.f74 v74 s74 r74 1 = true := by kernel_rfl

def v75 : List Nat := [0, 1, 2, 4, 5, 6]
def r75 : List SRes := [.cell 5 4 true]
abbrev c75_0 : SCode := .seq (.reg [7, 8, 9, 10, 11, 1017] [
  ⟨.op (.mv (.slot 0)), none, none⟩, 
  ⟨.op (.load 4 true (.slot 3)), none, none⟩, 
  ⟨.op (.load 4 true (.slot 4)), none, none⟩, 
  ⟨.op (.bsl 31 2 [(.int .i64 0), (.int .i64 0), (.str []), (.osl 0 31 0 [])] [(0, 4, (.slot 7)), (4, 4, (.slot 8))]), none, none⟩, 
  ⟨.op (.build [(.int .i64 0), (.int .i64 0), (.str []), (.osl 0 31 0 [])] [(0, 1, (.slot 6)), (3, 1, (.slot 9))]), none, none⟩, 
  ⟨.op (.store 4 true (.slot 5) (.slot 10)), none, none⟩]) (.ret)
abbrev s75 : SCode := .seq (.reg [1012, 1013, 1014] [
  ⟨.op (.box 31 4 (.slot 1)), some 3, none⟩, 
  ⟨.op (.box 31 4 (.slot 2)), some 4, none⟩, 
  ⟨.op (.mk 31 [(.int .i64 0), (.int .i64 0), (.str []), (.osl 0 31 0 [])]), some 5, none⟩]) c75_0
theorem ok75 : okFn Go.Proofs.Try.prog Go.Proofs.Try.f75 v75 s75 r75 3 = true := by kernel_rfl

def v76 : List Nat := [0, 1, 2, 3, 9, 10, 11, 12, 5]
def r76 : List SRes := [.cell 2 4 true]
abbrev c76_0 : SCode := .seq (.reg [23, 1025] [
  ⟨.op (.load 4 true (.slot 3)), none, none⟩, 
  ⟨.op (.store 4 true (.slot 2) (.slot 9)), none, none⟩]) (.ret)
abbrev c76_1 : SCode := .reg [22, 1025] [
  ⟨.op (.bin .add (.slot 6) (.con (.int .i64 1))), none, none⟩, 
  ⟨.op (.asg (.slot 9)), some 6, none⟩]
abbrev c76_2 : SCode := .dreg [15, 16, 17, 18, 19, 20, 21, 1031] [
  ⟨.op (.faddr 3 (.slot 3)), none, none⟩, 
  ⟨.op (.load 1 false (.slot 9)), none, none⟩, 
  ⟨.op (.load 4 true (.slot 8)), none, none⟩, 
  ⟨.call 76 [(.slot 11)] false, none, none⟩, 
  ⟨.op (.bsl 31 1 [(.int .i64 0), (.int .i64 0), (.str []), (.osl 0 31 0 [])] [(0, 4, (.slot 12))]), none, none⟩, 
  ⟨.op (.append 31 4 (.slot 10) (.slot 13)), none, none⟩, 
  ⟨.op (.faddr 3 (.slot 3)), none, none⟩, 
  ⟨.op (.store 1 true (.slot 15) (.slot 14)), none, none⟩]
  [[], [0], [], [2], [2, 3], [0, 1, 2, 3, 4], [0, 1, 2, 3, 4, 5], [0, 1, 2, 3, 4, 5, 6]] 5 [(4, 3)] [([], none), ([true], none), ([false, false], none), ([false, false, true], none), ([false, false, true, true], (some [3]))] [true, true, true, false, true]
abbrev c76_3 : SCode := .seq (.block 1 (.seq (.reg [13, 14, 1026, 1027] [
  ⟨.op (.iaddr 4 (.slot 4) (.slot 6)), none, none⟩, 
  ⟨.op (.load 4 true (.slot 9)), none, none⟩, 
  ⟨.op (.mk 31 [(.int .i64 0), (.int .i64 0), (.str []), (.osl 0 31 0 [])]), some 8, none⟩, 
  ⟨.op (.store 4 true (.slot 8) (.slot 10)), none, none⟩]) c76_2)) c76_1
abbrev c76_4 : SCode := .seq (.cond (.slot 7) (.skip) (.exit 0)) c76_3
abbrev b76_0 : SCode := .seq (.reg [1024] [
  ⟨.op (.bin .lss (.slot 6) (.slot 5)), some 7, none⟩]) c76_4
def l76_0 : SCode := .loop b76_0
abbrev c76_6 : SCode := .block 0 (l76_0)
abbrev c76_7 : SCode := .seq (.seq (.reg [8, 1025, 1026, 1027] [
  ⟨.op (.faddr 3 (.slot 1)), none, none⟩, 
  ⟨.op (.load 1 false (.slot 9)), some 4, none⟩, 
  ⟨.op (.len false (.slot 4)), some 5, none⟩, 
  ⟨.op (.asg (.con (.int .i64 0))), some 6, none⟩]) c76_6) c76_0
abbrev c76_8 : SCode := .seq (.reg [7, 1025] [
  ⟨.op (.faddr 3 (.slot 3)), none, none⟩, 
  ⟨.op (.store 1 true (.slot 9) (.con (.osl 0 31 0 []))), none, none⟩]) c76_7
abbrev c76_9 : SCode := .seq (.reg [6, 1025, 1026] [
  ⟨.op (.load 4 true (.slot 1)), none, none⟩, 
  ⟨.op (.mk 31 [(.int .i64 0), (.int .i64 0), (.str []), (.osl 0 31 0 [])]), some 3, none⟩, 
  ⟨.op (.store 4 true (.slot 3) (.slot 9)), none, none⟩]) c76_8
abbrev s76 : SCode := .seq (.reg [1024, 1025] [
  ⟨.op (.box 31 4 (.slot 0)), some 1, none⟩, 
  ⟨.op (.mk 31 [(.int .i64 0), (.int .i64 0), (.str []), (.osl 0 31 0 [])]), some 2, none⟩]) c76_9
theorem ok76 : okFn Go.Proofs.Try.prog Go.Proofs.Try.f76 v76 s76 r76 1 = true := by kernel_rfl

def v83 : List Nat := [0, 1, 2, 3, 4, 5]
def r83 : List SRes := [.tmp 2, .tmp 3]
abbrev c83_0 : SCode := .seq (.reg [12, 13, 14, 1018, 1019] [
  ⟨.op (.faddr 0 (.slot 4)), none, none⟩, 
  ⟨.op (.load 1 false (.slot 6)), none, none⟩, 
  ⟨.op (.mv (.slot 5)), none, none⟩, 
  ⟨.op (.asg (.slot 7)), some 2, none⟩, 
  ⟨.op (.asg (.slot 8)), some 3, none⟩]) (.ret)
abbrev c83_1 : SCode := .seq (.reg [7, 8, 9, 6, 10, 11, 1021, 1022, 1023] [
  ⟨.op (.load 4 true (.slot 1)), none, none⟩, 
  ⟨.op (.bsl 9 0 [(.str [])] []), none, none⟩, 
  ⟨.call 89 [(.slot 6), (.slot 7)] false, none, none⟩, 
  ⟨.op (.mvt 8), none, none⟩, 
  ⟨.op (.ext 9 0), none, none⟩, 
  ⟨.op (.ext 9 1), none, none⟩, 
  ⟨.op (.mk 103 [(.int .i64 0), (.osl 0 111 0 [])]), some 4, none⟩, 
  ⟨.op (.store 2 true (.slot 4) (.slot 10)), none, none⟩, 
  ⟨.op (.asg (.slot 11)), some 5, none⟩]) c83_0
abbrev s83 : SCode := .seq (.reg [1015, 1016, 1017] [
  ⟨.op (.box 31 4 (.slot 0)), some 1, none⟩, 
  ⟨.op (.asg (.con (.int .i64 0))), some 2, none⟩, 
  ⟨.op (.asg (.con (.bool false))), some 3, none⟩]) c83_1
theorem ok83 : okFn Go.Proofs.Try.prog Go.Proofs.Try.f83 v83 s83 r83 1 = true := by kernel_rfl

def v84 : List Nat := [0, 2, 3, 7, 45]
def r84 : List SRes := [.tmp 1]
abbrev c84_0 : SCode := .seq (.reg [46, 47, 48, 1052] [
  ⟨.op (.mv (.slot 0)), none, none⟩, 
  ⟨.op (.len false (.slot 5)), none, none⟩, 
  ⟨.op (.bin .leq (.slot 6) (.con (.int .i64 8))), none, none⟩, 
  ⟨.op (.asg (.slot 7)), some 1, none⟩]) (.ret)
abbrev c84_1 : SCode := .reg [8, 9, 1051] [
  ⟨.op (.mv (.slot 2)), none, none⟩, 
  ⟨.op (.bin .add (.slot 5) (.con (.int .i64 1))), none, none⟩, 
  ⟨.op (.asg (.slot 6)), some 2, none⟩]
abbrev c84_2 : SCode := .seq (.reg [1049] [
  ⟨.op (.asg (.con (.bool false))), some 1, none⟩]) (.ret)
abbrev c84_3 : SCode := .cond (.slot 4) c84_2 (.skip)
abbrev c84_4 : SCode := .seq (.block 1 (.seq (.reg [10, 11, 12, 13, 14, 15, 16, 17, 18, 19, 20, 21, 22, 23, 24, 25, 26, 27, 28, 29, 30, 31, 32, 33, 34, 35, 36, 37, 38, 39, 40, 41, 42, 43, 44, 1084] [
  ⟨.op (.mv (.slot 0)), none, none⟩, 
  ⟨.op (.mv (.slot 2)), none, none⟩, 
  ⟨.op (.iaddr 3 (.slot 5) (.slot 6)), none, none⟩, 
  ⟨.op (.faddr 0 (.slot 7)), none, none⟩, 
  ⟨.op (.load 1 false (.slot 8)), none, none⟩, 
  ⟨.call 90 [(.slot 9)] false, none, none⟩, 
  ⟨.op (.not (.slot 10)), none, none⟩, 
  ⟨.op (.mv (.slot 11)), none, none⟩, 
  ⟨.op (.mv (.slot 0)), none, some (12, false)⟩, 
  ⟨.op (.mv (.slot 2)), none, some (12, false)⟩, 
  ⟨.op (.iaddr 3 (.slot 13) (.slot 14)), none, some (12, false)⟩, 
  ⟨.op (.faddr 1 (.slot 15)), none, some (12, false)⟩, 
  ⟨.op (.load 1 false (.slot 16)), none, some (12, false)⟩, 
  ⟨.call 58 [(.slot 17), (.con (.int .i64 (-10000))), (.con (.int .i64 10000))] false, none, some (12, false)⟩, 
  ⟨.op (.not (.slot 18)), none, some (12, false)⟩, 
  ⟨.op (.pick (.slot 12) (.con (.bool true)) (.slot 19)), none, none⟩, 
  ⟨.op (.mv (.slot 20)), none, none⟩, 
  ⟨.op (.mv (.slot 0)), none, some (21, false)⟩, 
  ⟨.op (.mv (.slot 2)), none, some (21, false)⟩, 
  ⟨.op (.iaddr 3 (.slot 22) (.slot 23)), none, some (21, false)⟩, 
  ⟨.op (.faddr 2 (.slot 24)), none, some (21, false)⟩, 
  ⟨.op (.load 1 false (.slot 25)), none, some (21, false)⟩, 
  ⟨.call 58 [(.slot 26), (.con (.int .i64 (-10000))), (.con (.int .i64 10000))] false, none, some (21, false)⟩, 
  ⟨.op (.not (.slot 27)), none, some (21, false)⟩, 
  ⟨.op (.pick (.slot 21) (.con (.bool true)) (.slot 28)), none, none⟩, 
  ⟨.op (.mv (.slot 29)), none, none⟩, 
  ⟨.op (.mv (.slot 0)), none, some (30, false)⟩, 
  ⟨.op (.mv (.slot 0)), none, some (30, false)⟩, 
  ⟨.op (.mv (.slot 2)), none, some (30, false)⟩, 
  ⟨.op (.iaddr 3 (.slot 32) (.slot 33)), none, some (30, false)⟩, 
  ⟨.op (.faddr 0 (.slot 34)), none, some (30, false)⟩, 
  ⟨.op (.load 1 false (.slot 35)), none, some (30, false)⟩, 
  ⟨.call 91 [(.slot 31), (.slot 36)] false, none, some (30, false)⟩, 
  ⟨.op (.mv (.slot 2)), none, some (30, false)⟩, 
  ⟨.op (.bin .neq (.slot 37) (.slot 38)), none, some (30, false)⟩, 
  ⟨.op (.pick (.slot 30) (.con (.bool true)) (.slot 39)), some 4, none⟩]) c84_3)) c84_1
abbrev c84_5 : SCode := .cond (.slot 3) (.skip) (.exit 0)
abbrev b84_0 : SCode := .seq (.seq (.reg [4, 5, 6, 1052] [
  ⟨.op (.mv (.slot 2)), none, none⟩, 
  ⟨.op (.mv (.slot 0)), none, none⟩, 
  ⟨.op (.len false (.slot 6)), none, none⟩, 
  ⟨.op (.bin .lss (.slot 5) (.slot 7)), some 3, none⟩]) c84_5) c84_4
def l84_0 : SCode := .loop b84_0
abbrev c84_7 : SCode := .block 0 (l84_0)
abbrev c84_8 : SCode := .seq (.seq (.reg [1049] [
  ⟨.op (.asg (.con (.int .i64 0))), some 2, none⟩]) c84_7) c84_0
abbrev s84 : SCode := .seq (.reg [1049] [
  ⟨.op (.asg (.con (.bool false))), some 1, none⟩]) c84_8
theorem ok84 : okFn Go.Proofs.Try.prog Go.Proofs.Try.f84 v84 s84 r84 1 = true := by kernel_rfl

def v85 : List Nat := [0, 1, 2, 3, 4, 5]
def r85 : List SRes := [.tmp 2, .tmp 3]
abbrev c85_0 : SCode := .seq (.reg [11, 12, 13, 1017, 1018] [
  ⟨.op (.faddr 0 (.slot 4)), none, none⟩, 
  ⟨.op (.load 1 false (.slot 6)), none, none⟩, 
  ⟨.op (.mv (.slot 5)), none, none⟩, 
  ⟨.op (.asg (.slot 7)), some 2, none⟩, 
  ⟨.op (.asg (.slot 8)), some 3, none⟩]) (.ret)
abbrev c85_1 : SCode := .seq (.reg [7, 8, 6, 9, 10, 1019, 1020, 1021] [
  ⟨.op (.load 4 true (.slot 1)), none, none⟩, 
  ⟨.call 92 [(.slot 6), (.con (.osl 0 0 0 []))] false, none, none⟩, 
  ⟨.op (.mvt 7), none, none⟩, 
  ⟨.op (.ext 8 0), none, none⟩, 
  ⟨.op (.ext 8 1), none, none⟩, 
  ⟨.op (.mk 103 [(.int .i64 0), (.osl 0 111 0 [])]), some 4, none⟩, 
  ⟨.op (.store 2 true (.slot 4) (.slot 9)), none, none⟩, 
  ⟨.op (.asg (.slot 10)), some 5, none⟩]) c85_0
abbrev s85 : SCode := .seq (.reg [1014, 1015, 1016] [
  ⟨.op (.box 31 4 (.slot 0)), some 1, none⟩, 
  ⟨.op (.asg (.con (.int .i64 0))), some 2, none⟩, 
  ⟨.op (.asg (.con (.bool false))), some 3, none⟩]) c85_1
theorem ok85 : okFn Go.Proofs.Try.prog Go.Proofs.Try.f85 v85 s85 r85 1 = true := by kernel_rfl

def v86 : List Nat := [0, 2, 5, 6, 7, 8, 4, 3, 35]
def r86 : List SRes := [.tmp 1]
abbrev c86_0 : SCode := .seq (.reg [37, 38, 39, 1043] [
  ⟨.op (.mv (.slot 0)), none, none⟩, 
  ⟨.op (.len false (.slot 9)), none, none⟩, 
  ⟨.op (.bin .leq (.slot 10) (.con (.int .i64 8))), none, none⟩, 
  ⟨.op (.asg (.slot 11)), some 1, none⟩]) (.ret)
abbrev c86_1 : SCode := .reg [36, 1041] [
  ⟨.op (.bin .add (.slot 4) (.con (.int .i64 1))), none, none⟩, 
  ⟨.op (.asg (.slot 9)), some 4, none⟩]
abbrev c86_2 : SCode := .seq (.reg [1040] [
  ⟨.op (.asg (.con (.bool false))), some 1, none⟩]) (.ret)
abbrev c86_3 : SCode := .cond (.slot 8) c86_2 (.skip)
abbrev c86_4 : SCode := .seq (.reg [12, 13, 14, 15, 16, 17, 18, 19, 20, 21, 22, 23, 24, 25, 26, 27, 28, 29, 30, 31, 32, 33, 34, 1063] [
  ⟨.op (.faddr 0 (.slot 6)), none, none⟩, 
  ⟨.op (.load 1 false (.slot 9)), none, none⟩, 
  ⟨.call 93 [(.slot 10)] false, none, none⟩, 
  ⟨.op (.not (.slot 11)), none, none⟩, 
  ⟨.op (.mv (.slot 12)), none, none⟩, 
  ⟨.op (.faddr 1 (.slot 6)), none, some (13, false)⟩, 
  ⟨.op (.load 1 false (.slot 14)), none, some (13, false)⟩, 
  ⟨.call 49 [(.slot 15), (.con (.int .i64 (-10000))), (.con (.int .i64 10000))] false, none, some (13, false)⟩, 
  ⟨.op (.not (.slot 16)), none, some (13, false)⟩, 
  ⟨.op (.pick (.slot 13) (.con (.bool true)) (.slot 17)), none, none⟩, 
  ⟨.op (.mv (.slot 18)), none, none⟩, 
  ⟨.op (.faddr 2 (.slot 6)), none, some (19, false)⟩, 
  ⟨.op (.load 1 false (.slot 20)), none, some (19, false)⟩, 
  ⟨.call 49 [(.slot 21), (.con (.int .i64 (-10000))), (.con (.int .i64 10000))] false, none, some (19, false)⟩, 
  ⟨.op (.not (.slot 22)), none, some (19, false)⟩, 
  ⟨.op (.pick (.slot 19) (.con (.bool true)) (.slot 23)), none, none⟩, 
  ⟨.op (.mv (.slot 24)), none, none⟩, 
  ⟨.op (.mv (.slot 0)), none, some (25, false)⟩, 
  ⟨.op (.faddr 0 (.slot 6)), none, some (25, false)⟩, 
  ⟨.op (.load 1 false (.slot 27)), none, some (25, false)⟩, 
  ⟨.call 94 [(.slot 26), (.slot 28)] false, none, some (25, false)⟩, 
  ⟨.op (.mv (.slot 7)), none, some (25, false)⟩, 
  ⟨.op (.bin .neq (.slot 29) (.slot 30)), none, some (25, false)⟩, 
  ⟨.op (.pick (.slot 25) (.con (.bool true)) (.slot 31)), some 8, none⟩]) c86_3
abbrev c86_5 : SCode := .seq (.block 1 (.seq (.reg [9, 10, 11, 1043, 1044, 1045] [
  ⟨.op (.mv (.slot 4)), none, none⟩, 
  ⟨.op (.iaddr 3 (.slot 2) (.slot 4)), none, none⟩, 
  ⟨.op (.load 3 true (.slot 10)), none, none⟩, 
  ⟨.op (.mk 75 [(.str []), (.int .i64 0), (.int .i64 0)]), some 6, none⟩, 
  ⟨.op (.asg (.slot 9)), some 7, none⟩, 
  ⟨.op (.store 3 false (.slot 6) (.slot 11)), none, none⟩]) c86_4)) c86_1
abbrev c86_6 : SCode := .seq (.cond (.slot 5) (.skip) (.exit 0)) c86_5
abbrev b86_0 : SCode := .seq (.reg [1040] [
  ⟨.op (.bin .lss (.slot 4) (.slot 3)), some 5, none⟩]) c86_6
def l86_0 : SCode := .loop b86_0
abbrev c86_8 : SCode := .block 0 (l86_0)
abbrev c86_9 : SCode := .seq (.seq (.reg [1040, 1041, 1042] [
  ⟨.op (.asg (.slot 0)), some 2, none⟩, 
  ⟨.op (.len false (.slot 2)), some 3, none⟩, 
  ⟨.op (.asg (.con (.int .i64 0))), some 4, none⟩]) c86_8) c86_0
abbrev s86 : SCode := .seq (.reg [1040] [
  ⟨.op (.asg (.con (.bool false))), some 1, none⟩]) c86_9
theorem ok86 : okFn Go.Proofs.Try.prog Go.Proofs.Try.f86 v86 s86 r86 1 = true := by kernel_rfl

def v89 : List Nat := [0, 1, 2, 4, 5, 6, 14, 7, 29, 32, 8, 56, 59, 9, 10, 11, 12, 83, 91, 100, 109, 125]
def r89 : List SRes := [.cell 3 2 true, .tmp 4]
abbrev c89_0 : SCode := .seq (.reg [141, 1143, 1144] [
  ⟨.op (.load 2 true (.slot 5)), none, none⟩, 
  ⟨.op (.store 2 true (.slot 3) (.slot 22)), none, none⟩, 
  ⟨.op (.asg (.con (.bool false))), some 4, none⟩]) (.ret)
abbrev c89_1 : SCode := .seq (.reg [90, 1143, 1144] [
  ⟨.op (.load 2 true (.slot 5)), none, none⟩, 
  ⟨.op (.store 2 true (.slot 3) (.slot 22)), none, none⟩, 
  ⟨.op (.asg (.con (.bool false))), some 4, none⟩]) (.ret)
abbrev c89_2 : SCode := .seq (.reg [95, 96, 97, 98, 99, 1147, 1148] [
  ⟨.op (.load 2 true (.slot 13)), none, none⟩, 
  ⟨.op (.load 2 true (.slot 15)), none, none⟩, 
  ⟨.call 97 [(.slot 22), (.slot 23)] false, none, none⟩, 
  ⟨.op (.ext 24 0), none, none⟩, 
  ⟨.op (.ext 24 1), none, none⟩, 
  ⟨.op (.store 2 true (.slot 3) (.slot 25)), none, none⟩, 
  ⟨.op (.asg (.slot 26)), some 4, none⟩]) (.ret)
abbrev c89_3 : SCode := .seq (.reg [104, 105, 106, 107, 108, 1147, 1148] [
  ⟨.op (.load 2 true (.slot 13)), none, none⟩, 
  ⟨.op (.load 2 true (.slot 15)), none, none⟩, 
  ⟨.call 98 [(.slot 22), (.slot 23)] false, none, none⟩, 
  ⟨.op (.ext 24 0), none, none⟩, 
  ⟨.op (.ext 24 1), none, none⟩, 
  ⟨.op (.store 2 true (.slot 3) (.slot 25)), none, none⟩, 
  ⟨.op (.asg (.slot 26)), some 4, none⟩]) (.ret)
abbrev c89_4 : SCode := .seq (.reg [119, 120, 121, 122, 123, 124, 1148, 1149] [
  ⟨.op (.load 2 true (.slot 13)), none, none⟩, 
  ⟨.op (.faddr 0 (.slot 15)), none, none⟩, 
  ⟨.op (.load 1 false (.slot 23)), none, none⟩, 
  ⟨.call 99 [(.slot 22), (.slot 24)] false, none, none⟩, 
  ⟨.op (.ext 25 0), none, none⟩, 
  ⟨.op (.ext 25 1), none, none⟩, 
  ⟨.op (.store 2 true (.slot 3) (.slot 26)), none, none⟩, 
  ⟨.op (.asg (.slot 27)), some 4, none⟩]) (.ret)
abbrev c89_5 : SCode := .seq (.reg [135, 136, 137, 138, 139, 140, 1148, 1149] [
  ⟨.op (.load 2 true (.slot 15)), none, none⟩, 
  ⟨.op (.faddr 0 (.slot 13)), none, none⟩, 
  ⟨.op (.load 1 false (.slot 23)), none, none⟩, 
  ⟨.call 99 [(.slot 22), (.slot 24)] false, none, none⟩, 
  ⟨.op (.ext 25 0), none, none⟩, 
  ⟨.op (.ext 25 1), none, none⟩, 
  ⟨.op (.store 2 true (.slot 3) (.slot 26)), none, none⟩, 
  ⟨.op (.asg (.slot 27)), some 4, none⟩]) (.ret)
abbrev c89_6 : SCode := .cond (.slot 21) c89_5 (.skip)
abbrev c89_7 : SCode := .seq (.reg [126, 127, 128, 129, 130, 131, 132, 133, 134, 1151] [
  ⟨.op (.faddr 0 (.slot 2)), none, none⟩, 
  ⟨.op (.load 1 false (.slot 22)), none, none⟩, 
  ⟨.op (.bin .eql (.slot 23) (.con (.int .i64 6))), none, none⟩, 
  ⟨.op (.mv (.slot 24)), none, none⟩, 
  ⟨.op (.faddr 1 (.slot 13)), none, some (25, true)⟩, 
  ⟨.op (.load 1 false (.slot 26)), none, some (25, true)⟩, 
  ⟨.op (.len false (.slot 27)), none, some (25, true)⟩, 
  ⟨.op (.bin .eql (.slot 28) (.con (.int .i64 0))), none, some (25, true)⟩, 
  ⟨.op (.pick (.slot 25) (.slot 29) (.con (.bool false))), none, none⟩, 
  ⟨.op (.asg (.slot 30)), some 21, none⟩]) c89_6
abbrev c89_8 : SCode := .cond (.slot 20) c89_4 c89_7
abbrev c89_9 : SCode := .seq (.reg [110, 111, 112, 113, 114, 115, 116, 117, 118, 1151] [
  ⟨.op (.faddr 0 (.slot 2)), none, none⟩, 
  ⟨.op (.load 1 false (.slot 22)), none, none⟩, 
  ⟨.op (.bin .eql (.slot 23) (.con (.int .i64 6))), none, none⟩, 
  ⟨.op (.mv (.slot 24)), none, none⟩, 
  ⟨.op (.faddr 1 (.slot 15)), none, some (25, true)⟩, 
  ⟨.op (.load 1 false (.slot 26)), none, some (25, true)⟩, 
  ⟨.op (.len false (.slot 27)), none, some (25, true)⟩, 
  ⟨.op (.bin .eql (.slot 28) (.con (.int .i64 0))), none, some (25, true)⟩, 
  ⟨.op (.pick (.slot 25) (.slot 29) (.con (.bool false))), none, none⟩, 
  ⟨.op (.asg (.slot 30)), some 20, none⟩]) c89_8
abbrev c89_10 : SCode := .cond (.slot 19) c89_3 c89_9
abbrev c89_11 : SCode := .seq (.reg [101, 102, 103, 1145] [
  ⟨.op (.faddr 0 (.slot 2)), none, none⟩, 
  ⟨.op (.load 1 false (.slot 22)), none, none⟩, 
  ⟨.op (.bin .eql (.slot 23) (.con (.int .i64 5))), none, none⟩, 
  ⟨.op (.asg (.slot 24)), some 19, none⟩]) c89_10
abbrev c89_12 : SCode := .cond (.slot 18) c89_2 c89_11
abbrev c89_13 : SCode := .seq (.reg [92, 93, 94, 1145] [
  ⟨.op (.faddr 0 (.slot 2)), none, none⟩, 
  ⟨.op (.load 1 false (.slot 22)), none, none⟩, 
  ⟨.op (.bin .eql (.slot 23) (.con (.int .i64 4))), none, none⟩, 
  ⟨.op (.asg (.slot 24)), some 18, none⟩]) c89_12
abbrev c89_14 : SCode := .cond (.slot 17) c89_1 c89_13
abbrev c89_15 : SCode := .seq (.block 1 (.seq (.reg [84, 85, 86, 87, 88, 89, 1148] [
  ⟨.op (.mv (.slot 14)), none, none⟩, 
  ⟨.op (.not (.slot 22)), none, none⟩, 
  ⟨.op (.mv (.slot 23)), none, none⟩, 
  ⟨.op (.mv (.slot 16)), none, some (24, false)⟩, 
  ⟨.op (.not (.slot 25)), none, some (24, false)⟩, 
  ⟨.op (.pick (.slot 24) (.con (.bool true)) (.slot 26)), none, none⟩, 
  ⟨.op (.asg (.slot 27)), some 17, none⟩]) c89_14)) c89_0
abbrev c89_16 : SCode := .seq (.reg [75, 76, 77, 78, 79, 80, 74, 81, 82, 1151, 1152, 1153] [
  ⟨.op (.faddr 3 (.slot 2)), none, none⟩, 
  ⟨.op (.load 1 false (.slot 22)), none, none⟩, 
  ⟨.op (.iaddr 4 (.slot 23) (.con (.int .i64 1))), none, none⟩, 
  ⟨.op (.load 4 true (.slot 24)), none, none⟩, 
  ⟨.op (.mv (.slot 1)), none, none⟩, 
  ⟨.call 89 [(.slot 25), (.slot 26)] false, none, none⟩, 
  ⟨.op (.mvt 27), none, none⟩, 
  ⟨.op (.ext 28 0), none, none⟩, 
  ⟨.op (.ext 28 1), none, none⟩, 
  ⟨.op (.mk 103 [(.int .i64 0), (.osl 0 111 0 [])]), some 15, none⟩, 
  ⟨.op (.store 2 true (.slot 15) (.slot 29)), none, none⟩, 
  ⟨.op (.asg (.slot 30)), some 16, none⟩]) c89_15
abbrev c89_17 : SCode := .seq (.reg [66, 67, 68, 69, 70, 71, 65, 72, 73, 1151, 1152, 1153] [
  ⟨.op (.faddr 3 (.slot 2)), none, none⟩, 
  ⟨.op (.load 1 false (.slot 22)), none, none⟩, 
  ⟨.op (.iaddr 4 (.slot 23) (.con (.int .i64 0))), none, none⟩, 
  ⟨.op (.load 4 true (.slot 24)), none, none⟩, 
  ⟨.op (.mv (.slot 1)), none, none⟩, 
  ⟨.call 89 [(.slot 25), (.slot 26)] false, none, none⟩, 
  ⟨.op (.mvt 27), none, none⟩, 
  ⟨.op (.ext 28 0), none, none⟩, 
  ⟨.op (.ext 28 1), none, none⟩, 
  ⟨.op (.mk 103 [(.int .i64 0), (.osl 0 111 0 [])]), some 13, none⟩, 
  ⟨.op (.store 2 true (.slot 13) (.slot 29)), none, none⟩, 
  ⟨.op (.asg (.slot 30)), some 14, none⟩]) c89_16
abbrev c89_18 : SCode := .seq (.reg [31, 1143, 1144] [
  ⟨.op (.load 2 true (.slot 7)), none, none⟩, 
  ⟨.op (.store 2 true (.slot 3) (.slot 22)), none, none⟩, 
  ⟨.op (.asg (.con (.bool true))), some 4, none⟩]) (.ret)
abbrev c89_19 : SCode := .seq (.reg [30, 1143, 1144] [
  ⟨.op (.load 2 true (.slot 5)), none, none⟩, 
  ⟨.op (.store 2 true (.slot 3) (.slot 22)), none, none⟩, 
  ⟨.op (.asg (.con (.bool false))), some 4, none⟩]) (.ret)
abbrev c89_20 : SCode := .cond (.slot 8) c89_19 (.skip)
abbrev c89_21 : SCode := .seq (.seq (.reg [27, 28, 1144] [
  ⟨.op (.load 2 true (.slot 7)), none, none⟩, 
  ⟨.call 95 [(.slot 22)] false, none, none⟩, 
  ⟨.op (.not (.slot 23)), some 8, none⟩]) c89_20) c89_18
abbrev c89_22 : SCode := .seq (.reg [24, 25, 26, 1145, 1146] [
  ⟨.op (.faddr 1 (.slot 2)), none, none⟩, 
  ⟨.op (.load 1 false (.slot 22)), none, none⟩, 
  ⟨.op (.build [(.int .i64 0), (.osl 0 111 0 [])] [(0, 1, (.slot 23))]), none, none⟩, 
  ⟨.op (.mk 103 [(.int .i64 0), (.osl 0 111 0 [])]), some 7, none⟩, 
  ⟨.op (.store 2 true (.slot 7) (.slot 24)), none, none⟩]) c89_21
abbrev c89_23 : SCode := .seq (.reg [58, 1143, 1144] [
  ⟨.op (.load 2 true (.slot 10)), none, none⟩, 
  ⟨.op (.store 2 true (.slot 3) (.slot 22)), none, none⟩, 
  ⟨.op (.asg (.con (.bool true))), some 4, none⟩]) (.ret)
abbrev c89_24 : SCode := .seq (.reg [57, 1143, 1144] [
  ⟨.op (.load 2 true (.slot 5)), none, none⟩, 
  ⟨.op (.store 2 true (.slot 3) (.slot 22)), none, none⟩, 
  ⟨.op (.asg (.con (.bool false))), some 4, none⟩]) (.ret)
abbrev c89_25 : SCode := .cond (.slot 11) c89_24 (.skip)
abbrev c89_26 : SCode := .seq (.seq (.reg [47, 48, 49, 50, 51, 52, 53, 54, 55, 1151] [
  ⟨.op (.mv (.slot 1)), none, none⟩, 
  ⟨.op (.faddr 2 (.slot 2)), none, none⟩, 
  ⟨.op (.load 1 false (.slot 23)), none, none⟩, 
  ⟨.call 96 [(.slot 22), (.slot 24)] false, none, none⟩, 
  ⟨.op (.not (.slot 25)), none, none⟩, 
  ⟨.op (.mv (.slot 26)), none, none⟩, 
  ⟨.op (.load 2 true (.slot 10)), none, some (27, false)⟩, 
  ⟨.call 95 [(.slot 28)] false, none, some (27, false)⟩, 
  ⟨.op (.not (.slot 29)), none, some (27, false)⟩, 
  ⟨.op (.pick (.slot 27) (.con (.bool true)) (.slot 30)), some 11, none⟩]) c89_25) c89_23
abbrev c89_27 : SCode := .seq (.reg [42, 43, 44, 45, 46, 1147, 1148] [
  ⟨.op (.faddr 2 (.slot 2)), none, none⟩, 
  ⟨.op (.load 1 false (.slot 22)), none, none⟩, 
  ⟨.op (.build [(.str []), (.int .i64 0)] [(0, 1, (.slot 23)), (1, 1, (.con (.int .i64 1)))]), none, none⟩, 
  ⟨.op (.bsl 111 1 [(.str []), (.int .i64 0)] [(0, 2, (.slot 24))]), none, none⟩, 
  ⟨.op (.build [(.int .i64 0), (.osl 0 111 0 [])] [(1, 1, (.slot 25))]), none, none⟩, 
  ⟨.op (.mk 103 [(.int .i64 0), (.osl 0 111 0 [])]), some 10, none⟩, 
  ⟨.op (.store 2 true (.slot 10) (.slot 26)), none, none⟩]) c89_26
abbrev c89_28 : SCode := .seq (.reg [64, 1143, 1144] [
  ⟨.op (.load 2 true (.slot 5)), none, none⟩, 
  ⟨.op (.store 2 true (.slot 3) (.slot 22)), none, none⟩, 
  ⟨.op (.asg (.con (.bool false))), some 4, none⟩]) (.ret)
abbrev c89_29 : SCode := .cond (.slot 12) c89_28 (.skip)
abbrev c89_30 : SCode := .seq (.reg [60, 61, 62, 63, 1146] [
  ⟨.op (.faddr 3 (.slot 2)), none, none⟩, 
  ⟨.op (.load 1 false (.slot 22)), none, none⟩, 
  ⟨.op (.len false (.slot 23)), none, none⟩, 
  ⟨.op (.bin .neq (.slot 24) (.con (.int .i64 2))), none, none⟩, 
  ⟨.op (.asg (.slot 25)), some 12, none⟩]) c89_29
abbrev c89_31 : SCode := .cond (.slot 9) c89_27 c89_30
abbrev c89_32 : SCode := .seq (.reg [33, 34, 35, 36, 37, 38, 39, 40, 41, 1151] [
  ⟨.op (.faddr 0 (.slot 2)), none, none⟩, 
  ⟨.op (.load 1 false (.slot 22)), none, none⟩, 
  ⟨.op (.bin .eql (.slot 23) (.con (.int .i64 2))), none, none⟩, 
  ⟨.op (.mv (.slot 24)), none, none⟩, 
  ⟨.op (.faddr 3 (.slot 2)), none, some (25, true)⟩, 
  ⟨.op (.load 1 false (.slot 26)), none, some (25, true)⟩, 
  ⟨.op (.len false (.slot 27)), none, some (25, true)⟩, 
  ⟨.op (.bin .eql (.slot 28) (.con (.int .i64 0))), none, some (25, true)⟩, 
  ⟨.op (.pick (.slot 25) (.slot 29) (.con (.bool false))), none, none⟩, 
  ⟨.op (.asg (.slot 30)), some 9, none⟩]) c89_31
abbrev c89_33 : SCode := .cond (.slot 6) c89_22 c89_32
abbrev c89_34 : SCode := .seq (.block 0 (.seq (.reg [15, 16, 17, 18, 19, 20, 21, 22, 23, 1151] [
  ⟨.op (.faddr 0 (.slot 2)), none, none⟩, 
  ⟨.op (.load 1 false (.slot 22)), none, none⟩, 
  ⟨.op (.bin .eql (.slot 23) (.con (.int .i64 1))), none, none⟩, 
  ⟨.op (.mv (.slot 24)), none, none⟩, 
  ⟨.op (.faddr 3 (.slot 2)), none, some (25, true)⟩, 
  ⟨.op (.load 1 false (.slot 26)), none, some (25, true)⟩, 
  ⟨.op (.len false (.slot 27)), none, some (25, true)⟩, 
  ⟨.op (.bin .eql (.slot 28) (.con (.int .i64 0))), none, some (25, true)⟩, 
  ⟨.op (.pick (.slot 25) (.slot 29) (.con (.bool false))), none, none⟩, 
  ⟨.op (.asg (.slot 30)), some 6, none⟩]) c89_33)) c89_17
abbrev c89_35 : SCode := .seq (.reg [13, 1143, 1144] [
  ⟨.op (.build [(.int .i64 0), (.osl 0 111 0 [])] []), none, none⟩, 
  ⟨.op (.mk 103 [(.int .i64 0), (.osl 0 111 0 [])]), some 5, none⟩, 
  ⟨.op (.store 2 true (.slot 5) (.slot 22)), none, none⟩]) c89_34
abbrev s89 : SCode := .seq (.reg [1142, 1143, 1144] [
  ⟨.op (.box 31 4 (.slot 0)), some 2, none⟩, 
  ⟨.op (.mk 103 [(.int .i64 0), (.osl 0 111 0 [])]), some 3, none⟩, 
  ⟨.op (.asg (.con (.bool false))), some 4, none⟩]) c89_35
theorem ok89 : okFn Go.Proofs.Try.prog Go.Proofs.Try.f89 v89 s89 r89 2 = true := by kernel_rfl

def v90 : List Nat := [0, 2, 3, 7, 14]
def r90 : List SRes := [.tmp 1]
abbrev c90_0 : SCode := .seq (.reg [15, 16, 17, 18, 19, 20, 21, 22, 1031] [
  ⟨.op (.mv (.slot 0)), none, none⟩, 
  ⟨.op (.len true (.slot 5)), none, none⟩, 
  ⟨.call 58 [(.slot 6), (.con (.int .i64 1)), (.con (.int .i64 6))] false, none, none⟩, 
  ⟨.op (.mv (.slot 7)), none, none⟩, 
  ⟨.op (.mv (.slot 0)), none, some (8, true)⟩, 
  ⟨.call 101 [(.slot 9)] false, none, some (8, true)⟩, 
  ⟨.op (.not (.slot 10)), none, some (8, true)⟩, 
  ⟨.op (.pick (.slot 8) (.slot 11) (.con (.bool false))), none, none⟩, 
  ⟨.op (.asg (.slot 12)), some 1, none⟩]) (.ret)
abbrev c90_1 : SCode := .reg [8, 9, 1025] [
  ⟨.op (.mv (.slot 2)), none, none⟩, 
  ⟨.op (.bin .add (.slot 5) (.con (.int .i64 1))), none, none⟩, 
  ⟨.op (.asg (.slot 6)), some 2, none⟩]
abbrev c90_2 : SCode := .seq (.reg [1023] [
  ⟨.op (.asg (.con (.bool false))), some 1, none⟩]) (.ret)
abbrev c90_3 : SCode := .cond (.slot 4) c90_2 (.skip)
abbrev c90_4 : SCode := .seq (.block 1 (.seq (.reg [10, 11, 12, 13, 1027] [
  ⟨.op (.mv (.slot 0)), none, none⟩, 
  ⟨.op (.mv (.slot 2)), none, none⟩, 
  ⟨.op (.idx (.slot 5) (.slot 6)), none, none⟩, 
  ⟨.call 100 [(.slot 7)] false, none, none⟩, 
  ⟨.op (.not (.slot 8)), some 4, none⟩]) c90_3)) c90_1
abbrev c90_5 : SCode := .cond (.slot 3) (.skip) (.exit 0)
abbrev b90_0 : SCode := .seq (.seq (.reg [4, 5, 6, 1026] [
  ⟨.op (.mv (.slot 2)), none, none⟩, 
  ⟨.op (.mv (.slot 0)), none, none⟩, 
  ⟨.op (.len true (.slot 6)), none, none⟩, 
  ⟨.op (.bin .lss (.slot 5) (.slot 7)), some 3, none⟩]) c90_5) c90_4
def l90_0 : SCode := .loop b90_0
abbrev c90_7 : SCode := .block 0 (l90_0)
abbrev c90_8 : SCode := .seq (.seq (.reg [1023] [
  ⟨.op (.asg (.con (.int .i64 0))), some 2, none⟩]) c90_7) c90_0
abbrev s90 : SCode := .seq (.reg [1023] [
  ⟨.op (.asg (.con (.bool false))), some 1, none⟩]) c90_8
theorem ok90 : okFn Go.Proofs.Try.prog Go.Proofs.Try.f90 v90 s90 r90 1 = true := by kernel_rfl

def v91 : List Nat := [0, 1, 4, 5, 9, 18]
def r91 : List SRes := [.tmp 2]
abbrev c91_0 : SCode := .seq (.reg [1020] [
  ⟨.op (.asg (.con (.int .i64 (-1)))), some 2, none⟩]) (.ret)
abbrev c91_1 : SCode := .reg [10, 11, 1022] [
  ⟨.op (.mv (.slot 3)), none, none⟩, 
  ⟨.op (.bin .add (.slot 6) (.con (.int .i64 1))), none, none⟩, 
  ⟨.op (.asg (.slot 7)), some 3, none⟩]
abbrev c91_2 : SCode := .seq (.reg [19, 1021] [
  ⟨.op (.mv (.slot 3)), none, none⟩, 
  ⟨.op (.asg (.slot 6)), some 2, none⟩]) (.ret)
abbrev c91_3 : SCode := .cond (.slot 5) c91_2 (.skip)
abbrev c91_4 : SCode := .seq (.block 1 (.seq (.reg [12, 13, 14, 15, 16, 17, 1026] [
  ⟨.op (.mv (.slot 0)), none, none⟩, 
  ⟨.op (.mv (.slot 3)), none, none⟩, 
  ⟨.op (.iaddr 3 (.slot 6) (.slot 7)), none, none⟩, 
  ⟨.op (.faddr 0 (.slot 8)), none, none⟩, 
  ⟨.op (.load 1 false (.slot 9)), none, none⟩, 
  ⟨.op (.mv (.slot 1)), none, none⟩, 
  ⟨.op (.bin .eql (.slot 10) (.slot 11)), some 5, none⟩]) c91_3)) c91_1
abbrev c91_5 : SCode := .cond (.slot 4) (.skip) (.exit 0)
abbrev b91_0 : SCode := .seq (.seq (.reg [6, 7, 8, 1023] [
  ⟨.op (.mv (.slot 3)), none, none⟩, 
  ⟨.op (.mv (.slot 0)), none, none⟩, 
  ⟨.op (.len false (.slot 7)), none, none⟩, 
  ⟨.op (.bin .lss (.slot 6) (.slot 8)), some 4, none⟩]) c91_5) c91_4
def l91_0 : SCode := .loop b91_0
abbrev c91_7 : SCode := .block 0 (l91_0)
abbrev c91_8 : SCode := .seq (.seq (.reg [1020] [
  ⟨.op (.asg (.con (.int .i64 0))), some 3, none⟩]) c91_7) c91_0
abbrev s91 : SCode := .seq (.reg [1020] [
  ⟨.op (.asg (.con (.int .i64 0))), some 2, none⟩]) c91_8
theorem ok91 : okFn Go.Proofs.Try.prog Go.Proofs.Try.f91 v91 s91 r91 2 = true := by kernel_rfl

def v92 : List Nat := [0, 1, 2, 4, 5, 9, 27, 53, 6, 7, 75, 8, 87]
def r92 : List SRes := [.cell 3 2 true, .tmp 4]
abbrev c92_0 : SCode := .seq (.reg [89, 90, 91, 92, 93, 94, 95, 1103, 1104] [
  ⟨.op (.faddr 0 (.slot 2)), none, none⟩, 
  ⟨.op (.load 1 false (.slot 13)), none, none⟩, 
  ⟨.op (.load 2 true (.slot 8)), none, none⟩, 
  ⟨.op (.load 2 true (.slot 11)), none, none⟩, 
  ⟨.call 104 [(.slot 14), (.slot 15), (.slot 16)] false, none, none⟩, 
  ⟨.op (.ext 17 0), none, none⟩, 
  ⟨.op (.ext 17 1), none, none⟩, 
  ⟨.op (.store 2 true (.slot 3) (.slot 18)), none, none⟩, 
  ⟨.op (.asg (.slot 19)), some 4, none⟩]) (.ret)
abbrev c92_1 : SCode := .seq (.reg [88, 1097, 1098] [
  ⟨.op (.build [(.int .i64 0), (.osl 0 111 0 [])] []), none, none⟩, 
  ⟨.op (.store 2 true (.slot 3) (.slot 13)), none, none⟩, 
  ⟨.op (.asg (.con (.bool false))), some 4, none⟩]) (.ret)
abbrev c92_2 : SCode := .cond (.slot 12) c92_1 (.skip)
abbrev c92_3 : SCode := .seq (.seq (.reg [86, 1097] [
  ⟨.op (.mv (.slot 9)), none, none⟩, 
  ⟨.op (.not (.slot 13)), some 12, none⟩]) c92_2) c92_0
abbrev c92_4 : SCode := .seq (.reg [78, 79, 80, 81, 82, 83, 77, 84, 85, 1105, 1106, 1107] [
  ⟨.op (.faddr 3 (.slot 2)), none, none⟩, 
  ⟨.op (.load 1 false (.slot 13)), none, none⟩, 
  ⟨.op (.iaddr 4 (.slot 14) (.con (.int .i64 1))), none, none⟩, 
  ⟨.op (.load 4 true (.slot 15)), none, none⟩, 
  ⟨.op (.mv (.slot 1)), none, none⟩, 
  ⟨.call 92 [(.slot 16), (.slot 17)] false, none, none⟩, 
  ⟨.op (.mvt 18), none, none⟩, 
  ⟨.op (.ext 19 0), none, none⟩, 
  ⟨.op (.ext 19 1), none, none⟩, 
  ⟨.op (.mk 103 [(.int .i64 0), (.osl 0 111 0 [])]), some 11, none⟩, 
  ⟨.op (.store 2 true (.slot 11) (.slot 20)), none, none⟩, 
  ⟨.op (.asg (.slot 21)), some 9, none⟩]) c92_3
abbrev c92_5 : SCode := .seq (.reg [76, 1097, 1098] [
  ⟨.op (.build [(.int .i64 0), (.osl 0 111 0 [])] []), none, none⟩, 
  ⟨.op (.store 2 true (.slot 3) (.slot 13)), none, none⟩, 
  ⟨.op (.asg (.con (.bool false))), some 4, none⟩]) (.ret)
abbrev c92_6 : SCode := .cond (.slot 10) c92_5 (.skip)
abbrev c92_7 : SCode := .seq (.seq (.reg [74, 1097] [
  ⟨.op (.mv (.slot 9)), none, none⟩, 
  ⟨.op (.not (.slot 13)), some 10, none⟩]) c92_6) c92_4
abbrev c92_8 : SCode := .seq (.reg [66, 67, 68, 69, 70, 71, 65, 72, 73, 1105, 1106, 1107] [
  ⟨.op (.faddr 3 (.slot 2)), none, none⟩, 
  ⟨.op (.load 1 false (.slot 13)), none, none⟩, 
  ⟨.op (.iaddr 4 (.slot 14) (.con (.int .i64 0))), none, none⟩, 
  ⟨.op (.load 4 true (.slot 15)), none, none⟩, 
  ⟨.op (.mv (.slot 1)), none, none⟩, 
  ⟨.call 92 [(.slot 16), (.slot 17)] false, none, none⟩, 
  ⟨.op (.mvt 18), none, none⟩, 
  ⟨.op (.ext 19 0), none, none⟩, 
  ⟨.op (.ext 19 1), none, none⟩, 
  ⟨.op (.mk 103 [(.int .i64 0), (.osl 0 111 0 [])]), some 8, none⟩, 
  ⟨.op (.store 2 true (.slot 8) (.slot 20)), none, none⟩, 
  ⟨.op (.asg (.slot 21)), some 9, none⟩]) c92_7
abbrev c92_9 : SCode := .seq (.reg [24, 25, 26, 1099, 1100] [
  ⟨.op (.faddr 1 (.slot 2)), none, none⟩, 
  ⟨.op (.load 1 false (.slot 13)), none, none⟩, 
  ⟨.op (.build [(.int .i64 0), (.osl 0 111 0 [])] [(0, 1, (.slot 14))]), none, none⟩, 
  ⟨.op (.store 2 true (.slot 3) (.slot 15)), none, none⟩, 
  ⟨.op (.asg (.con (.bool true))), some 4, none⟩]) (.ret)
abbrev c92_10 : SCode := .seq (.reg [48, 49, 50, 51, 52, 1101, 1102] [
  ⟨.op (.faddr 2 (.slot 2)), none, none⟩, 
  ⟨.op (.load 1 false (.slot 13)), none, none⟩, 
  ⟨.op (.build [(.str []), (.int .i64 0)] [(0, 1, (.slot 14)), (1, 1, (.con (.int .i64 1)))]), none, none⟩, 
  ⟨.op (.bsl 111 1 [(.str []), (.int .i64 0)] [(0, 2, (.slot 15))]), none, none⟩, 
  ⟨.op (.build [(.int .i64 0), (.osl 0 111 0 [])] [(1, 1, (.slot 16))]), none, none⟩, 
  ⟨.op (.store 2 true (.slot 3) (.slot 17)), none, none⟩, 
  ⟨.op (.asg (.con (.bool true))), some 4, none⟩]) (.ret)
abbrev c92_11 : SCode := .seq (.reg [64, 1097, 1098] [
  ⟨.op (.build [(.int .i64 0), (.osl 0 111 0 [])] []), none, none⟩, 
  ⟨.op (.store 2 true (.slot 3) (.slot 13)), none, none⟩, 
  ⟨.op (.asg (.con (.bool false))), some 4, none⟩]) (.ret)
abbrev c92_12 : SCode := .cond (.slot 7) c92_11 (.skip)
abbrev c92_13 : SCode := .seq (.reg [54, 55, 56, 57, 58, 59, 60, 61, 62, 63, 1106] [
  ⟨.op (.faddr 0 (.slot 2)), none, none⟩, 
  ⟨.op (.load 1 false (.slot 13)), none, none⟩, 
  ⟨.call 62 [(.slot 14)] false, none, none⟩, 
  ⟨.op (.not (.slot 15)), none, none⟩, 
  ⟨.op (.mv (.slot 16)), none, none⟩, 
  ⟨.op (.faddr 3 (.slot 2)), none, some (17, false)⟩, 
  ⟨.op (.load 1 false (.slot 18)), none, some (17, false)⟩, 
  ⟨.op (.len false (.slot 19)), none, some (17, false)⟩, 
  ⟨.op (.bin .neq (.slot 20) (.con (.int .i64 2))), none, some (17, false)⟩, 
  ⟨.op (.pick (.slot 17) (.con (.bool true)) (.slot 21)), none, none⟩, 
  ⟨.op (.asg (.slot 22)), some 7, none⟩]) c92_12
abbrev c92_14 : SCode := .cond (.slot 6) c92_10 c92_13
abbrev c92_15 : SCode := .seq (.reg [28, 29, 30, 31, 32, 33, 34, 35, 36, 37, 38, 39, 40, 41, 42, 43, 44, 45, 46, 47, 1116] [
  ⟨.op (.faddr 0 (.slot 2)), none, none⟩, 
  ⟨.op (.load 1 false (.slot 13)), none, none⟩, 
  ⟨.op (.bin .eql (.slot 14) (.con (.int .i64 2))), none, none⟩, 
  ⟨.op (.mv (.slot 15)), none, none⟩, 
  ⟨.op (.faddr 3 (.slot 2)), none, some (16, true)⟩, 
  ⟨.op (.load 1 false (.slot 17)), none, some (16, true)⟩, 
  ⟨.op (.len false (.slot 18)), none, some (16, true)⟩, 
  ⟨.op (.bin .eql (.slot 19) (.con (.int .i64 0))), none, some (16, true)⟩, 
  ⟨.op (.pick (.slot 16) (.slot 20) (.con (.bool false))), none, none⟩, 
  ⟨.op (.mv (.slot 21)), none, none⟩, 
  ⟨.op (.mv (.slot 1)), none, some (22, true)⟩, 
  ⟨.op (.faddr 2 (.slot 2)), none, some (22, true)⟩, 
  ⟨.op (.load 1 false (.slot 24)), none, some (22, true)⟩, 
  ⟨.call 103 [(.slot 23), (.slot 25)] false, none, some (22, true)⟩, 
  ⟨.op (.pick (.slot 22) (.slot 26) (.con (.bool false))), none, none⟩, 
  ⟨.op (.mv (.slot 27)), none, none⟩, 
  ⟨.op (.faddr 2 (.slot 2)), none, some (28, true)⟩, 
  ⟨.op (.load 1 false (.slot 29)), none, some (28, true)⟩, 
  ⟨.call 93 [(.slot 30)] false, none, some (28, true)⟩, 
  ⟨.op (.pick (.slot 28) (.slot 31) (.con (.bool false))), none, none⟩, 
  ⟨.op (.asg (.slot 32)), some 6, none⟩]) c92_14
abbrev c92_16 : SCode := .cond (.slot 5) c92_9 c92_15
abbrev c92_17 : SCode := .seq (.block 0 (.seq (.reg [10, 11, 12, 13, 14, 15, 16, 17, 18, 19, 20, 21, 22, 23, 1110] [
  ⟨.op (.faddr 0 (.slot 2)), none, none⟩, 
  ⟨.op (.load 1 false (.slot 13)), none, none⟩, 
  ⟨.op (.bin .eql (.slot 14) (.con (.int .i64 1))), none, none⟩, 
  ⟨.op (.mv (.slot 15)), none, none⟩, 
  ⟨.op (.faddr 1 (.slot 2)), none, some (16, true)⟩, 
  ⟨.op (.load 1 false (.slot 17)), none, some (16, true)⟩, 
  ⟨.call 102 [(.slot 18)] false, none, some (16, true)⟩, 
  ⟨.op (.pick (.slot 16) (.slot 19) (.con (.bool false))), none, none⟩, 
  ⟨.op (.mv (.slot 20)), none, none⟩, 
  ⟨.op (.faddr 3 (.slot 2)), none, some (21, true)⟩, 
  ⟨.op (.load 1 false (.slot 22)), none, some (21, true)⟩, 
  ⟨.op (.len false (.slot 23)), none, some (21, true)⟩, 
  ⟨.op (.bin .eql (.slot 24) (.con (.int .i64 0))), none, some (21, true)⟩, 
  ⟨.op (.pick (.slot 21) (.slot 25) (.con (.bool false))), none, none⟩, 
  ⟨.op (.asg (.slot 26)), some 5, none⟩]) c92_16)) c92_8
abbrev s92 : SCode := .seq (.reg [1096, 1097, 1098] [
  ⟨.op (.box 31 4 (.slot 0)), some 2, none⟩, 
  ⟨.op (.mk 103 [(.int .i64 0), (.osl 0 111 0 [])]), some 3, none⟩, 
  ⟨.op (.asg (.con (.bool false))), some 4, none⟩]) c92_17
theorem ok92 : okFn Go.Proofs.Try.prog Go.Proofs.Try.f92 v92 s92 r92 2 = true := by kernel_rfl

def v93 : List Nat := [0, 2, 3, 7, 14]
def r93 : List SRes := [.tmp 1]
abbrev c93_0 : SCode := .seq (.reg [15, 16, 17, 18, 19, 20, 21, 22, 1031] [
  ⟨.op (.mv (.slot 0)), none, none⟩, 
  ⟨.op (.len true (.slot 5)), none, none⟩, 
  ⟨.call 49 [(.slot 6), (.con (.int .i64 1)), (.con (.int .i64 6))] false, none, none⟩, 
  ⟨.op (.mv (.slot 7)), none, none⟩, 
  ⟨.op (.mv (.slot 0)), none, some (8, true)⟩, 
  ⟨.call 106 [(.slot 9)] false, none, some (8, true)⟩, 
  ⟨.op (.not (.slot 10)), none, some (8, true)⟩, 
  ⟨.op (.pick (.slot 8) (.slot 11) (.con (.bool false))), none, none⟩, 
  ⟨.op (.asg (.slot 12)), some 1, none⟩]) (.ret)
abbrev c93_1 : SCode := .reg [8, 9, 1025] [
  ⟨.op (.mv (.slot 2)), none, none⟩, 
  ⟨.op (.bin .add (.slot 5) (.con (.int .i64 1))), none, none⟩, 
  ⟨.op (.asg (.slot 6)), some 2, none⟩]
abbrev c93_2 : SCode := .seq (.reg [1023] [
  ⟨.op (.asg (.con (.bool false))), some 1, none⟩]) (.ret)
abbrev c93_3 : SCode := .cond (.slot 4) c93_2 (.skip)
abbrev c93_4 : SCode := .seq (.block 1 (.seq (.reg [10, 11, 12, 13, 1027] [
  ⟨.op (.mv (.slot 0)), none, none⟩, 
  ⟨.op (.mv (.slot 2)), none, none⟩, 
  ⟨.op (.idx (.slot 5) (.slot 6)), none, none⟩, 
  ⟨.call 105 [(.slot 7)] false, none, none⟩, 
  ⟨.op (.not (.slot 8)), some 4, none⟩]) c93_3)) c93_1
abbrev c93_5 : SCode := .cond (.slot 3) (.skip) (.exit 0)
abbrev b93_0 : SCode := .seq (.seq (.reg [4, 5, 6, 1026] [
  ⟨.op (.mv (.slot 2)), none, none⟩, 
  ⟨.op (.mv (.slot 0)), none, none⟩, 
  ⟨.op (.len true (.slot 6)), none, none⟩, 
  ⟨.op (.bin .lss (.slot 5) (.slot 7)), some 3, none⟩]) c93_5) c93_4
def l93_0 : SCode := .loop b93_0
abbrev c93_7 : SCode := .block 0 (l93_0)
abbrev c93_8 : SCode := .seq (.seq (.reg [1023] [
  ⟨.op (.asg (.con (.int .i64 0))), some 2, none⟩]) c93_7) c93_0
abbrev s93 : SCode := .seq (.reg [1023] [
  ⟨.op (.asg (.con (.bool false))), some 1, none⟩]) c93_8
theorem ok93 : okFn Go.Proofs.Try.prog Go.Proofs.Try.f93 v93 s93 r93 1 = true := by kernel_rfl

def v94 : List Nat := [0, 1, 3, 4]
def r94 : List SRes := [.tmp 3]
abbrev c94_0 : SCode := .seq (.reg [5, 6, 7, 1011] [
  ⟨.op (.mv (.slot 0)), none, none⟩, 
  ⟨.op (.mkf 108 [(.slot 2)]), none, none⟩, 
  ⟨.call 107 [(.slot 4), (.slot 5)] false, none, none⟩, 
  ⟨.op (.asg (.slot 6)), some 3, none⟩]) (.ret)
abbrev s94 : SCode := .seq (.reg [1008, 1009] [
  ⟨.op (.box 9 1 (.slot 1)), some 2, none⟩, 
  ⟨.op (.asg (.con (.int .i64 0))), some 3, none⟩]) c94_0
theorem ok94 : okFn Go.Proofs.Try.prog Go.Proofs.Try.f94 v94 s94 r94 2 = true := by kernel_rfl

def v95 : List Nat := [0, 1, 2, 3, 8, 57]
def r95 : List SRes := [.tmp 2]
abbrev c95_0 : SCode := .seq (.reg [58, 59, 60, 1064] [
  ⟨.op (.faddr 0 (.slot 1)), none, none⟩, 
  ⟨.op (.load 1 false (.slot 6)), none, none⟩, 
  ⟨.call 109 [(.slot 7)] false, none, none⟩, 
  ⟨.op (.asg (.slot 8)), some 2, none⟩]) (.ret)
abbrev c95_1 : SCode := .reg [9, 10, 1063] [
  ⟨.op (.mv (.slot 3)), none, none⟩, 
  ⟨.op (.bin .add (.slot 6) (.con (.int .i64 1))), none, none⟩, 
  ⟨.op (.asg (.slot 7)), some 3, none⟩]
abbrev c95_2 : SCode := .seq (.reg [1061] [
  ⟨.op (.asg (.con (.bool false))), some 2, none⟩]) (.ret)
abbrev c95_3 : SCode := .cond (.slot 5) c95_2 (.skip)
abbrev c95_4 : SCode := .seq (.block 1 (.seq (.dreg [11, 12, 13, 14, 15, 16, 17, 18, 19, 20, 21, 22, 23, 24, 25, 26, 27, 28, 29, 30, 31, 32, 33, 34, 35, 36, 37, 38, 39, 40, 41, 42, 43, 44, 45, 46, 47, 48, 49, 50, 51, 52, 53, 54, 55, 56, 1107] [
  ⟨.op (.faddr 1 (.slot 1)), none, none⟩, 
  ⟨.op (.load 1 false (.slot 6)), none, none⟩, 
  ⟨.op (.mv (.slot 3)), none, none⟩, 
  ⟨.op (.iaddr 2 (.slot 7) (.slot 8)), none, none⟩, 
  ⟨.op (.faddr 0 (.slot 9)), none, none⟩, 
  ⟨.op (.load 1 false (.slot 10)), none, none⟩, 
  ⟨.call 90 [(.slot 11)] false, none, none⟩, 
  ⟨.op (.not (.slot 12)), none, none⟩, 
  ⟨.op (.mv (.slot 13)), none, none⟩, 
  ⟨.op (.faddr 1 (.slot 1)), none, some (14, false)⟩, 
  ⟨.op (.load 1 false (.slot 15)), none, some (14, false)⟩, 
  ⟨.op (.mv (.slot 3)), none, some (14, false)⟩, 
  ⟨.op (.iaddr 2 (.slot 16) (.slot 17)), none, some (14, false)⟩, 
  ⟨.op (.faddr 1 (.slot 18)), none, some (14, false)⟩, 
  ⟨.op (.load 1 false (.slot 19)), none, some (14, false)⟩, 
  ⟨.op (.bin .eql (.slot 20) (.con (.int .i64 0))), none, some (14, false)⟩, 
  ⟨.op (.pick (.slot 14) (.con (.bool true)) (.slot 21)), none, none⟩, 
  ⟨.op (.mv (.slot 22)), none, none⟩, 
  ⟨.op (.faddr 1 (.slot 1)), none, some (23, false)⟩, 
  ⟨.op (.load 1 false (.slot 24)), none, some (23, false)⟩, 
  ⟨.op (.mv (.slot 3)), none, some (23, false)⟩, 
  ⟨.op (.iaddr 2 (.slot 25) (.slot 26)), none, some (23, false)⟩, 
  ⟨.op (.faddr 1 (.slot 27)), none, some (23, false)⟩, 
  ⟨.op (.load 1 false (.slot 28)), none, some (23, false)⟩, 
  ⟨.call 109 [(.slot 29)] false, none, some (23, false)⟩, 
  ⟨.op (.not (.slot 30)), none, some (23, false)⟩, 
  ⟨.op (.pick (.slot 23) (.con (.bool true)) (.slot 31)), none, none⟩, 
  ⟨.op (.mv (.slot 32)), none, none⟩, 
  ⟨.op (.mv (.slot 3)), none, some (33, false)⟩, 
  ⟨.op (.bin .gtr (.slot 34) (.con (.int .i64 0))), none, some (33, false)⟩, 
  ⟨.op (.mv (.slot 35)), none, some (33, false)⟩, 
  ⟨.op (.faddr 1 (.slot 1)), none, some (36, true)⟩, 
  ⟨.op (.load 1 false (.slot 37)), none, some (36, true)⟩, 
  ⟨.op (.mv (.slot 3)), none, some (36, true)⟩, 
  ⟨.op (.bin .sub (.slot 39) (.con (.int .i64 1))), none, some (36, true)⟩, 
  ⟨.op (.iaddr 2 (.slot 38) (.slot 40)), none, some (36, true)⟩, 
  ⟨.op (.faddr 0 (.slot 41)), none, some (36, true)⟩, 
  ⟨.op (.load 1 false (.slot 42)), none, some (36, true)⟩, 
  ⟨.op (.faddr 1 (.slot 1)), none, some (36, true)⟩, 
  ⟨.op (.load 1 false (.slot 44)), none, some (36, true)⟩, 
  ⟨.op (.mv (.slot 3)), none, some (36, true)⟩, 
  ⟨.op (.iaddr 2 (.slot 45) (.slot 46)), none, some (36, true)⟩, 
  ⟨.op (.faddr 0 (.slot 47)), none, some (36, true)⟩, 
  ⟨.op (.load 1 false (.slot 48)), none, some (36, true)⟩, 
  ⟨.op (.bin .geq (.slot 43) (.slot 49)), none, some (36, true)⟩, 
  ⟨.op (.pick (.slot 36) (.slot 50) (.con (.bool false))), none, some (33, false)⟩, 
  ⟨.op (.pick (.slot 33) (.con (.bool true)) (.slot 51)), some 5, none⟩]
  [[], [0], [], [0, 1, 2], [0, 1, 2, 3], [0, 1, 2, 3, 4], [0, 1, 2, 3, 4, 5], [0, 1, 2, 3, 4, 5, 6], [0, 1, 2, 3, 4, 5, 6, 7], [0, 1, 2, 3, 4, 5, 6, 7, 8], [0, 1, 2, 3, 4, 5, 6, 7, 8, 9], [0, 1, 2, 3, 4, 5, 6, 7, 8], [0, 1, 2, 3, 4, 5, 6, 7, 8, 9, 10, 11], [0, 1, 2, 3, 4, 5, 6, 7, 8, 9, 10, 11, 12], [0, 1, 2, 3, 4, 5, 6, 7, 8, 9, 10, 11, 12, 13], [0, 1, 2, 3, 4, 5, 6, 7, 8, 9, 10, 11, 12, 13, 14], [0, 1, 2, 3, 4, 5, 6, 7, 8, 9, 10, 11, 12, 13, 14, 15], [0, 1, 2, 3, 4, 5, 6, 7, 8, 9, 10, 11, 12, 13, 14, 15, 16], [0, 1, 2, 3, 4, 5, 6, 7, 8, 9, 10, 11, 12, 13, 14, 15, 16, 17], [0, 1, 2, 3, 4, 5, 6, 7, 8, 9, 10, 11, 12, 13, 14, 15, 16, 17, 18], [0, 1, 2, 3, 4, 5, 6, 7, 8, 9, 10, 11, 12, 13, 14, 15, 16, 17], [0, 1, 2, 3, 4, 5, 6, 7, 8, 9, 10, 11, 12, 13, 14, 15, 16, 17, 18, 19, 20], [0, 1, 2, 3, 4, 5, 6, 7, 8, 9, 10, 11, 12, 13, 14, 15, 16, 17, 18, 19, 20, 21], [0, 1, 2, 3, 4, 5, 6, 7, 8, 9, 10, 11, 12, 13, 14, 15, 16, 17, 18, 19, 20, 21, 22], [0, 1, 2, 3, 4, 5, 6, 7, 8, 9, 10, 11, 12, 13, 14, 15, 16, 17, 18, 19, 20, 21, 22, 23], [0, 1, 2, 3, 4, 5, 6, 7, 8, 9, 10, 11, 12, 13, 14, 15, 16, 17, 18, 19, 20, 21, 22, 23, 24], [0, 1, 2, 3, 4, 5, 6, 7, 8, 9, 10, 11, 12, 13, 14, 15, 16, 17, 18, 19, 20, 21, 22, 23, 24, 25], [0, 1, 2, 3, 4, 5, 6, 7, 8, 9, 10, 11, 12, 13, 14, 15, 16, 17, 18, 19, 20, 21, 22, 23, 24, 25, 26], [0, 1, 2, 3, 4, 5, 6, 7, 8, 9, 10, 11, 12, 13, 14, 15, 16, 17, 18, 19, 20, 21, 22, 23, 24, 25, 26, 27], [0, 1, 2, 3, 4, 5, 6, 7, 8, 9, 10, 11, 12, 13, 14, 15, 16, 17, 18, 19, 20, 21, 22, 23, 24, 25, 26, 27, 28], [0, 1, 2, 3, 4, 5, 6, 7, 8, 9, 10, 11, 12, 13, 14, 15, 16, 17, 18, 19, 20, 21, 22, 23, 24, 25, 26, 27, 28, 29], [0, 1, 2, 3, 4, 5, 6, 7, 8, 9, 10, 11, 12, 13, 14, 15, 16, 17, 18, 19, 20, 21, 22, 23, 24, 25, 26, 27, 28, 29, 30], [0, 1, 2, 3, 4, 5, 6, 7, 8, 9, 10, 11, 12, 13, 14, 15, 16, 17, 18, 19, 20, 21, 22, 23, 24, 25, 26, 27, 28, 29, 30, 31], [0, 1, 2, 3, 4, 5, 6, 7, 8, 9, 10, 11, 12, 13, 14, 15, 16, 17, 18, 19, 20, 21, 22, 23, 24, 25, 26, 27, 28, 29, 30], [0, 1, 2, 3, 4, 5, 6, 7, 8, 9, 10, 11, 12, 13, 14, 15, 16, 17, 18, 19, 20, 21, 22, 23, 24, 25, 26, 27, 28, 29, 30, 33], [0, 1, 2, 3, 4, 5, 6, 7, 8, 9, 10, 11, 12, 13, 14, 15, 16, 17, 18, 19, 20, 21, 22, 23, 24, 25, 26, 27, 28, 29, 30, 31, 32, 33, 34], [0, 1, 2, 3, 4, 5, 6, 7, 8, 9, 10, 11, 12, 13, 14, 15, 16, 17, 18, 19, 20, 21, 22, 23, 24, 25, 26, 27, 28, 29, 30, 31, 32, 33, 34, 35], [0, 1, 2, 3, 4, 5, 6, 7, 8, 9, 10, 11, 12, 13, 14, 15, 16, 17, 18, 19, 20, 21, 22, 23, 24, 25, 26, 27, 28, 29, 30, 31, 32, 33, 34, 35, 36], [0, 1, 2, 3, 4, 5, 6, 7, 8, 9, 10, 11, 12, 13, 14, 15, 16, 17, 18, 19, 20, 21, 22, 23, 24, 25, 26, 27, 28, 29, 30], [0, 1, 2, 3, 4, 5, 6, 7, 8, 9, 10, 11, 12, 13, 14, 15, 16, 17, 18, 19, 20, 21, 22, 23, 24, 25, 26, 27, 28, 29, 30, 38], [0, 1, 2, 3, 4, 5, 6, 7, 8, 9, 10, 11, 12, 13, 14, 15, 16, 17, 18, 19, 20, 21, 22, 23, 24, 25, 26, 27, 28, 29, 30], [0, 1, 2, 3, 4, 5, 6, 7, 8, 9, 10, 11, 12, 13, 14, 15, 16, 17, 18, 19, 20, 21, 22, 23, 24, 25, 26, 27, 28, 29, 30, 38, 39, 40], [0, 1, 2, 3, 4, 5, 6, 7, 8, 9, 10, 11, 12, 13, 14, 15, 16, 17, 18, 19, 20, 21, 22, 23, 24, 25, 26, 27, 28, 29, 30, 38, 39, 40, 41], [0, 1, 2, 3, 4, 5, 6, 7, 8, 9, 10, 11, 12, 13, 14, 15, 16, 17, 18, 19, 20, 21, 22, 23, 24, 25, 26, 27, 28, 29, 30, 38, 39, 40, 41, 42], [0, 1, 2, 3, 4, 5, 6, 7, 8, 9, 10, 11, 12, 13, 14, 15, 16, 17, 18, 19, 20, 21, 22, 23, 24, 25, 26, 27, 28, 29, 30, 31, 32, 33, 34, 35, 36, 37, 38, 39, 40, 41, 42, 43], [0, 1, 2, 3, 4, 5, 6, 7, 8, 9, 10, 11, 12, 13, 14, 15, 16, 17, 18, 19, 20, 21, 22, 23, 24, 25, 26, 27, 28, 29, 30, 31, 32, 33, 34, 35, 36, 37, 38, 39, 40, 41, 42, 43, 44], [0, 1, 2, 3, 4, 5, 6, 7, 8, 9, 10, 11, 12, 13, 14, 15, 16, 17, 18, 19, 20, 21, 22, 23, 24, 25, 26, 27, 28, 29, 30, 31, 32, 33, 34, 35, 36, 37, 38, 39, 40, 41, 42, 43, 44, 45]] 46 [] [([], none), ([true], none), ([false, false], none), ([true, true, true], none), ([true, true, true, true], none), ([true, true, true, true, true], none), ([true, true, true, true, true, true], none), ([true, true, true, true, true, true, true], none), ([true, true, true, true, true, true, true, true], none), ([true, true, true, true, true, true, true, true, true], none), ([true, true, true, true, true, true, true, true, true, true], none), ([true, true, true, true, true, true, true, true, true, false, false], none), ([true, true, true, true, true, true, true, true, true, true, true, true], none), ([true, true, true, true, true, true, true, true, true, true, true, true, true], none), ([true, true, true, true, true, true, true, true, true, true, true, true, true, true], none), ([true, true, true, true, true, true, true, true, true, true, true, true, true, true, true], none), ([true, true, true, true, true, true, true, true, true, true, true, true, true, true, true, true], none), ([true, true, true, true, true, true, true, true, true, true, true, true, true, true, true, true, true], none), ([true, true, true, true, true, true, true, true, true, true, true, true, true, true, true, true, true, true], none), ([true, true, true, true, true, true, true, true, true, true, true, true, true, true, true, true, true, true, true], none), ([true, true, true, true, true, true, true, true, true, true, true, true, true, true, true, true, true, true, false, false], none), ([true, true, true, true, true, true, true, true, true, true, true, true, true, true, true, true, true, true, true, true, true], none), ([true, true, true, true, true, true, true, true, true, true, true, true, true, true, true, true, true, true, true, true, true, true], none), ([true, true, true, true, true, true, true, true, true, true, true, true, true, true, true, true, true, true, true, true, true, true, true], none), ([true, true, true, true, true, true, true, true, true, true, true, true, true, true, true, true, true, true, true, true, true, true, true, true], none), ([true, true, true, true, true, true, true, true, true, true, true, true, true, true, true, true, true, true, true, true, true, true, true, true, true], none), ([true, true, true, true, true, true, true, true, true, true, true, true, true, true, true, true, true, true, true, true, true, true, true, true, true, true], none), ([true, true, true, true, true, true, true, true, true, true, true, true, true, true, true, true, true, true, true, true, true, true, true, true, true, true, true], none), ([true, true, true, true, true, true, true, true, true, true, true, true, true, true, true, true, true, true, true, true, true, true, true, true, true, true, true, true], none), ([true, true, true, true, true, true, true, true, true, true, true, true, true, true, true, true, true, true, true, true, true, true, true, true, true, true, true, true, true], none), ([true, true, true, true, true, true, true, true, true, true, true, true, true, true, true, true, true, true, true, true, true, true, true, true, true, true, true, true, true, true], none), ([true, true, true, true, true, true, true, true, true, true, true, true, true, true, true, true, true, true, true, true, true, true, true, true, true, true, true, true, true, true, true], none), ([true, true, true, true, true, true, true, true, true, true, true, true, true, true, true, true, true, true, true, true, true, true, true, true, true, true, true, true, true, true, true, true], none), ([true, true, true, true, true, true, true, true, true, true, true, true, true, true, true, true, true, true, true, true, true, true, true, true, true, true, true, true, true, true, true, false, false], none), ([true, true, true, true, true, true, true, true, true, true, true, true, true, true, true, true, true, true, true, true, true, true, true, true, true, true, true, true, true, true, true, false, false, true], none), ([true, true, true, true, true, true, true, true, true, true, true, true, true, true, true, true, true, true, true, true, true, true, true, true, true, true, true, true, true, true, true, true, true, true, true], none), ([true, true, true, true, true, true, true, true, true, true, true, true, true, true, true, true, true, true, true, true, true, true, true, true, true, true, true, true, true, true, true, true, true, true, true, true], none), ([true, true, true, true, true, true, true, true, true, true, true, true, true, true, true, true, true, true, true, true, true, true, true, true, true, true, true, true, true, true, true, true, true, true, true, true, true], none), ([true, true, true, true, true, true, true, true, true, true, true, true, true, true, true, true, true, true, true, true, true, true, true, true, true, true, true, true, true, true, true, false, false, false, false, false, false, false], none), ([true, true, true, true, true, true, true, true, true, true, true, true, true, true, true, true, true, true, true, true, true, true, true, true, true, true, true, true, true, true, true, false, false, false, false, false, false, false, true], none), ([true, true, true, true, true, true, true, true, true, true, true, true, true, true, true, true, true, true, true, true, true, true, true, true, true, true, true, true, true, true, true, false, false, false, false, false, false, false, false, false], none), ([true, true, true, true, true, true, true, true, true, true, true, true, true, true, true, true, true, true, true, true, true, true, true, true, true, true, true, true, true, true, true, false, false, false, false, false, false, false, true, true, true], none), ([true, true, true, true, true, true, true, true, true, true, true, true, true, true, true, true, true, true, true, true, true, true, true, true, true, true, true, true, true, true, true, false, false, false, false, false, false, false, true, true, true, true], none), ([true, true, true, true, true, true, true, true, true, true, true, true, true, true, true, true, true, true, true, true, true, true, true, true, true, true, true, true, true, true, true, false, false, false, false, false, false, false, true, true, true, true, true], none), ([true, true, true, true, true, true, true, true, true, true, true, true, true, true, true, true, true, true, true, true, true, true, true, true, true, true, true, true, true, true, true, true, true, true, true, true, true, true, true, true, true, true, true, true], none), ([true, true, true, true, true, true, true, true, true, true, true, true, true, true, true, true, true, true, true, true, true, true, true, true, true, true, true, true, true, true, true, true, true, true, true, true, true, true, true, true, true, true, true, true, true], none)] [true, true, true, true, true, true, true, true, true, true, true, true, true, true, true, true, true, true, true, true, true, true, true, true, true, true, true, true, true, true, true, true, true, true, true, true, true, true, true, true, true, true, true, true, true, true]) c95_3)) c95_1
abbrev c95_5 : SCode := .cond (.slot 4) (.skip) (.exit 0)
abbrev b95_0 : SCode := .seq (.seq (.reg [4, 5, 6, 7, 1065] [
  ⟨.op (.mv (.slot 3)), none, none⟩, 
  ⟨.op (.faddr 1 (.slot 1)), none, none⟩, 
  ⟨.op (.load 1 false (.slot 7)), none, none⟩, 
  ⟨.op (.len false (.slot 8)), none, none⟩, 
  ⟨.op (.bin .lss (.slot 6) (.slot 9)), some 4, none⟩]) c95_5) c95_4
def l95_0 : SCode := .loop b95_0
abbrev c95_7 : SCode := .block 0 (l95_0)
abbrev c95_8 : SCode := .seq (.seq (.reg [1061] [
  ⟨.op (.asg (.con (.int .i64 0))), some 3, none⟩]) c95_7) c95_0
abbrev s95 : SCode := .seq (.reg [1061, 1062] [
  ⟨.op (.box 103 2 (.slot 0)), some 1, none⟩, 
  ⟨.op (.asg (.con (.bool false))), some 2, none⟩]) c95_8
theorem ok95 : okFn Go.Proofs.Try.prog Go.Proofs.Try.f95 v95 s95 r95 1 = true := by kernel_rfl

def v96 : List Nat := [0, 1, 4, 5, 9, 17]
def r96 : List SRes := [.tmp 2]
abbrev c96_0 : SCode := .seq (.reg [1018] [
  ⟨.op (.asg (.con (.bool false))), some 2, none⟩]) (.ret)
abbrev c96_1 : SCode := .reg [10, 11, 1020] [
  ⟨.op (.mv (.slot 3)), none, none⟩, 
  ⟨.op (.bin .add (.slot 6) (.con (.int .i64 1))), none, none⟩, 
  ⟨.op (.asg (.slot 7)), some 3, none⟩]
abbrev c96_2 : SCode := .seq (.reg [1018] [
  ⟨.op (.asg (.con (.bool true))), some 2, none⟩]) (.ret)
abbrev c96_3 : SCode := .cond (.slot 5) c96_2 (.skip)
abbrev c96_4 : SCode := .seq (.block 1 (.seq (.reg [12, 13, 14, 15, 16, 1023] [
  ⟨.op (.mv (.slot 0)), none, none⟩, 
  ⟨.op (.mv (.slot 3)), none, none⟩, 
  ⟨.op (.iaddr 1 (.slot 6) (.slot 7)), none, none⟩, 
  ⟨.op (.load 1 false (.slot 8)), none, none⟩, 
  ⟨.op (.mv (.slot 1)), none, none⟩, 
  ⟨.op (.bin .eql (.slot 9) (.slot 10)), some 5, none⟩]) c96_3)) c96_1
abbrev c96_5 : SCode := .cond (.slot 4) (.skip) (.exit 0)
abbrev b96_0 : SCode := .seq (.seq (.reg [6, 7, 8, 1021] [
  ⟨.op (.mv (.slot 3)), none, none⟩, 
  ⟨.op (.mv (.slot 0)), none, none⟩, 
  ⟨.op (.len false (.slot 7)), none, none⟩, 
  ⟨.op (.bin .lss (.slot 6) (.slot 8)), some 4, none⟩]) c96_5) c96_4
def l96_0 : SCode := .loop b96_0
abbrev c96_7 : SCode := .block 0 (l96_0)
abbrev c96_8 : SCode := .seq (.seq (.reg [1018] [
  ⟨.op (.asg (.con (.int .i64 0))), some 3, none⟩]) c96_7) c96_0
abbrev s96 : SCode := .seq (.reg [1018] [
  ⟨.op (.asg (.con (.bool false))), some 2, none⟩]) c96_8
theorem ok96 : okFn Go.Proofs.Try.prog Go.Proofs.Try.f96 v96 s96 r96 2 = true := by kernel_rfl

def v97 : List Nat := [0, 1, 2, 3, 4, 5]
def r97 : List SRes := [.cell 4 2 true, .tmp 5]
abbrev c97_0 : SCode := .seq (.reg [6, 7, 8, 9, 10, 1016, 1017] [
  ⟨.op (.load 2 true (.slot 2)), none, none⟩, 
  ⟨.op (.load 2 true (.slot 3)), none, none⟩, 
  ⟨.call 110 [(.slot 6), (.slot 7), (.con (.int .i64 1))] false, none, none⟩, 
  ⟨.op (.ext 8 0), none, none⟩, 
  ⟨.op (.ext 8 1), none, none⟩, 
  ⟨.op (.store 2 true (.slot 4) (.slot 9)), none, none⟩, 
  ⟨.op (.asg (.slot 10)), some 5, none⟩]) (.ret)
abbrev s97 : SCode := .seq (.reg [1011, 1012, 1013, 1014] [
  ⟨.op (.box 103 2 (.slot 0)), some 2, none⟩, 
  ⟨.op (.box 103 2 (.slot 1)), some 3, none⟩, 
  ⟨.op (.mk 103 [(.int .i64 0), (.osl 0 111 0 [])]), some 4, none⟩, 
  ⟨.op (.asg (.con (.bool false))), some 5, none⟩]) c97_0
theorem ok97 : okFn Go.Proofs.Try.prog Go.Proofs.Try.f97 v97 s97 r97 2 = true := by kernel_rfl

def v98 : List Nat := [0, 1, 2, 3, 4, 5]
def r98 : List SRes := [.cell 4 2 true, .tmp 5]
abbrev c98_0 : SCode := .seq (.reg [6, 7, 8, 9, 10, 1016, 1017] [
  ⟨.op (.load 2 true (.slot 2)), none, none⟩, 
  ⟨.op (.load 2 true (.slot 3)), none, none⟩, 
  ⟨.call 110 [(.slot 6), (.slot 7), (.con (.int .i64 (-1)))] false, none, none⟩, 
  ⟨.op (.ext 8 0), none, none⟩, 
  ⟨.op (.ext 8 1), none, none⟩, 
  ⟨.op (.store 2 true (.slot 4) (.slot 9)), none, none⟩, 
  ⟨.op (.asg (.slot 10)), some 5, none⟩]) (.ret)
abbrev s98 : SCode := .seq (.reg [1011, 1012, 1013, 1014] [
  ⟨.op (.box 103 2 (.slot 0)), some 2, none⟩, 
  ⟨.op (.box 103 2 (.slot 1)), some 3, none⟩, 
  ⟨.op (.mk 103 [(.int .i64 0), (.osl 0 111 0 [])]), some 4, none⟩, 
  ⟨.op (.asg (.con (.bool false))), some 5, none⟩]) c98_0
theorem ok98 : okFn Go.Proofs.Try.prog Go.Proofs.Try.f98 v98 s98 r98 2 = true := by kernel_rfl

def v99 : List Nat := [0, 1, 2, 4, 5, 6, 7, 21, 46]
def r99 : List SRes := [.cell 3 2 true, .tmp 4]
abbrev c99_0 : SCode := .seq (.reg [48, 1050, 1051] [
  ⟨.op (.load 2 true (.slot 5)), none, none⟩, 
  ⟨.op (.store 2 true (.slot 3) (.slot 9)), none, none⟩, 
  ⟨.op (.asg (.con (.bool true))), some 4, none⟩]) (.ret)
abbrev c99_1 : SCode := .seq (.reg [47, 1050, 1051] [
  ⟨.op (.build [(.int .i64 0), (.osl 0 111 0 [])] []), none, none⟩, 
  ⟨.op (.store 2 true (.slot 3) (.slot 9)), none, none⟩, 
  ⟨.op (.asg (.con (.bool false))), some 4, none⟩]) (.ret)
abbrev c99_2 : SCode := .cond (.slot 8) c99_1 (.skip)
abbrev c99_3 : SCode := .seq (.seq (.reg [44, 45, 1051] [
  ⟨.op (.load 2 true (.slot 5)), none, none⟩, 
  ⟨.call 95 [(.slot 9)] false, none, none⟩, 
  ⟨.op (.not (.slot 10)), some 8, none⟩]) c99_2) c99_0
abbrev c99_4 : SCode := .reg [22, 23, 1051] [
  ⟨.op (.mv (.slot 6)), none, none⟩, 
  ⟨.op (.bin .add (.slot 9) (.con (.int .i64 1))), none, none⟩, 
  ⟨.op (.asg (.slot 10)), some 6, none⟩]
abbrev c99_5 : SCode := .seq (.block 1 (.dreg [24, 25, 26, 27, 28, 29, 30, 31, 32, 33, 34, 35, 36, 37, 38, 39, 40, 41, 42, 43, 1069] [
  ⟨.op (.faddr 1 (.slot 5)), none, none⟩, 
  ⟨.op (.load 1 false (.slot 9)), none, none⟩, 
  ⟨.op (.faddr 1 (.slot 2)), none, none⟩, 
  ⟨.op (.load 1 false (.slot 11)), none, none⟩, 
  ⟨.op (.mv (.slot 6)), none, none⟩, 
  ⟨.op (.iaddr 2 (.slot 12) (.slot 13)), none, none⟩, 
  ⟨.op (.faddr 0 (.slot 14)), none, none⟩, 
  ⟨.op (.load 1 false (.slot 15)), none, none⟩, 
  ⟨.op (.faddr 1 (.slot 2)), none, none⟩, 
  ⟨.op (.load 1 false (.slot 17)), none, none⟩, 
  ⟨.op (.mv (.slot 6)), none, none⟩, 
  ⟨.op (.iaddr 2 (.slot 18) (.slot 19)), none, none⟩, 
  ⟨.op (.faddr 1 (.slot 20)), none, none⟩, 
  ⟨.op (.load 1 false (.slot 21)), none, none⟩, 
  ⟨.op (.mv (.slot 1)), none, none⟩, 
  ⟨.op (.bin .mul (.slot 22) (.slot 23)), none, none⟩, 
  ⟨.op (.build [(.str []), (.int .i64 0)] [(0, 1, (.slot 16)), (1, 1, (.slot 24))]), none, none⟩, 
  ⟨.op (.bsl 111 1 [(.str []), (.int .i64 0)] [(0, 2, (.slot 25))]), none, none⟩, 
  ⟨.op (.append 111 2 (.slot 10) (.slot 26)), none, none⟩, 
  ⟨.op (.faddr 1 (.slot 5)), none, none⟩, 
  ⟨.op (.store 1 true (.slot 28) (.slot 27)), none, none⟩]
  [[], [0], [], [2], [], [2, 3, 4], [2, 3, 4, 5], [2, 3, 4, 5, 6], [], [8], [], [8, 9, 10], [8, 9, 10, 11], [8, 9, 10, 11, 12], [], [8, 9, 10, 11, 12, 13, 14], [2, 3, 4, 5, 6, 7, 8, 9, 10, 11, 12, 13, 14, 15], [2, 3, 4, 5, 6, 7, 8, 9, 10, 11, 12, 13, 14, 15, 16], [0, 1, 2, 3, 4, 5, 6, 7, 8, 9, 10, 11, 12, 13, 14, 15, 16, 17], [0, 1, 2, 3, 4, 5, 6, 7, 8, 9, 10, 11, 12, 13, 14, 15, 16, 17, 18], [0, 1, 2, 3, 4, 5, 6, 7, 8, 9, 10, 11, 12, 13, 14, 15, 16, 17, 18, 19]] 18 [(17, 16)] [([], none), ([true], none), ([false, false], none), ([false, false, true], none), ([false, false, false, false], none), ([false, false, true, true, true], none), ([false, false, true, true, true, true], none), ([false, false, true, true, true, true, true], none), ([false, false, false, false, false, false, false, false], none), ([false, false, false, false, false, false, false, false, true], none), ([false, false, false, false, false, false, false, false, false, false], none), ([false, false, false, false, false, false, false, false, true, true, true], none), ([false, false, false, false, false, false, false, false, true, true, true, true], none), ([false, false, false, false, false, false, false, false, true, true, true, true, true], none), ([false, false, false, false, false, false, false, false, false, false, false, false, false, false], none), ([false, false, false, false, false, false, false, false, true, true, true, true, true, true, true], none), ([false, false, true, true, true, true, true, true, true, true, true, true, true, true, true, true], none), ([false, false, true, true, true, true, true, true, true, true, true, true, true, true, true, true, true], (some [16]))] [true, true, true, true, true, true, true, true, true, true, true, true, true, true, true, true, false, true])) c99_4
abbrev c99_6 : SCode := .cond (.slot 7) (.skip) (.exit 0)
abbrev b99_0 : SCode := .seq (.seq (.reg [13, 14, 15, 16, 17, 18, 19, 20, 1057] [
  ⟨.op (.mv (.slot 6)), none, none⟩, 
  ⟨.op (.faddr 1 (.slot 2)), none, none⟩, 
  ⟨.op (.load 1 false (.slot 10)), none, none⟩, 
  ⟨.op (.len false (.slot 11)), none, none⟩, 
  ⟨.op (.bin .lss (.slot 9) (.slot 12)), none, none⟩, 
  ⟨.op (.mv (.slot 13)), none, none⟩, 
  ⟨.op (.mv (.slot 1)), none, some (14, true)⟩, 
  ⟨.op (.bin .neq (.slot 15) (.con (.int .i64 0))), none, some (14, true)⟩, 
  ⟨.op (.pick (.slot 14) (.slot 16) (.con (.bool false))), some 7, none⟩]) c99_6) c99_5
def l99_0 : SCode := .loop b99_0
abbrev c99_8 : SCode := .block 0 (l99_0)
abbrev c99_9 : SCode := .seq (.seq (.reg [1049] [
  ⟨.op (.asg (.con (.int .i64 0))), some 6, none⟩]) c99_8) c99_3
abbrev c99_10 : SCode := .seq (.reg [8, 9, 10, 11, 12, 1054, 1055] [
  ⟨.op (.faddr 0 (.slot 2)), none, none⟩, 
  ⟨.op (.load 1 false (.slot 9)), none, none⟩, 
  ⟨.op (.mv (.slot 1)), none, none⟩, 
  ⟨.op (.bin .mul (.slot 10) (.slot 11)), none, none⟩, 
  ⟨.op (.build [(.int .i64 0), (.osl 0 111 0 [])] [(0, 1, (.slot 12))]), none, none⟩, 
  ⟨.op (.mk 103 [(.int .i64 0), (.osl 0 111 0 [])]), some 5, none⟩, 
  ⟨.op (.store 2 true (.slot 5) (.slot 13)), none, none⟩]) c99_9
abbrev s99 : SCode := .seq (.reg [1049, 1050, 1051] [
  ⟨.op (.box 103 2 (.slot 0)), some 2, none⟩, 
  ⟨.op (.mk 103 [(.int .i64 0), (.osl 0 111 0 [])]), some 3, none⟩, 
  ⟨.op (.asg (.con (.bool false))), some 4, none⟩]) c99_10
theorem ok99 : okFn Go.Proofs.Try.prog Go.Proofs.Try.f99 v99 s99 r99 2 = true := by kernel_rfl

def v100 : List Nat := [0, 2]
def r100 : List SRes := [.tmp 1]
abbrev c100_0 : SCode := .seq (.reg [3, 4, 5, 1009] [
  ⟨.op (.mv (.slot 0)), none, none⟩, 
  ⟨.op (.conv .i64 (.slot 2)), none, none⟩, 
  ⟨.call 58 [(.slot 3), (.con (.int .i64 97)), (.con (.int .i64 122))] false, none, none⟩, 
  ⟨.op (.asg (.slot 4)), some 1, none⟩]) (.ret)
abbrev s100 : SCode := .seq (.reg [1006] [
  ⟨.op (.asg (.con (.bool false))), some 1, none⟩]) c100_0
theorem ok100 : okFn Go.Proofs.Try.prog Go.Proofs.Try.f100 v100 s100 r100 1 = true := by kernel_rfl

def v101 : List Nat := [0, 2]
def r101 : List SRes := [.tmp 1]
abbrev c101_0 : SCode := .seq (.reg [3, 4, 5, 1009] [
  ⟨.op (.bsl 9 6 [(.str [])] [(0, 1, (.con (.str [97, 114, 114, 97, 121]))), (1, 1, (.con (.str [102, 111, 114]))), (2, 1, (.con (.str [116, 111]))), (3, 1, (.con (.str [112, 114, 105, 110, 116]))), (4, 1, (.con (.str [109, 105, 110]))), (5, 1, (.con (.str [109, 97, 120])))]), none, none⟩, 
  ⟨.op (.mv (.slot 0)), none, none⟩, 
  ⟨.call 96 [(.slot 2), (.slot 3)] false, none, none⟩, 
  ⟨.op (.asg (.slot 4)), some 1, none⟩]) (.ret)
abbrev s101 : SCode := .seq (.reg [1006] [
  ⟨.op (.asg (.con (.bool false))), some 1, none⟩]) c101_0
theorem ok101 : okFn Go.Proofs.Try.prog Go.Proofs.Try.f101 v101 s101 r101 1 = true := by kernel_rfl

def v102 : List Nat := [0, 2]
def r102 : List SRes := [.tmp 1]
abbrev c102_0 : SCode := .seq (.reg [3, 4, 1007] [
  ⟨.op (.mv (.slot 0)), none, none⟩, 
  ⟨.call 49 [(.slot 2), (.con (.int .i64 (-100000))), (.con (.int .i64 100000))] false, none, none⟩, 
  ⟨.op (.asg (.slot 3)), some 1, none⟩]) (.ret)
abbrev s102 : SCode := .seq (.reg [1005] [
  ⟨.op (.asg (.con (.bool false))), some 1, none⟩]) c102_0
theorem ok102 : okFn Go.Proofs.Try.prog Go.Proofs.Try.f102 v102 s102 r102 1 = true := by kernel_rfl

def v103 : List Nat := [0, 1, 4]
def r103 : List SRes := [.tmp 2]
abbrev c103_0 : SCode := .seq (.reg [5, 6, 7, 8, 1013] [
  ⟨.op (.mv (.slot 0)), none, none⟩, 
  ⟨.op (.mv (.slot 1)), none, none⟩, 
  ⟨.call 111 [(.slot 3), (.slot 4)] false, none, none⟩, 
  ⟨.op (.bin .geq (.slot 5) (.con (.int .i64 0))), none, none⟩, 
  ⟨.op (.asg (.slot 6)), some 2, none⟩]) (.ret)
abbrev s103 : SCode := .seq (.reg [1009] [
  ⟨.op (.asg (.con (.bool false))), some 2, none⟩]) c103_0
theorem ok103 : okFn Go.Proofs.Try.prog Go.Proofs.Try.f103 v103 s103 r103 2 = true := by kernel_rfl

def v104 : List Nat := [0, 1, 2, 4, 5, 6, 7, 8, 16, 24, 40]
def r104 : List SRes := [.cell 5 2 true, .tmp 6]
abbrev c104_0 : SCode := .seq (.reg [56, 1058, 1059] [
  ⟨.op (.build [(.int .i64 0), (.osl 0 111 0 [])] []), none, none⟩, 
  ⟨.op (.store 2 true (.slot 5) (.slot 11)), none, none⟩, 
  ⟨.op (.asg (.con (.bool false))), some 6, none⟩]) (.ret)
abbrev c104_1 : SCode := .seq (.reg [11, 12, 13, 14, 15, 1062, 1063] [
  ⟨.op (.load 2 true (.slot 3)), none, none⟩, 
  ⟨.op (.load 2 true (.slot 4)), none, none⟩, 
  ⟨.call 112 [(.slot 11), (.slot 12), (.con (.int .i64 1))] false, none, none⟩, 
  ⟨.op (.ext 13 0), none, none⟩, 
  ⟨.op (.ext 13 1), none, none⟩, 
  ⟨.op (.store 2 true (.slot 5) (.slot 14)), none, none⟩, 
  ⟨.op (.asg (.slot 15)), some 6, none⟩]) (.ret)
abbrev c104_2 : SCode := .seq (.reg [19, 20, 21, 22, 23, 1062, 1063] [
  ⟨.op (.load 2 true (.slot 3)), none, none⟩, 
  ⟨.op (.load 2 true (.slot 4)), none, none⟩, 
  ⟨.call 112 [(.slot 11), (.slot 12), (.con (.int .i64 (-1)))] false, none, none⟩, 
  ⟨.op (.ext 13 0), none, none⟩, 
  ⟨.op (.ext 13 1), none, none⟩, 
  ⟨.op (.store 2 true (.slot 5) (.slot 14)), none, none⟩, 
  ⟨.op (.asg (.slot 15)), some 6, none⟩]) (.ret)
abbrev c104_3 : SCode := .seq (.reg [33, 34, 35, 36, 37, 38, 39, 1064, 1065] [
  ⟨.op (.build [(.int .i64 0), (.osl 0 111 0 [])] []), none, none⟩, 
  ⟨.op (.load 2 true (.slot 4)), none, none⟩, 
  ⟨.op (.faddr 0 (.slot 3)), none, none⟩, 
  ⟨.op (.load 1 false (.slot 13)), none, none⟩, 
  ⟨.call 112 [(.slot 11), (.slot 12), (.slot 14)] false, none, none⟩, 
  ⟨.op (.ext 15 0), none, none⟩, 
  ⟨.op (.ext 15 1), none, none⟩, 
  ⟨.op (.store 2 true (.slot 5) (.slot 16)), none, none⟩, 
  ⟨.op (.asg (.slot 17)), some 6, none⟩]) (.ret)
abbrev c104_4 : SCode := .seq (.reg [49, 50, 51, 52, 53, 54, 55, 1064, 1065] [
  ⟨.op (.build [(.int .i64 0), (.osl 0 111 0 [])] []), none, none⟩, 
  ⟨.op (.load 2 true (.slot 3)), none, none⟩, 
  ⟨.op (.faddr 0 (.slot 4)), none, none⟩, 
  ⟨.op (.load 1 false (.slot 13)), none, none⟩, 
  ⟨.call 112 [(.slot 11), (.slot 12), (.slot 14)] false, none, none⟩, 
  ⟨.op (.ext 15 0), none, none⟩, 
  ⟨.op (.ext 15 1), none, none⟩, 
  ⟨.op (.store 2 true (.slot 5) (.slot 16)), none, none⟩, 
  ⟨.op (.asg (.slot 17)), some 6, none⟩]) (.ret)
abbrev c104_5 : SCode := .cond (.slot 10) c104_4 (.skip)
abbrev c104_6 : SCode := .seq (.reg [41, 42, 43, 44, 45, 46, 47, 48, 1065] [
  ⟨.op (.mv (.slot 0)), none, none⟩, 
  ⟨.op (.bin .eql (.slot 11) (.con (.int .i64 6))), none, none⟩, 
  ⟨.op (.mv (.slot 12)), none, none⟩, 
  ⟨.op (.faddr 1 (.slot 4)), none, some (13, true)⟩, 
  ⟨.op (.load 1 false (.slot 14)), none, some (13, true)⟩, 
  ⟨.op (.len false (.slot 15)), none, some (13, true)⟩, 
  ⟨.op (.bin .eql (.slot 16) (.con (.int .i64 0))), none, some (13, true)⟩, 
  ⟨.op (.pick (.slot 13) (.slot 17) (.con (.bool false))), none, none⟩, 
  ⟨.op (.asg (.slot 18)), some 10, none⟩]) c104_5
abbrev c104_7 : SCode := .cond (.slot 9) c104_3 c104_6
abbrev c104_8 : SCode := .seq (.reg [25, 26, 27, 28, 29, 30, 31, 32, 1065] [
  ⟨.op (.mv (.slot 0)), none, none⟩, 
  ⟨.op (.bin .eql (.slot 11) (.con (.int .i64 6))), none, none⟩, 
  ⟨.op (.mv (.slot 12)), none, none⟩, 
  ⟨.op (.faddr 1 (.slot 3)), none, some (13, true)⟩, 
  ⟨.op (.load 1 false (.slot 14)), none, some (13, true)⟩, 
  ⟨.op (.len false (.slot 15)), none, some (13, true)⟩, 
  ⟨.op (.bin .eql (.slot 16) (.con (.int .i64 0))), none, some (13, true)⟩, 
  ⟨.op (.pick (.slot 13) (.slot 17) (.con (.bool false))), none, none⟩, 
  ⟨.op (.asg (.slot 18)), some 9, none⟩]) c104_7
abbrev c104_9 : SCode := .cond (.slot 8) c104_2 c104_8
abbrev c104_10 : SCode := .seq (.reg [17, 18, 1059] [
  ⟨.op (.mv (.slot 0)), none, none⟩, 
  ⟨.op (.bin .eql (.slot 11) (.con (.int .i64 5))), none, none⟩, 
  ⟨.op (.asg (.slot 12)), some 8, none⟩]) c104_9
abbrev c104_11 : SCode := .cond (.slot 7) c104_1 c104_10
abbrev c104_12 : SCode := .seq (.block 0 (.seq (.reg [9, 10, 1059] [
  ⟨.op (.mv (.slot 0)), none, none⟩, 
  ⟨.op (.bin .eql (.slot 11) (.con (.int .i64 4))), none, none⟩, 
  ⟨.op (.asg (.slot 12)), some 7, none⟩]) c104_11)) c104_0
abbrev s104 : SCode := .seq (.reg [1057, 1058, 1059, 1060] [
  ⟨.op (.box 103 2 (.slot 1)), some 3, none⟩, 
  ⟨.op (.box 103 2 (.slot 2)), some 4, none⟩, 
  ⟨.op (.mk 103 [(.int .i64 0), (.osl 0 111 0 [])]), some 5, none⟩, 
  ⟨.op (.asg (.con (.bool false))), some 6, none⟩]) c104_12
theorem ok104 : okFn Go.Proofs.Try.prog Go.Proofs.Try.f104 v104 s104 r104 3 = true := by kernel_rfl

def v105 : List Nat := [0, 2]
def r105 : List SRes := [.tmp 1]
abbrev c105_0 : SCode := .seq (.reg [3, 4, 5, 6, 7, 8, 1015] [
  ⟨.op (.mv (.slot 0)), none, none⟩, 
  ⟨.op (.bin .geq (.slot 2) (.con (.int .u8 97))), none, none⟩, 
  ⟨.op (.mv (.slot 3)), none, none⟩, 
  ⟨.op (.mv (.slot 0)), none, some (4, true)⟩, 
  ⟨.op (.bin .leq (.slot 5) (.con (.int .u8 122))), none, some (4, true)⟩, 
  ⟨.op (.pick (.slot 4) (.slot 6) (.con (.bool false))), none, none⟩, 
  ⟨.op (.asg (.slot 7)), some 1, none⟩]) (.ret)
abbrev s105 : SCode := .seq (.reg [1009] [
  ⟨.op (.asg (.con (.bool false))), some 1, none⟩]) c105_0
theorem ok105 : okFn Go.Proofs.Try.prog Go.Proofs.Try.f105 v105 s105 r105 1 = true := by kernel_rfl

def v106 : List Nat := [0, 2, 3, 4]
def r106 : List SRes := [.tmp 1]
abbrev c106_0 : SCode := .seq (.reg [1011] [
  ⟨.op (.asg (.con (.bool false))), some 1, none⟩]) (.ret)
abbrev c106_1 : SCode := .seq (.reg [1011] [
  ⟨.op (.asg (.con (.bool true))), some 1, none⟩]) (.ret)
abbrev c106_2 : SCode := .cond (.slot 3) c106_1 (.skip)
abbrev c106_3 : SCode := .reg [10, 1012] [
  ⟨.op (.bin .eql (.slot 2) (.con (.str [109, 97, 120]))), none, none⟩, 
  ⟨.op (.asg (.slot 4)), some 3, none⟩]
abbrev c106_4 : SCode := .condk (.slot 3) (.skip) c106_3
abbrev c106_5 : SCode := .seq (.reg [9, 1012] [
  ⟨.op (.bin .eql (.slot 2) (.con (.str [109, 105, 110]))), none, none⟩, 
  ⟨.op (.asg (.slot 4)), some 3, none⟩]) c106_4
abbrev c106_6 : SCode := .condk (.slot 3) (.skip) c106_5
abbrev c106_7 : SCode := .seq (.reg [8, 1012] [
  ⟨.op (.bin .eql (.slot 2) (.con (.str [112, 114, 105, 110, 116]))), none, none⟩, 
  ⟨.op (.asg (.slot 4)), some 3, none⟩]) c106_6
abbrev c106_8 : SCode := .condk (.slot 3) (.skip) c106_7
abbrev c106_9 : SCode := .seq (.reg [7, 1012] [
  ⟨.op (.bin .eql (.slot 2) (.con (.str [116, 111]))), none, none⟩, 
  ⟨.op (.asg (.slot 4)), some 3, none⟩]) c106_8
abbrev c106_10 : SCode := .condk (.slot 3) (.skip) c106_9
abbrev c106_11 : SCode := .seq (.reg [6, 1012] [
  ⟨.op (.bin .eql (.slot 2) (.con (.str [102, 111, 114]))), none, none⟩, 
  ⟨.op (.asg (.slot 4)), some 3, none⟩]) c106_10
abbrev c106_12 : SCode := .condk (.slot 3) (.skip) c106_11
abbrev c106_13 : SCode := .block 0 (.seq (.seq (.reg [5, 1012] [
  ⟨.op (.bin .eql (.slot 2) (.con (.str [97, 114, 114, 97, 121]))), none, none⟩, 
  ⟨.op (.asg (.slot 4)), some 3, none⟩]) c106_12) c106_2)
abbrev c106_14 : SCode := .seq (.seq (.reg [1011] [
  ⟨.op (.asg (.slot 0)), some 2, none⟩]) c106_13) c106_0
abbrev s106 : SCode := .seq (.reg [1011] [
  ⟨.op (.asg (.con (.bool false))), some 1, none⟩]) c106_14
theorem ok106 : okFn Go.Proofs.Try.prog Go.Proofs.Try.f106 v106 s106 r106 1 = true := by kernel_rfl

def v107 : List Nat := [0, 1, 4, 7, 8, 9, 5, 16]
def r107 : List SRes := [.tmp 2]
abbrev c107_0 : SCode := .seq (.reg [1019] [
  ⟨.op (.asg (.con (.int .i64 (-1)))), some 2, none⟩]) (.ret)
abbrev c107_1 : SCode := .reg [18, 1020] [
  ⟨.op (.bin .add (.slot 4) (.con (.int .i64 1))), none, none⟩, 
  ⟨.op (.asg (.slot 8)), some 4, none⟩]
abbrev c107_2 : SCode := .seq (.reg [17, 1020] [
  ⟨.op (.mv (.slot 6)), none, none⟩, 
  ⟨.op (.asg (.slot 8)), some 2, none⟩]) (.ret)
abbrev c107_3 : SCode := .cond (.slot 7) c107_2 (.skip)
abbrev c107_4 : SCode := .seq (.reg [11, 12, 13, 14, 15, 1024] [
  ⟨.op (.mv (.slot 1)), none, none⟩, 
  ⟨.op (.mv (.slot 0)), none, none⟩, 
  ⟨.op (.mv (.slot 6)), none, none⟩, 
  ⟨.op (.iaddr 3 (.slot 9) (.slot 10)), none, none⟩, 
  ⟨.op (.load 3 true (.slot 11)), none, none⟩, 
  ⟨.callv (.slot 8) [(.slot 12)], some 7, none⟩]) c107_3
abbrev c107_5 : SCode := .seq (.block 1 (.seq (.reg [10, 1020] [
  ⟨.op (.mv (.slot 4)), none, none⟩, 
  ⟨.op (.asg (.slot 8)), some 6, none⟩]) c107_4)) c107_1
abbrev c107_6 : SCode := .seq (.cond (.slot 5) (.skip) (.exit 0)) c107_5
abbrev b107_0 : SCode := .seq (.reg [1019] [
  ⟨.op (.bin .lss (.slot 4) (.slot 3)), some 5, none⟩]) c107_6
def l107_0 : SCode := .loop b107_0
abbrev c107_8 : SCode := .block 0 (l107_0)
abbrev c107_9 : SCode := .seq (.seq (.reg [6, 1020, 1021] [
  ⟨.op (.mv (.slot 0)), none, none⟩, 
  ⟨.op (.len false (.slot 8)), some 3, none⟩, 
  ⟨.op (.asg (.con (.int .i64 0))), some 4, none⟩]) c107_8) c107_0
abbrev s107 : SCode := .seq (.reg [1019] [
  ⟨.op (.asg (.con (.int .i64 0))), some 2, none⟩]) c107_9
theorem ok107 : okFn Go.Proofs.Try.prog Go.Proofs.Try.f107 v107 s107 r107 2 = true := by kernel_rfl

def v108 : List Nat := [0, 1, 2, 3]
def r108 : List SRes := [.tmp 3]
abbrev c108_0 : SCode := .seq (.reg [4, 5, 6, 7, 1012] [
  ⟨.op (.faddr 0 (.slot 2)), none, none⟩, 
  ⟨.op (.load 1 false (.slot 4)), none, none⟩, 
  ⟨.op (.load 1 false (.slot 1)), none, none⟩, 
  ⟨.op (.bin .eql (.slot 5) (.slot 6)), none, none⟩, 
  ⟨.op (.asg (.slot 7)), some 3, none⟩]) (.ret)
abbrev s108 : SCode := .seq (.reg [1008, 1009] [
  ⟨.op (.box 75 3 (.slot 0)), some 2, none⟩, 
  ⟨.op (.asg (.con (.bool false))), some 3, none⟩]) c108_0
theorem ok108 : okFn Go.Proofs.Try.prog Go.Proofs.Try.f108 v108 s108 r108 2 = true := by kernel_rfl

def v109 : List Nat := [0, 2]
def r109 : List SRes := [.tmp 1]
abbrev c109_0 : SCode := .seq (.reg [3, 4, 1007] [
  ⟨.op (.mv (.slot 0)), none, none⟩, 
  ⟨.call 58 [(.slot 2), (.con (.int .i64 (-100000))), (.con (.int .i64 100000))] false, none, none⟩, 
  ⟨.op (.asg (.slot 3)), some 1, none⟩]) (.ret)
abbrev s109 : SCode := .seq (.reg [1005] [
  ⟨.op (.asg (.con (.bool false))), some 1, none⟩]) c109_0
theorem ok109 : okFn Go.Proofs.Try.prog Go.Proofs.Try.f109 v109 s109 r109 1 = true := by kernel_rfl

def v110 : List Nat := [0, 1, 2, 3, 4, 6, 7, 19, 8, 9, 10, 35, 11, 54, 68]
def r110 : List SRes := [.cell 5 2 true, .tmp 6]
abbrev c110_0 : SCode := .seq (.reg [70, 1072, 1073] [
  ⟨.op (.load 2 true (.slot 8)), none, none⟩, 
  ⟨.op (.store 2 true (.slot 5) (.slot 15)), none, none⟩, 
  ⟨.op (.asg (.con (.bool true))), some 6, none⟩]) (.ret)
abbrev c110_1 : SCode := .seq (.reg [69, 1072, 1073] [
  ⟨.op (.build [(.int .i64 0), (.osl 0 111 0 [])] []), none, none⟩, 
  ⟨.op (.store 2 true (.slot 5) (.slot 15)), none, none⟩, 
  ⟨.op (.asg (.con (.bool false))), some 6, none⟩]) (.ret)
abbrev c110_2 : SCode := .cond (.slot 14) c110_1 (.skip)
abbrev c110_3 : SCode := .seq (.seq (.reg [66, 67, 1073] [
  ⟨.op (.load 2 true (.slot 8)), none, none⟩, 
  ⟨.call 95 [(.slot 15)] false, none, none⟩, 
  ⟨.op (.not (.slot 16)), some 14, none⟩]) c110_2) c110_0
abbrev c110_4 : SCode := .reg [36, 37, 1073] [
  ⟨.op (.mv (.slot 10)), none, none⟩, 
  ⟨.op (.bin .add (.slot 15) (.con (.int .i64 1))), none, none⟩, 
  ⟨.op (.asg (.slot 16)), some 10, none⟩]
abbrev c110_5 : SCode := .dreg [55, 56, 57, 58, 59, 60, 61, 62, 63, 64, 65, 1082] [
  ⟨.op (.faddr 1 (.slot 8)), none, none⟩, 
  ⟨.op (.load 1 false (.slot 15)), none, none⟩, 
  ⟨.op (.mv (.slot 9)), none, none⟩, 
  ⟨.op (.mv (.slot 10)), none, none⟩, 
  ⟨.op (.iaddr 1 (.slot 17) (.slot 18)), none, none⟩, 
  ⟨.op (.load 1 false (.slot 19)), none, none⟩, 
  ⟨.op (.mv (.slot 12)), none, none⟩, 
  ⟨.op (.build [(.str []), (.int .i64 0)] [(0, 1, (.slot 20)), (1, 1, (.slot 21))]), none, none⟩, 
  ⟨.op (.bsl 111 1 [(.str []), (.int .i64 0)] [(0, 2, (.slot 22))]), none, none⟩, 
  ⟨.op (.append 111 2 (.slot 16) (.slot 23)), none, none⟩, 
  ⟨.op (.faddr 1 (.slot 8)), none, none⟩, 
  ⟨.op (.store 1 true (.slot 25) (.slot 24)), none, none⟩]
  [[], [0], [], [], [2, 3], [2, 3, 4], [], [2, 3, 4, 5, 6], [2, 3, 4, 5, 6, 7], [0, 1, 2, 3, 4, 5, 6, 7, 8], [0, 1, 2, 3, 4, 5, 6, 7, 8, 9], [0, 1, 2, 3, 4, 5, 6, 7, 8, 9, 10]] 9 [(8, 7)] [([], none), ([true], none), ([false, false], none), ([false, false, false], none), ([false, false, true, true], none), ([false, false, true, true, true], none), ([false, false, false, false, false, false], none), ([false, false, true, true, true, true, true], none), ([false, false, true, true, true, true, true, true], (some [7]))] [true, true, true, true, true, true, true, false, true]
abbrev c110_6 : SCode := .cond (.slot 13) c110_5 (.skip)
abbrev c110_7 : SCode := .seq (.reg [53, 1072] [
  ⟨.op (.mv (.slot 12)), none, none⟩, 
  ⟨.op (.bin .neq (.slot 15) (.con (.int .i64 0))), some 13, none⟩]) c110_6
abbrev c110_8 : SCode := .seq (.block 1 (.seq (.dreg [38, 39, 40, 41, 42, 43, 44, 45, 46, 47, 48, 49, 50, 51, 52, 1086] [
  ⟨.op (.load 2 true (.slot 3)), none, none⟩, 
  ⟨.op (.mv (.slot 9)), none, none⟩, 
  ⟨.op (.mv (.slot 10)), none, none⟩, 
  ⟨.op (.iaddr 1 (.slot 16) (.slot 17)), none, none⟩, 
  ⟨.op (.load 1 false (.slot 18)), none, none⟩, 
  ⟨.call 114 [(.slot 15), (.slot 19)] false, none, none⟩, 
  ⟨.op (.mv (.slot 2)), none, none⟩, 
  ⟨.op (.load 2 true (.slot 4)), none, none⟩, 
  ⟨.op (.mv (.slot 9)), none, none⟩, 
  ⟨.op (.mv (.slot 10)), none, none⟩, 
  ⟨.op (.iaddr 1 (.slot 23) (.slot 24)), none, none⟩, 
  ⟨.op (.load 1 false (.slot 25)), none, none⟩, 
  ⟨.call 114 [(.slot 22), (.slot 26)] false, none, none⟩, 
  ⟨.op (.bin .mul (.slot 21) (.slot 27)), none, none⟩, 
  ⟨.op (.bin .add (.slot 20) (.slot 28)), none, none⟩, 
  ⟨.op (.asg (.slot 29)), some 12, none⟩]
  [[], [], [], [1, 2], [1, 2, 3], [0, 1, 2, 3, 4], [], [], [], [], [8, 9], [8, 9, 10], [0, 1, 2, 3, 4, 5, 7, 8, 9, 10, 11], [0, 1, 2, 3, 4, 5, 6, 7, 8, 9, 10, 11, 12], [0, 1, 2, 3, 4, 5, 6, 7, 8, 9, 10, 11, 12, 13], [0, 1, 2, 3, 4, 5, 6, 7, 8, 9, 10, 11, 12, 13, 14]] 15 [] [([], none), ([false], none), ([false, false], none), ([false, true, true], none), ([false, true, true, true], none), ([true, true, true, true, true], none), ([false, false, false, false, false, false], none), ([false, false, false, false, false, false, false], none), ([false, false, false, false, false, false, false, false], none), ([false, false, false, false, false, false, false, false, false], none), ([false, false, false, false, false, false, false, false, true, true], none), ([false, false, false, false, false, false, false, false, true, true, true], none), ([true, true, true, true, true, true, false, true, true, true, true, true], none), ([true, true, true, true, true, true, true, true, true, true, true, true, true], none), ([true, true, true, true, true, true, true, true, true, true, true, true, true, true], none)] [true, true, true, true, true, true, true, true, true, true, true, true, true, true, true]) c110_7)) c110_4
abbrev c110_9 : SCode := .cond (.slot 11) (.skip) (.exit 0)
abbrev b110_0 : SCode := .seq (.seq (.reg [32, 33, 34, 1074] [
  ⟨.op (.mv (.slot 10)), none, none⟩, 
  ⟨.op (.mv (.slot 9)), none, none⟩, 
  ⟨.op (.len false (.slot 16)), none, none⟩, 
  ⟨.op (.bin .lss (.slot 15) (.slot 17)), some 11, none⟩]) c110_9) c110_8
def l110_0 : SCode := .loop b110_0
abbrev c110_11 : SCode := .block 0 (l110_0)
abbrev c110_12 : SCode := .seq (.seq (.reg [1071] [
  ⟨.op (.asg (.con (.int .i64 0))), some 10, none⟩]) c110_11) c110_3
abbrev c110_13 : SCode := .seq (.reg [29, 30, 31, 1074] [
  ⟨.op (.load 2 true (.slot 3)), none, none⟩, 
  ⟨.op (.load 2 true (.slot 4)), none, none⟩, 
  ⟨.call 113 [(.slot 15), (.slot 16)] false, none, none⟩, 
  ⟨.op (.asg (.slot 17)), some 9, none⟩]) c110_12
abbrev c110_14 : SCode := .seq (.reg [21, 22, 23, 24, 25, 26, 27, 28, 1079, 1080] [
  ⟨.op (.faddr 0 (.slot 3)), none, none⟩, 
  ⟨.op (.load 1 false (.slot 15)), none, none⟩, 
  ⟨.op (.mv (.slot 2)), none, none⟩, 
  ⟨.op (.faddr 0 (.slot 4)), none, none⟩, 
  ⟨.op (.load 1 false (.slot 18)), none, none⟩, 
  ⟨.op (.bin .mul (.slot 17) (.slot 19)), none, none⟩, 
  ⟨.op (.bin .add (.slot 16) (.slot 20)), none, none⟩, 
  ⟨.op (.build [(.int .i64 0), (.osl 0 111 0 [])] [(0, 1, (.slot 21))]), none, none⟩, 
  ⟨.op (.mk 103 [(.int .i64 0), (.osl 0 111 0 [])]), some 8, none⟩, 
  ⟨.op (.store 2 true (.slot 8) (.slot 22)), none, none⟩]) c110_13
abbrev c110_15 : SCode := .seq (.reg [20, 1072, 1073] [
  ⟨.op (.build [(.int .i64 0), (.osl 0 111 0 [])] []), none, none⟩, 
  ⟨.op (.store 2 true (.slot 5) (.slot 15)), none, none⟩, 
  ⟨.op (.asg (.con (.bool false))), some 6, none⟩]) (.ret)
abbrev c110_16 : SCode := .cond (.slot 7) c110_15 (.skip)
abbrev c110_17 : SCode := .seq (.seq (.reg [12, 13, 14, 15, 16, 17, 18, 1078] [
  ⟨.op (.load 2 true (.slot 3)), none, none⟩, 
  ⟨.call 95 [(.slot 15)] false, none, none⟩, 
  ⟨.op (.not (.slot 16)), none, none⟩, 
  ⟨.op (.mv (.slot 17)), none, none⟩, 
  ⟨.op (.load 2 true (.slot 4)), none, some (18, false)⟩, 
  ⟨.call 95 [(.slot 19)] false, none, some (18, false)⟩, 
  ⟨.op (.not (.slot 20)), none, some (18, false)⟩, 
  ⟨.op (.pick (.slot 18) (.con (.bool true)) (.slot 21)), some 7, none⟩]) c110_16) c110_14
abbrev s110 : SCode := .seq (.reg [1071, 1072, 1073, 1074] [
  ⟨.op (.box 103 2 (.slot 0)), some 3, none⟩, 
  ⟨.op (.box 103 2 (.slot 1)), some 4, none⟩, 
  ⟨.op (.mk 103 [(.int .i64 0), (.osl 0 111 0 [])]), some 5, none⟩, 
  ⟨.op (.asg (.con (.bool false))), some 6, none⟩]) c110_17
theorem ok110 : okFn Go.Proofs.Try.prog Go.Proofs.Try.f110 v110 s110 r110 3 = true := by kernel_rfl

def v111 : List Nat := [0, 1, 4, 7, 8, 9, 5, 16]
def r111 : List SRes := [.tmp 2]
abbrev c111_0 : SCode := .seq (.reg [1019] [
  ⟨.op (.asg (.con (.int .i64 (-1)))), some 2, none⟩]) (.ret)
abbrev c111_1 : SCode := .reg [18, 1020] [
  ⟨.op (.bin .add (.slot 4) (.con (.int .i64 1))), none, none⟩, 
  ⟨.op (.asg (.slot 8)), some 4, none⟩]
abbrev c111_2 : SCode := .seq (.reg [17, 1020] [
  ⟨.op (.mv (.slot 6)), none, none⟩, 
  ⟨.op (.asg (.slot 8)), some 2, none⟩]) (.ret)
abbrev c111_3 : SCode := .cond (.slot 7) c111_2 (.skip)
abbrev c111_4 : SCode := .seq (.reg [11, 12, 13, 14, 15, 1024] [
  ⟨.op (.mv (.slot 1)), none, none⟩, 
  ⟨.op (.mv (.slot 0)), none, none⟩, 
  ⟨.op (.mv (.slot 6)), none, none⟩, 
  ⟨.op (.iaddr 1 (.slot 9) (.slot 10)), none, none⟩, 
  ⟨.op (.load 1 false (.slot 11)), none, none⟩, 
  ⟨.op (.bin .eql (.slot 8) (.slot 12)), some 7, none⟩]) c111_3
abbrev c111_5 : SCode := .seq (.block 1 (.seq (.reg [10, 1020] [
  ⟨.op (.mv (.slot 4)), none, none⟩, 
  ⟨.op (.asg (.slot 8)), some 6, none⟩]) c111_4)) c111_1
abbrev c111_6 : SCode := .seq (.cond (.slot 5) (.skip) (.exit 0)) c111_5
abbrev b111_0 : SCode := .seq (.reg [1019] [
  ⟨.op (.bin .lss (.slot 4) (.slot 3)), some 5, none⟩]) c111_6
def l111_0 : SCode := .loop b111_0
abbrev c111_8 : SCode := .block 0 (l111_0)
abbrev c111_9 : SCode := .seq (.seq (.reg [6, 1020, 1021] [
  ⟨.op (.mv (.slot 0)), none, none⟩, 
  ⟨.op (.len false (.slot 8)), some 3, none⟩, 
  ⟨.op (.asg (.con (.int .i64 0))), some 4, none⟩]) c111_8) c111_0
abbrev s111 : SCode := .seq (.reg [1019] [
  ⟨.op (.asg (.con (.int .i64 0))), some 2, none⟩]) c111_9
theorem ok111 : okFn Go.Proofs.Try.prog Go.Proofs.Try.f111 v111 s111 r111 2 = true := by kernel_rfl

def v112 : List Nat := [0, 1, 2, 3, 4, 6, 7, 8, 24, 25, 26, 27, 10, 11, 40, 52, 53, 54, 55, 13, 14, 70, 86]
def r112 : List SRes := [.cell 5 2 true, .tmp 6]
abbrev c112_0 : SCode := .seq (.reg [88, 1090, 1091] [
  ⟨.op (.load 2 true (.slot 7)), none, none⟩, 
  ⟨.op (.store 2 true (.slot 5) (.slot 23)), none, none⟩, 
  ⟨.op (.asg (.con (.bool true))), some 6, none⟩]) (.ret)
abbrev c112_1 : SCode := .seq (.reg [87, 1090, 1091] [
  ⟨.op (.build [(.int .i64 0), (.osl 0 111 0 [])] []), none, none⟩, 
  ⟨.op (.store 2 true (.slot 5) (.slot 23)), none, none⟩, 
  ⟨.op (.asg (.con (.bool false))), some 6, none⟩]) (.ret)
abbrev c112_2 : SCode := .cond (.slot 22) c112_1 (.skip)
abbrev c112_3 : SCode := .seq (.seq (.reg [84, 85, 1091] [
  ⟨.op (.load 2 true (.slot 7)), none, none⟩, 
  ⟨.call 119 [(.slot 23)] false, none, none⟩, 
  ⟨.op (.not (.slot 24)), some 22, none⟩]) c112_2) c112_0
abbrev c112_4 : SCode := .seq (.reg [81, 82, 83] [
  ⟨.op (.faddr 1 (.slot 7)), none, none⟩, 
  ⟨.op (.load 1 false (.slot 23)), none, none⟩, 
  ⟨.callm (.con (.fn 116 [])) [((.slot 24), true), ((.con (.fn 117 [])), false)], none, none⟩]) c112_3
abbrev c112_5 : SCode := .reg [80, 1090] [
  ⟨.op (.bin .add (.slot 17) (.con (.int .i64 1))), none, none⟩, 
  ⟨.op (.asg (.slot 23)), some 17, none⟩]
abbrev c112_6 : SCode := .reg [71, 72, 73, 74, 75, 76, 77, 78, 79, 1098] [
  ⟨.op (.faddr 1 (.slot 7)), none, none⟩, 
  ⟨.op (.load 1 false (.slot 23)), none, none⟩, 
  ⟨.op (.faddr 0 (.slot 19)), none, none⟩, 
  ⟨.op (.load 1 false (.slot 25)), none, none⟩, 
  ⟨.op (.mv (.slot 20)), none, none⟩, 
  ⟨.op (.build [(.str []), (.int .i64 0)] [(0, 1, (.slot 26)), (1, 1, (.slot 27))]), none, none⟩, 
  ⟨.op (.bsl 111 1 [(.str []), (.int .i64 0)] [(0, 2, (.slot 28))]), none, none⟩, 
  ⟨.op (.append 111 2 (.slot 24) (.slot 29)), none, none⟩, 
  ⟨.op (.faddr 1 (.slot 7)), none, none⟩, 
  ⟨.op (.store 1 true (.slot 31) (.slot 30)), none, none⟩]
abbrev c112_7 : SCode := .cond (.slot 21) c112_6 (.skip)
abbrev c112_8 : SCode := .seq (.reg [62, 63, 64, 65, 66, 67, 68, 69, 1097] [
  ⟨.op (.mv (.slot 20)), none, none⟩, 
  ⟨.op (.bin .neq (.slot 23) (.con (.int .i64 0))), none, none⟩, 
  ⟨.op (.mv (.slot 24)), none, none⟩, 
  ⟨.op (.load 2 true (.slot 3)), none, some (25, true)⟩, 
  ⟨.op (.faddr 0 (.slot 19)), none, some (25, true)⟩, 
  ⟨.op (.load 1 false (.slot 27)), none, some (25, true)⟩, 
  ⟨.call 115 [(.slot 26), (.slot 28)] false, none, some (25, true)⟩, 
  ⟨.op (.bin .eql (.slot 29) (.con (.int .i64 0))), none, some (25, true)⟩, 
  ⟨.op (.pick (.slot 25) (.slot 30) (.con (.bool false))), some 21, none⟩]) c112_7
abbrev c112_9 : SCode := .seq (.reg [58, 59, 60, 61, 1093] [
  ⟨.op (.mv (.slot 2)), none, none⟩, 
  ⟨.op (.faddr 1 (.slot 19)), none, none⟩, 
  ⟨.op (.load 1 false (.slot 24)), none, none⟩, 
  ⟨.op (.bin .mul (.slot 23) (.slot 25)), none, none⟩, 
  ⟨.op (.asg (.slot 26)), some 20, none⟩]) c112_8
abbrev c112_10 : SCode := .seq (.block 3 (.seq (.reg [56, 57, 1091, 1092] [
  ⟨.op (.iaddr 2 (.slot 15) (.slot 17)), none, none⟩, 
  ⟨.op (.load 2 true (.slot 23)), none, none⟩, 
  ⟨.op (.mk 111 [(.str []), (.int .i64 0)]), some 19, none⟩, 
  ⟨.op (.store 2 false (.slot 19) (.slot 24)), none, none⟩]) c112_9)) c112_5
abbrev c112_11 : SCode := .seq (.cond (.slot 18) (.skip) (.exit 2)) c112_10
abbrev b112_0 : SCode := .seq (.reg [1089] [
  ⟨.op (.bin .lss (.slot 17) (.slot 16)), some 18, none⟩]) c112_11
def l112_0 : SCode := .loop b112_0
abbrev c112_13 : SCode := .block 2 (l112_0)
abbrev c112_14 : SCode := .seq (.seq (.reg [51, 1090, 1091, 1092] [
  ⟨.op (.faddr 1 (.slot 4)), none, none⟩, 
  ⟨.op (.load 1 false (.slot 23)), some 15, none⟩, 
  ⟨.op (.len false (.slot 15)), some 16, none⟩, 
  ⟨.op (.asg (.con (.int .i64 0))), some 17, none⟩]) c112_13) c112_4
abbrev c112_15 : SCode := .reg [50, 1090] [
  ⟨.op (.bin .add (.slot 10) (.con (.int .i64 1))), none, none⟩, 
  ⟨.op (.asg (.slot 23)), some 10, none⟩]
abbrev c112_16 : SCode := .reg [41, 42, 43, 44, 45, 46, 47, 48, 49, 1098] [
  ⟨.op (.faddr 1 (.slot 7)), none, none⟩, 
  ⟨.op (.load 1 false (.slot 23)), none, none⟩, 
  ⟨.op (.faddr 0 (.slot 12)), none, none⟩, 
  ⟨.op (.load 1 false (.slot 25)), none, none⟩, 
  ⟨.op (.mv (.slot 13)), none, none⟩, 
  ⟨.op (.build [(.str []), (.int .i64 0)] [(0, 1, (.slot 26)), (1, 1, (.slot 27))]), none, none⟩, 
  ⟨.op (.bsl 111 1 [(.str []), (.int .i64 0)] [(0, 2, (.slot 28))]), none, none⟩, 
  ⟨.op (.append 111 2 (.slot 24) (.slot 29)), none, none⟩, 
  ⟨.op (.faddr 1 (.slot 7)), none, none⟩, 
  ⟨.op (.store 1 true (.slot 31) (.slot 30)), none, none⟩]
abbrev c112_17 : SCode := .cond (.slot 14) c112_16 (.skip)
abbrev c112_18 : SCode := .seq (.reg [39, 1090] [
  ⟨.op (.mv (.slot 13)), none, none⟩, 
  ⟨.op (.bin .neq (.slot 23) (.con (.int .i64 0))), some 14, none⟩]) c112_17
abbrev c112_19 : SCode := .seq (.dreg [30, 31, 32, 33, 34, 35, 36, 37, 38, 1098] [
  ⟨.op (.faddr 1 (.slot 12)), none, none⟩, 
  ⟨.op (.load 1 false (.slot 23)), none, none⟩, 
  ⟨.op (.mv (.slot 2)), none, none⟩, 
  ⟨.op (.load 2 true (.slot 4)), none, none⟩, 
  ⟨.op (.faddr 0 (.slot 12)), none, none⟩, 
  ⟨.op (.load 1 false (.slot 27)), none, none⟩, 
  ⟨.call 115 [(.slot 26), (.slot 28)] false, none, none⟩, 
  ⟨.op (.bin .mul (.slot 25) (.slot 29)), none, none⟩, 
  ⟨.op (.bin .add (.slot 24) (.slot 30)), none, none⟩, 
  ⟨.op (.asg (.slot 31)), some 13, none⟩]
  [[], [0], [], [], [], [4], [3, 4, 5], [2, 3, 4, 5, 6], [0, 1, 2, 3, 4, 5, 6, 7], [0, 1, 2, 3, 4, 5, 6, 7, 8]] 9 [] [([], none), ([true], none), ([false, false], none), ([false, false, false], none), ([false, false, false, false], none), ([false, false, false, false, true], none), ([false, false, false, true, true, true], none), ([false, false, true, true, true, true, true], none), ([true, true, true, true, true, true, true, true], none)] [true, true, true, true, true, true, true, true, true]) c112_18
abbrev c112_20 : SCode := .seq (.block 1 (.seq (.reg [28, 29, 1091, 1092] [
  ⟨.op (.iaddr 2 (.slot 8) (.slot 10)), none, none⟩, 
  ⟨.op (.load 2 true (.slot 23)), none, none⟩, 
  ⟨.op (.mk 111 [(.str []), (.int .i64 0)]), some 12, none⟩, 
  ⟨.op (.store 2 false (.slot 12) (.slot 24)), none, none⟩]) c112_19)) c112_15
abbrev c112_21 : SCode := .seq (.cond (.slot 11) (.skip) (.exit 0)) c112_20
abbrev b112_1 : SCode := .seq (.reg [1089] [
  ⟨.op (.bin .lss (.slot 10) (.slot 9)), some 11, none⟩]) c112_21
def l112_1 : SCode := .loop b112_1
abbrev c112_23 : SCode := .block 0 (l112_1)
abbrev c112_24 : SCode := .seq (.seq (.reg [23, 1090, 1091, 1092] [
  ⟨.op (.faddr 1 (.slot 3)), none, none⟩, 
  ⟨.op (.load 1 false (.slot 23)), some 8, none⟩, 
  ⟨.op (.len false (.slot 8)), some 9, none⟩, 
  ⟨.op (.asg (.con (.int .i64 0))), some 10, none⟩]) c112_23) c112_14
abbrev c112_25 : SCode := .seq (.reg [15, 16, 17, 18, 19, 20, 21, 22, 1097, 1098] [
  ⟨.op (.faddr 0 (.slot 3)), none, none⟩, 
  ⟨.op (.load 1 false (.slot 23)), none, none⟩, 
  ⟨.op (.mv (.slot 2)), none, none⟩, 
  ⟨.op (.faddr 0 (.slot 4)), none, none⟩, 
  ⟨.op (.load 1 false (.slot 26)), none, none⟩, 
  ⟨.op (.bin .mul (.slot 25) (.slot 27)), none, none⟩, 
  ⟨.op (.bin .add (.slot 24) (.slot 28)), none, none⟩, 
  ⟨.op (.build [(.int .i64 0), (.osl 0 111 0 [])] [(0, 1, (.slot 29))]), none, none⟩, 
  ⟨.op (.mk 103 [(.int .i64 0), (.osl 0 111 0 [])]), some 7, none⟩, 
  ⟨.op (.store 2 true (.slot 7) (.slot 30)), none, none⟩]) c112_24
abbrev s112 : SCode := .seq (.reg [1089, 1090, 1091, 1092] [
  ⟨.op (.box 103 2 (.slot 0)), some 3, none⟩, 
  ⟨.op (.box 103 2 (.slot 1)), some 4, none⟩, 
  ⟨.op (.mk 103 [(.int .i64 0), (.osl 0 111 0 [])]), some 5, none⟩, 
  ⟨.op (.asg (.con (.bool false))), some 6, none⟩]) c112_25
theorem ok112 : okFn Go.Proofs.Try.prog Go.Proofs.Try.f112 v112 s112 r112 3 = true := by kernel_rfl

def v113 : List Nat := [0, 1, 2, 3, 4, 5, 6, 13, 7, 28]
def r113 : List SRes := [.tmp 4]
abbrev c113_0 : SCode := .seq (.reg [39, 1041] [
  ⟨.op (.mv (.slot 5)), none, none⟩, 
  ⟨.op (.asg (.slot 10)), some 4, none⟩]) (.ret)
abbrev c113_1 : SCode := .reg [29, 30, 1042] [
  ⟨.op (.mv (.slot 8)), none, none⟩, 
  ⟨.op (.bin .add (.slot 10) (.con (.int .i64 1))), none, none⟩, 
  ⟨.op (.asg (.slot 11)), some 8, none⟩]
abbrev c113_2 : SCode := .seq (.block 3 (.reg [31, 32, 33, 34, 35, 36, 37, 38, 1048] [
  ⟨.op (.mv (.slot 5)), none, none⟩, 
  ⟨.op (.faddr 1 (.slot 3)), none, none⟩, 
  ⟨.op (.load 1 false (.slot 11)), none, none⟩, 
  ⟨.op (.mv (.slot 8)), none, none⟩, 
  ⟨.op (.iaddr 2 (.slot 12) (.slot 13)), none, none⟩, 
  ⟨.op (.faddr 0 (.slot 14)), none, none⟩, 
  ⟨.op (.load 1 false (.slot 15)), none, none⟩, 
  ⟨.call 120 [(.slot 10), (.slot 16)] false, none, none⟩, 
  ⟨.op (.asg (.slot 17)), some 5, none⟩])) c113_1
abbrev c113_3 : SCode := .cond (.slot 9) (.skip) (.exit 2)
abbrev b113_0 : SCode := .seq (.seq (.reg [24, 25, 26, 27, 1044] [
  ⟨.op (.mv (.slot 8)), none, none⟩, 
  ⟨.op (.faddr 1 (.slot 3)), none, none⟩, 
  ⟨.op (.load 1 false (.slot 11)), none, none⟩, 
  ⟨.op (.len false (.slot 12)), none, none⟩, 
  ⟨.op (.bin .lss (.slot 10) (.slot 13)), some 9, none⟩]) c113_3) c113_2
def l113_0 : SCode := .loop b113_0
abbrev c113_5 : SCode := .block 2 (l113_0)
abbrev c113_6 : SCode := .seq (.seq (.reg [1040] [
  ⟨.op (.asg (.con (.int .i64 0))), some 8, none⟩]) c113_5) c113_0
abbrev c113_7 : SCode := .reg [14, 15, 1042] [
  ⟨.op (.mv (.slot 6)), none, none⟩, 
  ⟨.op (.bin .add (.slot 10) (.con (.int .i64 1))), none, none⟩, 
  ⟨.op (.asg (.slot 11)), some 6, none⟩]
abbrev c113_8 : SCode := .seq (.block 1 (.reg [16, 17, 18, 19, 20, 21, 22, 23, 1048] [
  ⟨.op (.mv (.slot 5)), none, none⟩, 
  ⟨.op (.faddr 1 (.slot 2)), none, none⟩, 
  ⟨.op (.load 1 false (.slot 11)), none, none⟩, 
  ⟨.op (.mv (.slot 6)), none, none⟩, 
  ⟨.op (.iaddr 2 (.slot 12) (.slot 13)), none, none⟩, 
  ⟨.op (.faddr 0 (.slot 14)), none, none⟩, 
  ⟨.op (.load 1 false (.slot 15)), none, none⟩, 
  ⟨.call 120 [(.slot 10), (.slot 16)] false, none, none⟩, 
  ⟨.op (.asg (.slot 17)), some 5, none⟩])) c113_7
abbrev c113_9 : SCode := .cond (.slot 7) (.skip) (.exit 0)
abbrev b113_1 : SCode := .seq (.seq (.reg [9, 10, 11, 12, 1044] [
  ⟨.op (.mv (.slot 6)), none, none⟩, 
  ⟨.op (.faddr 1 (.slot 2)), none, none⟩, 
  ⟨.op (.load 1 false (.slot 11)), none, none⟩, 
  ⟨.op (.len false (.slot 12)), none, none⟩, 
  ⟨.op (.bin .lss (.slot 10) (.slot 13)), some 7, none⟩]) c113_9) c113_8
def l113_1 : SCode := .loop b113_1
abbrev c113_11 : SCode := .block 0 (l113_1)
abbrev c113_12 : SCode := .seq (.seq (.reg [1040] [
  ⟨.op (.asg (.con (.int .i64 0))), some 6, none⟩]) c113_11) c113_6
abbrev c113_13 : SCode := .seq (.reg [8, 1041] [
  ⟨.op (.bsl 9 0 [(.str [])] []), none, none⟩, 
  ⟨.op (.asg (.slot 10)), some 5, none⟩]) c113_12
abbrev s113 : SCode := .seq (.reg [1040, 1041, 1042] [
  ⟨.op (.box 103 2 (.slot 0)), some 2, none⟩, 
  ⟨.op (.box 103 2 (.slot 1)), some 3, none⟩, 
  ⟨.op (.asg (.con (.osl 0 9 0 []))), some 4, none⟩]) c113_13
theorem ok113 : okFn Go.Proofs.Try.prog Go.Proofs.Try.f113 v113 s113 r113 2 = true := by kernel_rfl

def v114 : List Nat := [0, 1, 2, 4, 5, 10, 20]
def r114 : List SRes := [.tmp 3]
abbrev c114_0 : SCode := .seq (.reg [1027] [
  ⟨.op (.asg (.con (.int .i64 0))), some 3, none⟩]) (.ret)
abbrev c114_1 : SCode := .reg [11, 12, 1029] [
  ⟨.op (.mv (.slot 4)), none, none⟩, 
  ⟨.op (.bin .add (.slot 7) (.con (.int .i64 1))), none, none⟩, 
  ⟨.op (.asg (.slot 8)), some 4, none⟩]
abbrev c114_2 : SCode := .seq (.reg [21, 22, 23, 24, 25, 26, 1033] [
  ⟨.op (.faddr 1 (.slot 2)), none, none⟩, 
  ⟨.op (.load 1 false (.slot 7)), none, none⟩, 
  ⟨.op (.mv (.slot 4)), none, none⟩, 
  ⟨.op (.iaddr 2 (.slot 8) (.slot 9)), none, none⟩, 
  ⟨.op (.faddr 1 (.slot 10)), none, none⟩, 
  ⟨.op (.load 1 false (.slot 11)), none, none⟩, 
  ⟨.op (.asg (.slot 12)), some 3, none⟩]) (.ret)
abbrev c114_3 : SCode := .cond (.slot 6) c114_2 (.skip)
abbrev c114_4 : SCode := .seq (.block 1 (.seq (.reg [13, 14, 15, 16, 17, 18, 19, 1034] [
  ⟨.op (.faddr 1 (.slot 2)), none, none⟩, 
  ⟨.op (.load 1 false (.slot 7)), none, none⟩, 
  ⟨.op (.mv (.slot 4)), none, none⟩, 
  ⟨.op (.iaddr 2 (.slot 8) (.slot 9)), none, none⟩, 
  ⟨.op (.faddr 0 (.slot 10)), none, none⟩, 
  ⟨.op (.load 1 false (.slot 11)), none, none⟩, 
  ⟨.op (.mv (.slot 1)), none, none⟩, 
  ⟨.op (.bin .eql (.slot 12) (.slot 13)), some 6, none⟩]) c114_3)) c114_1
abbrev c114_5 : SCode := .cond (.slot 5) (.skip) (.exit 0)
abbrev b114_0 : SCode := .seq (.seq (.reg [6, 7, 8, 9, 1031] [
  ⟨.op (.mv (.slot 4)), none, none⟩, 
  ⟨.op (.faddr 1 (.slot 2)), none, none⟩, 
  ⟨.op (.load 1 false (.slot 8)), none, none⟩, 
  ⟨.op (.len false (.slot 9)), none, none⟩, 
  ⟨.op (.bin .lss (.slot 7) (.slot 10)), some 5, none⟩]) c114_5) c114_4
def l114_0 : SCode := .loop b114_0
abbrev c114_7 : SCode := .block 0 (l114_0)
abbrev c114_8 : SCode := .seq (.seq (.reg [1027] [
  ⟨.op (.asg (.con (.int .i64 0))), some 4, none⟩]) c114_7) c114_0
abbrev s114 : SCode := .seq (.reg [1027, 1028] [
  ⟨.op (.box 103 2 (.slot 0)), some 2, none⟩, 
  ⟨.op (.asg (.con (.int .i64 0))), some 3, none⟩]) c114_8
theorem ok114 : okFn Go.Proofs.Try.prog Go.Proofs.Try.f114 v114 s114 r114 2 = true := by kernel_rfl

def v115 : List Nat := [0, 1, 2, 4, 8, 9, 10, 11, 6, 17]
def r115 : List SRes := [.tmp 3]
abbrev c115_0 : SCode := .seq (.reg [1021] [
  ⟨.op (.asg (.con (.int .i64 0))), some 3, none⟩]) (.ret)
abbrev c115_1 : SCode := .reg [20, 1022] [
  ⟨.op (.bin .add (.slot 6) (.con (.int .i64 1))), none, none⟩, 
  ⟨.op (.asg (.slot 10)), some 6, none⟩]
abbrev c115_2 : SCode := .seq (.reg [18, 19, 1023] [
  ⟨.op (.faddr 1 (.slot 8)), none, none⟩, 
  ⟨.op (.load 1 false (.slot 10)), none, none⟩, 
  ⟨.op (.asg (.slot 11)), some 3, none⟩]) (.ret)
abbrev c115_3 : SCode := .cond (.slot 9) c115_2 (.skip)
abbrev c115_4 : SCode := .seq (.reg [14, 15, 16, 1024] [
  ⟨.op (.faddr 0 (.slot 8)), none, none⟩, 
  ⟨.op (.load 1 false (.slot 10)), none, none⟩, 
  ⟨.op (.mv (.slot 1)), none, none⟩, 
  ⟨.op (.bin .eql (.slot 11) (.slot 12)), some 9, none⟩]) c115_3
abbrev c115_5 : SCode := .seq (.block 1 (.seq (.reg [12, 13, 1023, 1024] [
  ⟨.op (.iaddr 2 (.slot 4) (.slot 6)), none, none⟩, 
  ⟨.op (.load 2 true (.slot 10)), none, none⟩, 
  ⟨.op (.mk 111 [(.str []), (.int .i64 0)]), some 8, none⟩, 
  ⟨.op (.store 2 false (.slot 8) (.slot 11)), none, none⟩]) c115_4)) c115_1
abbrev c115_6 : SCode := .seq (.cond (.slot 7) (.skip) (.exit 0)) c115_5
abbrev b115_0 : SCode := .seq (.reg [1021] [
  ⟨.op (.bin .lss (.slot 6) (.slot 5)), some 7, none⟩]) c115_6
def l115_0 : SCode := .loop b115_0
abbrev c115_8 : SCode := .block 0 (l115_0)
abbrev c115_9 : SCode := .seq (.seq (.reg [7, 1022, 1023, 1024] [
  ⟨.op (.faddr 1 (.slot 2)), none, none⟩, 
  ⟨.op (.load 1 false (.slot 10)), some 4, none⟩, 
  ⟨.op (.len false (.slot 4)), some 5, none⟩, 
  ⟨.op (.asg (.con (.int .i64 0))), some 6, none⟩]) c115_8) c115_0
abbrev s115 : SCode := .seq (.reg [1021, 1022] [
  ⟨.op (.box 103 2 (.slot 0)), some 2, none⟩, 
  ⟨.op (.asg (.con (.int .i64 0))), some 3, none⟩]) c115_9
theorem ok115 : okFn Go.Proofs.Try.prog Go.Proofs.Try.f115 v115 s115 r115 2 = true := by kernel_rfl

def v116 : List Nat := [0, 1, 4]
def r116 : List SRes := []
abbrev c116_0 : SCode := .reg [7, 8, 9, 10, 11, 12, 13] [
  ⟨.op (.mv (.slot 0)), none, none⟩, 
  ⟨.op (.mv (.slot 2)), none, none⟩, 
  ⟨.op (.mv (.slot 2)), none, none⟩, 
  ⟨.op (.conv .u64 (.slot 5)), none, none⟩, 
  ⟨.call 122 [(.slot 6)] false, none, none⟩, 
  ⟨.op (.mv (.slot 1)), none, none⟩, 
  ⟨.callm (.con (.fn 121 [])) [((.slot 3), true), ((.con (.int .i64 0)), false), ((.slot 4), false), ((.slot 7), false), ((.slot 8), false)], none, none⟩]
abbrev s116 : SCode := .seq (.reg [5, 6, 1016] [
  ⟨.op (.mv (.slot 0)), none, none⟩, 
  ⟨.op (.len false (.slot 3)), none, none⟩, 
  ⟨.op (.asg (.slot 4)), some 2, none⟩]) c116_0
theorem ok116 : okFn Go.Proofs.Try.prog Go.Proofs.Try.f116 v116 s116 r116 2 = true := by kernel_rfl

def v117 : List Nat := [0, 1, 2, 3, 4]
def r117 : List SRes := [.tmp 4]
abbrev c117_0 : SCode := .seq (.reg [5, 6, 7, 8, 9, 1015] [
  ⟨.op (.faddr 0 (.slot 2)), none, none⟩, 
  ⟨.op (.load 1 false (.slot 5)), none, none⟩, 
  ⟨.op (.faddr 0 (.slot 3)), none, none⟩, 
  ⟨.op (.load 1 false (.slot 7)), none, none⟩, 
  ⟨.call 118 [(.slot 6), (.slot 8)] false, none, none⟩, 
  ⟨.op (.asg (.slot 9)), some 4, none⟩]) (.ret)
abbrev s117 : SCode := .seq (.reg [1010, 1011, 1012] [
  ⟨.op (.box 111 2 (.slot 0)), some 2, none⟩, 
  ⟨.op (.box 111 2 (.slot 1)), some 3, none⟩, 
  ⟨.op (.asg (.con (.int .i64 0))), some 4, none⟩]) c117_0
theorem ok117 : okFn Go.Proofs.Try.prog Go.Proofs.Try.f117 v117 s117 r117 2 = true := by kernel_rfl

def v118 : List Nat := [0, 1, 4, 5, 6, 11, 12, 13, 16, 19]
def r118 : List SRes := [.tmp 2]
abbrev c118_0 : SCode := .seq (.reg [1020] [
  ⟨.op (.asg (.con (.int .i64 0))), some 2, none⟩]) (.ret)
abbrev c118_1 : SCode := .seq (.reg [1020] [
  ⟨.op (.asg (.con (.int .i64 1))), some 2, none⟩]) (.ret)
abbrev c118_2 : SCode := .cond (.slot 9) c118_1 (.skip)
abbrev c118_3 : SCode := .seq (.seq (.reg [17, 18, 1022] [
  ⟨.op (.mv (.slot 0)), none, none⟩, 
  ⟨.op (.mv (.slot 1)), none, none⟩, 
  ⟨.op (.bin .gtr (.slot 10) (.slot 11)), some 9, none⟩]) c118_2) c118_0
abbrev c118_4 : SCode := .seq (.reg [1020] [
  ⟨.op (.asg (.con (.int .i64 (-1)))), some 2, none⟩]) (.ret)
abbrev c118_5 : SCode := .cond (.slot 8) c118_4 (.skip)
abbrev c118_6 : SCode := .seq (.seq (.reg [14, 15, 1022] [
  ⟨.op (.mv (.slot 0)), none, none⟩, 
  ⟨.op (.mv (.slot 1)), none, none⟩, 
  ⟨.op (.bin .lss (.slot 10) (.slot 11)), some 8, none⟩]) c118_5) c118_3
abbrev c118_7 : SCode := .seq (.reg [1020] [
  ⟨.op (.asg (.con (.int .i64 1))), some 2, none⟩]) (.ret)
abbrev c118_8 : SCode := .cond (.slot 7) c118_7 (.skip)
abbrev c118_9 : SCode := .seq (.seq (.reg [1020] [
  ⟨.op (.asg (.slot 4)), some 7, none⟩]) c118_8) c118_6
abbrev c118_10 : SCode := .seq (.reg [1020] [
  ⟨.op (.asg (.con (.int .i64 (-1)))), some 2, none⟩]) (.ret)
abbrev c118_11 : SCode := .seq (.reg [1020] [
  ⟨.op (.asg (.con (.int .i64 0))), some 2, none⟩]) (.ret)
abbrev c118_12 : SCode := .cond (.slot 6) c118_11 (.skip)
abbrev c118_13 : SCode := .seq (.seq (.reg [1020] [
  ⟨.op (.asg (.slot 4)), some 6, none⟩]) c118_12) c118_10
abbrev c118_14 : SCode := .cond (.slot 5) c118_13 (.skip)
abbrev c118_15 : SCode := .seq (.seq (.reg [1020] [
  ⟨.op (.asg (.slot 3)), some 5, none⟩]) c118_14) c118_9
abbrev c118_16 : SCode := .seq (.reg [9, 10, 1022] [
  ⟨.op (.mv (.slot 1)), none, none⟩, 
  ⟨.call 123 [(.slot 10)] false, none, none⟩, 
  ⟨.op (.asg (.slot 11)), some 4, none⟩]) c118_15
abbrev c118_17 : SCode := .seq (.reg [7, 8, 1022] [
  ⟨.op (.mv (.slot 0)), none, none⟩, 
  ⟨.call 123 [(.slot 10)] false, none, none⟩, 
  ⟨.op (.asg (.slot 11)), some 3, none⟩]) c118_16
abbrev s118 : SCode := .seq (.reg [1020] [
  ⟨.op (.asg (.con (.int .i64 0))), some 2, none⟩]) c118_17
theorem ok118 : okFn Go.Proofs.Try.prog Go.Proofs.Try.f118 v118 s118 r118 2 = true := by kernel_rfl

end Go.AmC
