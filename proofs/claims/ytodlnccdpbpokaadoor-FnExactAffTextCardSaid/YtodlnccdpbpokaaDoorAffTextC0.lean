/- Part of a proof: see the last text of this folder. -/
import Derived.Test.YtodlnccdpbpokaaDoorAmG
import Derived.KernelRfl
import Derived.Test.YtodlnccdpbpokaaDoorProg
set_option maxRecDepth 100000
namespace Go.AmC
open Go Go.AM
def v4 : List Nat := [0, 1, 2, 3, 11, 4, 5, 6, 21, 26]
def r4 : List SRes := [.tmp 2]
abbrev c4_0 : SCode := .seq (.reg [1027] [
  ⟨.op (.asg (.con (.bool true))), some 2, none⟩]) (.ret)
abbrev c4_1 : SCode := .seq (.reg [1027] [
  ⟨.op (.asg (.con (.bool false))), some 2, none⟩]) (.ret)
abbrev c4_2 : SCode := .cond (.slot 9) c4_1 (.skip)
abbrev c4_3 : SCode := .seq (.seq (.dreg [22, 23, 24, 25, 1031] [
  ⟨.op (.load 2 true (.slot 6)), none, none⟩, 
  ⟨.op (.load 2 true (.slot 1)), none, none⟩, 
  ⟨.call 12 [(.slot 11)] false, none, none⟩, 
  ⟨.call 14 [(.slot 10), (.slot 12)] false, none, none⟩, 
  ⟨.op (.not (.slot 13)), some 9, none⟩]
  [[], [], [1], [0, 1, 2], [0, 1, 2, 3]] 4 [] [([], none), ([false], none), ([false, true], none), ([true, true, true], none)] [true, true, true, true]) c4_2) c4_0
abbrev c4_4 : SCode := .seq (.reg [1027] [
  ⟨.op (.asg (.con (.bool false))), some 2, none⟩]) (.ret)
abbrev c4_5 : SCode := .cond (.slot 8) c4_4 (.skip)
abbrev c4_6 : SCode := .seq (.seq (.reg [19, 20, 1029] [
  ⟨.op (.mv (.slot 7)), none, none⟩, 
  ⟨.op (.mv (.slot 5)), none, none⟩, 
  ⟨.op (.bin .neq (.slot 10) (.slot 11)), some 8, none⟩]) c4_5) c4_3
abbrev c4_7 : SCode := .seq (.reg [17, 18, 1029] [
  ⟨.op (.load 2 true (.slot 6)), none, none⟩, 
  ⟨.call 13 [(.slot 10)] false, none, none⟩, 
  ⟨.op (.asg (.slot 11)), some 7, none⟩]) c4_6
abbrev c4_8 : SCode := .seq (.reg [15, 16, 1029, 1030] [
  ⟨.op (.load 2 true (.slot 1)), none, none⟩, 
  ⟨.call 12 [(.slot 10)] false, none, none⟩, 
  ⟨.op (.mk 38 [(.int .i64 0), (.osl 0 49 0 [])]), some 6, none⟩, 
  ⟨.op (.store 2 true (.slot 6) (.slot 11)), none, none⟩]) c4_7
abbrev c4_9 : SCode := .seq (.reg [12, 13, 14, 1030] [
  ⟨.op (.load 2 true (.slot 1)), none, none⟩, 
  ⟨.call 12 [(.slot 10)] false, none, none⟩, 
  ⟨.call 11 [(.slot 11)] false, none, none⟩, 
  ⟨.op (.asg (.slot 12)), some 5, none⟩]) c4_8
abbrev c4_10 : SCode := .seq (.reg [1027] [
  ⟨.op (.asg (.con (.bool true))), some 2, none⟩]) (.ret)
abbrev c4_11 : SCode := .cond (.slot 4) c4_10 (.skip)
abbrev c4_12 : SCode := .seq (.seq (.reg [10, 1028] [
  ⟨.op (.mv (.slot 3)), none, none⟩, 
  ⟨.op (.bin .lss (.slot 10) (.con (.int .i64 0))), some 4, none⟩]) c4_11) c4_9
abbrev c4_13 : SCode := .seq (.reg [7, 8, 9, 1030] [
  ⟨.op (.load 2 true (.slot 1)), none, none⟩, 
  ⟨.op (.mv (.slot 3)), none, none⟩, 
  ⟨.call 10 [(.slot 10), (.slot 11)] false, none, none⟩, 
  ⟨.op (.asg (.slot 12)), some 3, none⟩]) c4_12
abbrev c4_14 : SCode := .seq (.reg [1027] [
  ⟨.op (.asg (.con (.int .i64 1048576))), some 3, none⟩]) c4_13
abbrev s4 : SCode := .seq (.reg [1027, 1028] [
  ⟨.op (.box 33 2 (.slot 0)), some 1, none⟩, 
  ⟨.op (.asg (.con (.bool false))), some 2, none⟩]) c4_14
theorem ok4 : okFn Go.Proofs.Tryd.prog Go.Proofs.Tryd.f4 v4 s4 r4 1 = true := by kernel_rfl

def v10 : List Nat := [0, 1, 2, 4, 10]
def r10 : List SRes := [.tmp 3]
abbrev c10_0 : SCode := .seq (.reg [11, 1013] [
  ⟨.op (.mv (.slot 1)), none, none⟩, 
  ⟨.op (.asg (.slot 5)), some 3, none⟩]) (.ret)
abbrev c10_1 : SCode := .seq (.reg [1012] [
  ⟨.op (.asg (.con (.int .i64 (-1)))), some 3, none⟩]) (.ret)
abbrev c10_2 : SCode := .cond (.slot 4) c10_1 (.skip)
abbrev c10_3 : SCode := .seq (.seq (.reg [9, 1013] [
  ⟨.op (.mv (.slot 1)), none, none⟩, 
  ⟨.op (.bin .lss (.slot 5) (.con (.int .i64 0))), some 4, none⟩]) c10_2) c10_0
abbrev c10_4 : SCode := .seq (.reg [5, 6, 7, 8, 1016] [
  ⟨.op (.faddr 1 (.slot 2)), none, none⟩, 
  ⟨.op (.load 1 false (.slot 5)), none, none⟩, 
  ⟨.op (.mv (.slot 1)), none, none⟩, 
  ⟨.call 20 [(.slot 6), (.slot 7)] false, none, none⟩, 
  ⟨.op (.asg (.slot 8)), some 1, none⟩]) c10_3
abbrev s10 : SCode := .seq (.reg [1012, 1013] [
  ⟨.op (.box 33 2 (.slot 0)), some 2, none⟩, 
  ⟨.op (.asg (.con (.int .i64 0))), some 3, none⟩]) c10_4
theorem ok10 : okFn Go.Proofs.Tryd.prog Go.Proofs.Tryd.f10 v10 s10 r10 2 = true := by kernel_rfl

def v11 : List Nat := [0, 1, 2, 7, 3, 4, 12, 16, 36, 44]
def r11 : List SRes := [.tmp 2]
abbrev c11_0 : SCode := .seq (.reg [54, 1056] [
  ⟨.op (.mv (.slot 4)), none, none⟩, 
  ⟨.op (.asg (.slot 10)), some 2, none⟩]) (.ret)
abbrev c11_1 : SCode := .seq (.reg [41, 42, 43, 1058] [
  ⟨.op (.faddr 0 (.slot 1)), none, none⟩, 
  ⟨.op (.load 1 false (.slot 10)), none, none⟩, 
  ⟨.call 16 [(.slot 11)] false, none, none⟩, 
  ⟨.op (.asg (.slot 12)), some 2, none⟩]) (.ret)
abbrev c11_2 : SCode := .seq (.reg [48, 49, 50, 51, 52, 53, 1061] [
  ⟨.op (.mv (.slot 4)), none, none⟩, 
  ⟨.op (.bin .add (.slot 10) (.con (.str [32, 43, 32]))), none, none⟩, 
  ⟨.op (.faddr 0 (.slot 1)), none, none⟩, 
  ⟨.op (.load 1 false (.slot 12)), none, none⟩, 
  ⟨.call 16 [(.slot 13)] false, none, none⟩, 
  ⟨.op (.bin .add (.slot 11) (.slot 14)), none, none⟩, 
  ⟨.op (.asg (.slot 15)), some 2, none⟩]) (.ret)
abbrev c11_3 : SCode := .cond (.slot 9) c11_2 (.skip)
abbrev c11_4 : SCode := .seq (.reg [45, 46, 47, 1058] [
  ⟨.op (.faddr 0 (.slot 1)), none, none⟩, 
  ⟨.op (.load 1 false (.slot 10)), none, none⟩, 
  ⟨.op (.bin .neq (.slot 11) (.con (.int .i64 0))), none, none⟩, 
  ⟨.op (.asg (.slot 12)), some 9, none⟩]) c11_3
abbrev c11_5 : SCode := .cond (.slot 8) c11_1 c11_4
abbrev c11_6 : SCode := .seq (.block 2 (.seq (.reg [37, 38, 39, 40, 1059] [
  ⟨.op (.faddr 1 (.slot 1)), none, none⟩, 
  ⟨.op (.load 1 false (.slot 10)), none, none⟩, 
  ⟨.op (.len false (.slot 11)), none, none⟩, 
  ⟨.op (.bin .eql (.slot 12) (.con (.int .i64 0))), none, none⟩, 
  ⟨.op (.asg (.slot 13)), some 8, none⟩]) c11_5)) c11_0
abbrev c11_7 : SCode := .reg [13, 14, 1057] [
  ⟨.op (.mv (.slot 5)), none, none⟩, 
  ⟨.op (.bin .add (.slot 10) (.con (.int .i64 1))), none, none⟩, 
  ⟨.op (.asg (.slot 11)), some 5, none⟩]
abbrev c11_8 : SCode := .dreg [19, 20, 21, 22, 23, 24, 25, 26, 27, 28, 29, 30, 31, 32, 33, 34, 35, 1072] [
  ⟨.op (.mv (.slot 4)), none, none⟩, 
  ⟨.op (.faddr 1 (.slot 1)), none, none⟩, 
  ⟨.op (.load 1 false (.slot 11)), none, none⟩, 
  ⟨.op (.mv (.slot 5)), none, none⟩, 
  ⟨.op (.iaddr 2 (.slot 12) (.slot 13)), none, none⟩, 
  ⟨.op (.faddr 1 (.slot 14)), none, none⟩, 
  ⟨.op (.load 1 false (.slot 15)), none, none⟩, 
  ⟨.call 16 [(.slot 16)] false, none, none⟩, 
  ⟨.op (.bin .add (.slot 10) (.slot 17)), none, none⟩, 
  ⟨.op (.bin .add (.slot 18) (.con (.str [42]))), none, none⟩, 
  ⟨.op (.faddr 1 (.slot 1)), none, none⟩, 
  ⟨.op (.load 1 false (.slot 20)), none, none⟩, 
  ⟨.op (.mv (.slot 5)), none, none⟩, 
  ⟨.op (.iaddr 2 (.slot 21) (.slot 22)), none, none⟩, 
  ⟨.op (.faddr 0 (.slot 23)), none, none⟩, 
  ⟨.op (.load 1 false (.slot 24)), none, none⟩, 
  ⟨.op (.bin .add (.slot 19) (.slot 25)), none, none⟩, 
  ⟨.op (.asg (.slot 26)), some 4, none⟩]
  [[], [], [1], [], [1, 2, 3], [1, 2, 3, 4], [1, 2, 3, 4, 5], [1, 2, 3, 4, 5, 6], [0, 1, 2, 3, 4, 5, 6, 7], [0, 1, 2, 3, 4, 5, 6, 7, 8], [], [10], [], [10, 11, 12], [10, 11, 12, 13], [10, 11, 12, 13, 14], [0, 1, 2, 3, 4, 5, 6, 7, 8, 9, 10, 11, 12, 13, 14, 15], [0, 1, 2, 3, 4, 5, 6, 7, 8, 9, 10, 11, 12, 13, 14, 15, 16]] 17 [] [([], none), ([false], none), ([false, true], none), ([false, false, false], none), ([false, true, true, true], none), ([false, true, true, true, true], none), ([false, true, true, true, true, true], none), ([false, true, true, true, true, true, true], none), ([true, true, true, true, true, true, true, true], none), ([true, true, true, true, true, true, true, true, true], none), ([false, false, false, false, false, false, false, false, false, false], none), ([false, false, false, false, false, false, false, false, false, false, true], none), ([false, false, false, false, false, false, false, false, false, false, false, false], none), ([false, false, false, false, false, false, false, false, false, false, true, true, true], none), ([false, false, false, false, false, false, false, false, false, false, true, true, true, true], none), ([false, false, false, false, false, false, false, false, false, false, true, true, true, true, true], none), ([true, true, true, true, true, true, true, true, true, true, true, true, true, true, true, true], none)] [true, true, true, true, true, true, true, true, true, true, true, true, true, true, true, true, true]
abbrev c11_9 : SCode := .reg [17, 18, 1057] [
  ⟨.op (.mv (.slot 4)), none, none⟩, 
  ⟨.op (.bin .add (.slot 10) (.con (.str [32, 43, 32]))), none, none⟩, 
  ⟨.op (.asg (.slot 11)), some 4, none⟩]
abbrev c11_10 : SCode := .cond (.slot 7) c11_9 (.skip)
abbrev c11_11 : SCode := .seq (.block 1 (.seq (.seq (.reg [15, 1056] [
  ⟨.op (.mv (.slot 5)), none, none⟩, 
  ⟨.op (.bin .gtr (.slot 10) (.con (.int .i64 0))), some 7, none⟩]) c11_10) c11_8)) c11_7
abbrev c11_12 : SCode := .cond (.slot 6) (.skip) (.exit 0)
abbrev b11_0 : SCode := .seq (.seq (.reg [8, 9, 10, 11, 1059] [
  ⟨.op (.mv (.slot 5)), none, none⟩, 
  ⟨.op (.faddr 1 (.slot 1)), none, none⟩, 
  ⟨.op (.load 1 false (.slot 11)), none, none⟩, 
  ⟨.op (.len false (.slot 12)), none, none⟩, 
  ⟨.op (.bin .lss (.slot 10) (.slot 13)), some 6, none⟩]) c11_12) c11_11
def l11_0 : SCode := .loop b11_0
abbrev c11_14 : SCode := .block 0 (l11_0)
abbrev c11_15 : SCode := .seq (.seq (.reg [1055] [
  ⟨.op (.asg (.con (.int .i64 0))), some 5, none⟩]) c11_14) c11_6
abbrev c11_16 : SCode := .seq (.reg [1055] [
  ⟨.op (.asg (.con (.str []))), some 4, none⟩]) c11_15
abbrev c11_17 : SCode := .seq (.reg [1055] [
  ⟨.op (.asg (.con (.str []))), some 2, none⟩]) (.ret)
abbrev c11_18 : SCode := .cond (.slot 3) c11_17 (.skip)
abbrev c11_19 : SCode := .seq (.seq (.reg [5, 6, 1057] [
  ⟨.op (.load 2 true (.slot 1)), none, none⟩, 
  ⟨.call 21 [(.slot 10)] false, none, none⟩, 
  ⟨.op (.not (.slot 11)), some 3, none⟩]) c11_18) c11_16
abbrev s11 : SCode := .seq (.reg [1055, 1056] [
  ⟨.op (.box 38 2 (.slot 0)), some 1, none⟩, 
  ⟨.op (.asg (.con (.str []))), some 2, none⟩]) c11_19
theorem ok11 : okFn Go.Proofs.Tryd.prog Go.Proofs.Tryd.f11 v11 s11 r11 1 = true := by kernel_rfl

def v12 : List Nat := [0, 1, 2, 3]
def r12 : List SRes := [.cell 2 2 true]
abbrev c12_0 : SCode := .seq (.reg [11, 1013] [
  ⟨.op (.load 2 true (.slot 3)), none, none⟩, 
  ⟨.op (.store 2 true (.slot 2) (.slot 4)), none, none⟩]) (.ret)
abbrev c12_1 : SCode := .seq (.reg [7, 8, 9, 10, 1016] [
  ⟨.op (.faddr 1 (.slot 1)), none, none⟩, 
  ⟨.op (.load 1 false (.slot 4)), none, none⟩, 
  ⟨.call 22 [(.slot 5)] false, none, none⟩, 
  ⟨.op (.faddr 1 (.slot 3)), none, none⟩, 
  ⟨.op (.store 1 true (.slot 7) (.slot 6)), none, none⟩]) c12_0
abbrev c12_2 : SCode := .seq (.reg [4, 5, 6, 1015] [
  ⟨.op (.faddr 0 (.slot 1)), none, none⟩, 
  ⟨.op (.load 1 false (.slot 4)), none, none⟩, 
  ⟨.op (.faddr 0 (.slot 3)), none, none⟩, 
  ⟨.op (.store 1 false (.slot 6) (.slot 5)), none, none⟩]) c12_1
abbrev c12_3 : SCode := .seq (.reg [1012] [
  ⟨.op (.mk 38 [(.int .i64 0), (.osl 0 49 0 [])]), some 3, none⟩]) c12_2
abbrev s12 : SCode := .seq (.reg [1012, 1013] [
  ⟨.op (.box 33 2 (.slot 0)), some 1, none⟩, 
  ⟨.op (.mk 38 [(.int .i64 0), (.osl 0 49 0 [])]), some 2, none⟩]) c12_3
theorem ok12 : okFn Go.Proofs.Tryd.prog Go.Proofs.Tryd.f12 v12 s12 r12 1 = true := by kernel_rfl

def v13 : List Nat := [0, 1, 2, 8, 3, 10, 11, 12, 13, 5, 35]
def r13 : List SRes := [.tmp 2]
abbrev c13_0 : SCode := .seq (.reg [42, 43, 1046] [
  ⟨.op (.mv (.slot 4)), none, none⟩, 
  ⟨.callm (.con (.fn 24 [])) [((.slot 11), true), ((.con (.str [32, 43, 32])), false)], none, none⟩, 
  ⟨.op (.asg (.slot 12)), some 2, none⟩]) (.ret)
abbrev c13_1 : SCode := .reg [36, 37, 38, 39, 40, 41, 1050] [
  ⟨.op (.mv (.slot 4)), none, none⟩, 
  ⟨.op (.faddr 0 (.slot 1)), none, none⟩, 
  ⟨.op (.load 1 false (.slot 12)), none, none⟩, 
  ⟨.call 18 [(.slot 13)] false, none, none⟩, 
  ⟨.op (.bsl 9 1 [(.str [])] [(0, 1, (.slot 14))]), none, none⟩, 
  ⟨.op (.append 9 1 (.slot 11) (.slot 15)), none, none⟩, 
  ⟨.op (.asg (.slot 16)), some 4, none⟩]
abbrev c13_2 : SCode := .cond (.slot 10) c13_1 (.skip)
abbrev c13_3 : SCode := .seq (.seq (.reg [27, 28, 29, 30, 31, 32, 33, 34, 1052] [
  ⟨.op (.faddr 0 (.slot 1)), none, none⟩, 
  ⟨.op (.load 1 false (.slot 11)), none, none⟩, 
  ⟨.op (.bin .neq (.slot 12) (.con (.int .i64 0))), none, none⟩, 
  ⟨.op (.mv (.slot 13)), none, none⟩, 
  ⟨.op (.faddr 1 (.slot 1)), none, some (14, false)⟩, 
  ⟨.op (.load 1 false (.slot 15)), none, some (14, false)⟩, 
  ⟨.op (.len false (.slot 16)), none, some (14, false)⟩, 
  ⟨.op (.bin .eql (.slot 17) (.con (.int .i64 0))), none, some (14, false)⟩, 
  ⟨.op (.pick (.slot 14) (.con (.bool true)) (.slot 18)), some 10, none⟩]) c13_2) c13_0
abbrev c13_4 : SCode := .reg [26, 1045] [
  ⟨.op (.bin .add (.slot 7) (.con (.int .i64 1))), none, none⟩, 
  ⟨.op (.asg (.slot 11)), some 7, none⟩]
abbrev c13_5 : SCode := .dreg [16, 17, 18, 19, 20, 21, 22, 23, 24, 25, 1054] [
  ⟨.op (.mv (.slot 4)), none, none⟩, 
  ⟨.op (.faddr 1 (.slot 9)), none, none⟩, 
  ⟨.op (.load 1 false (.slot 12)), none, none⟩, 
  ⟨.call 18 [(.slot 13)] false, none, none⟩, 
  ⟨.op (.bin .add (.slot 14) (.con (.str [42]))), none, none⟩, 
  ⟨.op (.faddr 0 (.slot 9)), none, none⟩, 
  ⟨.op (.load 1 false (.slot 16)), none, none⟩, 
  ⟨.op (.bin .add (.slot 15) (.slot 17)), none, none⟩, 
  ⟨.op (.bsl 9 1 [(.str [])] [(0, 1, (.slot 18))]), none, none⟩, 
  ⟨.op (.append 9 1 (.slot 11) (.slot 19)), none, none⟩, 
  ⟨.op (.asg (.slot 20)), some 4, none⟩]
  [[], [], [1], [1, 2], [1, 2, 3], [], [5], [1, 2, 3, 4, 5, 6], [1, 2, 3, 4, 5, 6, 7], [0, 1, 2, 3, 4, 5, 6, 7, 8], [0, 1, 2, 3, 4, 5, 6, 7, 8, 9]] 9 [(8, 1000000)] [([], none), ([false], none), ([false, true], none), ([false, true, true], none), ([false, true, true, true], none), ([false, false, false, false, false], none), ([false, false, false, false, false, true], none), ([false, true, true, true, true, true, true], none), ([false, true, true, true, true, true, true, true], (some [1000000]))] [true, true, true, true, true, true, true, true, true]
abbrev c13_6 : SCode := .seq (.block 1 (.seq (.reg [14, 15, 1046, 1047] [
  ⟨.op (.iaddr 2 (.slot 5) (.slot 7)), none, none⟩, 
  ⟨.op (.load 2 true (.slot 11)), none, none⟩, 
  ⟨.op (.mk 49 [(.str []), (.int .i64 0)]), some 9, none⟩, 
  ⟨.op (.store 2 false (.slot 9) (.slot 12)), none, none⟩]) c13_5)) c13_4
abbrev c13_7 : SCode := .seq (.cond (.slot 8) (.skip) (.exit 0)) c13_6
abbrev b13_0 : SCode := .seq (.reg [1044] [
  ⟨.op (.bin .lss (.slot 7) (.slot 6)), some 8, none⟩]) c13_7
def l13_0 : SCode := .loop b13_0
abbrev c13_9 : SCode := .block 0 (l13_0)
abbrev c13_10 : SCode := .seq (.seq (.reg [9, 1045, 1046, 1047] [
  ⟨.op (.faddr 1 (.slot 1)), none, none⟩, 
  ⟨.op (.load 1 false (.slot 11)), some 5, none⟩, 
  ⟨.op (.len false (.slot 5)), some 6, none⟩, 
  ⟨.op (.asg (.con (.int .i64 0))), some 7, none⟩]) c13_9) c13_3
abbrev c13_11 : SCode := .seq (.reg [1044] [
  ⟨.op (.asg (.con (.osl 0 9 0 []))), some 4, none⟩]) c13_10
abbrev c13_12 : SCode := .seq (.reg [1044] [
  ⟨.op (.asg (.con (.str []))), some 2, none⟩]) (.ret)
abbrev c13_13 : SCode := .cond (.slot 3) c13_12 (.skip)
abbrev c13_14 : SCode := .seq (.seq (.reg [6, 7, 1046] [
  ⟨.op (.load 2 true (.slot 1)), none, none⟩, 
  ⟨.call 23 [(.slot 11)] false, none, none⟩, 
  ⟨.op (.not (.slot 12)), some 3, none⟩]) c13_13) c13_11
abbrev s13 : SCode := .seq (.reg [1044, 1045] [
  ⟨.op (.box 38 2 (.slot 0)), some 1, none⟩, 
  ⟨.op (.asg (.con (.str []))), some 2, none⟩]) c13_14
theorem ok13 : okFn Go.Proofs.Tryd.prog Go.Proofs.Tryd.f13 v13 s13 r13 1 = true := by kernel_rfl

def v14 : List Nat := [0, 1, 2, 3, 4, 9, 15]
def r14 : List SRes := [.tmp 4]
abbrev c14_0 : SCode := .seq (.reg [1016] [
  ⟨.op (.asg (.con (.bool true))), some 4, none⟩]) (.ret)
abbrev c14_1 : SCode := .seq (.reg [1016] [
  ⟨.op (.asg (.con (.bool false))), some 4, none⟩]) (.ret)
abbrev c14_2 : SCode := .cond (.slot 6) c14_1 (.skip)
abbrev c14_3 : SCode := .seq (.seq (.reg [10, 11, 12, 13, 14, 1021] [
  ⟨.op (.faddr 1 (.slot 2)), none, none⟩, 
  ⟨.op (.load 1 false (.slot 7)), none, none⟩, 
  ⟨.op (.faddr 1 (.slot 3)), none, none⟩, 
  ⟨.op (.load 1 false (.slot 9)), none, none⟩, 
  ⟨.call 25 [(.slot 8), (.slot 10)] false, none, none⟩, 
  ⟨.op (.not (.slot 11)), some 6, none⟩]) c14_2) c14_0
abbrev c14_4 : SCode := .seq (.reg [1016] [
  ⟨.op (.asg (.con (.bool false))), some 4, none⟩]) (.ret)
abbrev c14_5 : SCode := .cond (.slot 5) c14_4 (.skip)
abbrev c14_6 : SCode := .seq (.seq (.reg [5, 6, 7, 8, 1020] [
  ⟨.op (.faddr 0 (.slot 2)), none, none⟩, 
  ⟨.op (.load 1 false (.slot 7)), none, none⟩, 
  ⟨.op (.faddr 0 (.slot 3)), none, none⟩, 
  ⟨.op (.load 1 false (.slot 9)), none, none⟩, 
  ⟨.op (.bin .neq (.slot 8) (.slot 10)), some 5, none⟩]) c14_5) c14_3
abbrev s14 : SCode := .seq (.reg [1016, 1017, 1018] [
  ⟨.op (.box 38 2 (.slot 0)), some 2, none⟩, 
  ⟨.op (.box 38 2 (.slot 1)), some 3, none⟩, 
  ⟨.op (.asg (.con (.bool false))), some 4, none⟩]) c14_6
theorem ok14 : okFn Go.Proofs.Tryd.prog Go.Proofs.Tryd.f14 v14 s14 r14 2 = true := by kernel_rfl

def v16 : List Nat := [0, 2, 7, 3, 4, 10, 5, 16, 27]
def r16 : List SRes := [.tmp 1]
abbrev c16_0 : SCode := .seq (.reg [30, 1032] [
  ⟨.op (.mv (.slot 3)), none, none⟩, 
  ⟨.op (.asg (.slot 9)), some 1, none⟩]) (.ret)
abbrev c16_1 : SCode := .seq (.reg [28, 29, 1033] [
  ⟨.op (.mv (.slot 3)), none, none⟩, 
  ⟨.op (.bin .add (.con (.str [45])) (.slot 9)), none, none⟩, 
  ⟨.op (.asg (.slot 10)), some 1, none⟩]) (.ret)
abbrev c16_2 : SCode := .cond (.slot 8) c16_1 (.skip)
abbrev c16_3 : SCode := .seq (.seq (.reg [26, 1032] [
  ⟨.op (.mv (.slot 0)), none, none⟩, 
  ⟨.op (.bin .lss (.slot 9) (.con (.int .i64 0))), some 8, none⟩]) c16_2) c16_0
abbrev c16_4 : SCode := .reg [11, 12, 1033] [
  ⟨.op (.mv (.slot 4)), none, none⟩, 
  ⟨.op (.bin .quo (.slot 9) (.con (.int .i64 10))), none, none⟩, 
  ⟨.op (.asg (.slot 10)), some 4, none⟩]
abbrev c16_5 : SCode := .reg [19, 20, 21, 22, 23, 24, 25, 1038] [
  ⟨.op (.mv (.slot 6)), none, none⟩, 
  ⟨.op (.bin .add (.con (.int .i64 48)) (.slot 9)), none, none⟩, 
  ⟨.op (.conv .u8 (.slot 10)), none, none⟩, 
  ⟨.op (.bsl 5 1 [(.int .u8 0)] [(0, 1, (.slot 11))]), none, none⟩, 
  ⟨.op (.b2s (.slot 12)), none, none⟩, 
  ⟨.op (.mv (.slot 3)), none, none⟩, 
  ⟨.op (.bin .add (.slot 13) (.slot 14)), none, none⟩, 
  ⟨.op (.asg (.slot 15)), some 3, none⟩]
abbrev c16_6 : SCode := .reg [17, 18, 1033] [
  ⟨.op (.mv (.slot 6)), none, none⟩, 
  ⟨.op (.neg (.slot 9)), none, none⟩, 
  ⟨.op (.asg (.slot 10)), some 6, none⟩]
abbrev c16_7 : SCode := .cond (.slot 7) c16_6 (.skip)
abbrev c16_8 : SCode := .seq (.seq (.reg [15, 1032] [
  ⟨.op (.mv (.slot 6)), none, none⟩, 
  ⟨.op (.bin .lss (.slot 9) (.con (.int .i64 0))), some 7, none⟩]) c16_7) c16_5
abbrev c16_9 : SCode := .seq (.block 1 (.seq (.reg [13, 14, 1033] [
  ⟨.op (.mv (.slot 4)), none, none⟩, 
  ⟨.op (.bin .rem (.slot 9) (.con (.int .i64 10))), none, none⟩, 
  ⟨.op (.asg (.slot 10)), some 6, none⟩]) c16_8)) c16_4
abbrev c16_10 : SCode := .cond (.slot 5) (.skip) (.exit 0)
abbrev b16_0 : SCode := .seq (.seq (.reg [9, 1032] [
  ⟨.op (.mv (.slot 4)), none, none⟩, 
  ⟨.op (.bin .neq (.slot 9) (.con (.int .i64 0))), some 5, none⟩]) c16_10) c16_9
def l16_0 : SCode := .loop b16_0
abbrev c16_12 : SCode := .block 0 (l16_0)
abbrev c16_13 : SCode := .seq (.seq (.reg [8, 1032] [
  ⟨.op (.mv (.slot 0)), none, none⟩, 
  ⟨.op (.asg (.slot 9)), some 4, none⟩]) c16_12) c16_3
abbrev c16_14 : SCode := .seq (.reg [1031] [
  ⟨.op (.asg (.con (.str []))), some 3, none⟩]) c16_13
abbrev c16_15 : SCode := .seq (.reg [1031] [
  ⟨.op (.asg (.con (.str [48]))), some 1, none⟩]) (.ret)
abbrev c16_16 : SCode := .cond (.slot 2) c16_15 (.skip)
abbrev c16_17 : SCode := .seq (.seq (.reg [6, 1032] [
  ⟨.op (.mv (.slot 0)), none, none⟩, 
  ⟨.op (.bin .eql (.slot 9) (.con (.int .i64 0))), some 2, none⟩]) c16_16) c16_14
abbrev s16 : SCode := .seq (.reg [1031] [
  ⟨.op (.asg (.con (.str []))), some 1, none⟩]) c16_17
theorem ok16 : okFn Go.Proofs.Tryd.prog Go.Proofs.Tryd.f16 v16 s16 r16 1 = true := by kernel_rfl

def v18 : List Nat := [0, 2]
def r18 : List SRes := [.tmp 1]
abbrev c18_0 : SCode := .seq (.reg [3, 4, 1007] [
  ⟨.op (.mv (.slot 0)), none, none⟩, 
  ⟨.call 26 [(.slot 2)] false, none, none⟩, 
  ⟨.op (.asg (.slot 3)), some 1, none⟩]) (.ret)
abbrev s18 : SCode := .seq (.reg [1005] [
  ⟨.op (.asg (.con (.str []))), some 1, none⟩]) c18_0
theorem ok18 : okFn Go.Proofs.Tryd.prog Go.Proofs.Tryd.f18 v18 s18 r18 1 = true := by kernel_rfl

def v20 : List Nat := [0, 1, 4, 11, 5, 15, 25]
def r20 : List SRes := [.tmp 2]
abbrev c20_0 : SCode := .seq (.reg [26, 1028] [
  ⟨.op (.mv (.slot 1)), none, none⟩, 
  ⟨.op (.asg (.slot 7)), some 2, none⟩]) (.ret)
abbrev c20_1 : SCode := .reg [16, 17, 1029] [
  ⟨.op (.mv (.slot 4)), none, none⟩, 
  ⟨.op (.bin .add (.slot 7) (.con (.int .i64 1))), none, none⟩, 
  ⟨.op (.asg (.slot 8)), some 4, none⟩]
abbrev c20_2 : SCode := .seq (.reg [1027] [
  ⟨.op (.asg (.con (.int .i64 (-1)))), some 2, none⟩]) (.ret)
abbrev c20_3 : SCode := .cond (.slot 6) c20_2 (.skip)
abbrev c20_4 : SCode := .seq (.reg [24, 1028] [
  ⟨.op (.mv (.slot 1)), none, none⟩, 
  ⟨.op (.bin .lss (.slot 7) (.con (.int .i64 0))), some 6, none⟩]) c20_3
abbrev c20_5 : SCode := .seq (.block 1 (.seq (.reg [18, 19, 20, 21, 22, 23, 1033] [
  ⟨.op (.mv (.slot 0)), none, none⟩, 
  ⟨.op (.mv (.slot 4)), none, none⟩, 
  ⟨.op (.iaddr 2 (.slot 7) (.slot 8)), none, none⟩, 
  ⟨.op (.load 2 true (.slot 9)), none, none⟩, 
  ⟨.op (.mv (.slot 1)), none, none⟩, 
  ⟨.call 27 [(.slot 10), (.slot 11)] false, none, none⟩, 
  ⟨.op (.asg (.slot 12)), some 1, none⟩]) c20_4)) c20_1
abbrev c20_6 : SCode := .cond (.slot 5) (.skip) (.exit 0)
abbrev b20_0 : SCode := .seq (.seq (.reg [12, 13, 14, 1030] [
  ⟨.op (.mv (.slot 4)), none, none⟩, 
  ⟨.op (.mv (.slot 0)), none, none⟩, 
  ⟨.op (.len false (.slot 8)), none, none⟩, 
  ⟨.op (.bin .lss (.slot 7) (.slot 9)), some 5, none⟩]) c20_6) c20_5
def l20_0 : SCode := .loop b20_0
abbrev c20_8 : SCode := .block 0 (l20_0)
abbrev c20_9 : SCode := .seq (.seq (.reg [1027] [
  ⟨.op (.asg (.con (.int .i64 0))), some 4, none⟩]) c20_8) c20_0
abbrev c20_10 : SCode := .seq (.reg [1027] [
  ⟨.op (.asg (.con (.int .i64 (-1)))), some 2, none⟩]) (.ret)
abbrev c20_11 : SCode := .cond (.slot 3) c20_10 (.skip)
abbrev c20_12 : SCode := .seq (.seq (.reg [10, 1028] [
  ⟨.op (.mv (.slot 1)), none, none⟩, 
  ⟨.op (.bin .lss (.slot 7) (.con (.int .i64 0))), some 3, none⟩]) c20_11) c20_9
abbrev c20_13 : SCode := .seq (.reg [6, 7, 8, 9, 1031] [
  ⟨.op (.mv (.slot 1)), none, none⟩, 
  ⟨.op (.mv (.slot 0)), none, none⟩, 
  ⟨.op (.len false (.slot 8)), none, none⟩, 
  ⟨.op (.bin .sub (.slot 7) (.slot 9)), none, none⟩, 
  ⟨.op (.asg (.slot 10)), some 1, none⟩]) c20_12
abbrev s20 : SCode := .seq (.reg [1027] [
  ⟨.op (.asg (.con (.int .i64 0))), some 2, none⟩]) c20_13
theorem ok20 : okFn Go.Proofs.Tryd.prog Go.Proofs.Tryd.f20 v20 s20 r20 2 = true := by kernel_rfl

def v21 : List Nat := [0, 1, 2, 3, 8, 57]
def r21 : List SRes := [.tmp 2]
abbrev c21_0 : SCode := .seq (.reg [58, 59, 60, 1064] [
  ⟨.op (.faddr 0 (.slot 1)), none, none⟩, 
  ⟨.op (.load 1 false (.slot 6)), none, none⟩, 
  ⟨.call 29 [(.slot 7)] false, none, none⟩, 
  ⟨.op (.asg (.slot 8)), some 2, none⟩]) (.ret)
abbrev c21_1 : SCode := .reg [9, 10, 1063] [
  ⟨.op (.mv (.slot 3)), none, none⟩, 
  ⟨.op (.bin .add (.slot 6) (.con (.int .i64 1))), none, none⟩, 
  ⟨.op (.asg (.slot 7)), some 3, none⟩]
abbrev c21_2 : SCode := .seq (.reg [1061] [
  ⟨.op (.asg (.con (.bool false))), some 2, none⟩]) (.ret)
abbrev c21_3 : SCode := .cond (.slot 5) c21_2 (.skip)
abbrev c21_4 : SCode := .seq (.block 1 (.seq (.dreg [11, 12, 13, 14, 15, 16, 17, 18, 19, 20, 21, 22, 23, 24, 25, 26, 27, 28, 29, 30, 31, 32, 33, 34, 35, 36, 37, 38, 39, 40, 41, 42, 43, 44, 45, 46, 47, 48, 49, 50, 51, 52, 53, 54, 55, 56, 1107] [
  ⟨.op (.faddr 1 (.slot 1)), none, none⟩, 
  ⟨.op (.load 1 false (.slot 6)), none, none⟩, 
  ⟨.op (.mv (.slot 3)), none, none⟩, 
  ⟨.op (.iaddr 2 (.slot 7) (.slot 8)), none, none⟩, 
  ⟨.op (.faddr 0 (.slot 9)), none, none⟩, 
  ⟨.op (.load 1 false (.slot 10)), none, none⟩, 
  ⟨.call 28 [(.slot 11)] false, none, none⟩, 
  ⟨.op (.not (.slot 12)), none, none⟩, 
  ⟨.op (.mv (.slot 13)), none, none⟩, 
  ⟨.op (.faddr 1 (.slot 1)), none, some (14, false)⟩, 
  ⟨.op (.load 1 false (.slot 15)), none, some (14, false)⟩, 
  ⟨.op (.mv (.slot 3)), none, some (14, false)⟩, 
  ⟨.op (.iaddr 2 (.slot 16) (.slot 17)), none, some (14, false)⟩, 
  ⟨.op (.faddr 1 (.slot 18)), none, some (14, false)⟩, 
  ⟨.op (.load 1 false (.slot 19)), none, some (14, false)⟩, 
  ⟨.op (.bin .eql (.slot 20) (.con (.int .i64 0))), none, some (14, false)⟩, 
  ⟨.op (.pick (.slot 14) (.con (.bool true)) (.slot 21)), none, none⟩, 
  ⟨.op (.mv (.slot 22)), none, none⟩, 
  ⟨.op (.faddr 1 (.slot 1)), none, some (23, false)⟩, 
  ⟨.op (.load 1 false (.slot 24)), none, some (23, false)⟩, 
  ⟨.op (.mv (.slot 3)), none, some (23, false)⟩, 
  ⟨.op (.iaddr 2 (.slot 25) (.slot 26)), none, some (23, false)⟩, 
  ⟨.op (.faddr 1 (.slot 27)), none, some (23, false)⟩, 
  ⟨.op (.load 1 false (.slot 28)), none, some (23, false)⟩, 
  ⟨.call 29 [(.slot 29)] false, none, some (23, false)⟩, 
  ⟨.op (.not (.slot 30)), none, some (23, false)⟩, 
  ⟨.op (.pick (.slot 23) (.con (.bool true)) (.slot 31)), none, none⟩, 
  ⟨.op (.mv (.slot 32)), none, none⟩, 
  ⟨.op (.mv (.slot 3)), none, some (33, false)⟩, 
  ⟨.op (.bin .gtr (.slot 34) (.con (.int .i64 0))), none, some (33, false)⟩, 
  ⟨.op (.mv (.slot 35)), none, some (33, false)⟩, 
  ⟨.op (.faddr 1 (.slot 1)), none, some (36, true)⟩, 
  ⟨.op (.load 1 false (.slot 37)), none, some (36, true)⟩, 
  ⟨.op (.mv (.slot 3)), none, some (36, true)⟩, 
  ⟨.op (.bin .sub (.slot 39) (.con (.int .i64 1))), none, some (36, true)⟩, 
  ⟨.op (.iaddr 2 (.slot 38) (.slot 40)), none, some (36, true)⟩, 
  ⟨.op (.faddr 0 (.slot 41)), none, some (36, true)⟩, 
  ⟨.op (.load 1 false (.slot 42)), none, some (36, true)⟩, 
  ⟨.op (.faddr 1 (.slot 1)), none, some (36, true)⟩, 
  ⟨.op (.load 1 false (.slot 44)), none, some (36, true)⟩, 
  ⟨.op (.mv (.slot 3)), none, some (36, true)⟩, 
  ⟨.op (.iaddr 2 (.slot 45) (.slot 46)), none, some (36, true)⟩, 
  ⟨.op (.faddr 0 (.slot 47)), none, some (36, true)⟩, 
  ⟨.op (.load 1 false (.slot 48)), none, some (36, true)⟩, 
  ⟨.op (.bin .geq (.slot 43) (.slot 49)), none, some (36, true)⟩, 
  ⟨.op (.pick (.slot 36) (.slot 50) (.con (.bool false))), none, some (33, false)⟩, 
  ⟨.op (.pick (.slot 33) (.con (.bool true)) (.slot 51)), some 5, none⟩]
  [[], [0], [], [0, 1, 2], [0, 1, 2, 3], [0, 1, 2, 3, 4], [0, 1, 2, 3, 4, 5], [0, 1, 2, 3, 4, 5, 6], [0, 1, 2, 3, 4, 5, 6, 7], [0, 1, 2, 3, 4, 5, 6, 7, 8], [0, 1, 2, 3, 4, 5, 6, 7, 8, 9], [0, 1, 2, 3, 4, 5, 6, 7, 8], [0, 1, 2, 3, 4, 5, 6, 7, 8, 9, 10, 11], [0, 1, 2, 3, 4, 5, 6, 7, 8, 9, 10, 11, 12], [0, 1, 2, 3, 4, 5, 6, 7, 8, 9, 10, 11, 12, 13], [0, 1, 2, 3, 4, 5, 6, 7, 8, 9, 10, 11, 12, 13, 14], [0, 1, 2, 3, 4, 5, 6, 7, 8, 9, 10, 11, 12, 13, 14, 15], [0, 1, 2, 3, 4, 5, 6, 7, 8, 9, 10, 11, 12, 13, 14, 15, 16], [0, 1, 2, 3, 4, 5, 6, 7, 8, 9, 10, 11, 12, 13, 14, 15, 16, 17], [0, 1, 2, 3, 4, 5, 6, 7, 8, 9, 10, 11, 12, 13, 14, 15, 16, 17, 18], [0, 1, 2, 3, 4, 5, 6, 7, 8, 9, 10, 11, 12, 13, 14, 15, 16, 17], [0, 1, 2, 3, 4, 5, 6, 7, 8, 9, 10, 11, 12, 13, 14, 15, 16, 17, 18, 19, 20], [0, 1, 2, 3, 4, 5, 6, 7, 8, 9, 10, 11, 12, 13, 14, 15, 16, 17, 18, 19, 20, 21], [0, 1, 2, 3, 4, 5, 6, 7, 8, 9, 10, 11, 12, 13, 14, 15, 16, 17, 18, 19, 20, 21, 22], [0, 1, 2, 3, 4, 5, 6, 7, 8, 9, 10, 11, 12, 13, 14, 15, 16, 17, 18, 19, 20, 21, 22, 23], [0, 1, 2, 3, 4, 5, 6, 7, 8, 9, 10, 11, 12, 13, 14, 15, 16, 17, 18, 19, 20, 21, 22, 23, 24], [0, 1, 2, 3, 4, 5, 6, 7, 8, 9, 10, 11, 12, 13, 14, 15, 16, 17, 18, 19, 20, 21, 22, 23, 24, 25], [0, 1, 2, 3, 4, 5, 6, 7, 8, 9, 10, 11, 12, 13, 14, 15, 16, 17, 18, 19, 20, 21, 22, 23, 24, 25, 26], [0, 1, 2, 3, 4, 5, 6, 7, 8, 9, 10, 11, 12, 13, 14, 15, 16, 17, 18, 19, 20, 21, 22, 23, 24, 25, 26, 27], [0, 1, 2, 3, 4, 5, 6, 7, 8, 9, 10, 11, 12, 13, 14, 15, 16, 17, 18, 19, 20, 21, 22, 23, 24, 25, 26, 27, 28], [0, 1, 2, 3, 4, 5, 6, 7, 8, 9, 10, 11, 12, 13, 14, 15, 16, 17, 18, 19, 20, 21, 22, 23, 24, 25, 26, 27, 28, 29], [0, 1, 2, 3, 4, 5, 6, 7, 8, 9, 10, 11, 12, 13, 14, 15, 16, 17, 18, 19, 20, 21, 22, 23, 24, 25, 26, 27, 28, 29, 30], [0, 1, 2, 3, 4, 5, 6, 7, 8, 9, 10, 11, 12, 13, 14, 15, 16, 17, 18, 19, 20, 21, 22, 23, 24, 25, 26, 27, 28, 29, 30, 31], [0, 1, 2, 3, 4, 5, 6, 7, 8, 9, 10, 11, 12, 13, 14, 15, 16, 17, 18, 19, 20, 21, 22, 23, 24, 25, 26, 27, 28, 29, 30], [0, 1, 2, 3, 4, 5, 6, 7, 8, 9, 10, 11, 12, 13, 14, 15, 16, 17, 18, 19, 20, 21, 22, 23, 24, 25, 26, 27, 28, 29, 30, 33], [0, 1, 2, 3, 4, 5, 6, 7, 8, 9, 10, 11, 12, 13, 14, 15, 16, 17, 18, 19, 20, 21, 22, 23, 24, 25, 26, 27, 28, 29, 30, 31, 32, 33, 34], [0, 1, 2, 3, 4, 5, 6, 7, 8, 9, 10, 11, 12, 13, 14, 15, 16, 17, 18, 19, 20, 21, 22, 23, 24, 25, 26, 27, 28, 29, 30, 31, 32, 33, 34, 35], [0, 1, 2, 3, 4, 5, 6, 7, 8, 9, 10, 11, 12, 13, 14, 15, 16, 17, 18, 19, 20, 21, 22, 23, 24, 25, 26, 27, 28, 29, 30, 31, 32, 33, 34, 35, 36], [0, 1, 2, 3, 4, 5, 6, 7, 8, 9, 10, 11, 12, 13, 14, 15, 16, 17, 18, 19, 20, 21, 22, 23, 24, 25, 26, 27, 28, 29, 30], [0, 1, 2, 3, 4, 5, 6, 7, 8, 9, 10, 11, 12, 13, 14, 15, 16, 17, 18, 19, 20, 21, 22, 23, 24, 25, 26, 27, 28, 29, 30, 38], [0, 1, 2, 3, 4, 5, 6, 7, 8, 9, 10, 11, 12, 13, 14, 15, 16, 17, 18, 19, 20, 21, 22, 23, 24, 25, 26, 27, 28, 29, 30], [0, 1, 2, 3, 4, 5, 6, 7, 8, 9, 10, 11, 12, 13, 14, 15, 16, 17, 18, 19, 20, 21, 22, 23, 24, 25, 26, 27, 28, 29, 30, 38, 39, 40], [0, 1, 2, 3, 4, 5, 6, 7, 8, 9, 10, 11, 12, 13, 14, 15, 16, 17, 18, 19, 20, 21, 22, 23, 24, 25, 26, 27, 28, 29, 30, 38, 39, 40, 41], [0, 1, 2, 3, 4, 5, 6, 7, 8, 9, 10, 11, 12, 13, 14, 15, 16, 17, 18, 19, 20, 21, 22, 23, 24, 25, 26, 27, 28, 29, 30, 38, 39, 40, 41, 42], [0, 1, 2, 3, 4, 5, 6, 7, 8, 9, 10, 11, 12, 13, 14, 15, 16, 17, 18, 19, 20, 21, 22, 23, 24, 25, 26, 27, 28, 29, 30, 31, 32, 33, 34, 35, 36, 37, 38, 39, 40, 41, 42, 43], [0, 1, 2, 3, 4, 5, 6, 7, 8, 9, 10, 11, 12, 13, 14, 15, 16, 17, 18, 19, 20, 21, 22, 23, 24, 25, 26, 27, 28, 29, 30, 31, 32, 33, 34, 35, 36, 37, 38, 39, 40, 41, 42, 43, 44], [0, 1, 2, 3, 4, 5, 6, 7, 8, 9, 10, 11, 12, 13, 14, 15, 16, 17, 18, 19, 20, 21, 22, 23, 24, 25, 26, 27, 28, 29, 30, 31, 32, 33, 34, 35, 36, 37, 38, 39, 40, 41, 42, 43, 44, 45]] 46 [] [([], none), ([true], none), ([false, false], none), ([true, true, true], none), ([true, true, true, true], none), ([true, true, true, true, true], none), ([true, true, true, true, true, true], none), ([true, true, true, true, true, true, true], none), ([true, true, true, true, true, true, true, true], none), ([true, true, true, true, true, true, true, true, true], none), ([true, true, true, true, true, true, true, true, true, true], none), ([true, true, true, true, true, true, true, true, true, false, false], none), ([true, true, true, true, true, true, true, true, true, true, true, true], none), ([true, true, true, true, true, true, true, true, true, true, true, true, true], none), ([true, true, true, true, true, true, true, true, true, true, true, true, true, true], none), ([true, true, true, true, true, true, true, true, true, true, true, true, true, true, true], none), ([true, true, true, true, true, true, true, true, true, true, true, true, true, true, true, true], none), ([true, true, true, true, true, true, true, true, true, true, true, true, true, true, true, true, true], none), ([true, true, true, true, true, true, true, true, true, true, true, true, true, true, true, true, true, true], none), ([true, true, true, true, true, true, true, true, true, true, true, true, true, true, true, true, true, true, true], none), ([true, true, true, true, true, true, true, true, true, true, true, true, true, true, true, true, true, true, false, false], none), ([true, true, true, true, true, true, true, true, true, true, true, true, true, true, true, true, true, true, true, true, true], none), ([true, true, true, true, true, true, true, true, true, true, true, true, true, true, true, true, true, true, true, true, true, true], none), ([true, true, true, true, true, true, true, true, true, true, true, true, true, true, true, true, true, true, true, true, true, true, true], none), ([true, true, true, true, true, true, true, true, true, true, true, true, true, true, true, true, true, true, true, true, true, true, true, true], none), ([true, true, true, true, true, true, true, true, true, true, true, true, true, true, true, true, true, true, true, true, true, true, true, true, true], none), ([true, true, true, true, true, true, true, true, true, true, true, true, true, true, true, true, true, true, true, true, true, true, true, true, true, true], none), ([true, true, true, true, true, true, true, true, true, true, true, true, true, true, true, true, true, true, true, true, true, true, true, true, true, true, true], none), ([true, true, true, true, true, true, true, true, true, true, true, true, true, true, true, true, true, true, true, true, true, true, true, true, true, true, true, true], none), ([true, true, true, true, true, true, true, true, true, true, true, true, true, true, true, true, true, true, true, true, true, true, true, true, true, true, true, true, true], none), ([true, true, true, true, true, true, true, true, true, true, true, true, true, true, true, true, true, true, true, true, true, true, true, true, true, true, true, true, true, true], none), ([true, true, true, true, true, true, true, true, true, true, true, true, true, true, true, true, true, true, true, true, true, true, true, true, true, true, true, true, true, true, true], none), ([true, true, true, true, true, true, true, true, true, true, true, true, true, true, true, true, true, true, true, true, true, true, true, true, true, true, true, true, true, true, true, true], none), ([true, true, true, true, true, true, true, true, true, true, true, true, true, true, true, true, true, true, true, true, true, true, true, true, true, true, true, true, true, true, true, false, false], none), ([true, true, true, true, true, true, true, true, true, true, true, true, true, true, true, true, true, true, true, true, true, true, true, true, true, true, true, true, true, true, true, false, false, true], none), ([true, true, true, true, true, true, true, true, true, true, true, true, true, true, true, true, true, true, true, true, true, true, true, true, true, true, true, true, true, true, true, true, true, true, true], none), ([true, true, true, true, true, true, true, true, true, true, true, true, true, true, true, true, true, true, true, true, true, true, true, true, true, true, true, true, true, true, true, true, true, true, true, true], none), ([true, true, true, true, true, true, true, true, true, true, true, true, true, true, true, true, true, true, true, true, true, true, true, true, true, true, true, true, true, true, true, true, true, true, true, true, true], none), ([true, true, true, true, true, true, true, true, true, true, true, true, true, true, true, true, true, true, true, true, true, true, true, true, true, true, true, true, true, true, true, false, false, false, false, false, false, false], none), ([true, true, true, true, true, true, true, true, true, true, true, true, true, true, true, true, true, true, true, true, true, true, true, true, true, true, true, true, true, true, true, false, false, false, false, false, false, false, true], none), ([true, true, true, true, true, true, true, true, true, true, true, true, true, true, true, true, true, true, true, true, true, true, true, true, true, true, true, true, true, true, true, false, false, false, false, false, false, false, false, false], none), ([true, true, true, true, true, true, true, true, true, true, true, true, true, true, true, true, true, true, true, true, true, true, true, true, true, true, true, true, true, true, true, false, false, false, false, false, false, false, true, true, true], none), ([true, true, true, true, true, true, true, true, true, true, true, true, true, true, true, true, true, true, true, true, true, true, true, true, true, true, true, true, true, true, true, false, false, false, false, false, false, false, true, true, true, true], none), ([true, true, true, true, true, true, true, true, true, true, true, true, true, true, true, true, true, true, true, true, true, true, true, true, true, true, true, true, true, true, true, false, false, false, false, false, false, false, true, true, true, true, true], none), ([true, true, true, true, true, true, true, true, true, true, true, true, true, true, true, true, true, true, true, true, true, true, true, true, true, true, true, true, true, true, true, true, true, true, true, true, true, true, true, true, true, true, true, true], none), ([true, true, true, true, true, true, true, true, true, true, true, true, true, true, true, true, true, true, true, true, true, true, true, true, true, true, true, true, true, true, true, true, true, true, true, true, true, true, true, true, true, true, true, true, true], none)] [true, true, true, true, true, true, true, true, true, true, true, true, true, true, true, true, true, true, true, true, true, true, true, true, true, true, true, true, true, true, true, true, true, true, true, true, true, true, true, true, true, true, true, true, true, true]) c21_3)) c21_1
abbrev c21_5 : SCode := .cond (.slot 4) (.skip) (.exit 0)
abbrev b21_0 : SCode := .seq (.seq (.reg [4, 5, 6, 7, 1065] [
  ⟨.op (.mv (.slot 3)), none, none⟩, 
  ⟨.op (.faddr 1 (.slot 1)), none, none⟩, 
  ⟨.op (.load 1 false (.slot 7)), none, none⟩, 
  ⟨.op (.len false (.slot 8)), none, none⟩, 
  ⟨.op (.bin .lss (.slot 6) (.slot 9)), some 4, none⟩]) c21_5) c21_4
def l21_0 : SCode := .loop b21_0
abbrev c21_7 : SCode := .block 0 (l21_0)
abbrev c21_8 : SCode := .seq (.seq (.reg [1061] [
  ⟨.op (.asg (.con (.int .i64 0))), some 3, none⟩]) c21_7) c21_0
abbrev s21 : SCode := .seq (.reg [1061, 1062] [
  ⟨.op (.box 38 2 (.slot 0)), some 1, none⟩, 
  ⟨.op (.asg (.con (.bool false))), some 2, none⟩]) c21_8
theorem ok21 : okFn Go.Proofs.Tryd.prog Go.Proofs.Tryd.f21 v21 s21 r21 1 = true := by kernel_rfl

def v22 : List Nat := [0, 2, 3, 4, 11]
def r22 : List SRes := [.tmp 1]
abbrev c22_0 : SCode := .seq (.reg [22, 1024] [
  ⟨.op (.mv (.slot 2)), none, none⟩, 
  ⟨.op (.asg (.slot 5)), some 1, none⟩]) (.ret)
abbrev c22_1 : SCode := .reg [12, 13, 1025] [
  ⟨.op (.mv (.slot 3)), none, none⟩, 
  ⟨.op (.bin .add (.slot 5) (.con (.int .i64 1))), none, none⟩, 
  ⟨.op (.asg (.slot 6)), some 3, none⟩]
abbrev c22_2 : SCode := .seq (.block 1 (.reg [14, 15, 16, 17, 18, 19, 20, 21, 1031] [
  ⟨.op (.mv (.slot 2)), none, none⟩, 
  ⟨.op (.mv (.slot 3)), none, none⟩, 
  ⟨.op (.mv (.slot 0)), none, none⟩, 
  ⟨.op (.mv (.slot 3)), none, none⟩, 
  ⟨.op (.iaddr 2 (.slot 7) (.slot 8)), none, none⟩, 
  ⟨.op (.load 2 true (.slot 9)), none, none⟩, 
  ⟨.call 30 [(.slot 10)] false, none, none⟩, 
  ⟨.op (.iaddr 2 (.slot 5) (.slot 6)), none, none⟩, 
  ⟨.op (.store 2 false (.slot 12) (.slot 11)), none, none⟩])) c22_1
abbrev c22_3 : SCode := .cond (.slot 4) (.skip) (.exit 0)
abbrev b22_0 : SCode := .seq (.seq (.reg [8, 9, 10, 1026] [
  ⟨.op (.mv (.slot 3)), none, none⟩, 
  ⟨.op (.mv (.slot 0)), none, none⟩, 
  ⟨.op (.len false (.slot 6)), none, none⟩, 
  ⟨.op (.bin .lss (.slot 5) (.slot 7)), some 4, none⟩]) c22_3) c22_2
def l22_0 : SCode := .loop b22_0
abbrev c22_5 : SCode := .block 0 (l22_0)
abbrev c22_6 : SCode := .seq (.seq (.reg [1023] [
  ⟨.op (.asg (.con (.int .i64 0))), some 3, none⟩]) c22_5) c22_0
abbrev c22_7 : SCode := .seq (.reg [5, 6, 7, 1026] [
  ⟨.op (.mv (.slot 0)), none, none⟩, 
  ⟨.op (.len false (.slot 5)), none, none⟩, 
  ⟨.op (.mksl 49 [(.str []), (.int .i64 0)] (.slot 6) (.slot 6)), none, none⟩, 
  ⟨.op (.asg (.slot 7)), some 2, none⟩]) c22_6
abbrev s22 : SCode := .seq (.reg [1023] [
  ⟨.op (.asg (.con (.osl 0 49 0 []))), some 1, none⟩]) c22_7
theorem ok22 : okFn Go.Proofs.Tryd.prog Go.Proofs.Tryd.f22 v22 s22 r22 1 = true := by kernel_rfl

def v23 : List Nat := [0, 1, 2, 6, 7, 8, 9, 4, 3, 43]
def r23 : List SRes := [.tmp 2]
abbrev c23_0 : SCode := .seq (.reg [45, 46, 47, 1051] [
  ⟨.op (.faddr 0 (.slot 1)), none, none⟩, 
  ⟨.op (.load 1 false (.slot 10)), none, none⟩, 
  ⟨.call 32 [(.slot 11)] false, none, none⟩, 
  ⟨.op (.asg (.slot 12)), some 2, none⟩]) (.ret)
abbrev c23_1 : SCode := .reg [44, 1049] [
  ⟨.op (.bin .add (.slot 5) (.con (.int .i64 1))), none, none⟩, 
  ⟨.op (.asg (.slot 10)), some 5, none⟩]
abbrev c23_2 : SCode := .seq (.reg [1048] [
  ⟨.op (.asg (.con (.bool false))), some 2, none⟩]) (.ret)
abbrev c23_3 : SCode := .cond (.slot 9) c23_2 (.skip)
abbrev c23_4 : SCode := .seq (.dreg [13, 14, 15, 16, 17, 18, 19, 20, 21, 22, 23, 24, 25, 26, 27, 28, 29, 30, 31, 32, 33, 34, 35, 36, 37, 38, 39, 40, 41, 42, 1078] [
  ⟨.op (.faddr 0 (.slot 7)), none, none⟩, 
  ⟨.op (.load 1 false (.slot 10)), none, none⟩, 
  ⟨.call 31 [(.slot 11)] false, none, none⟩, 
  ⟨.op (.not (.slot 12)), none, none⟩, 
  ⟨.op (.mv (.slot 13)), none, none⟩, 
  ⟨.op (.faddr 1 (.slot 7)), none, some (14, false)⟩, 
  ⟨.op (.load 1 false (.slot 15)), none, some (14, false)⟩, 
  ⟨.op (.bin .eql (.slot 16) (.con (.int .i64 0))), none, some (14, false)⟩, 
  ⟨.op (.pick (.slot 14) (.con (.bool true)) (.slot 17)), none, none⟩, 
  ⟨.op (.mv (.slot 18)), none, none⟩, 
  ⟨.op (.faddr 1 (.slot 7)), none, some (19, false)⟩, 
  ⟨.op (.load 1 false (.slot 20)), none, some (19, false)⟩, 
  ⟨.call 32 [(.slot 21)] false, none, some (19, false)⟩, 
  ⟨.op (.not (.slot 22)), none, some (19, false)⟩, 
  ⟨.op (.pick (.slot 19) (.con (.bool true)) (.slot 23)), none, none⟩, 
  ⟨.op (.mv (.slot 24)), none, none⟩, 
  ⟨.op (.mv (.slot 8)), none, some (25, false)⟩, 
  ⟨.op (.bin .gtr (.slot 26) (.con (.int .i64 0))), none, some (25, false)⟩, 
  ⟨.op (.mv (.slot 27)), none, some (25, false)⟩, 
  ⟨.op (.faddr 0 (.slot 7)), none, some (28, true)⟩, 
  ⟨.op (.load 1 false (.slot 29)), none, some (28, true)⟩, 
  ⟨.op (.faddr 1 (.slot 1)), none, some (28, true)⟩, 
  ⟨.op (.load 1 false (.slot 31)), none, some (28, true)⟩, 
  ⟨.op (.mv (.slot 8)), none, some (28, true)⟩, 
  ⟨.op (.bin .sub (.slot 33) (.con (.int .i64 1))), none, some (28, true)⟩, 
  ⟨.op (.iaddr 2 (.slot 32) (.slot 34)), none, some (28, true)⟩, 
  ⟨.op (.faddr 0 (.slot 35)), none, some (28, true)⟩, 
  ⟨.op (.load 1 false (.slot 36)), none, some (28, true)⟩, 
  ⟨.op (.bin .leq (.slot 30) (.slot 37)), none, some (28, true)⟩, 
  ⟨.op (.pick (.slot 28) (.slot 38) (.con (.bool false))), none, some (25, false)⟩, 
  ⟨.op (.pick (.slot 25) (.con (.bool true)) (.slot 39)), some 9, none⟩]
  [[], [0], [0, 1], [0, 1, 2], [0, 1, 2, 3], [0, 1, 2, 3, 4], [0, 1, 2, 3, 4, 5], [0, 1, 2, 3, 4, 5, 6], [0, 1, 2, 3, 4, 5, 6, 7], [0, 1, 2, 3, 4, 5, 6, 7, 8], [0, 1, 2, 3, 4, 5, 6, 7, 8, 9], [0, 1, 2, 3, 4, 5, 6, 7, 8, 9, 10], [0, 1, 2, 3, 4, 5, 6, 7, 8, 9, 10, 11], [0, 1, 2, 3, 4, 5, 6, 7, 8, 9, 10, 11, 12], [0, 1, 2, 3, 4, 5, 6, 7, 8, 9, 10, 11, 12, 13], [0, 1, 2, 3, 4, 5, 6, 7, 8, 9, 10, 11, 12, 13, 14], [0, 1, 2, 3, 4, 5, 6, 7, 8, 9, 10, 11, 12, 13, 14, 15], [0, 1, 2, 3, 4, 5, 6, 7, 8, 9, 10, 11, 12, 13, 14, 15, 16], [0, 1, 2, 3, 4, 5, 6, 7, 8, 9, 10, 11, 12, 13, 14, 15, 16, 17], [0, 1, 2, 3, 4, 5, 6, 7, 8, 9, 10, 11, 12, 13, 14, 15, 16, 17, 18], [0, 1, 2, 3, 4, 5, 6, 7, 8, 9, 10, 11, 12, 13, 14, 15, 16, 17, 18, 19], [0, 1, 2, 3, 4, 5, 6, 7, 8, 9, 10, 11, 12, 13, 14, 15, 16, 17, 18], [0, 1, 2, 3, 4, 5, 6, 7, 8, 9, 10, 11, 12, 13, 14, 15, 16, 17, 18, 21], [0, 1, 2, 3, 4, 5, 6, 7, 8, 9, 10, 11, 12, 13, 14, 15, 16, 17, 18], [0, 1, 2, 3, 4, 5, 6, 7, 8, 9, 10, 11, 12, 13, 14, 15, 16, 17, 18, 23], [0, 1, 2, 3, 4, 5, 6, 7, 8, 9, 10, 11, 12, 13, 14, 15, 16, 17, 18, 21, 22, 23, 24], [0, 1, 2, 3, 4, 5, 6, 7, 8, 9, 10, 11, 12, 13, 14, 15, 16, 17, 18, 21, 22, 23, 24, 25], [0, 1, 2, 3, 4, 5, 6, 7, 8, 9, 10, 11, 12, 13, 14, 15, 16, 17, 18, 21, 22, 23, 24, 25, 26], [0, 1, 2, 3, 4, 5, 6, 7, 8, 9, 10, 11, 12, 13, 14, 15, 16, 17, 18, 19, 20, 21, 22, 23, 24, 25, 26, 27], [0, 1, 2, 3, 4, 5, 6, 7, 8, 9, 10, 11, 12, 13, 14, 15, 16, 17, 18, 19, 20, 21, 22, 23, 24, 25, 26, 27, 28], [0, 1, 2, 3, 4, 5, 6, 7, 8, 9, 10, 11, 12, 13, 14, 15, 16, 17, 18, 19, 20, 21, 22, 23, 24, 25, 26, 27, 28, 29]] 30 [] [([], none), ([true], none), ([true, true], none), ([true, true, true], none), ([true, true, true, true], none), ([true, true, true, true, true], none), ([true, true, true, true, true, true], none), ([true, true, true, true, true, true, true], none), ([true, true, true, true, true, true, true, true], none), ([true, true, true, true, true, true, true, true, true], none), ([true, true, true, true, true, true, true, true, true, true], none), ([true, true, true, true, true, true, true, true, true, true, true], none), ([true, true, true, true, true, true, true, true, true, true, true, true], none), ([true, true, true, true, true, true, true, true, true, true, true, true, true], none), ([true, true, true, true, true, true, true, true, true, true, true, true, true, true], none), ([true, true, true, true, true, true, true, true, true, true, true, true, true, true, true], none), ([true, true, true, true, true, true, true, true, true, true, true, true, true, true, true, true], none), ([true, true, true, true, true, true, true, true, true, true, true, true, true, true, true, true, true], none), ([true, true, true, true, true, true, true, true, true, true, true, true, true, true, true, true, true, true], none), ([true, true, true, true, true, true, true, true, true, true, true, true, true, true, true, true, true, true, true], none), ([true, true, true, true, true, true, true, true, true, true, true, true, true, true, true, true, true, true, true, true], none), ([true, true, true, true, true, true, true, true, true, true, true, true, true, true, true, true, true, true, true, false, false], none), ([true, true, true, true, true, true, true, true, true, true, true, true, true, true, true, true, true, true, true, false, false, true], none), ([true, true, true, true, true, true, true, true, true, true, true, true, true, true, true, true, true, true, true, false, false, false, false], none), ([true, true, true, true, true, true, true, true, true, true, true, true, true, true, true, true, true, true, true, false, false, false, false, true], none), ([true, true, true, true, true, true, true, true, true, true, true, true, true, true, true, true, true, true, true, false, false, true, true, true, true], none), ([true, true, true, true, true, true, true, true, true, true, true, true, true, true, true, true, true, true, true, false, false, true, true, true, true, true], none), ([true, true, true, true, true, true, true, true, true, true, true, true, true, true, true, true, true, true, true, false, false, true, true, true, true, true, true], none), ([true, true, true, true, true, true, true, true, true, true, true, true, true, true, true, true, true, true, true, true, true, true, true, true, true, true, true, true], none), ([true, true, true, true, true, true, true, true, true, true, true, true, true, true, true, true, true, true, true, true, true, true, true, true, true, true, true, true, true], none)] [true, true, true, true, true, true, true, true, true, true, true, true, true, true, true, true, true, true, true, true, true, true, true, true, true, true, true, true, true, true]) c23_3
abbrev c23_5 : SCode := .seq (.block 1 (.seq (.reg [10, 11, 12, 1051, 1052, 1053] [
  ⟨.op (.mv (.slot 5)), none, none⟩, 
  ⟨.op (.iaddr 2 (.slot 3) (.slot 5)), none, none⟩, 
  ⟨.op (.load 2 true (.slot 11)), none, none⟩, 
  ⟨.op (.mk 49 [(.str []), (.int .i64 0)]), some 7, none⟩, 
  ⟨.op (.asg (.slot 10)), some 8, none⟩, 
  ⟨.op (.store 2 false (.slot 7) (.slot 12)), none, none⟩]) c23_4)) c23_1
abbrev c23_6 : SCode := .seq (.cond (.slot 6) (.skip) (.exit 0)) c23_5
abbrev b23_0 : SCode := .seq (.reg [1048] [
  ⟨.op (.bin .lss (.slot 5) (.slot 4)), some 6, none⟩]) c23_6
def l23_0 : SCode := .loop b23_0
abbrev c23_8 : SCode := .block 0 (l23_0)
abbrev c23_9 : SCode := .seq (.seq (.reg [5, 1049, 1050, 1051] [
  ⟨.op (.faddr 1 (.slot 1)), none, none⟩, 
  ⟨.op (.load 1 false (.slot 10)), some 3, none⟩, 
  ⟨.op (.len false (.slot 3)), some 4, none⟩, 
  ⟨.op (.asg (.con (.int .i64 0))), some 5, none⟩]) c23_8) c23_0
abbrev s23 : SCode := .seq (.reg [1048, 1049] [
  ⟨.op (.box 38 2 (.slot 0)), some 1, none⟩, 
  ⟨.op (.asg (.con (.bool false))), some 2, none⟩]) c23_9
theorem ok23 : okFn Go.Proofs.Tryd.prog Go.Proofs.Tryd.f23 v23 s23 r23 1 = true := by kernel_rfl

def v25 : List Nat := [0, 1, 4, 10, 5, 14, 26]
def r25 : List SRes := [.tmp 2]
abbrev c25_0 : SCode := .seq (.reg [1027] [
  ⟨.op (.asg (.con (.bool true))), some 2, none⟩]) (.ret)
abbrev c25_1 : SCode := .reg [15, 16, 1029] [
  ⟨.op (.mv (.slot 4)), none, none⟩, 
  ⟨.op (.bin .add (.slot 7) (.con (.int .i64 1))), none, none⟩, 
  ⟨.op (.asg (.slot 8)), some 4, none⟩]
abbrev c25_2 : SCode := .seq (.reg [1027] [
  ⟨.op (.asg (.con (.bool false))), some 2, none⟩]) (.ret)
abbrev c25_3 : SCode := .cond (.slot 6) c25_2 (.skip)
abbrev c25_4 : SCode := .seq (.block 1 (.seq (.dreg [17, 18, 19, 20, 21, 22, 23, 24, 25, 1036] [
  ⟨.op (.mv (.slot 0)), none, none⟩, 
  ⟨.op (.mv (.slot 4)), none, none⟩, 
  ⟨.op (.iaddr 2 (.slot 7) (.slot 8)), none, none⟩, 
  ⟨.op (.load 2 true (.slot 9)), none, none⟩, 
  ⟨.op (.mv (.slot 1)), none, none⟩, 
  ⟨.op (.mv (.slot 4)), none, none⟩, 
  ⟨.op (.iaddr 2 (.slot 11) (.slot 12)), none, none⟩, 
  ⟨.op (.load 2 true (.slot 13)), none, none⟩, 
  ⟨.call 36 [(.slot 10), (.slot 14)] false, none, none⟩, 
  ⟨.op (.not (.slot 15)), some 6, none⟩]
  [[], [], [0, 1], [0, 1, 2], [], [], [4, 5], [4, 5, 6], [0, 1, 2, 3, 4, 5, 6, 7], [0, 1, 2, 3, 4, 5, 6, 7, 8]] 9 [] [([], none), ([false], none), ([true, true], none), ([true, true, true], none), ([false, false, false, false], none), ([false, false, false, false, false], none), ([false, false, false, false, true, true], none), ([false, false, false, false, true, true, true], none), ([true, true, true, true, true, true, true, true], none)] [true, true, true, true, true, true, true, true, true]) c25_3)) c25_1
abbrev c25_5 : SCode := .cond (.slot 5) (.skip) (.exit 0)
abbrev b25_0 : SCode := .seq (.seq (.reg [11, 12, 13, 1030] [
  ⟨.op (.mv (.slot 4)), none, none⟩, 
  ⟨.op (.mv (.slot 0)), none, none⟩, 
  ⟨.op (.len false (.slot 8)), none, none⟩, 
  ⟨.op (.bin .lss (.slot 7) (.slot 9)), some 5, none⟩]) c25_5) c25_4
def l25_0 : SCode := .loop b25_0
abbrev c25_7 : SCode := .block 0 (l25_0)
abbrev c25_8 : SCode := .seq (.seq (.reg [1027] [
  ⟨.op (.asg (.con (.int .i64 0))), some 4, none⟩]) c25_7) c25_0
abbrev c25_9 : SCode := .seq (.reg [1027] [
  ⟨.op (.asg (.con (.bool false))), some 2, none⟩]) (.ret)
abbrev c25_10 : SCode := .cond (.slot 3) c25_9 (.skip)
abbrev c25_11 : SCode := .seq (.seq (.reg [6, 7, 8, 9, 1031] [
  ⟨.op (.mv (.slot 0)), none, none⟩, 
  ⟨.op (.len false (.slot 7)), none, none⟩, 
  ⟨.op (.mv (.slot 1)), none, none⟩, 
  ⟨.op (.len false (.slot 9)), none, none⟩, 
  ⟨.op (.bin .neq (.slot 8) (.slot 10)), some 3, none⟩]) c25_10) c25_8
abbrev s25 : SCode := .seq (.reg [1027] [
  ⟨.op (.asg (.con (.bool false))), some 2, none⟩]) c25_11
theorem ok25 : okFn Go.Proofs.Tryd.prog Go.Proofs.Tryd.f25 v25 s25 r25 2 = true := by kernel_rfl

def v27 : List Nat := [0, 1, 2, 4, 11]
def r27 : List SRes := [.tmp 3]
abbrev c27_0 : SCode := .seq (.reg [12, 1014] [
  ⟨.op (.mv (.slot 1)), none, none⟩, 
  ⟨.op (.asg (.slot 5)), some 3, none⟩]) (.ret)
abbrev c27_1 : SCode := .seq (.reg [1013] [
  ⟨.op (.asg (.con (.int .i64 (-1)))), some 3, none⟩]) (.ret)
abbrev c27_2 : SCode := .cond (.slot 4) c27_1 (.skip)
abbrev c27_3 : SCode := .seq (.seq (.reg [10, 1014] [
  ⟨.op (.mv (.slot 1)), none, none⟩, 
  ⟨.op (.bin .lss (.slot 5) (.con (.int .i64 0))), some 4, none⟩]) c27_2) c27_0
abbrev c27_4 : SCode := .seq (.reg [5, 6, 7, 8, 9, 1018] [
  ⟨.op (.mv (.slot 1)), none, none⟩, 
  ⟨.op (.faddr 0 (.slot 2)), none, none⟩, 
  ⟨.op (.load 1 false (.slot 6)), none, none⟩, 
  ⟨.op (.len true (.slot 7)), none, none⟩, 
  ⟨.op (.bin .sub (.slot 5) (.slot 8)), none, none⟩, 
  ⟨.op (.asg (.slot 9)), some 1, none⟩]) c27_3
abbrev s27 : SCode := .seq (.reg [1013, 1014] [
  ⟨.op (.box 56 2 (.slot 0)), some 2, none⟩, 
  ⟨.op (.asg (.con (.int .i64 0))), some 3, none⟩]) c27_4
theorem ok27 : okFn Go.Proofs.Tryd.prog Go.Proofs.Tryd.f27 v27 s27 r27 2 = true := by kernel_rfl

def v28 : List Nat := [0, 2, 3, 7, 14]
def r28 : List SRes := [.tmp 1]
abbrev c28_0 : SCode := .seq (.reg [15, 16, 17, 18, 19, 20, 21, 22, 1031] [
  ⟨.op (.mv (.slot 0)), none, none⟩, 
  ⟨.op (.len true (.slot 5)), none, none⟩, 
  ⟨.call 39 [(.slot 6), (.con (.int .i64 1)), (.con (.int .i64 6))] false, none, none⟩, 
  ⟨.op (.mv (.slot 7)), none, none⟩, 
  ⟨.op (.mv (.slot 0)), none, some (8, true)⟩, 
  ⟨.call 40 [(.slot 9)] false, none, some (8, true)⟩, 
  ⟨.op (.not (.slot 10)), none, some (8, true)⟩, 
  ⟨.op (.pick (.slot 8) (.slot 11) (.con (.bool false))), none, none⟩, 
  ⟨.op (.asg (.slot 12)), some 1, none⟩]) (.ret)
abbrev c28_1 : SCode := .reg [8, 9, 1025] [
  ⟨.op (.mv (.slot 2)), none, none⟩, 
  ⟨.op (.bin .add (.slot 5) (.con (.int .i64 1))), none, none⟩, 
  ⟨.op (.asg (.slot 6)), some 2, none⟩]
abbrev c28_2 : SCode := .seq (.reg [1023] [
  ⟨.op (.asg (.con (.bool false))), some 1, none⟩]) (.ret)
abbrev c28_3 : SCode := .cond (.slot 4) c28_2 (.skip)
abbrev c28_4 : SCode := .seq (.block 1 (.seq (.reg [10, 11, 12, 13, 1027] [
  ⟨.op (.mv (.slot 0)), none, none⟩, 
  ⟨.op (.mv (.slot 2)), none, none⟩, 
  ⟨.op (.idx (.slot 5) (.slot 6)), none, none⟩, 
  ⟨.call 38 [(.slot 7)] false, none, none⟩, 
  ⟨.op (.not (.slot 8)), some 4, none⟩]) c28_3)) c28_1
abbrev c28_5 : SCode := .cond (.slot 3) (.skip) (.exit 0)
abbrev b28_0 : SCode := .seq (.seq (.reg [4, 5, 6, 1026] [
  ⟨.op (.mv (.slot 2)), none, none⟩, 
  ⟨.op (.mv (.slot 0)), none, none⟩, 
  ⟨.op (.len true (.slot 6)), none, none⟩, 
  ⟨.op (.bin .lss (.slot 5) (.slot 7)), some 3, none⟩]) c28_5) c28_4
def l28_0 : SCode := .loop b28_0
abbrev c28_7 : SCode := .block 0 (l28_0)
abbrev c28_8 : SCode := .seq (.seq (.reg [1023] [
  ⟨.op (.asg (.con (.int .i64 0))), some 2, none⟩]) c28_7) c28_0
abbrev s28 : SCode := .seq (.reg [1023] [
  ⟨.op (.asg (.con (.bool false))), some 1, none⟩]) c28_8
theorem ok28 : okFn Go.Proofs.Tryd.prog Go.Proofs.Tryd.f28 v28 s28 r28 1 = true := by kernel_rfl

def v29 : List Nat := [0, 2]
def r29 : List SRes := [.tmp 1]
abbrev c29_0 : SCode := .seq (.reg [3, 4, 1007] [
  ⟨.op (.mv (.slot 0)), none, none⟩, 
  ⟨.call 39 [(.slot 2), (.con (.int .i64 (-100000))), (.con (.int .i64 100000))] false, none, none⟩, 
  ⟨.op (.asg (.slot 3)), some 1, none⟩]) (.ret)
abbrev s29 : SCode := .seq (.reg [1005] [
  ⟨.op (.asg (.con (.bool false))), some 1, none⟩]) c29_0
theorem ok29 : okFn Go.Proofs.Tryd.prog Go.Proofs.Tryd.f29 v29 s29 r29 1 = true := by kernel_rfl

def v30 : List Nat := [0, 1, 2, 3]
def r30 : List SRes := [.cell 2 2 true]
abbrev c30_0 : SCode := .seq (.reg [10, 1012] [
  ⟨.op (.load 2 true (.slot 3)), none, none⟩, 
  ⟨.op (.store 2 false (.slot 2) (.slot 4)), none, none⟩]) (.ret)
abbrev c30_1 : SCode := .seq (.reg [7, 8, 9, 1014] [
  ⟨.op (.faddr 1 (.slot 1)), none, none⟩, 
  ⟨.op (.load 1 false (.slot 4)), none, none⟩, 
  ⟨.op (.faddr 1 (.slot 3)), none, none⟩, 
  ⟨.op (.store 1 false (.slot 6) (.slot 5)), none, none⟩]) c30_0
abbrev c30_2 : SCode := .seq (.reg [4, 5, 6, 1014] [
  ⟨.op (.faddr 0 (.slot 1)), none, none⟩, 
  ⟨.op (.load 1 false (.slot 4)), none, none⟩, 
  ⟨.op (.faddr 0 (.slot 3)), none, none⟩, 
  ⟨.op (.store 1 false (.slot 6) (.slot 5)), none, none⟩]) c30_1
abbrev c30_3 : SCode := .seq (.reg [1011] [
  ⟨.op (.mk 49 [(.str []), (.int .i64 0)]), some 3, none⟩]) c30_2
abbrev s30 : SCode := .seq (.reg [1011, 1012] [
  ⟨.op (.box 56 2 (.slot 0)), some 1, none⟩, 
  ⟨.op (.mk 49 [(.str []), (.int .i64 0)]), some 2, none⟩]) c30_3
theorem ok30 : okFn Go.Proofs.Tryd.prog Go.Proofs.Tryd.f30 v30 s30 r30 1 = true := by kernel_rfl

def v31 : List Nat := [0, 2, 3, 7, 14]
def r31 : List SRes := [.tmp 1]
abbrev c31_0 : SCode := .seq (.reg [15, 16, 17, 18, 19, 20, 21, 22, 1031] [
  ⟨.op (.mv (.slot 0)), none, none⟩, 
  ⟨.op (.len true (.slot 5)), none, none⟩, 
  ⟨.call 42 [(.slot 6), (.con (.int .i64 1)), (.con (.int .i64 6))] false, none, none⟩, 
  ⟨.op (.mv (.slot 7)), none, none⟩, 
  ⟨.op (.mv (.slot 0)), none, some (8, true)⟩, 
  ⟨.call 43 [(.slot 9)] false, none, some (8, true)⟩, 
  ⟨.op (.not (.slot 10)), none, some (8, true)⟩, 
  ⟨.op (.pick (.slot 8) (.slot 11) (.con (.bool false))), none, none⟩, 
  ⟨.op (.asg (.slot 12)), some 1, none⟩]) (.ret)
abbrev c31_1 : SCode := .reg [8, 9, 1025] [
  ⟨.op (.mv (.slot 2)), none, none⟩, 
  ⟨.op (.bin .add (.slot 5) (.con (.int .i64 1))), none, none⟩, 
  ⟨.op (.asg (.slot 6)), some 2, none⟩]
abbrev c31_2 : SCode := .seq (.reg [1023] [
  ⟨.op (.asg (.con (.bool false))), some 1, none⟩]) (.ret)
abbrev c31_3 : SCode := .cond (.slot 4) c31_2 (.skip)
abbrev c31_4 : SCode := .seq (.block 1 (.seq (.reg [10, 11, 12, 13, 1027] [
  ⟨.op (.mv (.slot 0)), none, none⟩, 
  ⟨.op (.mv (.slot 2)), none, none⟩, 
  ⟨.op (.idx (.slot 5) (.slot 6)), none, none⟩, 
  ⟨.call 41 [(.slot 7)] false, none, none⟩, 
  ⟨.op (.not (.slot 8)), some 4, none⟩]) c31_3)) c31_1
abbrev c31_5 : SCode := .cond (.slot 3) (.skip) (.exit 0)
abbrev b31_0 : SCode := .seq (.seq (.reg [4, 5, 6, 1026] [
  ⟨.op (.mv (.slot 2)), none, none⟩, 
  ⟨.op (.mv (.slot 0)), none, none⟩, 
  ⟨.op (.len true (.slot 6)), none, none⟩, 
  ⟨.op (.bin .lss (.slot 5) (.slot 7)), some 3, none⟩]) c31_5) c31_4
def l31_0 : SCode := .loop b31_0
abbrev c31_7 : SCode := .block 0 (l31_0)
abbrev c31_8 : SCode := .seq (.seq (.reg [1023] [
  ⟨.op (.asg (.con (.int .i64 0))), some 2, none⟩]) c31_7) c31_0
abbrev s31 : SCode := .seq (.reg [1023] [
  ⟨.op (.asg (.con (.bool false))), some 1, none⟩]) c31_8
theorem ok31 : okFn Go.Proofs.Tryd.prog Go.Proofs.Tryd.f31 v31 s31 r31 1 = true := by kernel_rfl

def v32 : List Nat := [0, 2]
def r32 : List SRes := [.tmp 1]
abbrev c32_0 : SCode := .seq (.reg [3, 4, 1007] [
  ⟨.op (.mv (.slot 0)), none, none⟩, 
  ⟨.call 42 [(.slot 2), (.con (.int .i64 (-100000))), (.con (.int .i64 100000))] false, none, none⟩, 
  ⟨.op (.asg (.slot 3)), some 1, none⟩]) (.ret)
abbrev s32 : SCode := .seq (.reg [1005] [
  ⟨.op (.asg (.con (.bool false))), some 1, none⟩]) c32_0
theorem ok32 : okFn Go.Proofs.Tryd.prog Go.Proofs.Tryd.f32 v32 s32 r32 1 = true := by kernel_rfl

def v36 : List Nat := [0, 1, 2, 3, 4, 9, 14]
def r36 : List SRes := [.tmp 4]
abbrev c36_0 : SCode := .seq (.reg [1015] [
  ⟨.op (.asg (.con (.bool true))), some 4, none⟩]) (.ret)
abbrev c36_1 : SCode := .seq (.reg [1015] [
  ⟨.op (.asg (.con (.bool false))), some 4, none⟩]) (.ret)
abbrev c36_2 : SCode := .cond (.slot 6) c36_1 (.skip)
abbrev c36_3 : SCode := .seq (.seq (.reg [10, 11, 12, 13, 1019] [
  ⟨.op (.faddr 1 (.slot 2)), none, none⟩, 
  ⟨.op (.load 1 false (.slot 7)), none, none⟩, 
  ⟨.op (.faddr 1 (.slot 3)), none, none⟩, 
  ⟨.op (.load 1 false (.slot 9)), none, none⟩, 
  ⟨.op (.bin .neq (.slot 8) (.slot 10)), some 6, none⟩]) c36_2) c36_0
abbrev c36_4 : SCode := .seq (.reg [1015] [
  ⟨.op (.asg (.con (.bool false))), some 4, none⟩]) (.ret)
abbrev c36_5 : SCode := .cond (.slot 5) c36_4 (.skip)
abbrev c36_6 : SCode := .seq (.seq (.reg [5, 6, 7, 8, 1019] [
  ⟨.op (.faddr 0 (.slot 2)), none, none⟩, 
  ⟨.op (.load 1 false (.slot 7)), none, none⟩, 
  ⟨.op (.faddr 0 (.slot 3)), none, none⟩, 
  ⟨.op (.load 1 false (.slot 9)), none, none⟩, 
  ⟨.op (.bin .neq (.slot 8) (.slot 10)), some 5, none⟩]) c36_5) c36_3
abbrev s36 : SCode := .seq (.reg [1015, 1016, 1017] [
  ⟨.op (.box 49 2 (.slot 0)), some 2, none⟩, 
  ⟨.op (.box 49 2 (.slot 1)), some 3, none⟩, 
  ⟨.op (.asg (.con (.bool false))), some 4, none⟩]) c36_6
theorem ok36 : okFn Go.Proofs.Tryd.prog Go.Proofs.Tryd.f36 v36 s36 r36 2 = true := by kernel_rfl

def v38 : List Nat := [0, 2]
def r38 : List SRes := [.tmp 1]
abbrev c38_0 : SCode := .seq (.reg [3, 4, 5, 1009] [
  ⟨.op (.mv (.slot 0)), none, none⟩, 
  ⟨.op (.conv .i64 (.slot 2)), none, none⟩, 
  ⟨.call 39 [(.slot 3), (.con (.int .i64 97)), (.con (.int .i64 122))] false, none, none⟩, 
  ⟨.op (.asg (.slot 4)), some 1, none⟩]) (.ret)
abbrev s38 : SCode := .seq (.reg [1006] [
  ⟨.op (.asg (.con (.bool false))), some 1, none⟩]) c38_0
theorem ok38 : okFn Go.Proofs.Tryd.prog Go.Proofs.Tryd.f38 v38 s38 r38 1 = true := by kernel_rfl

def v39 : List Nat := [0, 1, 2, 6]
def r39 : List SRes := [.tmp 3]
abbrev c39_0 : SCode := .seq (.reg [7, 8, 9, 10, 11, 12, 13, 14, 1023] [
  ⟨.op (.mv (.slot 0)), none, none⟩, 
  ⟨.op (.mv (.slot 1)), none, none⟩, 
  ⟨.op (.bin .geq (.slot 4) (.slot 5)), none, none⟩, 
  ⟨.op (.mv (.slot 6)), none, none⟩, 
  ⟨.op (.mv (.slot 0)), none, some (7, true)⟩, 
  ⟨.op (.mv (.slot 2)), none, some (7, true)⟩, 
  ⟨.op (.bin .leq (.slot 8) (.slot 9)), none, some (7, true)⟩, 
  ⟨.op (.pick (.slot 7) (.slot 10) (.con (.bool false))), none, none⟩, 
  ⟨.op (.asg (.slot 11)), some 3, none⟩]) (.ret)
abbrev s39 : SCode := .seq (.reg [1015] [
  ⟨.op (.asg (.con (.bool false))), some 3, none⟩]) c39_0
theorem ok39 : okFn Go.Proofs.Tryd.prog Go.Proofs.Tryd.f39 v39 s39 r39 3 = true := by kernel_rfl

def v40 : List Nat := [0, 2]
def r40 : List SRes := [.tmp 1]
abbrev c40_0 : SCode := .seq (.reg [3, 4, 5, 1009] [
  ⟨.op (.bsl 9 6 [(.str [])] [(0, 1, (.con (.str [97, 114, 114, 97, 121]))), (1, 1, (.con (.str [102, 111, 114]))), (2, 1, (.con (.str [116, 111]))), (3, 1, (.con (.str [112, 114, 105, 110, 116]))), (4, 1, (.con (.str [109, 105, 110]))), (5, 1, (.con (.str [109, 97, 120])))]), none, none⟩, 
  ⟨.op (.mv (.slot 0)), none, none⟩, 
  ⟨.call 47 [(.slot 2), (.slot 3)] false, none, none⟩, 
  ⟨.op (.asg (.slot 4)), some 1, none⟩]) (.ret)
abbrev s40 : SCode := .seq (.reg [1006] [
  ⟨.op (.asg (.con (.bool false))), some 1, none⟩]) c40_0
theorem ok40 : okFn Go.Proofs.Tryd.prog Go.Proofs.Tryd.f40 v40 s40 r40 1 = true := by kernel_rfl

def v41 : List Nat := [0, 2]
def r41 : List SRes := [.tmp 1]
abbrev c41_0 : SCode := .seq (.reg [3, 4, 5, 6, 7, 8, 1015] [
  ⟨.op (.mv (.slot 0)), none, none⟩, 
  ⟨.op (.bin .geq (.slot 2) (.con (.int .u8 97))), none, none⟩, 
  ⟨.op (.mv (.slot 3)), none, none⟩, 
  ⟨.op (.mv (.slot 0)), none, some (4, true)⟩, 
  ⟨.op (.bin .leq (.slot 5) (.con (.int .u8 122))), none, some (4, true)⟩, 
  ⟨.op (.pick (.slot 4) (.slot 6) (.con (.bool false))), none, none⟩, 
  ⟨.op (.asg (.slot 7)), some 1, none⟩]) (.ret)
abbrev s41 : SCode := .seq (.reg [1009] [
  ⟨.op (.asg (.con (.bool false))), some 1, none⟩]) c41_0
theorem ok41 : okFn Go.Proofs.Tryd.prog Go.Proofs.Tryd.f41 v41 s41 r41 1 = true := by kernel_rfl

def v42 : List Nat := [0, 1, 2, 6]
def r42 : List SRes := [.tmp 3]
abbrev c42_0 : SCode := .seq (.reg [7, 8, 9, 10, 11, 12, 13, 14, 1023] [
  ⟨.op (.mv (.slot 0)), none, none⟩, 
  ⟨.op (.mv (.slot 1)), none, none⟩, 
  ⟨.op (.bin .geq (.slot 4) (.slot 5)), none, none⟩, 
  ⟨.op (.mv (.slot 6)), none, none⟩, 
  ⟨.op (.mv (.slot 0)), none, some (7, true)⟩, 
  ⟨.op (.mv (.slot 2)), none, some (7, true)⟩, 
  ⟨.op (.bin .leq (.slot 8) (.slot 9)), none, some (7, true)⟩, 
  ⟨.op (.pick (.slot 7) (.slot 10) (.con (.bool false))), none, none⟩, 
  ⟨.op (.asg (.slot 11)), some 3, none⟩]) (.ret)
abbrev s42 : SCode := .seq (.reg [1015] [
  ⟨.op (.asg (.con (.bool false))), some 3, none⟩]) c42_0
theorem ok42 : okFn Go.Proofs.Tryd.prog Go.Proofs.Tryd.f42 v42 s42 r42 3 = true := by kernel_rfl

def v43 : List Nat := [0, 2, 3, 4]
def r43 : List SRes := [.tmp 1]
abbrev c43_0 : SCode := .seq (.reg [1011] [
  ⟨.op (.asg (.con (.bool false))), some 1, none⟩]) (.ret)
abbrev c43_1 : SCode := .seq (.reg [1011] [
  ⟨.op (.asg (.con (.bool true))), some 1, none⟩]) (.ret)
abbrev c43_2 : SCode := .cond (.slot 3) c43_1 (.skip)
abbrev c43_3 : SCode := .reg [10, 1012] [
  ⟨.op (.bin .eql (.slot 2) (.con (.str [109, 97, 120]))), none, none⟩, 
  ⟨.op (.asg (.slot 4)), some 3, none⟩]
abbrev c43_4 : SCode := .condk (.slot 3) (.skip) c43_3
abbrev c43_5 : SCode := .seq (.reg [9, 1012] [
  ⟨.op (.bin .eql (.slot 2) (.con (.str [109, 105, 110]))), none, none⟩, 
  ⟨.op (.asg (.slot 4)), some 3, none⟩]) c43_4
abbrev c43_6 : SCode := .condk (.slot 3) (.skip) c43_5
abbrev c43_7 : SCode := .seq (.reg [8, 1012] [
  ⟨.op (.bin .eql (.slot 2) (.con (.str [112, 114, 105, 110, 116]))), none, none⟩, 
  ⟨.op (.asg (.slot 4)), some 3, none⟩]) c43_6
abbrev c43_8 : SCode := .condk (.slot 3) (.skip) c43_7
abbrev c43_9 : SCode := .seq (.reg [7, 1012] [
  ⟨.op (.bin .eql (.slot 2) (.con (.str [116, 111]))), none, none⟩, 
  ⟨.op (.asg (.slot 4)), some 3, none⟩]) c43_8
abbrev c43_10 : SCode := .condk (.slot 3) (.skip) c43_9
abbrev c43_11 : SCode := .seq (.reg [6, 1012] [
  ⟨.op (.bin .eql (.slot 2) (.con (.str [102, 111, 114]))), none, none⟩, 
  ⟨.op (.asg (.slot 4)), some 3, none⟩]) c43_10
abbrev c43_12 : SCode := .condk (.slot 3) (.skip) c43_11
abbrev c43_13 : SCode := .block 0 (.seq (.seq (.reg [5, 1012] [
  ⟨.op (.bin .eql (.slot 2) (.con (.str [97, 114, 114, 97, 121]))), none, none⟩, 
  ⟨.op (.asg (.slot 4)), some 3, none⟩]) c43_12) c43_2)
abbrev c43_14 : SCode := .seq (.seq (.reg [1011] [
  ⟨.op (.asg (.slot 0)), some 2, none⟩]) c43_13) c43_0
abbrev s43 : SCode := .seq (.reg [1011] [
  ⟨.op (.asg (.con (.bool false))), some 1, none⟩]) c43_14
theorem ok43 : okFn Go.Proofs.Tryd.prog Go.Proofs.Tryd.f43 v43 s43 r43 1 = true := by kernel_rfl

def v47 : List Nat := [0, 1, 4, 5, 9, 17]
def r47 : List SRes := [.tmp 2]
abbrev c47_0 : SCode := .seq (.reg [1018] [
  ⟨.op (.asg (.con (.bool false))), some 2, none⟩]) (.ret)
abbrev c47_1 : SCode := .reg [10, 11, 1020] [
  ⟨.op (.mv (.slot 3)), none, none⟩, 
  ⟨.op (.bin .add (.slot 6) (.con (.int .i64 1))), none, none⟩, 
  ⟨.op (.asg (.slot 7)), some 3, none⟩]
abbrev c47_2 : SCode := .seq (.reg [1018] [
  ⟨.op (.asg (.con (.bool true))), some 2, none⟩]) (.ret)
abbrev c47_3 : SCode := .cond (.slot 5) c47_2 (.skip)
abbrev c47_4 : SCode := .seq (.block 1 (.seq (.reg [12, 13, 14, 15, 16, 1023] [
  ⟨.op (.mv (.slot 0)), none, none⟩, 
  ⟨.op (.mv (.slot 3)), none, none⟩, 
  ⟨.op (.iaddr 1 (.slot 6) (.slot 7)), none, none⟩, 
  ⟨.op (.load 1 false (.slot 8)), none, none⟩, 
  ⟨.op (.mv (.slot 1)), none, none⟩, 
  ⟨.op (.bin .eql (.slot 9) (.slot 10)), some 5, none⟩]) c47_3)) c47_1
abbrev c47_5 : SCode := .cond (.slot 4) (.skip) (.exit 0)
abbrev b47_0 : SCode := .seq (.seq (.reg [6, 7, 8, 1021] [
  ⟨.op (.mv (.slot 3)), none, none⟩, 
  ⟨.op (.mv (.slot 0)), none, none⟩, 
  ⟨.op (.len false (.slot 7)), none, none⟩, 
  ⟨.op (.bin .lss (.slot 6) (.slot 8)), some 4, none⟩]) c47_5) c47_4
def l47_0 : SCode := .loop b47_0
abbrev c47_7 : SCode := .block 0 (l47_0)
abbrev c47_8 : SCode := .seq (.seq (.reg [1018] [
  ⟨.op (.asg (.con (.int .i64 0))), some 3, none⟩]) c47_7) c47_0
abbrev s47 : SCode := .seq (.reg [1018] [
  ⟨.op (.asg (.con (.bool false))), some 2, none⟩]) c47_8
theorem ok47 : okFn Go.Proofs.Tryd.prog Go.Proofs.Tryd.f47 v47 s47 r47 2 = true := by kernel_rfl

end Go.AmC
