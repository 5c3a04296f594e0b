/- Part of a proof: see the last text of this folder. -/
import Derived.Test.YtapdppkplhgnjaaAmG
import Derived.KernelRfl
import Derived.Test.YtapdppkplhgnjaaProg
set_option maxRecDepth 100000
namespace Go.AmC
open Go Go.AM
def v7 : List Nat := [0, 1, 2, 3, 4, 5, 6, 7, 17, 22, 27, 8, 9, 10, 11, 12, 47, 52, 57, 62]
def r7 : List SRes := [.tmp 6]
abbrev c7_0 : SCode := .seq (.reg [1063] [
  ⟨.op (.asg (.con (.bool true))), some 6, none⟩]) (.ret)
abbrev c7_1 : SCode := .seq (.reg [1063] [
  ⟨.op (.asg (.con (.bool false))), some 6, none⟩]) (.ret)
abbrev c7_2 : SCode := .cond (.slot 19) c7_1 (.skip)
abbrev c7_3 : SCode := .seq (.seq (.dreg [58, 59, 60, 61, 1067] [
  ⟨.op (.load 4 true (.slot 14)), none, none⟩, 
  ⟨.op (.load 4 true (.slot 5)), none, none⟩, 
  ⟨.call 31 [(.slot 21)] false, none, none⟩, 
  ⟨.call 34 [(.slot 20), (.slot 22)] false, none, none⟩, 
  ⟨.op (.not (.slot 23)), some 19, none⟩]
  [[], [], [1], [0, 1, 2], [0, 1, 2, 3]] 4 [] [([], none), ([false], none), ([false, true], none), ([true, true, true], none)] [true, true, true, true]) c7_2) c7_0
abbrev c7_4 : SCode := .seq (.reg [1063] [
  ⟨.op (.asg (.con (.bool false))), some 6, none⟩]) (.ret)
abbrev c7_5 : SCode := .cond (.slot 18) c7_4 (.skip)
abbrev c7_6 : SCode := .seq (.seq (.dreg [53, 54, 55, 56, 1067] [
  ⟨.op (.load 4 true (.slot 13)), none, none⟩, 
  ⟨.op (.load 4 true (.slot 4)), none, none⟩, 
  ⟨.call 31 [(.slot 21)] false, none, none⟩, 
  ⟨.call 34 [(.slot 20), (.slot 22)] false, none, none⟩, 
  ⟨.op (.not (.slot 23)), some 18, none⟩]
  [[], [], [1], [0, 1, 2], [0, 1, 2, 3]] 4 [] [([], none), ([false], none), ([false, true], none), ([true, true, true], none)] [true, true, true, true]) c7_5) c7_3
abbrev c7_7 : SCode := .seq (.reg [1063] [
  ⟨.op (.asg (.con (.bool false))), some 6, none⟩]) (.ret)
abbrev c7_8 : SCode := .cond (.slot 17) c7_7 (.skip)
abbrev c7_9 : SCode := .seq (.seq (.dreg [48, 49, 50, 51, 1067] [
  ⟨.op (.load 2 true (.slot 12)), none, none⟩, 
  ⟨.op (.load 2 true (.slot 3)), none, none⟩, 
  ⟨.call 30 [(.slot 21)] false, none, none⟩, 
  ⟨.call 33 [(.slot 20), (.slot 22)] false, none, none⟩, 
  ⟨.op (.not (.slot 23)), some 17, none⟩]
  [[], [], [1], [0, 1, 2], [0, 1, 2, 3]] 4 [] [([], none), ([false], none), ([false, true], none), ([true, true, true], none)] [true, true, true, true]) c7_8) c7_6
abbrev c7_10 : SCode := .seq (.reg [1063] [
  ⟨.op (.asg (.con (.bool false))), some 6, none⟩]) (.ret)
abbrev c7_11 : SCode := .cond (.slot 16) c7_10 (.skip)
abbrev c7_12 : SCode := .seq (.seq (.reg [45, 46, 1065] [
  ⟨.op (.mv (.slot 15)), none, none⟩, 
  ⟨.op (.mv (.slot 11)), none, none⟩, 
  ⟨.op (.beq true (.slot 20) (.slot 21)), some 16, none⟩]) c7_11) c7_9
abbrev c7_13 : SCode := .seq (.reg [41, 42, 43, 44, 1067] [
  ⟨.op (.load 2 true (.slot 12)), none, none⟩, 
  ⟨.op (.load 4 true (.slot 13)), none, none⟩, 
  ⟨.op (.load 4 true (.slot 14)), none, none⟩, 
  ⟨.call 32 [(.slot 20), (.slot 21), (.slot 22)] false, none, none⟩, 
  ⟨.op (.asg (.slot 23)), some 15, none⟩]) c7_12
abbrev c7_14 : SCode := .seq (.reg [39, 40, 1065, 1066] [
  ⟨.op (.load 4 true (.slot 5)), none, none⟩, 
  ⟨.call 31 [(.slot 20)] false, none, none⟩, 
  ⟨.op (.mk 72 [(.osl 0 41 0 []), (.osl 0 3 0 []), (.osl 0 3 0 []), (.int .i64 0)]), some 14, none⟩, 
  ⟨.op (.store 4 true (.slot 14) (.slot 21)), none, none⟩]) c7_13
abbrev c7_15 : SCode := .seq (.reg [37, 38, 1065, 1066] [
  ⟨.op (.load 4 true (.slot 4)), none, none⟩, 
  ⟨.call 31 [(.slot 20)] false, none, none⟩, 
  ⟨.op (.mk 72 [(.osl 0 41 0 []), (.osl 0 3 0 []), (.osl 0 3 0 []), (.int .i64 0)]), some 13, none⟩, 
  ⟨.op (.store 4 true (.slot 13) (.slot 21)), none, none⟩]) c7_14
abbrev c7_16 : SCode := .seq (.reg [35, 36, 1065, 1066] [
  ⟨.op (.load 2 true (.slot 3)), none, none⟩, 
  ⟨.call 30 [(.slot 20)] false, none, none⟩, 
  ⟨.op (.mk 70 [(.osl 0 114 0 []), (.osl 0 37 0 [])]), some 12, none⟩, 
  ⟨.op (.store 2 true (.slot 12) (.slot 21)), none, none⟩]) c7_15
abbrev c7_17 : SCode := .seq (.dreg [28, 29, 30, 31, 32, 33, 34, 1070] [
  ⟨.op (.load 2 true (.slot 3)), none, none⟩, 
  ⟨.call 30 [(.slot 20)] false, none, none⟩, 
  ⟨.op (.load 4 true (.slot 4)), none, none⟩, 
  ⟨.call 31 [(.slot 22)] false, none, none⟩, 
  ⟨.op (.load 4 true (.slot 5)), none, none⟩, 
  ⟨.call 31 [(.slot 24)] false, none, none⟩, 
  ⟨.call 29 [(.slot 21), (.slot 23), (.slot 25)] false, none, none⟩, 
  ⟨.op (.asg (.slot 26)), some 11, none⟩]
  [[], [0], [], [0, 1, 2], [], [0, 1, 2, 3, 4], [0, 1, 2, 3, 4, 5], [0, 1, 2, 3, 4, 5, 6]] 7 [] [([], none), ([true], none), ([false, false], none), ([true, true, true], none), ([false, false, false, false], none), ([true, true, true, true, true], none), ([true, true, true, true, true, true], none)] [true, true, true, true, true, true, true]) c7_16
abbrev c7_18 : SCode := .seq (.reg [1063] [
  ⟨.op (.asg (.con (.bool true))), some 6, none⟩]) (.ret)
abbrev c7_19 : SCode := .cond (.slot 10) c7_18 (.skip)
abbrev c7_20 : SCode := .seq (.seq (.reg [26, 1064] [
  ⟨.op (.mv (.slot 7)), none, none⟩, 
  ⟨.op (.bin .lss (.slot 20) (.con (.int .i64 0))), some 10, none⟩]) c7_19) c7_17
abbrev c7_21 : SCode := .seq (.reg [23, 24, 25, 1066] [
  ⟨.op (.load 4 true (.slot 5)), none, none⟩, 
  ⟨.op (.mv (.slot 7)), none, none⟩, 
  ⟨.call 28 [(.slot 20), (.slot 21)] false, none, none⟩, 
  ⟨.op (.asg (.slot 22)), some 7, none⟩]) c7_20
abbrev c7_22 : SCode := .seq (.reg [1063] [
  ⟨.op (.asg (.con (.bool true))), some 6, none⟩]) (.ret)
abbrev c7_23 : SCode := .cond (.slot 9) c7_22 (.skip)
abbrev c7_24 : SCode := .seq (.seq (.reg [21, 1064] [
  ⟨.op (.mv (.slot 7)), none, none⟩, 
  ⟨.op (.bin .lss (.slot 20) (.con (.int .i64 0))), some 9, none⟩]) c7_23) c7_21
abbrev c7_25 : SCode := .seq (.reg [18, 19, 20, 1066] [
  ⟨.op (.load 4 true (.slot 4)), none, none⟩, 
  ⟨.op (.mv (.slot 7)), none, none⟩, 
  ⟨.call 28 [(.slot 20), (.slot 21)] false, none, none⟩, 
  ⟨.op (.asg (.slot 22)), some 7, none⟩]) c7_24
abbrev c7_26 : SCode := .seq (.reg [1063] [
  ⟨.op (.asg (.con (.bool true))), some 6, none⟩]) (.ret)
abbrev c7_27 : SCode := .cond (.slot 8) c7_26 (.skip)
abbrev c7_28 : SCode := .seq (.seq (.reg [16, 1064] [
  ⟨.op (.mv (.slot 7)), none, none⟩, 
  ⟨.op (.bin .lss (.slot 20) (.con (.int .i64 0))), some 8, none⟩]) c7_27) c7_25
abbrev c7_29 : SCode := .seq (.reg [13, 14, 15, 1066] [
  ⟨.op (.load 2 true (.slot 3)), none, none⟩, 
  ⟨.op (.mv (.slot 7)), none, none⟩, 
  ⟨.call 27 [(.slot 20), (.slot 21)] false, none, none⟩, 
  ⟨.op (.asg (.slot 22)), some 7, none⟩]) c7_28
abbrev c7_30 : SCode := .seq (.reg [1063] [
  ⟨.op (.asg (.con (.int .i64 1048576))), some 7, none⟩]) c7_29
abbrev s7 : SCode := .seq (.reg [1063, 1064, 1065, 1066] [
  ⟨.op (.box 61 2 (.slot 0)), some 3, none⟩, 
  ⟨.op (.box 64 4 (.slot 1)), some 4, none⟩, 
  ⟨.op (.box 64 4 (.slot 2)), some 5, none⟩, 
  ⟨.op (.asg (.con (.bool false))), some 6, none⟩]) c7_30
theorem ok7 : okFn Go.Proofs.Try.prog Go.Proofs.Try.f7 v7 s7 r7 3 = true := by kernel_rfl

def v10 : List Nat := [0, 1, 2, 4, 11, 17, 23, 29, 35, 41]
def r10 : List SRes := [.tmp 3]
abbrev c10_0 : SCode := .seq (.reg [42, 1044] [
  ⟨.op (.mv (.slot 1)), none, none⟩, 
  ⟨.op (.asg (.slot 10)), some 3, none⟩]) (.ret)
abbrev c10_1 : SCode := .seq (.reg [1043] [
  ⟨.op (.asg (.con (.int .i64 (-1)))), some 3, none⟩]) (.ret)
abbrev c10_2 : SCode := .cond (.slot 9) c10_1 (.skip)
abbrev c10_3 : SCode := .seq (.seq (.reg [40, 1044] [
  ⟨.op (.mv (.slot 1)), none, none⟩, 
  ⟨.op (.bin .lss (.slot 10) (.con (.int .i64 0))), some 9, none⟩]) c10_2) c10_0
abbrev c10_4 : SCode := .seq (.reg [36, 37, 38, 39, 1047] [
  ⟨.op (.faddr 18 (.slot 2)), none, none⟩, 
  ⟨.op (.load 1 false (.slot 10)), none, none⟩, 
  ⟨.op (.mv (.slot 1)), none, none⟩, 
  ⟨.call 37 [(.slot 11), (.slot 12)] false, none, none⟩, 
  ⟨.op (.asg (.slot 13)), some 1, none⟩]) c10_3
abbrev c10_5 : SCode := .seq (.reg [1043] [
  ⟨.op (.asg (.con (.int .i64 (-1)))), some 3, none⟩]) (.ret)
abbrev c10_6 : SCode := .cond (.slot 8) c10_5 (.skip)
abbrev c10_7 : SCode := .seq (.seq (.reg [34, 1044] [
  ⟨.op (.mv (.slot 1)), none, none⟩, 
  ⟨.op (.bin .lss (.slot 10) (.con (.int .i64 0))), some 8, none⟩]) c10_6) c10_4
abbrev c10_8 : SCode := .seq (.reg [30, 31, 32, 33, 1047] [
  ⟨.op (.faddr 14 (.slot 2)), none, none⟩, 
  ⟨.op (.load 4 true (.slot 10)), none, none⟩, 
  ⟨.op (.mv (.slot 1)), none, none⟩, 
  ⟨.call 20 [(.slot 11), (.slot 12)] false, none, none⟩, 
  ⟨.op (.asg (.slot 13)), some 1, none⟩]) c10_7
abbrev c10_9 : SCode := .seq (.reg [1043] [
  ⟨.op (.asg (.con (.int .i64 (-1)))), some 3, none⟩]) (.ret)
abbrev c10_10 : SCode := .cond (.slot 7) c10_9 (.skip)
abbrev c10_11 : SCode := .seq (.seq (.reg [28, 1044] [
  ⟨.op (.mv (.slot 1)), none, none⟩, 
  ⟨.op (.bin .lss (.slot 10) (.con (.int .i64 0))), some 7, none⟩]) c10_10) c10_8
abbrev c10_12 : SCode := .seq (.reg [24, 25, 26, 27, 1047] [
  ⟨.op (.faddr 10 (.slot 2)), none, none⟩, 
  ⟨.op (.load 4 true (.slot 10)), none, none⟩, 
  ⟨.op (.mv (.slot 1)), none, none⟩, 
  ⟨.call 20 [(.slot 11), (.slot 12)] false, none, none⟩, 
  ⟨.op (.asg (.slot 13)), some 1, none⟩]) c10_11
abbrev c10_13 : SCode := .seq (.reg [1043] [
  ⟨.op (.asg (.con (.int .i64 (-1)))), some 3, none⟩]) (.ret)
abbrev c10_14 : SCode := .cond (.slot 6) c10_13 (.skip)
abbrev c10_15 : SCode := .seq (.seq (.reg [22, 1044] [
  ⟨.op (.mv (.slot 1)), none, none⟩, 
  ⟨.op (.bin .lss (.slot 10) (.con (.int .i64 0))), some 6, none⟩]) c10_14) c10_12
abbrev c10_16 : SCode := .seq (.reg [18, 19, 20, 21, 1047] [
  ⟨.op (.faddr 6 (.slot 2)), none, none⟩, 
  ⟨.op (.load 4 true (.slot 10)), none, none⟩, 
  ⟨.op (.mv (.slot 1)), none, none⟩, 
  ⟨.call 20 [(.slot 11), (.slot 12)] false, none, none⟩, 
  ⟨.op (.asg (.slot 13)), some 1, none⟩]) c10_15
abbrev c10_17 : SCode := .seq (.reg [1043] [
  ⟨.op (.asg (.con (.int .i64 (-1)))), some 3, none⟩]) (.ret)
abbrev c10_18 : SCode := .cond (.slot 5) c10_17 (.skip)
abbrev c10_19 : SCode := .seq (.seq (.reg [16, 1044] [
  ⟨.op (.mv (.slot 1)), none, none⟩, 
  ⟨.op (.bin .lss (.slot 10) (.con (.int .i64 0))), some 5, none⟩]) c10_18) c10_16
abbrev c10_20 : SCode := .seq (.reg [12, 13, 14, 15, 1047] [
  ⟨.op (.faddr 2 (.slot 2)), none, none⟩, 
  ⟨.op (.load 4 true (.slot 10)), none, none⟩, 
  ⟨.op (.mv (.slot 1)), none, none⟩, 
  ⟨.call 20 [(.slot 11), (.slot 12)] false, none, none⟩, 
  ⟨.op (.asg (.slot 13)), some 1, none⟩]) c10_19
abbrev c10_21 : SCode := .seq (.reg [1043] [
  ⟨.op (.asg (.con (.int .i64 (-1)))), some 3, none⟩]) (.ret)
abbrev c10_22 : SCode := .cond (.slot 4) c10_21 (.skip)
abbrev c10_23 : SCode := .seq (.seq (.reg [10, 1044] [
  ⟨.op (.mv (.slot 1)), none, none⟩, 
  ⟨.op (.bin .lss (.slot 10) (.con (.int .i64 0))), some 4, none⟩]) c10_22) c10_20
abbrev c10_24 : SCode := .seq (.reg [5, 6, 7, 8, 9, 1048] [
  ⟨.op (.mv (.slot 1)), none, none⟩, 
  ⟨.op (.faddr 1 (.slot 2)), none, none⟩, 
  ⟨.op (.load 1 false (.slot 11)), none, none⟩, 
  ⟨.op (.len true (.slot 12)), none, none⟩, 
  ⟨.op (.bin .sub (.slot 10) (.slot 13)), none, none⟩, 
  ⟨.op (.asg (.slot 14)), some 1, none⟩]) c10_23
abbrev s10 : SCode := .seq (.reg [1043, 1044] [
  ⟨.op (.box 29 19 (.slot 0)), some 2, none⟩, 
  ⟨.op (.asg (.con (.int .i64 0))), some 3, none⟩]) c10_24
theorem ok10 : okFn Go.Proofs.Try.prog Go.Proofs.Try.f10 v10 s10 r10 2 = true := by kernel_rfl

def v12 : List Nat := [0, 1, 2, 3]
def r12 : List SRes := [.cell 2 19 true]
abbrev c12_0 : SCode := .seq (.reg [30, 1032] [
  ⟨.op (.load 19 true (.slot 3)), none, none⟩, 
  ⟨.op (.store 19 true (.slot 2) (.slot 4)), none, none⟩]) (.ret)
abbrev c12_1 : SCode := .seq (.reg [26, 27, 28, 29, 1035] [
  ⟨.op (.faddr 18 (.slot 1)), none, none⟩, 
  ⟨.op (.load 1 false (.slot 4)), none, none⟩, 
  ⟨.call 38 [(.slot 5)] false, none, none⟩, 
  ⟨.op (.faddr 18 (.slot 3)), none, none⟩, 
  ⟨.op (.store 1 true (.slot 7) (.slot 6)), none, none⟩]) c12_0
abbrev c12_2 : SCode := .seq (.reg [22, 23, 24, 25, 1035] [
  ⟨.op (.faddr 14 (.slot 1)), none, none⟩, 
  ⟨.op (.load 4 true (.slot 4)), none, none⟩, 
  ⟨.call 22 [(.slot 5)] false, none, none⟩, 
  ⟨.op (.faddr 14 (.slot 3)), none, none⟩, 
  ⟨.op (.store 4 true (.slot 7) (.slot 6)), none, none⟩]) c12_1
abbrev c12_3 : SCode := .seq (.reg [18, 19, 20, 21, 1035] [
  ⟨.op (.faddr 10 (.slot 1)), none, none⟩, 
  ⟨.op (.load 4 true (.slot 4)), none, none⟩, 
  ⟨.call 22 [(.slot 5)] false, none, none⟩, 
  ⟨.op (.faddr 10 (.slot 3)), none, none⟩, 
  ⟨.op (.store 4 true (.slot 7) (.slot 6)), none, none⟩]) c12_2
abbrev c12_4 : SCode := .seq (.reg [14, 15, 16, 17, 1035] [
  ⟨.op (.faddr 6 (.slot 1)), none, none⟩, 
  ⟨.op (.load 4 true (.slot 4)), none, none⟩, 
  ⟨.call 22 [(.slot 5)] false, none, none⟩, 
  ⟨.op (.faddr 6 (.slot 3)), none, none⟩, 
  ⟨.op (.store 4 true (.slot 7) (.slot 6)), none, none⟩]) c12_3
abbrev c12_5 : SCode := .seq (.reg [10, 11, 12, 13, 1035] [
  ⟨.op (.faddr 2 (.slot 1)), none, none⟩, 
  ⟨.op (.load 4 true (.slot 4)), none, none⟩, 
  ⟨.call 22 [(.slot 5)] false, none, none⟩, 
  ⟨.op (.faddr 2 (.slot 3)), none, none⟩, 
  ⟨.op (.store 4 true (.slot 7) (.slot 6)), none, none⟩]) c12_4
abbrev c12_6 : SCode := .seq (.reg [7, 8, 9, 1034] [
  ⟨.op (.faddr 1 (.slot 1)), none, none⟩, 
  ⟨.op (.load 1 false (.slot 4)), none, none⟩, 
  ⟨.op (.faddr 1 (.slot 3)), none, none⟩, 
  ⟨.op (.store 1 false (.slot 6) (.slot 5)), none, none⟩]) c12_5
abbrev c12_7 : SCode := .seq (.reg [4, 5, 6, 1034] [
  ⟨.op (.faddr 0 (.slot 1)), none, none⟩, 
  ⟨.op (.load 1 false (.slot 4)), none, none⟩, 
  ⟨.op (.faddr 0 (.slot 3)), none, none⟩, 
  ⟨.op (.store 1 false (.slot 6) (.slot 5)), none, none⟩]) c12_6
abbrev c12_8 : SCode := .seq (.reg [1031] [
  ⟨.op (.mk 37 [(.int .i64 0), (.str []), (.int .i64 0), (.int .i64 0), (.str []), (.osl 0 34 0 []), (.int .i64 0), (.int .i64 0), (.str []), (.osl 0 34 0 []), (.int .i64 0), (.int .i64 0), (.str []), (.osl 0 34 0 []), (.int .i64 0), (.int .i64 0), (.str []), (.osl 0 34 0 []), (.osl 0 37 0 [])]), some 3, none⟩]) c12_7
abbrev s12 : SCode := .seq (.reg [1031, 1032] [
  ⟨.op (.box 29 19 (.slot 0)), some 1, none⟩, 
  ⟨.op (.mk 37 [(.int .i64 0), (.str []), (.int .i64 0), (.int .i64 0), (.str []), (.osl 0 34 0 []), (.int .i64 0), (.int .i64 0), (.str []), (.osl 0 34 0 []), (.int .i64 0), (.int .i64 0), (.str []), (.osl 0 34 0 []), (.int .i64 0), (.int .i64 0), (.str []), (.osl 0 34 0 []), (.osl 0 37 0 [])]), some 2, none⟩]) c12_8
theorem ok12 : okFn Go.Proofs.Try.prog Go.Proofs.Try.f12 v12 s12 r12 1 = true := by kernel_rfl

def v14 : List Nat := [0, 1, 2, 3, 4, 9, 14, 20, 26, 32, 38, 44]
def r14 : List SRes := [.tmp 4]
abbrev c14_0 : SCode := .seq (.reg [1045] [
  ⟨.op (.asg (.con (.bool true))), some 4, none⟩]) (.ret)
abbrev c14_1 : SCode := .seq (.reg [1045] [
  ⟨.op (.asg (.con (.bool false))), some 4, none⟩]) (.ret)
abbrev c14_2 : SCode := .cond (.slot 11) c14_1 (.skip)
abbrev c14_3 : SCode := .seq (.seq (.reg [39, 40, 41, 42, 43, 1050] [
  ⟨.op (.faddr 18 (.slot 2)), none, none⟩, 
  ⟨.op (.load 1 false (.slot 12)), none, none⟩, 
  ⟨.op (.faddr 18 (.slot 3)), none, none⟩, 
  ⟨.op (.load 1 false (.slot 14)), none, none⟩, 
  ⟨.call 39 [(.slot 13), (.slot 15)] false, none, none⟩, 
  ⟨.op (.not (.slot 16)), some 11, none⟩]) c14_2) c14_0
abbrev c14_4 : SCode := .seq (.reg [1045] [
  ⟨.op (.asg (.con (.bool false))), some 4, none⟩]) (.ret)
abbrev c14_5 : SCode := .cond (.slot 10) c14_4 (.skip)
abbrev c14_6 : SCode := .seq (.seq (.reg [33, 34, 35, 36, 37, 1050] [
  ⟨.op (.faddr 14 (.slot 2)), none, none⟩, 
  ⟨.op (.load 4 true (.slot 12)), none, none⟩, 
  ⟨.op (.faddr 14 (.slot 3)), none, none⟩, 
  ⟨.op (.load 4 true (.slot 14)), none, none⟩, 
  ⟨.call 24 [(.slot 13), (.slot 15)] false, none, none⟩, 
  ⟨.op (.not (.slot 16)), some 10, none⟩]) c14_5) c14_3
abbrev c14_7 : SCode := .seq (.reg [1045] [
  ⟨.op (.asg (.con (.bool false))), some 4, none⟩]) (.ret)
abbrev c14_8 : SCode := .cond (.slot 9) c14_7 (.skip)
abbrev c14_9 : SCode := .seq (.seq (.reg [27, 28, 29, 30, 31, 1050] [
  ⟨.op (.faddr 10 (.slot 2)), none, none⟩, 
  ⟨.op (.load 4 true (.slot 12)), none, none⟩, 
  ⟨.op (.faddr 10 (.slot 3)), none, none⟩, 
  ⟨.op (.load 4 true (.slot 14)), none, none⟩, 
  ⟨.call 24 [(.slot 13), (.slot 15)] false, none, none⟩, 
  ⟨.op (.not (.slot 16)), some 9, none⟩]) c14_8) c14_6
abbrev c14_10 : SCode := .seq (.reg [1045] [
  ⟨.op (.asg (.con (.bool false))), some 4, none⟩]) (.ret)
abbrev c14_11 : SCode := .cond (.slot 8) c14_10 (.skip)
abbrev c14_12 : SCode := .seq (.seq (.reg [21, 22, 23, 24, 25, 1050] [
  ⟨.op (.faddr 6 (.slot 2)), none, none⟩, 
  ⟨.op (.load 4 true (.slot 12)), none, none⟩, 
  ⟨.op (.faddr 6 (.slot 3)), none, none⟩, 
  ⟨.op (.load 4 true (.slot 14)), none, none⟩, 
  ⟨.call 24 [(.slot 13), (.slot 15)] false, none, none⟩, 
  ⟨.op (.not (.slot 16)), some 8, none⟩]) c14_11) c14_9
abbrev c14_13 : SCode := .seq (.reg [1045] [
  ⟨.op (.asg (.con (.bool false))), some 4, none⟩]) (.ret)
abbrev c14_14 : SCode := .cond (.slot 7) c14_13 (.skip)
abbrev c14_15 : SCode := .seq (.seq (.reg [15, 16, 17, 18, 19, 1050] [
  ⟨.op (.faddr 2 (.slot 2)), none, none⟩, 
  ⟨.op (.load 4 true (.slot 12)), none, none⟩, 
  ⟨.op (.faddr 2 (.slot 3)), none, none⟩, 
  ⟨.op (.load 4 true (.slot 14)), none, none⟩, 
  ⟨.call 24 [(.slot 13), (.slot 15)] false, none, none⟩, 
  ⟨.op (.not (.slot 16)), some 7, none⟩]) c14_14) c14_12
abbrev c14_16 : SCode := .seq (.reg [1045] [
  ⟨.op (.asg (.con (.bool false))), some 4, none⟩]) (.ret)
abbrev c14_17 : SCode := .cond (.slot 6) c14_16 (.skip)
abbrev c14_18 : SCode := .seq (.seq (.reg [10, 11, 12, 13, 1049] [
  ⟨.op (.faddr 1 (.slot 2)), none, none⟩, 
  ⟨.op (.load 1 false (.slot 12)), none, none⟩, 
  ⟨.op (.faddr 1 (.slot 3)), none, none⟩, 
  ⟨.op (.load 1 false (.slot 14)), none, none⟩, 
  ⟨.op (.bin .neq (.slot 13) (.slot 15)), some 6, none⟩]) c14_17) c14_15
abbrev c14_19 : SCode := .seq (.reg [1045] [
  ⟨.op (.asg (.con (.bool false))), some 4, none⟩]) (.ret)
abbrev c14_20 : SCode := .cond (.slot 5) c14_19 (.skip)
abbrev c14_21 : SCode := .seq (.seq (.reg [5, 6, 7, 8, 1049] [
  ⟨.op (.faddr 0 (.slot 2)), none, none⟩, 
  ⟨.op (.load 1 false (.slot 12)), none, none⟩, 
  ⟨.op (.faddr 0 (.slot 3)), none, none⟩, 
  ⟨.op (.load 1 false (.slot 14)), none, none⟩, 
  ⟨.op (.bin .neq (.slot 13) (.slot 15)), some 5, none⟩]) c14_20) c14_18
abbrev s14 : SCode := .seq (.reg [1045, 1046, 1047] [
  ⟨.op (.box 37 19 (.slot 0)), some 2, none⟩, 
  ⟨.op (.box 37 19 (.slot 1)), some 3, none⟩, 
  ⟨.op (.asg (.con (.bool false))), some 4, none⟩]) c14_21
theorem ok14 : okFn Go.Proofs.Try.prog Go.Proofs.Try.f14 v14 s14 r14 2 = true := by kernel_rfl

def v20 : List Nat := [0, 1, 2, 4, 11, 17]
def r20 : List SRes := [.tmp 3]
abbrev c20_0 : SCode := .seq (.reg [18, 1020] [
  ⟨.op (.mv (.slot 1)), none, none⟩, 
  ⟨.op (.asg (.slot 6)), some 3, none⟩]) (.ret)
abbrev c20_1 : SCode := .seq (.reg [1019] [
  ⟨.op (.asg (.con (.int .i64 (-1)))), some 3, none⟩]) (.ret)
abbrev c20_2 : SCode := .cond (.slot 5) c20_1 (.skip)
abbrev c20_3 : SCode := .seq (.seq (.reg [16, 1020] [
  ⟨.op (.mv (.slot 1)), none, none⟩, 
  ⟨.op (.bin .lss (.slot 6) (.con (.int .i64 0))), some 5, none⟩]) c20_2) c20_0
abbrev c20_4 : SCode := .seq (.reg [12, 13, 14, 15, 1023] [
  ⟨.op (.faddr 3 (.slot 2)), none, none⟩, 
  ⟨.op (.load 1 false (.slot 6)), none, none⟩, 
  ⟨.op (.mv (.slot 1)), none, none⟩, 
  ⟨.call 46 [(.slot 7), (.slot 8)] false, none, none⟩, 
  ⟨.op (.asg (.slot 9)), some 1, none⟩]) c20_3
abbrev c20_5 : SCode := .seq (.reg [1019] [
  ⟨.op (.asg (.con (.int .i64 (-1)))), some 3, none⟩]) (.ret)
abbrev c20_6 : SCode := .cond (.slot 4) c20_5 (.skip)
abbrev c20_7 : SCode := .seq (.seq (.reg [10, 1020] [
  ⟨.op (.mv (.slot 1)), none, none⟩, 
  ⟨.op (.bin .lss (.slot 6) (.con (.int .i64 0))), some 4, none⟩]) c20_6) c20_4
abbrev c20_8 : SCode := .seq (.reg [5, 6, 7, 8, 9, 1024] [
  ⟨.op (.mv (.slot 1)), none, none⟩, 
  ⟨.op (.faddr 2 (.slot 2)), none, none⟩, 
  ⟨.op (.load 1 false (.slot 7)), none, none⟩, 
  ⟨.op (.len true (.slot 8)), none, none⟩, 
  ⟨.op (.bin .sub (.slot 6) (.slot 9)), none, none⟩, 
  ⟨.op (.asg (.slot 10)), some 1, none⟩]) c20_7
abbrev s20 : SCode := .seq (.reg [1019, 1020] [
  ⟨.op (.box 26 4 (.slot 0)), some 2, none⟩, 
  ⟨.op (.asg (.con (.int .i64 0))), some 3, none⟩]) c20_8
theorem ok20 : okFn Go.Proofs.Try.prog Go.Proofs.Try.f20 v20 s20 r20 2 = true := by kernel_rfl

def v22 : List Nat := [0, 1, 2, 3]
def r22 : List SRes := [.cell 2 4 true]
abbrev c22_0 : SCode := .seq (.reg [17, 1019] [
  ⟨.op (.load 4 true (.slot 3)), none, none⟩, 
  ⟨.op (.store 4 true (.slot 2) (.slot 4)), none, none⟩]) (.ret)
abbrev c22_1 : SCode := .seq (.reg [13, 14, 15, 16, 1022] [
  ⟨.op (.faddr 3 (.slot 1)), none, none⟩, 
  ⟨.op (.load 1 false (.slot 4)), none, none⟩, 
  ⟨.call 49 [(.slot 5)] false, none, none⟩, 
  ⟨.op (.faddr 3 (.slot 3)), none, none⟩, 
  ⟨.op (.store 1 true (.slot 7) (.slot 6)), none, none⟩]) c22_0
abbrev c22_2 : SCode := .seq (.reg [10, 11, 12, 1021] [
  ⟨.op (.faddr 2 (.slot 1)), none, none⟩, 
  ⟨.op (.load 1 false (.slot 4)), none, none⟩, 
  ⟨.op (.faddr 2 (.slot 3)), none, none⟩, 
  ⟨.op (.store 1 false (.slot 6) (.slot 5)), none, none⟩]) c22_1
abbrev c22_3 : SCode := .seq (.reg [7, 8, 9, 1021] [
  ⟨.op (.faddr 1 (.slot 1)), none, none⟩, 
  ⟨.op (.load 1 false (.slot 4)), none, none⟩, 
  ⟨.op (.faddr 1 (.slot 3)), none, none⟩, 
  ⟨.op (.store 1 false (.slot 6) (.slot 5)), none, none⟩]) c22_2
abbrev c22_4 : SCode := .seq (.reg [4, 5, 6, 1021] [
  ⟨.op (.faddr 0 (.slot 1)), none, none⟩, 
  ⟨.op (.load 1 false (.slot 4)), none, none⟩, 
  ⟨.op (.faddr 0 (.slot 3)), none, none⟩, 
  ⟨.op (.store 1 false (.slot 6) (.slot 5)), none, none⟩]) c22_3
abbrev c22_5 : SCode := .seq (.reg [1018] [
  ⟨.op (.mk 34 [(.int .i64 0), (.int .i64 0), (.str []), (.osl 0 34 0 [])]), some 3, none⟩]) c22_4
abbrev s22 : SCode := .seq (.reg [1018, 1019] [
  ⟨.op (.box 26 4 (.slot 0)), some 1, none⟩, 
  ⟨.op (.mk 34 [(.int .i64 0), (.int .i64 0), (.str []), (.osl 0 34 0 [])]), some 2, none⟩]) c22_5
theorem ok22 : okFn Go.Proofs.Try.prog Go.Proofs.Try.f22 v22 s22 r22 1 = true := by kernel_rfl

def v24 : List Nat := [0, 1, 2, 3, 4, 9, 14, 19, 25]
def r24 : List SRes := [.tmp 4]
abbrev c24_0 : SCode := .seq (.reg [1026] [
  ⟨.op (.asg (.con (.bool true))), some 4, none⟩]) (.ret)
abbrev c24_1 : SCode := .seq (.reg [1026] [
  ⟨.op (.asg (.con (.bool false))), some 4, none⟩]) (.ret)
abbrev c24_2 : SCode := .cond (.slot 8) c24_1 (.skip)
abbrev c24_3 : SCode := .seq (.seq (.reg [20, 21, 22, 23, 24, 1031] [
  ⟨.op (.faddr 3 (.slot 2)), none, none⟩, 
  ⟨.op (.load 1 false (.slot 9)), none, none⟩, 
  ⟨.op (.faddr 3 (.slot 3)), none, none⟩, 
  ⟨.op (.load 1 false (.slot 11)), none, none⟩, 
  ⟨.call 52 [(.slot 10), (.slot 12)] false, none, none⟩, 
  ⟨.op (.not (.slot 13)), some 8, none⟩]) c24_2) c24_0
abbrev c24_4 : SCode := .seq (.reg [1026] [
  ⟨.op (.asg (.con (.bool false))), some 4, none⟩]) (.ret)
abbrev c24_5 : SCode := .cond (.slot 7) c24_4 (.skip)
abbrev c24_6 : SCode := .seq (.seq (.reg [15, 16, 17, 18, 1030] [
  ⟨.op (.faddr 2 (.slot 2)), none, none⟩, 
  ⟨.op (.load 1 false (.slot 9)), none, none⟩, 
  ⟨.op (.faddr 2 (.slot 3)), none, none⟩, 
  ⟨.op (.load 1 false (.slot 11)), none, none⟩, 
  ⟨.op (.bin .neq (.slot 10) (.slot 12)), some 7, none⟩]) c24_5) c24_3
abbrev c24_7 : SCode := .seq (.reg [1026] [
  ⟨.op (.asg (.con (.bool false))), some 4, none⟩]) (.ret)
abbrev c24_8 : SCode := .cond (.slot 6) c24_7 (.skip)
abbrev c24_9 : SCode := .seq (.seq (.reg [10, 11, 12, 13, 1030] [
  ⟨.op (.faddr 1 (.slot 2)), none, none⟩, 
  ⟨.op (.load 1 false (.slot 9)), none, none⟩, 
  ⟨.op (.faddr 1 (.slot 3)), none, none⟩, 
  ⟨.op (.load 1 false (.slot 11)), none, none⟩, 
  ⟨.op (.bin .neq (.slot 10) (.slot 12)), some 6, none⟩]) c24_8) c24_6
abbrev c24_10 : SCode := .seq (.reg [1026] [
  ⟨.op (.asg (.con (.bool false))), some 4, none⟩]) (.ret)
abbrev c24_11 : SCode := .cond (.slot 5) c24_10 (.skip)
abbrev c24_12 : SCode := .seq (.seq (.reg [5, 6, 7, 8, 1030] [
  ⟨.op (.faddr 0 (.slot 2)), none, none⟩, 
  ⟨.op (.load 1 false (.slot 9)), none, none⟩, 
  ⟨.op (.faddr 0 (.slot 3)), none, none⟩, 
  ⟨.op (.load 1 false (.slot 11)), none, none⟩, 
  ⟨.op (.bin .neq (.slot 10) (.slot 12)), some 5, none⟩]) c24_11) c24_9
abbrev s24 : SCode := .seq (.reg [1026, 1027, 1028] [
  ⟨.op (.box 34 4 (.slot 0)), some 2, none⟩, 
  ⟨.op (.box 34 4 (.slot 1)), some 3, none⟩, 
  ⟨.op (.asg (.con (.bool false))), some 4, none⟩]) c24_12
theorem ok24 : okFn Go.Proofs.Try.prog Go.Proofs.Try.f24 v24 s24 r24 2 = true := by kernel_rfl

def v27 : List Nat := [0, 1, 2, 4, 10, 16]
def r27 : List SRes := [.tmp 3]
abbrev c27_0 : SCode := .seq (.reg [17, 1019] [
  ⟨.op (.mv (.slot 1)), none, none⟩, 
  ⟨.op (.asg (.slot 6)), some 3, none⟩]) (.ret)
abbrev c27_1 : SCode := .seq (.reg [1018] [
  ⟨.op (.asg (.con (.int .i64 (-1)))), some 3, none⟩]) (.ret)
abbrev c27_2 : SCode := .cond (.slot 5) c27_1 (.skip)
abbrev c27_3 : SCode := .seq (.seq (.reg [15, 1019] [
  ⟨.op (.mv (.slot 1)), none, none⟩, 
  ⟨.op (.bin .lss (.slot 6) (.con (.int .i64 0))), some 5, none⟩]) c27_2) c27_0
abbrev c27_4 : SCode := .seq (.reg [11, 12, 13, 14, 1022] [
  ⟨.op (.faddr 1 (.slot 2)), none, none⟩, 
  ⟨.op (.load 1 false (.slot 6)), none, none⟩, 
  ⟨.op (.mv (.slot 1)), none, none⟩, 
  ⟨.call 37 [(.slot 7), (.slot 8)] false, none, none⟩, 
  ⟨.op (.asg (.slot 9)), some 1, none⟩]) c27_3
abbrev c27_5 : SCode := .seq (.reg [1018] [
  ⟨.op (.asg (.con (.int .i64 (-1)))), some 3, none⟩]) (.ret)
abbrev c27_6 : SCode := .cond (.slot 4) c27_5 (.skip)
abbrev c27_7 : SCode := .seq (.seq (.reg [9, 1019] [
  ⟨.op (.mv (.slot 1)), none, none⟩, 
  ⟨.op (.bin .lss (.slot 6) (.con (.int .i64 0))), some 4, none⟩]) c27_6) c27_4
abbrev c27_8 : SCode := .seq (.reg [5, 6, 7, 8, 1022] [
  ⟨.op (.faddr 0 (.slot 2)), none, none⟩, 
  ⟨.op (.load 1 false (.slot 6)), none, none⟩, 
  ⟨.op (.mv (.slot 1)), none, none⟩, 
  ⟨.call 55 [(.slot 7), (.slot 8)] false, none, none⟩, 
  ⟨.op (.asg (.slot 9)), some 1, none⟩]) c27_7
abbrev s27 : SCode := .seq (.reg [1018, 1019] [
  ⟨.op (.box 61 2 (.slot 0)), some 2, none⟩, 
  ⟨.op (.asg (.con (.int .i64 0))), some 3, none⟩]) c27_8
theorem ok27 : okFn Go.Proofs.Try.prog Go.Proofs.Try.f27 v27 s27 r27 2 = true := by kernel_rfl

def v28 : List Nat := [0, 1, 2, 4, 10, 16, 22]
def r28 : List SRes := [.tmp 3]
abbrev c28_0 : SCode := .seq (.reg [23, 1025] [
  ⟨.op (.mv (.slot 1)), none, none⟩, 
  ⟨.op (.asg (.slot 7)), some 3, none⟩]) (.ret)
abbrev c28_1 : SCode := .seq (.reg [1024] [
  ⟨.op (.asg (.con (.int .i64 (-1)))), some 3, none⟩]) (.ret)
abbrev c28_2 : SCode := .cond (.slot 6) c28_1 (.skip)
abbrev c28_3 : SCode := .seq (.seq (.reg [21, 1025] [
  ⟨.op (.mv (.slot 1)), none, none⟩, 
  ⟨.op (.bin .lss (.slot 7) (.con (.int .i64 0))), some 6, none⟩]) c28_2) c28_0
abbrev c28_4 : SCode := .seq (.reg [17, 18, 19, 20, 1028] [
  ⟨.op (.faddr 2 (.slot 2)), none, none⟩, 
  ⟨.op (.load 1 false (.slot 7)), none, none⟩, 
  ⟨.op (.mv (.slot 1)), none, none⟩, 
  ⟨.call 40 [(.slot 8), (.slot 9)] false, none, none⟩, 
  ⟨.op (.asg (.slot 10)), some 1, none⟩]) c28_3
abbrev c28_5 : SCode := .seq (.reg [1024] [
  ⟨.op (.asg (.con (.int .i64 (-1)))), some 3, none⟩]) (.ret)
abbrev c28_6 : SCode := .cond (.slot 5) c28_5 (.skip)
abbrev c28_7 : SCode := .seq (.seq (.reg [15, 1025] [
  ⟨.op (.mv (.slot 1)), none, none⟩, 
  ⟨.op (.bin .lss (.slot 7) (.con (.int .i64 0))), some 5, none⟩]) c28_6) c28_4
abbrev c28_8 : SCode := .seq (.reg [11, 12, 13, 14, 1028] [
  ⟨.op (.faddr 1 (.slot 2)), none, none⟩, 
  ⟨.op (.load 1 false (.slot 7)), none, none⟩, 
  ⟨.op (.mv (.slot 1)), none, none⟩, 
  ⟨.call 40 [(.slot 8), (.slot 9)] false, none, none⟩, 
  ⟨.op (.asg (.slot 10)), some 1, none⟩]) c28_7
abbrev c28_9 : SCode := .seq (.reg [1024] [
  ⟨.op (.asg (.con (.int .i64 (-1)))), some 3, none⟩]) (.ret)
abbrev c28_10 : SCode := .cond (.slot 4) c28_9 (.skip)
abbrev c28_11 : SCode := .seq (.seq (.reg [9, 1025] [
  ⟨.op (.mv (.slot 1)), none, none⟩, 
  ⟨.op (.bin .lss (.slot 7) (.con (.int .i64 0))), some 4, none⟩]) c28_10) c28_8
abbrev c28_12 : SCode := .seq (.reg [5, 6, 7, 8, 1028] [
  ⟨.op (.faddr 0 (.slot 2)), none, none⟩, 
  ⟨.op (.load 1 false (.slot 7)), none, none⟩, 
  ⟨.op (.mv (.slot 1)), none, none⟩, 
  ⟨.call 56 [(.slot 8), (.slot 9)] false, none, none⟩, 
  ⟨.op (.asg (.slot 10)), some 1, none⟩]) c28_11
abbrev s28 : SCode := .seq (.reg [1024, 1025] [
  ⟨.op (.box 64 4 (.slot 0)), some 2, none⟩, 
  ⟨.op (.asg (.con (.int .i64 0))), some 3, none⟩]) c28_12
theorem ok28 : okFn Go.Proofs.Try.prog Go.Proofs.Try.f28 v28 s28 r28 2 = true := by kernel_rfl

def v29 : List Nat := [0, 1, 2, 4, 5, 6, 19]
def r29 : List SRes := [.tmp 5]
abbrev c29_0 : SCode := .seq (.reg [20, 21, 22, 23, 24, 25, 26, 27, 1036] [
  ⟨.op (.faddr 3 (.slot 3)), none, none⟩, 
  ⟨.op (.load 1 false (.slot 7)), none, none⟩, 
  ⟨.op (.bin .neq (.slot 8) (.con (.int .i64 0))), none, none⟩, 
  ⟨.op (.mv (.slot 9)), none, none⟩, 
  ⟨.op (.load 4 true (.slot 3)), none, some (10, false)⟩, 
  ⟨.op (.load 4 true (.slot 4)), none, some (10, false)⟩, 
  ⟨.call 58 [(.slot 11), (.slot 12)] false, none, some (10, false)⟩, 
  ⟨.op (.pick (.slot 10) (.con (.bool true)) (.slot 13)), none, none⟩, 
  ⟨.op (.asg (.slot 14)), some 5, none⟩]) (.ret)
abbrev c29_1 : SCode := .seq (.reg [1028] [
  ⟨.op (.asg (.con (.bool false))), some 5, none⟩]) (.ret)
abbrev c29_2 : SCode := .cond (.slot 6) c29_1 (.skip)
abbrev c29_3 : SCode := .seq (.seq (.reg [7, 8, 9, 10, 11, 12, 13, 14, 15, 16, 17, 18, 1040] [
  ⟨.op (.faddr 3 (.slot 3)), none, none⟩, 
  ⟨.op (.load 1 false (.slot 7)), none, none⟩, 
  ⟨.op (.faddr 3 (.slot 4)), none, none⟩, 
  ⟨.op (.load 1 false (.slot 9)), none, none⟩, 
  ⟨.op (.bin .neq (.slot 8) (.slot 10)), none, none⟩, 
  ⟨.op (.mv (.slot 11)), none, none⟩, 
  ⟨.op (.faddr 2 (.slot 3)), none, some (12, false)⟩, 
  ⟨.op (.load 1 false (.slot 13)), none, some (12, false)⟩, 
  ⟨.op (.faddr 2 (.slot 4)), none, some (12, false)⟩, 
  ⟨.op (.load 1 false (.slot 15)), none, some (12, false)⟩, 
  ⟨.call 57 [(.slot 14), (.slot 16)] false, none, some (12, false)⟩, 
  ⟨.op (.not (.slot 17)), none, some (12, false)⟩, 
  ⟨.op (.pick (.slot 12) (.con (.bool true)) (.slot 18)), some 6, none⟩]) c29_2) c29_0
abbrev s29 : SCode := .seq (.reg [3, 1029, 1030, 1031] [
  ⟨.op (.box 70 2 (.slot 0)), none, none⟩, 
  ⟨.op (.box 72 4 (.slot 1)), some 3, none⟩, 
  ⟨.op (.box 72 4 (.slot 2)), some 4, none⟩, 
  ⟨.op (.asg (.con (.bool false))), some 5, none⟩]) c29_3
theorem ok29 : okFn Go.Proofs.Try.prog Go.Proofs.Try.f29 v29 s29 r29 3 = true := by kernel_rfl

def v30 : List Nat := [0, 1, 2, 3]
def r30 : List SRes := [.cell 2 2 true]
abbrev c30_0 : SCode := .seq (.reg [12, 1014] [
  ⟨.op (.load 2 true (.slot 3)), none, none⟩, 
  ⟨.op (.store 2 true (.slot 2) (.slot 4)), none, none⟩]) (.ret)
abbrev c30_1 : SCode := .seq (.reg [8, 9, 10, 11, 1017] [
  ⟨.op (.faddr 1 (.slot 1)), none, none⟩, 
  ⟨.op (.load 1 false (.slot 4)), none, none⟩, 
  ⟨.call 38 [(.slot 5)] false, none, none⟩, 
  ⟨.op (.faddr 1 (.slot 3)), none, none⟩, 
  ⟨.op (.store 1 true (.slot 7) (.slot 6)), none, none⟩]) c30_0
abbrev c30_2 : SCode := .seq (.reg [4, 5, 6, 7, 1017] [
  ⟨.op (.faddr 0 (.slot 1)), none, none⟩, 
  ⟨.op (.load 1 false (.slot 4)), none, none⟩, 
  ⟨.call 59 [(.slot 5)] false, none, none⟩, 
  ⟨.op (.faddr 0 (.slot 3)), none, none⟩, 
  ⟨.op (.store 1 true (.slot 7) (.slot 6)), none, none⟩]) c30_1
abbrev c30_3 : SCode := .seq (.reg [1013] [
  ⟨.op (.mk 70 [(.osl 0 114 0 []), (.osl 0 37 0 [])]), some 3, none⟩]) c30_2
abbrev s30 : SCode := .seq (.reg [1013, 1014] [
  ⟨.op (.box 61 2 (.slot 0)), some 1, none⟩, 
  ⟨.op (.mk 70 [(.osl 0 114 0 []), (.osl 0 37 0 [])]), some 2, none⟩]) c30_3
theorem ok30 : okFn Go.Proofs.Try.prog Go.Proofs.Try.f30 v30 s30 r30 1 = true := by kernel_rfl

def v31 : List Nat := [0, 1, 2, 3]
def r31 : List SRes := [.cell 2 4 true]
abbrev c31_0 : SCode := .seq (.reg [19, 1021] [
  ⟨.op (.load 4 true (.slot 3)), none, none⟩, 
  ⟨.op (.store 4 true (.slot 2) (.slot 4)), none, none⟩]) (.ret)
abbrev c31_1 : SCode := .seq (.reg [16, 17, 18, 1023] [
  ⟨.op (.faddr 3 (.slot 1)), none, none⟩, 
  ⟨.op (.load 1 false (.slot 4)), none, none⟩, 
  ⟨.op (.faddr 3 (.slot 3)), none, none⟩, 
  ⟨.op (.store 1 false (.slot 6) (.slot 5)), none, none⟩]) c31_0
abbrev c31_2 : SCode := .seq (.reg [12, 13, 14, 15, 1024] [
  ⟨.op (.faddr 2 (.slot 1)), none, none⟩, 
  ⟨.op (.load 1 false (.slot 4)), none, none⟩, 
  ⟨.call 42 [(.slot 5)] false, none, none⟩, 
  ⟨.op (.faddr 2 (.slot 3)), none, none⟩, 
  ⟨.op (.store 1 true (.slot 7) (.slot 6)), none, none⟩]) c31_1
abbrev c31_3 : SCode := .seq (.reg [8, 9, 10, 11, 1024] [
  ⟨.op (.faddr 1 (.slot 1)), none, none⟩, 
  ⟨.op (.load 1 false (.slot 4)), none, none⟩, 
  ⟨.call 42 [(.slot 5)] false, none, none⟩, 
  ⟨.op (.faddr 1 (.slot 3)), none, none⟩, 
  ⟨.op (.store 1 true (.slot 7) (.slot 6)), none, none⟩]) c31_2
abbrev c31_4 : SCode := .seq (.reg [4, 5, 6, 7, 1024] [
  ⟨.op (.faddr 0 (.slot 1)), none, none⟩, 
  ⟨.op (.load 1 false (.slot 4)), none, none⟩, 
  ⟨.call 60 [(.slot 5)] false, none, none⟩, 
  ⟨.op (.faddr 0 (.slot 3)), none, none⟩, 
  ⟨.op (.store 1 true (.slot 7) (.slot 6)), none, none⟩]) c31_3
abbrev c31_5 : SCode := .seq (.reg [1020] [
  ⟨.op (.mk 72 [(.osl 0 41 0 []), (.osl 0 3 0 []), (.osl 0 3 0 []), (.int .i64 0)]), some 3, none⟩]) c31_4
abbrev s31 : SCode := .seq (.reg [1020, 1021] [
  ⟨.op (.box 64 4 (.slot 0)), some 1, none⟩, 
  ⟨.op (.mk 72 [(.osl 0 41 0 []), (.osl 0 3 0 []), (.osl 0 3 0 []), (.int .i64 0)]), some 2, none⟩]) c31_5
theorem ok31 : okFn Go.Proofs.Try.prog Go.Proofs.Try.f31 v31 s31 r31 1 = true := by kernel_rfl

def v32 : List Nat := [0, 1, 2, 4, 5, 6, 19]
def r32 : List SRes := [.tmp 5]
abbrev c32_0 : SCode := .seq (.reg [20, 21, 22, 23, 24, 25, 26, 27, 1036] [
  ⟨.op (.faddr 3 (.slot 3)), none, none⟩, 
  ⟨.op (.load 1 false (.slot 7)), none, none⟩, 
  ⟨.op (.bin .neq (.slot 8) (.con (.int .i64 0))), none, none⟩, 
  ⟨.op (.mv (.slot 9)), none, none⟩, 
  ⟨.op (.load 4 true (.slot 3)), none, some (10, false)⟩, 
  ⟨.op (.load 4 true (.slot 4)), none, some (10, false)⟩, 
  ⟨.call 62 [(.slot 11), (.slot 12)] false, none, some (10, false)⟩, 
  ⟨.op (.pick (.slot 10) (.con (.bool true)) (.slot 13)), none, none⟩, 
  ⟨.op (.asg (.slot 14)), some 5, none⟩]) (.ret)
abbrev c32_1 : SCode := .seq (.reg [1028] [
  ⟨.op (.asg (.con (.bool false))), some 5, none⟩]) (.ret)
abbrev c32_2 : SCode := .cond (.slot 6) c32_1 (.skip)
abbrev c32_3 : SCode := .seq (.seq (.reg [7, 8, 9, 10, 11, 12, 13, 14, 15, 16, 17, 18, 1040] [
  ⟨.op (.faddr 3 (.slot 3)), none, none⟩, 
  ⟨.op (.load 1 false (.slot 7)), none, none⟩, 
  ⟨.op (.faddr 3 (.slot 4)), none, none⟩, 
  ⟨.op (.load 1 false (.slot 9)), none, none⟩, 
  ⟨.op (.bin .neq (.slot 8) (.slot 10)), none, none⟩, 
  ⟨.op (.mv (.slot 11)), none, none⟩, 
  ⟨.op (.faddr 2 (.slot 3)), none, some (12, false)⟩, 
  ⟨.op (.load 1 false (.slot 13)), none, some (12, false)⟩, 
  ⟨.op (.faddr 2 (.slot 4)), none, some (12, false)⟩, 
  ⟨.op (.load 1 false (.slot 15)), none, some (12, false)⟩, 
  ⟨.call 61 [(.slot 14), (.slot 16)] false, none, some (12, false)⟩, 
  ⟨.op (.not (.slot 17)), none, some (12, false)⟩, 
  ⟨.op (.pick (.slot 12) (.con (.bool true)) (.slot 18)), some 6, none⟩]) c32_2) c32_0
abbrev s32 : SCode := .seq (.reg [3, 1029, 1030, 1031] [
  ⟨.op (.box 70 2 (.slot 0)), none, none⟩, 
  ⟨.op (.box 72 4 (.slot 1)), some 3, none⟩, 
  ⟨.op (.box 72 4 (.slot 2)), some 4, none⟩, 
  ⟨.op (.asg (.con (.bool false))), some 5, none⟩]) c32_3
theorem ok32 : okFn Go.Proofs.Try.prog Go.Proofs.Try.f32 v32 s32 r32 3 = true := by kernel_rfl

def v33 : List Nat := [0, 1, 2, 3, 4, 10, 16]
def r33 : List SRes := [.tmp 4]
abbrev c33_0 : SCode := .seq (.reg [1017] [
  ⟨.op (.asg (.con (.bool true))), some 4, none⟩]) (.ret)
abbrev c33_1 : SCode := .seq (.reg [1017] [
  ⟨.op (.asg (.con (.bool false))), some 4, none⟩]) (.ret)
abbrev c33_2 : SCode := .cond (.slot 6) c33_1 (.skip)
abbrev c33_3 : SCode := .seq (.seq (.reg [11, 12, 13, 14, 15, 1022] [
  ⟨.op (.faddr 1 (.slot 2)), none, none⟩, 
  ⟨.op (.load 1 false (.slot 7)), none, none⟩, 
  ⟨.op (.faddr 1 (.slot 3)), none, none⟩, 
  ⟨.op (.load 1 false (.slot 9)), none, none⟩, 
  ⟨.call 39 [(.slot 8), (.slot 10)] false, none, none⟩, 
  ⟨.op (.not (.slot 11)), some 6, none⟩]) c33_2) c33_0
abbrev c33_4 : SCode := .seq (.reg [1017] [
  ⟨.op (.asg (.con (.bool false))), some 4, none⟩]) (.ret)
abbrev c33_5 : SCode := .cond (.slot 5) c33_4 (.skip)
abbrev c33_6 : SCode := .seq (.seq (.reg [5, 6, 7, 8, 9, 1022] [
  ⟨.op (.faddr 0 (.slot 2)), none, none⟩, 
  ⟨.op (.load 1 false (.slot 7)), none, none⟩, 
  ⟨.op (.faddr 0 (.slot 3)), none, none⟩, 
  ⟨.op (.load 1 false (.slot 9)), none, none⟩, 
  ⟨.call 63 [(.slot 8), (.slot 10)] false, none, none⟩, 
  ⟨.op (.not (.slot 11)), some 5, none⟩]) c33_5) c33_3
abbrev s33 : SCode := .seq (.reg [1017, 1018, 1019] [
  ⟨.op (.box 70 2 (.slot 0)), some 2, none⟩, 
  ⟨.op (.box 70 2 (.slot 1)), some 3, none⟩, 
  ⟨.op (.asg (.con (.bool false))), some 4, none⟩]) c33_6
theorem ok33 : okFn Go.Proofs.Try.prog Go.Proofs.Try.f33 v33 s33 r33 2 = true := by kernel_rfl

def v34 : List Nat := [0, 1, 2, 3, 4, 10, 16, 22, 27]
def r34 : List SRes := [.tmp 4]
abbrev c34_0 : SCode := .seq (.reg [1028] [
  ⟨.op (.asg (.con (.bool true))), some 4, none⟩]) (.ret)
abbrev c34_1 : SCode := .seq (.reg [1028] [
  ⟨.op (.asg (.con (.bool false))), some 4, none⟩]) (.ret)
abbrev c34_2 : SCode := .cond (.slot 8) c34_1 (.skip)
abbrev c34_3 : SCode := .seq (.seq (.reg [23, 24, 25, 26, 1032] [
  ⟨.op (.faddr 3 (.slot 2)), none, none⟩, 
  ⟨.op (.load 1 false (.slot 9)), none, none⟩, 
  ⟨.op (.faddr 3 (.slot 3)), none, none⟩, 
  ⟨.op (.load 1 false (.slot 11)), none, none⟩, 
  ⟨.op (.bin .neq (.slot 10) (.slot 12)), some 8, none⟩]) c34_2) c34_0
abbrev c34_4 : SCode := .seq (.reg [1028] [
  ⟨.op (.asg (.con (.bool false))), some 4, none⟩]) (.ret)
abbrev c34_5 : SCode := .cond (.slot 7) c34_4 (.skip)
abbrev c34_6 : SCode := .seq (.seq (.reg [17, 18, 19, 20, 21, 1033] [
  ⟨.op (.faddr 2 (.slot 2)), none, none⟩, 
  ⟨.op (.load 1 false (.slot 9)), none, none⟩, 
  ⟨.op (.faddr 2 (.slot 3)), none, none⟩, 
  ⟨.op (.load 1 false (.slot 11)), none, none⟩, 
  ⟨.call 44 [(.slot 10), (.slot 12)] false, none, none⟩, 
  ⟨.op (.not (.slot 13)), some 7, none⟩]) c34_5) c34_3
abbrev c34_7 : SCode := .seq (.reg [1028] [
  ⟨.op (.asg (.con (.bool false))), some 4, none⟩]) (.ret)
abbrev c34_8 : SCode := .cond (.slot 6) c34_7 (.skip)
abbrev c34_9 : SCode := .seq (.seq (.reg [11, 12, 13, 14, 15, 1033] [
  ⟨.op (.faddr 1 (.slot 2)), none, none⟩, 
  ⟨.op (.load 1 false (.slot 9)), none, none⟩, 
  ⟨.op (.faddr 1 (.slot 3)), none, none⟩, 
  ⟨.op (.load 1 false (.slot 11)), none, none⟩, 
  ⟨.call 44 [(.slot 10), (.slot 12)] false, none, none⟩, 
  ⟨.op (.not (.slot 13)), some 6, none⟩]) c34_8) c34_6
abbrev c34_10 : SCode := .seq (.reg [1028] [
  ⟨.op (.asg (.con (.bool false))), some 4, none⟩]) (.ret)
abbrev c34_11 : SCode := .cond (.slot 5) c34_10 (.skip)
abbrev c34_12 : SCode := .seq (.seq (.reg [5, 6, 7, 8, 9, 1033] [
  ⟨.op (.faddr 0 (.slot 2)), none, none⟩, 
  ⟨.op (.load 1 false (.slot 9)), none, none⟩, 
  ⟨.op (.faddr 0 (.slot 3)), none, none⟩, 
  ⟨.op (.load 1 false (.slot 11)), none, none⟩, 
  ⟨.call 64 [(.slot 10), (.slot 12)] false, none, none⟩, 
  ⟨.op (.not (.slot 13)), some 5, none⟩]) c34_11) c34_9
abbrev s34 : SCode := .seq (.reg [1028, 1029, 1030] [
  ⟨.op (.box 72 4 (.slot 0)), some 2, none⟩, 
  ⟨.op (.box 72 4 (.slot 1)), some 3, none⟩, 
  ⟨.op (.asg (.con (.bool false))), some 4, none⟩]) c34_12
theorem ok34 : okFn Go.Proofs.Try.prog Go.Proofs.Try.f34 v34 s34 r34 2 = true := by kernel_rfl

def v37 : List Nat := [0, 1, 4, 11, 5, 15, 25]
def r37 : List SRes := [.tmp 2]
abbrev c37_0 : SCode := .seq (.reg [26, 1028] [
  ⟨.op (.mv (.slot 1)), none, none⟩, 
  ⟨.op (.asg (.slot 7)), some 2, none⟩]) (.ret)
abbrev c37_1 : SCode := .reg [16, 17, 1029] [
  ⟨.op (.mv (.slot 4)), none, none⟩, 
  ⟨.op (.bin .add (.slot 7) (.con (.int .i64 1))), none, none⟩, 
  ⟨.op (.asg (.slot 8)), some 4, none⟩]
abbrev c37_2 : SCode := .seq (.reg [1027] [
  ⟨.op (.asg (.con (.int .i64 (-1)))), some 2, none⟩]) (.ret)
abbrev c37_3 : SCode := .cond (.slot 6) c37_2 (.skip)
abbrev c37_4 : SCode := .seq (.reg [24, 1028] [
  ⟨.op (.mv (.slot 1)), none, none⟩, 
  ⟨.op (.bin .lss (.slot 7) (.con (.int .i64 0))), some 6, none⟩]) c37_3
abbrev c37_5 : SCode := .seq (.block 1 (.seq (.reg [18, 19, 20, 21, 22, 23, 1033] [
  ⟨.op (.mv (.slot 0)), none, none⟩, 
  ⟨.op (.mv (.slot 4)), none, none⟩, 
  ⟨.op (.iaddr 19 (.slot 7) (.slot 8)), none, none⟩, 
  ⟨.op (.load 19 true (.slot 9)), none, none⟩, 
  ⟨.op (.mv (.slot 1)), none, none⟩, 
  ⟨.call 10 [(.slot 10), (.slot 11)] false, none, none⟩, 
  ⟨.op (.asg (.slot 12)), some 1, none⟩]) c37_4)) c37_1
abbrev c37_6 : SCode := .cond (.slot 5) (.skip) (.exit 0)
abbrev b37_0 : SCode := .seq (.seq (.reg [12, 13, 14, 1030] [
  ⟨.op (.mv (.slot 4)), none, none⟩, 
  ⟨.op (.mv (.slot 0)), none, none⟩, 
  ⟨.op (.len false (.slot 8)), none, none⟩, 
  ⟨.op (.bin .lss (.slot 7) (.slot 9)), some 5, none⟩]) c37_6) c37_5
def l37_0 : SCode := .loop b37_0
abbrev c37_8 : SCode := .block 0 (l37_0)
abbrev c37_9 : SCode := .seq (.seq (.reg [1027] [
  ⟨.op (.asg (.con (.int .i64 0))), some 4, none⟩]) c37_8) c37_0
abbrev c37_10 : SCode := .seq (.reg [1027] [
  ⟨.op (.asg (.con (.int .i64 (-1)))), some 2, none⟩]) (.ret)
abbrev c37_11 : SCode := .cond (.slot 3) c37_10 (.skip)
abbrev c37_12 : SCode := .seq (.seq (.reg [10, 1028] [
  ⟨.op (.mv (.slot 1)), none, none⟩, 
  ⟨.op (.bin .lss (.slot 7) (.con (.int .i64 0))), some 3, none⟩]) c37_11) c37_9
abbrev c37_13 : SCode := .seq (.reg [6, 7, 8, 9, 1031] [
  ⟨.op (.mv (.slot 1)), none, none⟩, 
  ⟨.op (.mv (.slot 0)), none, none⟩, 
  ⟨.op (.len false (.slot 8)), none, none⟩, 
  ⟨.op (.bin .sub (.slot 7) (.slot 9)), none, none⟩, 
  ⟨.op (.asg (.slot 10)), some 1, none⟩]) c37_12
abbrev s37 : SCode := .seq (.reg [1027] [
  ⟨.op (.asg (.con (.int .i64 0))), some 2, none⟩]) c37_13
theorem ok37 : okFn Go.Proofs.Try.prog Go.Proofs.Try.f37 v37 s37 r37 2 = true := by kernel_rfl

def v38 : List Nat := [0, 2, 3, 4, 11]
def r38 : List SRes := [.tmp 1]
abbrev c38_0 : SCode := .seq (.reg [22, 1024] [
  ⟨.op (.mv (.slot 2)), none, none⟩, 
  ⟨.op (.asg (.slot 5)), some 1, none⟩]) (.ret)
abbrev c38_1 : SCode := .reg [12, 13, 1025] [
  ⟨.op (.mv (.slot 3)), none, none⟩, 
  ⟨.op (.bin .add (.slot 5) (.con (.int .i64 1))), none, none⟩, 
  ⟨.op (.asg (.slot 6)), some 3, none⟩]
abbrev c38_2 : SCode := .seq (.block 1 (.reg [14, 15, 16, 17, 18, 19, 20, 21, 1031] [
  ⟨.op (.mv (.slot 2)), none, none⟩, 
  ⟨.op (.mv (.slot 3)), none, none⟩, 
  ⟨.op (.mv (.slot 0)), none, none⟩, 
  ⟨.op (.mv (.slot 3)), none, none⟩, 
  ⟨.op (.iaddr 19 (.slot 7) (.slot 8)), none, none⟩, 
  ⟨.op (.load 19 true (.slot 9)), none, none⟩, 
  ⟨.call 12 [(.slot 10)] false, none, none⟩, 
  ⟨.op (.iaddr 19 (.slot 5) (.slot 6)), none, none⟩, 
  ⟨.op (.store 19 true (.slot 12) (.slot 11)), none, none⟩])) c38_1
abbrev c38_3 : SCode := .cond (.slot 4) (.skip) (.exit 0)
abbrev b38_0 : SCode := .seq (.seq (.reg [8, 9, 10, 1026] [
  ⟨.op (.mv (.slot 3)), none, none⟩, 
  ⟨.op (.mv (.slot 0)), none, none⟩, 
  ⟨.op (.len false (.slot 6)), none, none⟩, 
  ⟨.op (.bin .lss (.slot 5) (.slot 7)), some 4, none⟩]) c38_3) c38_2
def l38_0 : SCode := .loop b38_0
abbrev c38_5 : SCode := .block 0 (l38_0)
abbrev c38_6 : SCode := .seq (.seq (.reg [1023] [
  ⟨.op (.asg (.con (.int .i64 0))), some 3, none⟩]) c38_5) c38_0
abbrev c38_7 : SCode := .seq (.reg [5, 6, 7, 1026] [
  ⟨.op (.mv (.slot 0)), none, none⟩, 
  ⟨.op (.len false (.slot 5)), none, none⟩, 
  ⟨.op (.mksl 37 [(.int .i64 0), (.str []), (.int .i64 0), (.int .i64 0), (.str []), (.osl 0 34 0 []), (.int .i64 0), (.int .i64 0), (.str []), (.osl 0 34 0 []), (.int .i64 0), (.int .i64 0), (.str []), (.osl 0 34 0 []), (.int .i64 0), (.int .i64 0), (.str []), (.osl 0 34 0 []), (.osl 0 37 0 [])] (.slot 6) (.slot 6)), none, none⟩, 
  ⟨.op (.asg (.slot 7)), some 2, none⟩]) c38_6
abbrev s38 : SCode := .seq (.reg [1023] [
  ⟨.op (.asg (.con (.osl 0 37 0 []))), some 1, none⟩]) c38_7
theorem ok38 : okFn Go.Proofs.Try.prog Go.Proofs.Try.f38 v38 s38 r38 1 = true := by kernel_rfl

def v39 : List Nat := [0, 1, 4, 10, 5, 14, 26]
def r39 : List SRes := [.tmp 2]
abbrev c39_0 : SCode := .seq (.reg [1027] [
  ⟨.op (.asg (.con (.bool true))), some 2, none⟩]) (.ret)
abbrev c39_1 : SCode := .reg [15, 16, 1029] [
  ⟨.op (.mv (.slot 4)), none, none⟩, 
  ⟨.op (.bin .add (.slot 7) (.con (.int .i64 1))), none, none⟩, 
  ⟨.op (.asg (.slot 8)), some 4, none⟩]
abbrev c39_2 : SCode := .seq (.reg [1027] [
  ⟨.op (.asg (.con (.bool false))), some 2, none⟩]) (.ret)
abbrev c39_3 : SCode := .cond (.slot 6) c39_2 (.skip)
abbrev c39_4 : SCode := .seq (.block 1 (.seq (.dreg [17, 18, 19, 20, 21, 22, 23, 24, 25, 1036] [
  ⟨.op (.mv (.slot 0)), none, none⟩, 
  ⟨.op (.mv (.slot 4)), none, none⟩, 
  ⟨.op (.iaddr 19 (.slot 7) (.slot 8)), none, none⟩, 
  ⟨.op (.load 19 true (.slot 9)), none, none⟩, 
  ⟨.op (.mv (.slot 1)), none, none⟩, 
  ⟨.op (.mv (.slot 4)), none, none⟩, 
  ⟨.op (.iaddr 19 (.slot 11) (.slot 12)), none, none⟩, 
  ⟨.op (.load 19 true (.slot 13)), none, none⟩, 
  ⟨.call 14 [(.slot 10), (.slot 14)] false, none, none⟩, 
  ⟨.op (.not (.slot 15)), some 6, none⟩]
  [[], [], [0, 1], [0, 1, 2], [], [], [4, 5], [4, 5, 6], [0, 1, 2, 3, 4, 5, 6, 7], [0, 1, 2, 3, 4, 5, 6, 7, 8]] 9 [] [([], none), ([false], none), ([true, true], none), ([true, true, true], none), ([false, false, false, false], none), ([false, false, false, false, false], none), ([false, false, false, false, true, true], none), ([false, false, false, false, true, true, true], none), ([true, true, true, true, true, true, true, true], none)] [true, true, true, true, true, true, true, true, true]) c39_3)) c39_1
abbrev c39_5 : SCode := .cond (.slot 5) (.skip) (.exit 0)
abbrev b39_0 : SCode := .seq (.seq (.reg [11, 12, 13, 1030] [
  ⟨.op (.mv (.slot 4)), none, none⟩, 
  ⟨.op (.mv (.slot 0)), none, none⟩, 
  ⟨.op (.len false (.slot 8)), none, none⟩, 
  ⟨.op (.bin .lss (.slot 7) (.slot 9)), some 5, none⟩]) c39_5) c39_4
def l39_0 : SCode := .loop b39_0
abbrev c39_7 : SCode := .block 0 (l39_0)
abbrev c39_8 : SCode := .seq (.seq (.reg [1027] [
  ⟨.op (.asg (.con (.int .i64 0))), some 4, none⟩]) c39_7) c39_0
abbrev c39_9 : SCode := .seq (.reg [1027] [
  ⟨.op (.asg (.con (.bool false))), some 2, none⟩]) (.ret)
abbrev c39_10 : SCode := .cond (.slot 3) c39_9 (.skip)
abbrev c39_11 : SCode := .seq (.seq (.reg [6, 7, 8, 9, 1031] [
  ⟨.op (.mv (.slot 0)), none, none⟩, 
  ⟨.op (.len false (.slot 7)), none, none⟩, 
  ⟨.op (.mv (.slot 1)), none, none⟩, 
  ⟨.op (.len false (.slot 9)), none, none⟩, 
  ⟨.op (.bin .neq (.slot 8) (.slot 10)), some 3, none⟩]) c39_10) c39_8
abbrev s39 : SCode := .seq (.reg [1027] [
  ⟨.op (.asg (.con (.bool false))), some 2, none⟩]) c39_11
theorem ok39 : okFn Go.Proofs.Try.prog Go.Proofs.Try.f39 v39 s39 r39 2 = true := by kernel_rfl

def v40 : List Nat := [0, 1, 4, 10]
def r40 : List SRes := [.tmp 2]
abbrev c40_0 : SCode := .seq (.reg [11, 1013] [
  ⟨.op (.mv (.slot 1)), none, none⟩, 
  ⟨.op (.asg (.slot 4)), some 2, none⟩]) (.ret)
abbrev c40_1 : SCode := .seq (.reg [1012] [
  ⟨.op (.asg (.con (.int .i64 (-1)))), some 2, none⟩]) (.ret)
abbrev c40_2 : SCode := .cond (.slot 3) c40_1 (.skip)
abbrev c40_3 : SCode := .seq (.seq (.reg [9, 1013] [
  ⟨.op (.mv (.slot 1)), none, none⟩, 
  ⟨.op (.bin .lss (.slot 4) (.con (.int .i64 0))), some 3, none⟩]) c40_2) c40_0
abbrev c40_4 : SCode := .seq (.reg [5, 6, 7, 8, 1016] [
  ⟨.op (.mv (.slot 1)), none, none⟩, 
  ⟨.op (.mv (.slot 0)), none, none⟩, 
  ⟨.op (.len false (.slot 5)), none, none⟩, 
  ⟨.op (.bin .sub (.slot 4) (.slot 6)), none, none⟩, 
  ⟨.op (.asg (.slot 7)), some 1, none⟩]) c40_3
abbrev s40 : SCode := .seq (.reg [1012] [
  ⟨.op (.asg (.con (.int .i64 0))), some 2, none⟩]) c40_4
theorem ok40 : okFn Go.Proofs.Try.prog Go.Proofs.Try.f40 v40 s40 r40 2 = true := by kernel_rfl

def v42 : List Nat := [0, 2, 3, 4, 11]
def r42 : List SRes := [.tmp 1]
abbrev c42_0 : SCode := .seq (.reg [21, 1023] [
  ⟨.op (.mv (.slot 2)), none, none⟩, 
  ⟨.op (.asg (.slot 5)), some 1, none⟩]) (.ret)
abbrev c42_1 : SCode := .reg [12, 13, 1024] [
  ⟨.op (.mv (.slot 3)), none, none⟩, 
  ⟨.op (.bin .add (.slot 5) (.con (.int .i64 1))), none, none⟩, 
  ⟨.op (.asg (.slot 6)), some 3, none⟩]
abbrev c42_2 : SCode := .seq (.block 1 (.reg [14, 15, 16, 17, 18, 19, 20, 1029] [
  ⟨.op (.mv (.slot 2)), none, none⟩, 
  ⟨.op (.mv (.slot 3)), none, none⟩, 
  ⟨.op (.mv (.slot 0)), none, none⟩, 
  ⟨.op (.mv (.slot 3)), none, none⟩, 
  ⟨.op (.iaddr 1 (.slot 7) (.slot 8)), none, none⟩, 
  ⟨.op (.load 1 false (.slot 9)), none, none⟩, 
  ⟨.op (.iaddr 1 (.slot 5) (.slot 6)), none, none⟩, 
  ⟨.op (.store 1 false (.slot 11) (.slot 10)), none, none⟩])) c42_1
abbrev c42_3 : SCode := .cond (.slot 4) (.skip) (.exit 0)
abbrev b42_0 : SCode := .seq (.seq (.reg [8, 9, 10, 1025] [
  ⟨.op (.mv (.slot 3)), none, none⟩, 
  ⟨.op (.mv (.slot 0)), none, none⟩, 
  ⟨.op (.len false (.slot 6)), none, none⟩, 
  ⟨.op (.bin .lss (.slot 5) (.slot 7)), some 4, none⟩]) c42_3) c42_2
def l42_0 : SCode := .loop b42_0
abbrev c42_5 : SCode := .block 0 (l42_0)
abbrev c42_6 : SCode := .seq (.seq (.reg [1022] [
  ⟨.op (.asg (.con (.int .i64 0))), some 3, none⟩]) c42_5) c42_0
abbrev c42_7 : SCode := .seq (.reg [5, 6, 7, 1025] [
  ⟨.op (.mv (.slot 0)), none, none⟩, 
  ⟨.op (.len false (.slot 5)), none, none⟩, 
  ⟨.op (.mksl 3 [(.int .i64 0)] (.slot 6) (.slot 6)), none, none⟩, 
  ⟨.op (.asg (.slot 7)), some 2, none⟩]) c42_6
abbrev s42 : SCode := .seq (.reg [1022] [
  ⟨.op (.asg (.con (.osl 0 3 0 []))), some 1, none⟩]) c42_7
theorem ok42 : okFn Go.Proofs.Try.prog Go.Proofs.Try.f42 v42 s42 r42 1 = true := by kernel_rfl

def v44 : List Nat := [0, 1, 4, 10, 5, 14, 25]
def r44 : List SRes := [.tmp 2]
abbrev c44_0 : SCode := .seq (.reg [1026] [
  ⟨.op (.asg (.con (.bool true))), some 2, none⟩]) (.ret)
abbrev c44_1 : SCode := .reg [15, 16, 1028] [
  ⟨.op (.mv (.slot 4)), none, none⟩, 
  ⟨.op (.bin .add (.slot 7) (.con (.int .i64 1))), none, none⟩, 
  ⟨.op (.asg (.slot 8)), some 4, none⟩]
abbrev c44_2 : SCode := .seq (.reg [1026] [
  ⟨.op (.asg (.con (.bool false))), some 2, none⟩]) (.ret)
abbrev c44_3 : SCode := .cond (.slot 6) c44_2 (.skip)
abbrev c44_4 : SCode := .seq (.block 1 (.seq (.dreg [17, 18, 19, 20, 21, 22, 23, 24, 1034] [
  ⟨.op (.mv (.slot 0)), none, none⟩, 
  ⟨.op (.mv (.slot 4)), none, none⟩, 
  ⟨.op (.iaddr 1 (.slot 7) (.slot 8)), none, none⟩, 
  ⟨.op (.load 1 false (.slot 9)), none, none⟩, 
  ⟨.op (.mv (.slot 1)), none, none⟩, 
  ⟨.op (.mv (.slot 4)), none, none⟩, 
  ⟨.op (.iaddr 1 (.slot 11) (.slot 12)), none, none⟩, 
  ⟨.op (.load 1 false (.slot 13)), none, none⟩, 
  ⟨.op (.bin .neq (.slot 10) (.slot 14)), some 6, none⟩]
  [[], [], [0, 1], [0, 1, 2], [], [], [4, 5], [4, 5, 6], [0, 1, 2, 3, 4, 5, 6, 7]] 8 [] [([], none), ([false], none), ([true, true], none), ([true, true, true], none), ([false, false, false, false], none), ([false, false, false, false, false], none), ([false, false, false, false, true, true], none), ([false, false, false, false, true, true, true], none)] [true, true, true, true, true, true, true, true]) c44_3)) c44_1
abbrev c44_5 : SCode := .cond (.slot 5) (.skip) (.exit 0)
abbrev b44_0 : SCode := .seq (.seq (.reg [11, 12, 13, 1029] [
  ⟨.op (.mv (.slot 4)), none, none⟩, 
  ⟨.op (.mv (.slot 0)), none, none⟩, 
  ⟨.op (.len false (.slot 8)), none, none⟩, 
  ⟨.op (.bin .lss (.slot 7) (.slot 9)), some 5, none⟩]) c44_5) c44_4
def l44_0 : SCode := .loop b44_0
abbrev c44_7 : SCode := .block 0 (l44_0)
abbrev c44_8 : SCode := .seq (.seq (.reg [1026] [
  ⟨.op (.asg (.con (.int .i64 0))), some 4, none⟩]) c44_7) c44_0
abbrev c44_9 : SCode := .seq (.reg [1026] [
  ⟨.op (.asg (.con (.bool false))), some 2, none⟩]) (.ret)
abbrev c44_10 : SCode := .cond (.slot 3) c44_9 (.skip)
abbrev c44_11 : SCode := .seq (.seq (.reg [6, 7, 8, 9, 1030] [
  ⟨.op (.mv (.slot 0)), none, none⟩, 
  ⟨.op (.len false (.slot 7)), none, none⟩, 
  ⟨.op (.mv (.slot 1)), none, none⟩, 
  ⟨.op (.len false (.slot 9)), none, none⟩, 
  ⟨.op (.bin .neq (.slot 8) (.slot 10)), some 3, none⟩]) c44_10) c44_8
abbrev s44 : SCode := .seq (.reg [1026] [
  ⟨.op (.asg (.con (.bool false))), some 2, none⟩]) c44_11
theorem ok44 : okFn Go.Proofs.Try.prog Go.Proofs.Try.f44 v44 s44 r44 2 = true := by kernel_rfl

def v46 : List Nat := [0, 1, 4, 11, 5, 15, 25]
def r46 : List SRes := [.tmp 2]
abbrev c46_0 : SCode := .seq (.reg [26, 1028] [
  ⟨.op (.mv (.slot 1)), none, none⟩, 
  ⟨.op (.asg (.slot 7)), some 2, none⟩]) (.ret)
abbrev c46_1 : SCode := .reg [16, 17, 1029] [
  ⟨.op (.mv (.slot 4)), none, none⟩, 
  ⟨.op (.bin .add (.slot 7) (.con (.int .i64 1))), none, none⟩, 
  ⟨.op (.asg (.slot 8)), some 4, none⟩]
abbrev c46_2 : SCode := .seq (.reg [1027] [
  ⟨.op (.asg (.con (.int .i64 (-1)))), some 2, none⟩]) (.ret)
abbrev c46_3 : SCode := .cond (.slot 6) c46_2 (.skip)
abbrev c46_4 : SCode := .seq (.reg [24, 1028] [
  ⟨.op (.mv (.slot 1)), none, none⟩, 
  ⟨.op (.bin .lss (.slot 7) (.con (.int .i64 0))), some 6, none⟩]) c46_3
abbrev c46_5 : SCode := .seq (.block 1 (.seq (.reg [18, 19, 20, 21, 22, 23, 1033] [
  ⟨.op (.mv (.slot 0)), none, none⟩, 
  ⟨.op (.mv (.slot 4)), none, none⟩, 
  ⟨.op (.iaddr 4 (.slot 7) (.slot 8)), none, none⟩, 
  ⟨.op (.load 4 true (.slot 9)), none, none⟩, 
  ⟨.op (.mv (.slot 1)), none, none⟩, 
  ⟨.call 20 [(.slot 10), (.slot 11)] false, none, none⟩, 
  ⟨.op (.asg (.slot 12)), some 1, none⟩]) c46_4)) c46_1
abbrev c46_6 : SCode := .cond (.slot 5) (.skip) (.exit 0)
abbrev b46_0 : SCode := .seq (.seq (.reg [12, 13, 14, 1030] [
  ⟨.op (.mv (.slot 4)), none, none⟩, 
  ⟨.op (.mv (.slot 0)), none, none⟩, 
  ⟨.op (.len false (.slot 8)), none, none⟩, 
  ⟨.op (.bin .lss (.slot 7) (.slot 9)), some 5, none⟩]) c46_6) c46_5
def l46_0 : SCode := .loop b46_0
abbrev c46_8 : SCode := .block 0 (l46_0)
abbrev c46_9 : SCode := .seq (.seq (.reg [1027] [
  ⟨.op (.asg (.con (.int .i64 0))), some 4, none⟩]) c46_8) c46_0
abbrev c46_10 : SCode := .seq (.reg [1027] [
  ⟨.op (.asg (.con (.int .i64 (-1)))), some 2, none⟩]) (.ret)
abbrev c46_11 : SCode := .cond (.slot 3) c46_10 (.skip)
abbrev c46_12 : SCode := .seq (.seq (.reg [10, 1028] [
  ⟨.op (.mv (.slot 1)), none, none⟩, 
  ⟨.op (.bin .lss (.slot 7) (.con (.int .i64 0))), some 3, none⟩]) c46_11) c46_9
abbrev c46_13 : SCode := .seq (.reg [6, 7, 8, 9, 1031] [
  ⟨.op (.mv (.slot 1)), none, none⟩, 
  ⟨.op (.mv (.slot 0)), none, none⟩, 
  ⟨.op (.len false (.slot 8)), none, none⟩, 
  ⟨.op (.bin .sub (.slot 7) (.slot 9)), none, none⟩, 
  ⟨.op (.asg (.slot 10)), some 1, none⟩]) c46_12
abbrev s46 : SCode := .seq (.reg [1027] [
  ⟨.op (.asg (.con (.int .i64 0))), some 2, none⟩]) c46_13
theorem ok46 : okFn Go.Proofs.Try.prog Go.Proofs.Try.f46 v46 s46 r46 2 = true := by kernel_rfl

def v49 : List Nat := [0, 2, 3, 4, 11]
def r49 : List SRes := [.tmp 1]
abbrev c49_0 : SCode := .seq (.reg [22, 1024] [
  ⟨.op (.mv (.slot 2)), none, none⟩, 
  ⟨.op (.asg (.slot 5)), some 1, none⟩]) (.ret)
abbrev c49_1 : SCode := .reg [12, 13, 1025] [
  ⟨.op (.mv (.slot 3)), none, none⟩, 
  ⟨.op (.bin .add (.slot 5) (.con (.int .i64 1))), none, none⟩, 
  ⟨.op (.asg (.slot 6)), some 3, none⟩]
abbrev c49_2 : SCode := .seq (.block 1 (.reg [14, 15, 16, 17, 18, 19, 20, 21, 1031] [
  ⟨.op (.mv (.slot 2)), none, none⟩, 
  ⟨.op (.mv (.slot 3)), none, none⟩, 
  ⟨.op (.mv (.slot 0)), none, none⟩, 
  ⟨.op (.mv (.slot 3)), none, none⟩, 
  ⟨.op (.iaddr 4 (.slot 7) (.slot 8)), none, none⟩, 
  ⟨.op (.load 4 true (.slot 9)), none, none⟩, 
  ⟨.call 22 [(.slot 10)] false, none, none⟩, 
  ⟨.op (.iaddr 4 (.slot 5) (.slot 6)), none, none⟩, 
  ⟨.op (.store 4 true (.slot 12) (.slot 11)), none, none⟩])) c49_1
abbrev c49_3 : SCode := .cond (.slot 4) (.skip) (.exit 0)
abbrev b49_0 : SCode := .seq (.seq (.reg [8, 9, 10, 1026] [
  ⟨.op (.mv (.slot 3)), none, none⟩, 
  ⟨.op (.mv (.slot 0)), none, none⟩, 
  ⟨.op (.len false (.slot 6)), none, none⟩, 
  ⟨.op (.bin .lss (.slot 5) (.slot 7)), some 4, none⟩]) c49_3) c49_2
def l49_0 : SCode := .loop b49_0
abbrev c49_5 : SCode := .block 0 (l49_0)
abbrev c49_6 : SCode := .seq (.seq (.reg [1023] [
  ⟨.op (.asg (.con (.int .i64 0))), some 3, none⟩]) c49_5) c49_0
abbrev c49_7 : SCode := .seq (.reg [5, 6, 7, 1026] [
  ⟨.op (.mv (.slot 0)), none, none⟩, 
  ⟨.op (.len false (.slot 5)), none, none⟩, 
  ⟨.op (.mksl 34 [(.int .i64 0), (.int .i64 0), (.str []), (.osl 0 34 0 [])] (.slot 6) (.slot 6)), none, none⟩, 
  ⟨.op (.asg (.slot 7)), some 2, none⟩]) c49_6
abbrev s49 : SCode := .seq (.reg [1023] [
  ⟨.op (.asg (.con (.osl 0 34 0 []))), some 1, none⟩]) c49_7
theorem ok49 : okFn Go.Proofs.Try.prog Go.Proofs.Try.f49 v49 s49 r49 1 = true := by kernel_rfl

def v52 : List Nat := [0, 1, 4, 10, 5, 14, 26]
def r52 : List SRes := [.tmp 2]
abbrev c52_0 : SCode := .seq (.reg [1027] [
  ⟨.op (.asg (.con (.bool true))), some 2, none⟩]) (.ret)
abbrev c52_1 : SCode := .reg [15, 16, 1029] [
  ⟨.op (.mv (.slot 4)), none, none⟩, 
  ⟨.op (.bin .add (.slot 7) (.con (.int .i64 1))), none, none⟩, 
  ⟨.op (.asg (.slot 8)), some 4, none⟩]
abbrev c52_2 : SCode := .seq (.reg [1027] [
  ⟨.op (.asg (.con (.bool false))), some 2, none⟩]) (.ret)
abbrev c52_3 : SCode := .cond (.slot 6) c52_2 (.skip)
abbrev c52_4 : SCode := .seq (.block 1 (.seq (.dreg [17, 18, 19, 20, 21, 22, 23, 24, 25, 1036] [
  ⟨.op (.mv (.slot 0)), none, none⟩, 
  ⟨.op (.mv (.slot 4)), none, none⟩, 
  ⟨.op (.iaddr 4 (.slot 7) (.slot 8)), none, none⟩, 
  ⟨.op (.load 4 true (.slot 9)), none, none⟩, 
  ⟨.op (.mv (.slot 1)), none, none⟩, 
  ⟨.op (.mv (.slot 4)), none, none⟩, 
  ⟨.op (.iaddr 4 (.slot 11) (.slot 12)), none, none⟩, 
  ⟨.op (.load 4 true (.slot 13)), none, none⟩, 
  ⟨.call 24 [(.slot 10), (.slot 14)] false, none, none⟩, 
  ⟨.op (.not (.slot 15)), some 6, none⟩]
  [[], [], [0, 1], [0, 1, 2], [], [], [4, 5], [4, 5, 6], [0, 1, 2, 3, 4, 5, 6, 7], [0, 1, 2, 3, 4, 5, 6, 7, 8]] 9 [] [([], none), ([false], none), ([true, true], none), ([true, true, true], none), ([false, false, false, false], none), ([false, false, false, false, false], none), ([false, false, false, false, true, true], none), ([false, false, false, false, true, true, true], none), ([true, true, true, true, true, true, true, true], none)] [true, true, true, true, true, true, true, true, true]) c52_3)) c52_1
abbrev c52_5 : SCode := .cond (.slot 5) (.skip) (.exit 0)
abbrev b52_0 : SCode := .seq (.seq (.reg [11, 12, 13, 1030] [
  ⟨.op (.mv (.slot 4)), none, none⟩, 
  ⟨.op (.mv (.slot 0)), none, none⟩, 
  ⟨.op (.len false (.slot 8)), none, none⟩, 
  ⟨.op (.bin .lss (.slot 7) (.slot 9)), some 5, none⟩]) c52_5) c52_4
def l52_0 : SCode := .loop b52_0
abbrev c52_7 : SCode := .block 0 (l52_0)
abbrev c52_8 : SCode := .seq (.seq (.reg [1027] [
  ⟨.op (.asg (.con (.int .i64 0))), some 4, none⟩]) c52_7) c52_0
abbrev c52_9 : SCode := .seq (.reg [1027] [
  ⟨.op (.asg (.con (.bool false))), some 2, none⟩]) (.ret)
abbrev c52_10 : SCode := .cond (.slot 3) c52_9 (.skip)
abbrev c52_11 : SCode := .seq (.seq (.reg [6, 7, 8, 9, 1031] [
  ⟨.op (.mv (.slot 0)), none, none⟩, 
  ⟨.op (.len false (.slot 7)), none, none⟩, 
  ⟨.op (.mv (.slot 1)), none, none⟩, 
  ⟨.op (.len false (.slot 9)), none, none⟩, 
  ⟨.op (.bin .neq (.slot 8) (.slot 10)), some 3, none⟩]) c52_10) c52_8
abbrev s52 : SCode := .seq (.reg [1027] [
  ⟨.op (.asg (.con (.bool false))), some 2, none⟩]) c52_11
theorem ok52 : okFn Go.Proofs.Try.prog Go.Proofs.Try.f52 v52 s52 r52 2 = true := by kernel_rfl

def v55 : List Nat := [0, 1, 4, 11, 5, 15, 25]
def r55 : List SRes := [.tmp 2]
abbrev c55_0 : SCode := .seq (.reg [26, 1028] [
  ⟨.op (.mv (.slot 1)), none, none⟩, 
  ⟨.op (.asg (.slot 7)), some 2, none⟩]) (.ret)
abbrev c55_1 : SCode := .reg [16, 17, 1029] [
  ⟨.op (.mv (.slot 4)), none, none⟩, 
  ⟨.op (.bin .add (.slot 7) (.con (.int .i64 1))), none, none⟩, 
  ⟨.op (.asg (.slot 8)), some 4, none⟩]
abbrev c55_2 : SCode := .seq (.reg [1027] [
  ⟨.op (.asg (.con (.int .i64 (-1)))), some 2, none⟩]) (.ret)
abbrev c55_3 : SCode := .cond (.slot 6) c55_2 (.skip)
abbrev c55_4 : SCode := .seq (.reg [24, 1028] [
  ⟨.op (.mv (.slot 1)), none, none⟩, 
  ⟨.op (.bin .lss (.slot 7) (.con (.int .i64 0))), some 6, none⟩]) c55_3
abbrev c55_5 : SCode := .seq (.block 1 (.seq (.reg [18, 19, 20, 21, 22, 23, 1033] [
  ⟨.op (.mv (.slot 0)), none, none⟩, 
  ⟨.op (.mv (.slot 4)), none, none⟩, 
  ⟨.op (.iaddr 2 (.slot 7) (.slot 8)), none, none⟩, 
  ⟨.op (.load 2 true (.slot 9)), none, none⟩, 
  ⟨.op (.mv (.slot 1)), none, none⟩, 
  ⟨.call 75 [(.slot 10), (.slot 11)] false, none, none⟩, 
  ⟨.op (.asg (.slot 12)), some 1, none⟩]) c55_4)) c55_1
abbrev c55_6 : SCode := .cond (.slot 5) (.skip) (.exit 0)
abbrev b55_0 : SCode := .seq (.seq (.reg [12, 13, 14, 1030] [
  ⟨.op (.mv (.slot 4)), none, none⟩, 
  ⟨.op (.mv (.slot 0)), none, none⟩, 
  ⟨.op (.len false (.slot 8)), none, none⟩, 
  ⟨.op (.bin .lss (.slot 7) (.slot 9)), some 5, none⟩]) c55_6) c55_5
def l55_0 : SCode := .loop b55_0
abbrev c55_8 : SCode := .block 0 (l55_0)
abbrev c55_9 : SCode := .seq (.seq (.reg [1027] [
  ⟨.op (.asg (.con (.int .i64 0))), some 4, none⟩]) c55_8) c55_0
abbrev c55_10 : SCode := .seq (.reg [1027] [
  ⟨.op (.asg (.con (.int .i64 (-1)))), some 2, none⟩]) (.ret)
abbrev c55_11 : SCode := .cond (.slot 3) c55_10 (.skip)
abbrev c55_12 : SCode := .seq (.seq (.reg [10, 1028] [
  ⟨.op (.mv (.slot 1)), none, none⟩, 
  ⟨.op (.bin .lss (.slot 7) (.con (.int .i64 0))), some 3, none⟩]) c55_11) c55_9
abbrev c55_13 : SCode := .seq (.reg [6, 7, 8, 9, 1031] [
  ⟨.op (.mv (.slot 1)), none, none⟩, 
  ⟨.op (.mv (.slot 0)), none, none⟩, 
  ⟨.op (.len false (.slot 8)), none, none⟩, 
  ⟨.op (.bin .sub (.slot 7) (.slot 9)), none, none⟩, 
  ⟨.op (.asg (.slot 10)), some 1, none⟩]) c55_12
abbrev s55 : SCode := .seq (.reg [1027] [
  ⟨.op (.asg (.con (.int .i64 0))), some 2, none⟩]) c55_13
theorem ok55 : okFn Go.Proofs.Try.prog Go.Proofs.Try.f55 v55 s55 r55 2 = true := by kernel_rfl

def v56 : List Nat := [0, 1, 4, 11, 5, 15, 25]
def r56 : List SRes := [.tmp 2]
abbrev c56_0 : SCode := .seq (.reg [26, 1028] [
  ⟨.op (.mv (.slot 1)), none, none⟩, 
  ⟨.op (.asg (.slot 7)), some 2, none⟩]) (.ret)
abbrev c56_1 : SCode := .reg [16, 17, 1029] [
  ⟨.op (.mv (.slot 4)), none, none⟩, 
  ⟨.op (.bin .add (.slot 7) (.con (.int .i64 1))), none, none⟩, 
  ⟨.op (.asg (.slot 8)), some 4, none⟩]
abbrev c56_2 : SCode := .seq (.reg [1027] [
  ⟨.op (.asg (.con (.int .i64 (-1)))), some 2, none⟩]) (.ret)
abbrev c56_3 : SCode := .cond (.slot 6) c56_2 (.skip)
abbrev c56_4 : SCode := .seq (.reg [24, 1028] [
  ⟨.op (.mv (.slot 1)), none, none⟩, 
  ⟨.op (.bin .lss (.slot 7) (.con (.int .i64 0))), some 6, none⟩]) c56_3
abbrev c56_5 : SCode := .seq (.block 1 (.seq (.reg [18, 19, 20, 21, 22, 23, 1033] [
  ⟨.op (.mv (.slot 0)), none, none⟩, 
  ⟨.op (.mv (.slot 4)), none, none⟩, 
  ⟨.op (.iaddr 1 (.slot 7) (.slot 8)), none, none⟩, 
  ⟨.op (.load 1 false (.slot 9)), none, none⟩, 
  ⟨.op (.mv (.slot 1)), none, none⟩, 
  ⟨.call 40 [(.slot 10), (.slot 11)] false, none, none⟩, 
  ⟨.op (.asg (.slot 12)), some 1, none⟩]) c56_4)) c56_1
abbrev c56_6 : SCode := .cond (.slot 5) (.skip) (.exit 0)
abbrev b56_0 : SCode := .seq (.seq (.reg [12, 13, 14, 1030] [
  ⟨.op (.mv (.slot 4)), none, none⟩, 
  ⟨.op (.mv (.slot 0)), none, none⟩, 
  ⟨.op (.len false (.slot 8)), none, none⟩, 
  ⟨.op (.bin .lss (.slot 7) (.slot 9)), some 5, none⟩]) c56_6) c56_5
def l56_0 : SCode := .loop b56_0
abbrev c56_8 : SCode := .block 0 (l56_0)
abbrev c56_9 : SCode := .seq (.seq (.reg [1027] [
  ⟨.op (.asg (.con (.int .i64 0))), some 4, none⟩]) c56_8) c56_0
abbrev c56_10 : SCode := .seq (.reg [1027] [
  ⟨.op (.asg (.con (.int .i64 (-1)))), some 2, none⟩]) (.ret)
abbrev c56_11 : SCode := .cond (.slot 3) c56_10 (.skip)
abbrev c56_12 : SCode := .seq (.seq (.reg [10, 1028] [
  ⟨.op (.mv (.slot 1)), none, none⟩, 
  ⟨.op (.bin .lss (.slot 7) (.con (.int .i64 0))), some 3, none⟩]) c56_11) c56_9
abbrev c56_13 : SCode := .seq (.reg [6, 7, 8, 9, 1031] [
  ⟨.op (.mv (.slot 1)), none, none⟩, 
  ⟨.op (.mv (.slot 0)), none, none⟩, 
  ⟨.op (.len false (.slot 8)), none, none⟩, 
  ⟨.op (.bin .sub (.slot 7) (.slot 9)), none, none⟩, 
  ⟨.op (.asg (.slot 10)), some 1, none⟩]) c56_12
abbrev s56 : SCode := .seq (.reg [1027] [
  ⟨.op (.asg (.con (.int .i64 0))), some 2, none⟩]) c56_13
theorem ok56 : okFn Go.Proofs.Try.prog Go.Proofs.Try.f56 v56 s56 r56 2 = true := by kernel_rfl

def v57 : List Nat := [0, 1, 4, 10, 5, 14, 25]
def r57 : List SRes := [.tmp 2]
abbrev c57_0 : SCode := .seq (.reg [1026] [
  ⟨.op (.asg (.con (.bool true))), some 2, none⟩]) (.ret)
abbrev c57_1 : SCode := .reg [15, 16, 1028] [
  ⟨.op (.mv (.slot 4)), none, none⟩, 
  ⟨.op (.bin .add (.slot 7) (.con (.int .i64 1))), none, none⟩, 
  ⟨.op (.asg (.slot 8)), some 4, none⟩]
abbrev c57_2 : SCode := .seq (.reg [1026] [
  ⟨.op (.asg (.con (.bool false))), some 2, none⟩]) (.ret)
abbrev c57_3 : SCode := .cond (.slot 6) c57_2 (.skip)
abbrev c57_4 : SCode := .seq (.block 1 (.seq (.dreg [17, 18, 19, 20, 21, 22, 23, 24, 1034] [
  ⟨.op (.mv (.slot 0)), none, none⟩, 
  ⟨.op (.mv (.slot 4)), none, none⟩, 
  ⟨.op (.iaddr 1 (.slot 7) (.slot 8)), none, none⟩, 
  ⟨.op (.load 1 false (.slot 9)), none, none⟩, 
  ⟨.op (.mv (.slot 1)), none, none⟩, 
  ⟨.op (.mv (.slot 4)), none, none⟩, 
  ⟨.op (.iaddr 1 (.slot 11) (.slot 12)), none, none⟩, 
  ⟨.op (.load 1 false (.slot 13)), none, none⟩, 
  ⟨.op (.bin .neq (.slot 10) (.slot 14)), some 6, none⟩]
  [[], [], [0, 1], [0, 1, 2], [], [], [4, 5], [4, 5, 6], [0, 1, 2, 3, 4, 5, 6, 7]] 8 [] [([], none), ([false], none), ([true, true], none), ([true, true, true], none), ([false, false, false, false], none), ([false, false, false, false, false], none), ([false, false, false, false, true, true], none), ([false, false, false, false, true, true, true], none)] [true, true, true, true, true, true, true, true]) c57_3)) c57_1
abbrev c57_5 : SCode := .cond (.slot 5) (.skip) (.exit 0)
abbrev b57_0 : SCode := .seq (.seq (.reg [11, 12, 13, 1029] [
  ⟨.op (.mv (.slot 4)), none, none⟩, 
  ⟨.op (.mv (.slot 0)), none, none⟩, 
  ⟨.op (.len false (.slot 8)), none, none⟩, 
  ⟨.op (.bin .lss (.slot 7) (.slot 9)), some 5, none⟩]) c57_5) c57_4
def l57_0 : SCode := .loop b57_0
abbrev c57_7 : SCode := .block 0 (l57_0)
abbrev c57_8 : SCode := .seq (.seq (.reg [1026] [
  ⟨.op (.asg (.con (.int .i64 0))), some 4, none⟩]) c57_7) c57_0
abbrev c57_9 : SCode := .seq (.reg [1026] [
  ⟨.op (.asg (.con (.bool false))), some 2, none⟩]) (.ret)
abbrev c57_10 : SCode := .cond (.slot 3) c57_9 (.skip)
abbrev c57_11 : SCode := .seq (.seq (.reg [6, 7, 8, 9, 1030] [
  ⟨.op (.mv (.slot 0)), none, none⟩, 
  ⟨.op (.len false (.slot 7)), none, none⟩, 
  ⟨.op (.mv (.slot 1)), none, none⟩, 
  ⟨.op (.len false (.slot 9)), none, none⟩, 
  ⟨.op (.bin .neq (.slot 8) (.slot 10)), some 3, none⟩]) c57_10) c57_8
abbrev s57 : SCode := .seq (.reg [1026] [
  ⟨.op (.asg (.con (.bool false))), some 2, none⟩]) c57_11
theorem ok57 : okFn Go.Proofs.Try.prog Go.Proofs.Try.f57 v57 s57 r57 2 = true := by kernel_rfl

def v58 : List Nat := [0, 1, 2, 3, 4, 35, 5, 40, 54]
def r58 : List SRes := [.tmp 4]
abbrev c58_0 : SCode := .seq (.reg [1055] [
  ⟨.op (.asg (.con (.bool true))), some 4, none⟩]) (.ret)
abbrev c58_1 : SCode := .reg [41, 42, 1057] [
  ⟨.op (.mv (.slot 6)), none, none⟩, 
  ⟨.op (.bin .add (.slot 9) (.con (.int .i64 1))), none, none⟩, 
  ⟨.op (.asg (.slot 10)), some 6, none⟩]
abbrev c58_2 : SCode := .seq (.reg [1055] [
  ⟨.op (.asg (.con (.bool false))), some 4, none⟩]) (.ret)
abbrev c58_3 : SCode := .cond (.slot 8) c58_2 (.skip)
abbrev c58_4 : SCode := .seq (.block 1 (.seq (.dreg [43, 44, 45, 46, 47, 48, 49, 50, 51, 52, 53, 1066] [
  ⟨.op (.faddr 0 (.slot 2)), none, none⟩, 
  ⟨.op (.load 1 false (.slot 9)), none, none⟩, 
  ⟨.op (.mv (.slot 6)), none, none⟩, 
  ⟨.op (.iaddr 1 (.slot 10) (.slot 11)), none, none⟩, 
  ⟨.op (.load 1 false (.slot 12)), none, none⟩, 
  ⟨.op (.faddr 0 (.slot 3)), none, none⟩, 
  ⟨.op (.load 1 false (.slot 14)), none, none⟩, 
  ⟨.op (.mv (.slot 6)), none, none⟩, 
  ⟨.op (.iaddr 1 (.slot 15) (.slot 16)), none, none⟩, 
  ⟨.op (.load 1 false (.slot 17)), none, none⟩, 
  ⟨.call 57 [(.slot 13), (.slot 18)] false, none, none⟩, 
  ⟨.op (.not (.slot 19)), some 8, none⟩]
  [[], [0], [], [0, 1, 2], [0, 1, 2, 3], [], [5], [], [5, 6, 7], [5, 6, 7, 8], [0, 1, 2, 3, 4, 5, 6, 7, 8, 9], [0, 1, 2, 3, 4, 5, 6, 7, 8, 9, 10]] 11 [] [([], none), ([true], none), ([false, false], none), ([true, true, true], none), ([true, true, true, true], none), ([false, false, false, false, false], none), ([false, false, false, false, false, true], none), ([false, false, false, false, false, false, false], none), ([false, false, false, false, false, true, true, true], none), ([false, false, false, false, false, true, true, true, true], none), ([true, true, true, true, true, true, true, true, true, true], none)] [true, true, true, true, true, true, true, true, true, true, true]) c58_3)) c58_1
abbrev c58_5 : SCode := .cond (.slot 7) (.skip) (.exit 0)
abbrev b58_0 : SCode := .seq (.seq (.reg [36, 37, 38, 39, 1059] [
  ⟨.op (.mv (.slot 6)), none, none⟩, 
  ⟨.op (.faddr 0 (.slot 2)), none, none⟩, 
  ⟨.op (.load 1 false (.slot 10)), none, none⟩, 
  ⟨.op (.len false (.slot 11)), none, none⟩, 
  ⟨.op (.bin .lss (.slot 9) (.slot 12)), some 7, none⟩]) c58_5) c58_4
def l58_0 : SCode := .loop b58_0
abbrev c58_7 : SCode := .block 0 (l58_0)
abbrev c58_8 : SCode := .seq (.seq (.reg [1055] [
  ⟨.op (.asg (.con (.int .i64 0))), some 6, none⟩]) c58_7) c58_0
abbrev c58_9 : SCode := .seq (.reg [1055] [
  ⟨.op (.asg (.con (.bool false))), some 4, none⟩]) (.ret)
abbrev c58_10 : SCode := .cond (.slot 5) c58_9 (.skip)
abbrev c58_11 : SCode := .seq (.seq (.reg [6, 7, 8, 9, 10, 11, 12, 13, 14, 15, 16, 17, 18, 19, 20, 21, 22, 23, 24, 25, 26, 27, 28, 29, 30, 31, 32, 33, 34, 1084] [
  ⟨.op (.faddr 0 (.slot 2)), none, none⟩, 
  ⟨.op (.load 1 false (.slot 9)), none, none⟩, 
  ⟨.op (.len false (.slot 10)), none, none⟩, 
  ⟨.op (.faddr 0 (.slot 3)), none, none⟩, 
  ⟨.op (.load 1 false (.slot 12)), none, none⟩, 
  ⟨.op (.len false (.slot 13)), none, none⟩, 
  ⟨.op (.bin .neq (.slot 11) (.slot 14)), none, none⟩, 
  ⟨.op (.mv (.slot 15)), none, none⟩, 
  ⟨.op (.faddr 1 (.slot 2)), none, some (16, false)⟩, 
  ⟨.op (.load 1 false (.slot 17)), none, some (16, false)⟩, 
  ⟨.op (.faddr 1 (.slot 3)), none, some (16, false)⟩, 
  ⟨.op (.load 1 false (.slot 19)), none, some (16, false)⟩, 
  ⟨.call 57 [(.slot 18), (.slot 20)] false, none, some (16, false)⟩, 
  ⟨.op (.not (.slot 21)), none, some (16, false)⟩, 
  ⟨.op (.pick (.slot 16) (.con (.bool true)) (.slot 22)), none, none⟩, 
  ⟨.op (.mv (.slot 23)), none, none⟩, 
  ⟨.op (.faddr 2 (.slot 2)), none, some (24, false)⟩, 
  ⟨.op (.load 1 false (.slot 25)), none, some (24, false)⟩, 
  ⟨.op (.faddr 2 (.slot 3)), none, some (24, false)⟩, 
  ⟨.op (.load 1 false (.slot 27)), none, some (24, false)⟩, 
  ⟨.call 57 [(.slot 26), (.slot 28)] false, none, some (24, false)⟩, 
  ⟨.op (.not (.slot 29)), none, some (24, false)⟩, 
  ⟨.op (.pick (.slot 24) (.con (.bool true)) (.slot 30)), none, none⟩, 
  ⟨.op (.mv (.slot 31)), none, none⟩, 
  ⟨.op (.faddr 3 (.slot 2)), none, some (32, false)⟩, 
  ⟨.op (.load 1 false (.slot 33)), none, some (32, false)⟩, 
  ⟨.op (.faddr 3 (.slot 3)), none, some (32, false)⟩, 
  ⟨.op (.load 1 false (.slot 35)), none, some (32, false)⟩, 
  ⟨.op (.bin .neq (.slot 34) (.slot 36)), none, some (32, false)⟩, 
  ⟨.op (.pick (.slot 32) (.con (.bool true)) (.slot 37)), some 5, none⟩]) c58_10) c58_8
abbrev s58 : SCode := .seq (.reg [1055, 1056, 1057] [
  ⟨.op (.box 72 4 (.slot 0)), some 2, none⟩, 
  ⟨.op (.box 72 4 (.slot 1)), some 3, none⟩, 
  ⟨.op (.asg (.con (.bool false))), some 4, none⟩]) c58_11
theorem ok58 : okFn Go.Proofs.Try.prog Go.Proofs.Try.f58 v58 s58 r58 2 = true := by kernel_rfl

def v59 : List Nat := [0, 2, 3, 4, 11]
def r59 : List SRes := [.tmp 1]
abbrev c59_0 : SCode := .seq (.reg [22, 1024] [
  ⟨.op (.mv (.slot 2)), none, none⟩, 
  ⟨.op (.asg (.slot 5)), some 1, none⟩]) (.ret)
abbrev c59_1 : SCode := .reg [12, 13, 1025] [
  ⟨.op (.mv (.slot 3)), none, none⟩, 
  ⟨.op (.bin .add (.slot 5) (.con (.int .i64 1))), none, none⟩, 
  ⟨.op (.asg (.slot 6)), some 3, none⟩]
abbrev c59_2 : SCode := .seq (.block 1 (.reg [14, 15, 16, 17, 18, 19, 20, 21, 1031] [
  ⟨.op (.mv (.slot 2)), none, none⟩, 
  ⟨.op (.mv (.slot 3)), none, none⟩, 
  ⟨.op (.mv (.slot 0)), none, none⟩, 
  ⟨.op (.mv (.slot 3)), none, none⟩, 
  ⟨.op (.iaddr 2 (.slot 7) (.slot 8)), none, none⟩, 
  ⟨.op (.load 2 true (.slot 9)), none, none⟩, 
  ⟨.call 76 [(.slot 10)] false, none, none⟩, 
  ⟨.op (.iaddr 2 (.slot 5) (.slot 6)), none, none⟩, 
  ⟨.op (.store 2 false (.slot 12) (.slot 11)), none, none⟩])) c59_1
abbrev c59_3 : SCode := .cond (.slot 4) (.skip) (.exit 0)
abbrev b59_0 : SCode := .seq (.seq (.reg [8, 9, 10, 1026] [
  ⟨.op (.mv (.slot 3)), none, none⟩, 
  ⟨.op (.mv (.slot 0)), none, none⟩, 
  ⟨.op (.len false (.slot 6)), none, none⟩, 
  ⟨.op (.bin .lss (.slot 5) (.slot 7)), some 4, none⟩]) c59_3) c59_2
def l59_0 : SCode := .loop b59_0
abbrev c59_5 : SCode := .block 0 (l59_0)
abbrev c59_6 : SCode := .seq (.seq (.reg [1023] [
  ⟨.op (.asg (.con (.int .i64 0))), some 3, none⟩]) c59_5) c59_0
abbrev c59_7 : SCode := .seq (.reg [5, 6, 7, 1026] [
  ⟨.op (.mv (.slot 0)), none, none⟩, 
  ⟨.op (.len false (.slot 5)), none, none⟩, 
  ⟨.op (.mksl 114 [(.str []), (.int .i64 0)] (.slot 6) (.slot 6)), none, none⟩, 
  ⟨.op (.asg (.slot 7)), some 2, none⟩]) c59_6
abbrev s59 : SCode := .seq (.reg [1023] [
  ⟨.op (.asg (.con (.osl 0 114 0 []))), some 1, none⟩]) c59_7
theorem ok59 : okFn Go.Proofs.Try.prog Go.Proofs.Try.f59 v59 s59 r59 1 = true := by kernel_rfl

def v60 : List Nat := [0, 2, 3, 4, 11]
def r60 : List SRes := [.tmp 1]
abbrev c60_0 : SCode := .seq (.reg [22, 1024] [
  ⟨.op (.mv (.slot 2)), none, none⟩, 
  ⟨.op (.asg (.slot 5)), some 1, none⟩]) (.ret)
abbrev c60_1 : SCode := .reg [12, 13, 1025] [
  ⟨.op (.mv (.slot 3)), none, none⟩, 
  ⟨.op (.bin .add (.slot 5) (.con (.int .i64 1))), none, none⟩, 
  ⟨.op (.asg (.slot 6)), some 3, none⟩]
abbrev c60_2 : SCode := .seq (.block 1 (.reg [14, 15, 16, 17, 18, 19, 20, 21, 1031] [
  ⟨.op (.mv (.slot 2)), none, none⟩, 
  ⟨.op (.mv (.slot 3)), none, none⟩, 
  ⟨.op (.mv (.slot 0)), none, none⟩, 
  ⟨.op (.mv (.slot 3)), none, none⟩, 
  ⟨.op (.iaddr 1 (.slot 7) (.slot 8)), none, none⟩, 
  ⟨.op (.load 1 false (.slot 9)), none, none⟩, 
  ⟨.call 42 [(.slot 10)] false, none, none⟩, 
  ⟨.op (.iaddr 1 (.slot 5) (.slot 6)), none, none⟩, 
  ⟨.op (.store 1 true (.slot 12) (.slot 11)), none, none⟩])) c60_1
abbrev c60_3 : SCode := .cond (.slot 4) (.skip) (.exit 0)
abbrev b60_0 : SCode := .seq (.seq (.reg [8, 9, 10, 1026] [
  ⟨.op (.mv (.slot 3)), none, none⟩, 
  ⟨.op (.mv (.slot 0)), none, none⟩, 
  ⟨.op (.len false (.slot 6)), none, none⟩, 
  ⟨.op (.bin .lss (.slot 5) (.slot 7)), some 4, none⟩]) c60_3) c60_2
def l60_0 : SCode := .loop b60_0
abbrev c60_5 : SCode := .block 0 (l60_0)
abbrev c60_6 : SCode := .seq (.seq (.reg [1023] [
  ⟨.op (.asg (.con (.int .i64 0))), some 3, none⟩]) c60_5) c60_0
abbrev c60_7 : SCode := .seq (.reg [5, 6, 7, 1026] [
  ⟨.op (.mv (.slot 0)), none, none⟩, 
  ⟨.op (.len false (.slot 5)), none, none⟩, 
  ⟨.op (.mksl 41 [(.osl 0 3 0 [])] (.slot 6) (.slot 6)), none, none⟩, 
  ⟨.op (.asg (.slot 7)), some 2, none⟩]) c60_6
abbrev s60 : SCode := .seq (.reg [1023] [
  ⟨.op (.asg (.con (.osl 0 41 0 []))), some 1, none⟩]) c60_7
theorem ok60 : okFn Go.Proofs.Try.prog Go.Proofs.Try.f60 v60 s60 r60 1 = true := by kernel_rfl

def v61 : List Nat := [0, 1, 4, 10, 12, 13, 14, 5, 24]
def r61 : List SRes := [.tmp 2]
abbrev c61_0 : SCode := .seq (.reg [1026] [
  ⟨.op (.asg (.con (.bool true))), some 2, none⟩]) (.ret)
abbrev c61_1 : SCode := .reg [25, 1027] [
  ⟨.op (.bin .add (.slot 5) (.con (.int .i64 1))), none, none⟩, 
  ⟨.op (.asg (.slot 9)), some 5, none⟩]
abbrev c61_2 : SCode := .seq (.reg [1026] [
  ⟨.op (.asg (.con (.bool false))), some 2, none⟩]) (.ret)
abbrev c61_3 : SCode := .cond (.slot 8) c61_2 (.skip)
abbrev c61_4 : SCode := .seq (.dreg [16, 17, 18, 19, 20, 21, 22, 23, 1034] [
  ⟨.op (.mv (.slot 0)), none, none⟩, 
  ⟨.op (.mv (.slot 7)), none, none⟩, 
  ⟨.op (.iaddr 1 (.slot 9) (.slot 10)), none, none⟩, 
  ⟨.op (.load 1 false (.slot 11)), none, none⟩, 
  ⟨.op (.mv (.slot 1)), none, none⟩, 
  ⟨.op (.mv (.slot 7)), none, none⟩, 
  ⟨.op (.iaddr 1 (.slot 13) (.slot 14)), none, none⟩, 
  ⟨.op (.load 1 false (.slot 15)), none, none⟩, 
  ⟨.op (.bin .neq (.slot 12) (.slot 16)), some 8, none⟩]
  [[], [], [0, 1], [0, 1, 2], [], [], [4, 5], [4, 5, 6], [0, 1, 2, 3, 4, 5, 6, 7]] 8 [] [([], none), ([false], none), ([true, true], none), ([true, true, true], none), ([false, false, false, false], none), ([false, false, false, false, false], none), ([false, false, false, false, true, true], none), ([false, false, false, false, true, true, true], none)] [true, true, true, true, true, true, true, true]) c61_3
abbrev c61_5 : SCode := .seq (.block 1 (.seq (.reg [15, 1027] [
  ⟨.op (.mv (.slot 5)), none, none⟩, 
  ⟨.op (.asg (.slot 9)), some 7, none⟩]) c61_4)) c61_1
abbrev c61_6 : SCode := .seq (.cond (.slot 6) (.skip) (.exit 0)) c61_5
abbrev b61_0 : SCode := .seq (.reg [1026] [
  ⟨.op (.bin .lss (.slot 5) (.slot 4)), some 6, none⟩]) c61_6
def l61_0 : SCode := .loop b61_0
abbrev c61_8 : SCode := .block 0 (l61_0)
abbrev c61_9 : SCode := .seq (.seq (.reg [11, 1027, 1028] [
  ⟨.op (.mv (.slot 0)), none, none⟩, 
  ⟨.op (.len false (.slot 9)), some 4, none⟩, 
  ⟨.op (.asg (.con (.int .i64 0))), some 5, none⟩]) c61_8) c61_0
abbrev c61_10 : SCode := .seq (.reg [1026] [
  ⟨.op (.asg (.con (.bool false))), some 2, none⟩]) (.ret)
abbrev c61_11 : SCode := .cond (.slot 3) c61_10 (.skip)
abbrev c61_12 : SCode := .seq (.seq (.reg [6, 7, 8, 9, 1030] [
  ⟨.op (.mv (.slot 0)), none, none⟩, 
  ⟨.op (.len false (.slot 9)), none, none⟩, 
  ⟨.op (.mv (.slot 1)), none, none⟩, 
  ⟨.op (.len false (.slot 11)), none, none⟩, 
  ⟨.op (.bin .neq (.slot 10) (.slot 12)), some 3, none⟩]) c61_11) c61_9
abbrev s61 : SCode := .seq (.reg [1026] [
  ⟨.op (.asg (.con (.bool false))), some 2, none⟩]) c61_12
theorem ok61 : okFn Go.Proofs.Try.prog Go.Proofs.Try.f61 v61 s61 r61 2 = true := by kernel_rfl

def v62 : List Nat := [0, 1, 2, 3, 4, 25]
def r62 : List SRes := [.tmp 4]
abbrev c62_0 : SCode := .seq (.reg [26, 27, 28, 29, 30, 1036] [
  ⟨.op (.faddr 0 (.slot 2)), none, none⟩, 
  ⟨.op (.load 1 false (.slot 6)), none, none⟩, 
  ⟨.op (.faddr 0 (.slot 3)), none, none⟩, 
  ⟨.op (.load 1 false (.slot 8)), none, none⟩, 
  ⟨.call 77 [(.slot 7), (.slot 9), (.con (.fn 61 []))] false, none, none⟩, 
  ⟨.op (.asg (.slot 10)), some 4, none⟩]) (.ret)
abbrev c62_1 : SCode := .seq (.reg [1031] [
  ⟨.op (.asg (.con (.bool false))), some 4, none⟩]) (.ret)
abbrev c62_2 : SCode := .cond (.slot 5) c62_1 (.skip)
abbrev c62_3 : SCode := .seq (.seq (.reg [5, 6, 7, 8, 9, 10, 11, 12, 13, 14, 15, 16, 17, 18, 19, 20, 21, 22, 23, 24, 1051] [
  ⟨.op (.faddr 3 (.slot 2)), none, none⟩, 
  ⟨.op (.load 1 false (.slot 6)), none, none⟩, 
  ⟨.op (.faddr 3 (.slot 3)), none, none⟩, 
  ⟨.op (.load 1 false (.slot 8)), none, none⟩, 
  ⟨.op (.bin .neq (.slot 7) (.slot 9)), none, none⟩, 
  ⟨.op (.mv (.slot 10)), none, none⟩, 
  ⟨.op (.faddr 1 (.slot 2)), none, some (11, false)⟩, 
  ⟨.op (.load 1 false (.slot 12)), none, some (11, false)⟩, 
  ⟨.op (.faddr 1 (.slot 3)), none, some (11, false)⟩, 
  ⟨.op (.load 1 false (.slot 14)), none, some (11, false)⟩, 
  ⟨.call 61 [(.slot 13), (.slot 15)] false, none, some (11, false)⟩, 
  ⟨.op (.not (.slot 16)), none, some (11, false)⟩, 
  ⟨.op (.pick (.slot 11) (.con (.bool true)) (.slot 17)), none, none⟩, 
  ⟨.op (.mv (.slot 18)), none, none⟩, 
  ⟨.op (.faddr 2 (.slot 2)), none, some (19, false)⟩, 
  ⟨.op (.load 1 false (.slot 20)), none, some (19, false)⟩, 
  ⟨.op (.faddr 2 (.slot 3)), none, some (19, false)⟩, 
  ⟨.op (.load 1 false (.slot 22)), none, some (19, false)⟩, 
  ⟨.call 61 [(.slot 21), (.slot 23)] false, none, some (19, false)⟩, 
  ⟨.op (.not (.slot 24)), none, some (19, false)⟩, 
  ⟨.op (.pick (.slot 19) (.con (.bool true)) (.slot 25)), some 5, none⟩]) c62_2) c62_0
abbrev s62 : SCode := .seq (.reg [1031, 1032, 1033] [
  ⟨.op (.box 72 4 (.slot 0)), some 2, none⟩, 
  ⟨.op (.box 72 4 (.slot 1)), some 3, none⟩, 
  ⟨.op (.asg (.con (.bool false))), some 4, none⟩]) c62_3
theorem ok62 : okFn Go.Proofs.Try.prog Go.Proofs.Try.f62 v62 s62 r62 2 = true := by kernel_rfl

def v63 : List Nat := [0, 1, 4, 10, 5, 14, 26]
def r63 : List SRes := [.tmp 2]
abbrev c63_0 : SCode := .seq (.reg [1027] [
  ⟨.op (.asg (.con (.bool true))), some 2, none⟩]) (.ret)
abbrev c63_1 : SCode := .reg [15, 16, 1029] [
  ⟨.op (.mv (.slot 4)), none, none⟩, 
  ⟨.op (.bin .add (.slot 7) (.con (.int .i64 1))), none, none⟩, 
  ⟨.op (.asg (.slot 8)), some 4, none⟩]
abbrev c63_2 : SCode := .seq (.reg [1027] [
  ⟨.op (.asg (.con (.bool false))), some 2, none⟩]) (.ret)
abbrev c63_3 : SCode := .cond (.slot 6) c63_2 (.skip)
abbrev c63_4 : SCode := .seq (.block 1 (.seq (.dreg [17, 18, 19, 20, 21, 22, 23, 24, 25, 1036] [
  ⟨.op (.mv (.slot 0)), none, none⟩, 
  ⟨.op (.mv (.slot 4)), none, none⟩, 
  ⟨.op (.iaddr 2 (.slot 7) (.slot 8)), none, none⟩, 
  ⟨.op (.load 2 true (.slot 9)), none, none⟩, 
  ⟨.op (.mv (.slot 1)), none, none⟩, 
  ⟨.op (.mv (.slot 4)), none, none⟩, 
  ⟨.op (.iaddr 2 (.slot 11) (.slot 12)), none, none⟩, 
  ⟨.op (.load 2 true (.slot 13)), none, none⟩, 
  ⟨.call 78 [(.slot 10), (.slot 14)] false, none, none⟩, 
  ⟨.op (.not (.slot 15)), some 6, none⟩]
  [[], [], [0, 1], [0, 1, 2], [], [], [4, 5], [4, 5, 6], [0, 1, 2, 3, 4, 5, 6, 7], [0, 1, 2, 3, 4, 5, 6, 7, 8]] 9 [] [([], none), ([false], none), ([true, true], none), ([true, true, true], none), ([false, false, false, false], none), ([false, false, false, false, false], none), ([false, false, false, false, true, true], none), ([false, false, false, false, true, true, true], none), ([true, true, true, true, true, true, true, true], none)] [true, true, true, true, true, true, true, true, true]) c63_3)) c63_1
abbrev c63_5 : SCode := .cond (.slot 5) (.skip) (.exit 0)
abbrev b63_0 : SCode := .seq (.seq (.reg [11, 12, 13, 1030] [
  ⟨.op (.mv (.slot 4)), none, none⟩, 
  ⟨.op (.mv (.slot 0)), none, none⟩, 
  ⟨.op (.len false (.slot 8)), none, none⟩, 
  ⟨.op (.bin .lss (.slot 7) (.slot 9)), some 5, none⟩]) c63_5) c63_4
def l63_0 : SCode := .loop b63_0
abbrev c63_7 : SCode := .block 0 (l63_0)
abbrev c63_8 : SCode := .seq (.seq (.reg [1027] [
  ⟨.op (.asg (.con (.int .i64 0))), some 4, none⟩]) c63_7) c63_0
abbrev c63_9 : SCode := .seq (.reg [1027] [
  ⟨.op (.asg (.con (.bool false))), some 2, none⟩]) (.ret)
abbrev c63_10 : SCode := .cond (.slot 3) c63_9 (.skip)
abbrev c63_11 : SCode := .seq (.seq (.reg [6, 7, 8, 9, 1031] [
  ⟨.op (.mv (.slot 0)), none, none⟩, 
  ⟨.op (.len false (.slot 7)), none, none⟩, 
  ⟨.op (.mv (.slot 1)), none, none⟩, 
  ⟨.op (.len false (.slot 9)), none, none⟩, 
  ⟨.op (.bin .neq (.slot 8) (.slot 10)), some 3, none⟩]) c63_10) c63_8
abbrev s63 : SCode := .seq (.reg [1027] [
  ⟨.op (.asg (.con (.bool false))), some 2, none⟩]) c63_11
theorem ok63 : okFn Go.Proofs.Try.prog Go.Proofs.Try.f63 v63 s63 r63 2 = true := by kernel_rfl

def v64 : List Nat := [0, 1, 4, 10, 5, 14, 26]
def r64 : List SRes := [.tmp 2]
abbrev c64_0 : SCode := .seq (.reg [1027] [
  ⟨.op (.asg (.con (.bool true))), some 2, none⟩]) (.ret)
abbrev c64_1 : SCode := .reg [15, 16, 1029] [
  ⟨.op (.mv (.slot 4)), none, none⟩, 
  ⟨.op (.bin .add (.slot 7) (.con (.int .i64 1))), none, none⟩, 
  ⟨.op (.asg (.slot 8)), some 4, none⟩]
abbrev c64_2 : SCode := .seq (.reg [1027] [
  ⟨.op (.asg (.con (.bool false))), some 2, none⟩]) (.ret)
abbrev c64_3 : SCode := .cond (.slot 6) c64_2 (.skip)
abbrev c64_4 : SCode := .seq (.block 1 (.seq (.dreg [17, 18, 19, 20, 21, 22, 23, 24, 25, 1036] [
  ⟨.op (.mv (.slot 0)), none, none⟩, 
  ⟨.op (.mv (.slot 4)), none, none⟩, 
  ⟨.op (.iaddr 1 (.slot 7) (.slot 8)), none, none⟩, 
  ⟨.op (.load 1 false (.slot 9)), none, none⟩, 
  ⟨.op (.mv (.slot 1)), none, none⟩, 
  ⟨.op (.mv (.slot 4)), none, none⟩, 
  ⟨.op (.iaddr 1 (.slot 11) (.slot 12)), none, none⟩, 
  ⟨.op (.load 1 false (.slot 13)), none, none⟩, 
  ⟨.call 44 [(.slot 10), (.slot 14)] false, none, none⟩, 
  ⟨.op (.not (.slot 15)), some 6, none⟩]
  [[], [], [0, 1], [0, 1, 2], [], [], [4, 5], [4, 5, 6], [0, 1, 2, 3, 4, 5, 6, 7], [0, 1, 2, 3, 4, 5, 6, 7, 8]] 9 [] [([], none), ([false], none), ([true, true], none), ([true, true, true], none), ([false, false, false, false], none), ([false, false, false, false, false], none), ([false, false, false, false, true, true], none), ([false, false, false, false, true, true, true], none), ([true, true, true, true, true, true, true, true], none)] [true, true, true, true, true, true, true, true, true]) c64_3)) c64_1
abbrev c64_5 : SCode := .cond (.slot 5) (.skip) (.exit 0)
abbrev b64_0 : SCode := .seq (.seq (.reg [11, 12, 13, 1030] [
  ⟨.op (.mv (.slot 4)), none, none⟩, 
  ⟨.op (.mv (.slot 0)), none, none⟩, 
  ⟨.op (.len false (.slot 8)), none, none⟩, 
  ⟨.op (.bin .lss (.slot 7) (.slot 9)), some 5, none⟩]) c64_5) c64_4
def l64_0 : SCode := .loop b64_0
abbrev c64_7 : SCode := .block 0 (l64_0)
abbrev c64_8 : SCode := .seq (.seq (.reg [1027] [
  ⟨.op (.asg (.con (.int .i64 0))), some 4, none⟩]) c64_7) c64_0
abbrev c64_9 : SCode := .seq (.reg [1027] [
  ⟨.op (.asg (.con (.bool false))), some 2, none⟩]) (.ret)
abbrev c64_10 : SCode := .cond (.slot 3) c64_9 (.skip)
abbrev c64_11 : SCode := .seq (.seq (.reg [6, 7, 8, 9, 1031] [
  ⟨.op (.mv (.slot 0)), none, none⟩, 
  ⟨.op (.len false (.slot 7)), none, none⟩, 
  ⟨.op (.mv (.slot 1)), none, none⟩, 
  ⟨.op (.len false (.slot 9)), none, none⟩, 
  ⟨.op (.bin .neq (.slot 8) (.slot 10)), some 3, none⟩]) c64_10) c64_8
abbrev s64 : SCode := .seq (.reg [1027] [
  ⟨.op (.asg (.con (.bool false))), some 2, none⟩]) c64_11
theorem ok64 : okFn Go.Proofs.Try.prog Go.Proofs.Try.f64 v64 s64 r64 2 = true := by kernel_rfl

def v75 : List Nat := [0, 1, 2, 4, 11]
def r75 : List SRes := [.tmp 3]
abbrev c75_0 : SCode := .seq (.reg [12, 1014] [
  ⟨.op (.mv (.slot 1)), none, none⟩, 
  ⟨.op (.asg (.slot 5)), some 3, none⟩]) (.ret)
abbrev c75_1 : SCode := .seq (.reg [1013] [
  ⟨.op (.asg (.con (.int .i64 (-1)))), some 3, none⟩]) (.ret)
abbrev c75_2 : SCode := .cond (.slot 4) c75_1 (.skip)
abbrev c75_3 : SCode := .seq (.seq (.reg [10, 1014] [
  ⟨.op (.mv (.slot 1)), none, none⟩, 
  ⟨.op (.bin .lss (.slot 5) (.con (.int .i64 0))), some 4, none⟩]) c75_2) c75_0
abbrev c75_4 : SCode := .seq (.reg [5, 6, 7, 8, 9, 1018] [
  ⟨.op (.mv (.slot 1)), none, none⟩, 
  ⟨.op (.faddr 0 (.slot 2)), none, none⟩, 
  ⟨.op (.load 1 false (.slot 6)), none, none⟩, 
  ⟨.op (.len true (.slot 7)), none, none⟩, 
  ⟨.op (.bin .sub (.slot 5) (.slot 8)), none, none⟩, 
  ⟨.op (.asg (.slot 9)), some 1, none⟩]) c75_3
abbrev s75 : SCode := .seq (.reg [1013, 1014] [
  ⟨.op (.box 113 2 (.slot 0)), some 2, none⟩, 
  ⟨.op (.asg (.con (.int .i64 0))), some 3, none⟩]) c75_4
theorem ok75 : okFn Go.Proofs.Try.prog Go.Proofs.Try.f75 v75 s75 r75 2 = true := by kernel_rfl

def v76 : List Nat := [0, 1, 2, 3]
def r76 : List SRes := [.cell 2 2 true]
abbrev c76_0 : SCode := .seq (.reg [10, 1012] [
  ⟨.op (.load 2 true (.slot 3)), none, none⟩, 
  ⟨.op (.store 2 false (.slot 2) (.slot 4)), none, none⟩]) (.ret)
abbrev c76_1 : SCode := .seq (.reg [7, 8, 9, 1014] [
  ⟨.op (.faddr 1 (.slot 1)), none, none⟩, 
  ⟨.op (.load 1 false (.slot 4)), none, none⟩, 
  ⟨.op (.faddr 1 (.slot 3)), none, none⟩, 
  ⟨.op (.store 1 false (.slot 6) (.slot 5)), none, none⟩]) c76_0
abbrev c76_2 : SCode := .seq (.reg [4, 5, 6, 1014] [
  ⟨.op (.faddr 0 (.slot 1)), none, none⟩, 
  ⟨.op (.load 1 false (.slot 4)), none, none⟩, 
  ⟨.op (.faddr 0 (.slot 3)), none, none⟩, 
  ⟨.op (.store 1 false (.slot 6) (.slot 5)), none, none⟩]) c76_1
abbrev c76_3 : SCode := .seq (.reg [1011] [
  ⟨.op (.mk 114 [(.str []), (.int .i64 0)]), some 3, none⟩]) c76_2
abbrev s76 : SCode := .seq (.reg [1011, 1012] [
  ⟨.op (.box 113 2 (.slot 0)), some 1, none⟩, 
  ⟨.op (.mk 114 [(.str []), (.int .i64 0)]), some 2, none⟩]) c76_3
theorem ok76 : okFn Go.Proofs.Try.prog Go.Proofs.Try.f76 v76 s76 r76 1 = true := by kernel_rfl

def v77 : List Nat := [0, 1, 2, 6, 14, 15, 16, 17, 18, 7, 8, 9, 30]
def r77 : List SRes := [.tmp 3]
abbrev c77_0 : SCode := .seq (.reg [1032] [
  ⟨.op (.asg (.con (.bool true))), some 3, none⟩]) (.ret)
abbrev c77_1 : SCode := .reg [31, 1033] [
  ⟨.op (.bin .add (.slot 7) (.con (.int .i64 1))), none, none⟩, 
  ⟨.op (.asg (.slot 13)), some 7, none⟩]
abbrev c77_2 : SCode := .seq (.reg [1032] [
  ⟨.op (.asg (.con (.bool false))), some 3, none⟩]) (.ret)
abbrev c77_3 : SCode := .cond (.slot 12) c77_2 (.skip)
abbrev c77_4 : SCode := .seq (.reg [26, 27, 28, 29, 1036] [
  ⟨.op (.mv (.slot 2)), none, none⟩, 
  ⟨.op (.mv (.slot 10)), none, none⟩, 
  ⟨.op (.mv (.slot 11)), none, none⟩, 
  ⟨.callv (.slot 13) [(.slot 14), (.slot 15)], none, none⟩, 
  ⟨.op (.not (.slot 16)), some 12, none⟩]) c77_3
abbrev c77_5 : SCode := .seq (.reg [22, 23, 24, 25, 1036] [
  ⟨.op (.mv (.slot 1)), none, none⟩, 
  ⟨.op (.mv (.slot 9)), none, none⟩, 
  ⟨.op (.iaddr 1 (.slot 13) (.slot 14)), none, none⟩, 
  ⟨.op (.load 1 false (.slot 15)), none, none⟩, 
  ⟨.op (.asg (.slot 16)), some 11, none⟩]) c77_4
abbrev c77_6 : SCode := .seq (.block 1 (.seq (.reg [19, 20, 21, 1035, 1036] [
  ⟨.op (.mv (.slot 7)), none, none⟩, 
  ⟨.op (.iaddr 1 (.slot 5) (.slot 7)), none, none⟩, 
  ⟨.op (.load 1 false (.slot 14)), none, none⟩, 
  ⟨.op (.asg (.slot 13)), some 9, none⟩, 
  ⟨.op (.asg (.slot 15)), some 10, none⟩]) c77_5)) c77_1
abbrev c77_7 : SCode := .seq (.cond (.slot 8) (.skip) (.exit 0)) c77_6
abbrev b77_0 : SCode := .seq (.reg [1032] [
  ⟨.op (.bin .lss (.slot 7) (.slot 6)), some 8, none⟩]) c77_7
def l77_0 : SCode := .loop b77_0
abbrev c77_9 : SCode := .block 0 (l77_0)
abbrev c77_10 : SCode := .seq (.seq (.reg [1032, 1033, 1034] [
  ⟨.op (.asg (.slot 0)), some 5, none⟩, 
  ⟨.op (.len false (.slot 5)), some 6, none⟩, 
  ⟨.op (.asg (.con (.int .i64 0))), some 7, none⟩]) c77_9) c77_0
abbrev c77_11 : SCode := .seq (.reg [1032] [
  ⟨.op (.asg (.con (.bool false))), some 3, none⟩]) (.ret)
abbrev c77_12 : SCode := .cond (.slot 4) c77_11 (.skip)
abbrev c77_13 : SCode := .seq (.seq (.reg [10, 11, 12, 13, 1036] [
  ⟨.op (.mv (.slot 0)), none, none⟩, 
  ⟨.op (.len false (.slot 13)), none, none⟩, 
  ⟨.op (.mv (.slot 1)), none, none⟩, 
  ⟨.op (.len false (.slot 15)), none, none⟩, 
  ⟨.op (.bin .neq (.slot 14) (.slot 16)), some 4, none⟩]) c77_12) c77_10
abbrev s77 : SCode := .seq (.reg [1032] [
  ⟨.op (.asg (.con (.bool false))), some 3, none⟩]) c77_13
theorem ok77 : okFn Go.Proofs.Try.prog Go.Proofs.Try.f77 v77 s77 r77 3 = true := by kernel_rfl

def v78 : List Nat := [0, 1, 2, 3, 4, 9, 14]
def r78 : List SRes := [.tmp 4]
abbrev c78_0 : SCode := .seq (.reg [1015] [
  ⟨.op (.asg (.con (.bool true))), some 4, none⟩]) (.ret)
abbrev c78_1 : SCode := .seq (.reg [1015] [
  ⟨.op (.asg (.con (.bool false))), some 4, none⟩]) (.ret)
abbrev c78_2 : SCode := .cond (.slot 6) c78_1 (.skip)
abbrev c78_3 : SCode := .seq (.seq (.reg [10, 11, 12, 13, 1019] [
  ⟨.op (.faddr 1 (.slot 2)), none, none⟩, 
  ⟨.op (.load 1 false (.slot 7)), none, none⟩, 
  ⟨.op (.faddr 1 (.slot 3)), none, none⟩, 
  ⟨.op (.load 1 false (.slot 9)), none, none⟩, 
  ⟨.op (.bin .neq (.slot 8) (.slot 10)), some 6, none⟩]) c78_2) c78_0
abbrev c78_4 : SCode := .seq (.reg [1015] [
  ⟨.op (.asg (.con (.bool false))), some 4, none⟩]) (.ret)
abbrev c78_5 : SCode := .cond (.slot 5) c78_4 (.skip)
abbrev c78_6 : SCode := .seq (.seq (.reg [5, 6, 7, 8, 1019] [
  ⟨.op (.faddr 0 (.slot 2)), none, none⟩, 
  ⟨.op (.load 1 false (.slot 7)), none, none⟩, 
  ⟨.op (.faddr 0 (.slot 3)), none, none⟩, 
  ⟨.op (.load 1 false (.slot 9)), none, none⟩, 
  ⟨.op (.bin .neq (.slot 8) (.slot 10)), some 5, none⟩]) c78_5) c78_3
abbrev s78 : SCode := .seq (.reg [1015, 1016, 1017] [
  ⟨.op (.box 114 2 (.slot 0)), some 2, none⟩, 
  ⟨.op (.box 114 2 (.slot 1)), some 3, none⟩, 
  ⟨.op (.asg (.con (.bool false))), some 4, none⟩]) c78_6
theorem ok78 : okFn Go.Proofs.Try.prog Go.Proofs.Try.f78 v78 s78 r78 2 = true := by kernel_rfl

end Go.AmC
