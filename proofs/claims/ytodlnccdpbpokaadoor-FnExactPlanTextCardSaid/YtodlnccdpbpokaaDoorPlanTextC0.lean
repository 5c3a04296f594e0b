/- Part of a proof: see the last text of this folder. -/
import Derived.Test.YtodlnccdpbpokaaDoorAmG
import Derived.KernelRfl
import Derived.Test.YtodlnccdpbpokaaDoorProg
set_option maxRecDepth 100000
namespace Go.AmC
open Go Go.AM
def v3 : List Nat := [0, 1, 2, 3, 11, 4, 5, 6, 21, 26]
def r3 : List SRes := [.tmp 2]
abbrev c3_0 : SCode := .seq (.reg [1027] [
  ⟨.op (.asg (.con (.bool true))), some 2, none⟩]) (.ret)
abbrev c3_1 : SCode := .seq (.reg [1027] [
  ⟨.op (.asg (.con (.bool false))), some 2, none⟩]) (.ret)
abbrev c3_2 : SCode := .cond (.slot 9) c3_1 (.skip)
abbrev c3_3 : SCode := .seq (.seq (.dreg [22, 23, 24, 25, 1031] [
  ⟨.op (.load 2 true (.slot 6)), none, none⟩, 
  ⟨.op (.load 2 true (.slot 1)), none, none⟩, 
  ⟨.call 7 [(.slot 11)] false, none, none⟩, 
  ⟨.call 9 [(.slot 10), (.slot 12)] false, none, none⟩, 
  ⟨.op (.not (.slot 13)), some 9, none⟩]
  [[], [], [1], [0, 1, 2], [0, 1, 2, 3]] 4 [] [([], none), ([false], none), ([false, true], none), ([true, true, true], none)] [true, true, true, true]) c3_2) c3_0
abbrev c3_4 : SCode := .seq (.reg [1027] [
  ⟨.op (.asg (.con (.bool false))), some 2, none⟩]) (.ret)
abbrev c3_5 : SCode := .cond (.slot 8) c3_4 (.skip)
abbrev c3_6 : SCode := .seq (.seq (.reg [19, 20, 1029] [
  ⟨.op (.mv (.slot 7)), none, none⟩, 
  ⟨.op (.mv (.slot 5)), none, none⟩, 
  ⟨.op (.bin .neq (.slot 10) (.slot 11)), some 8, none⟩]) c3_5) c3_3
abbrev c3_7 : SCode := .seq (.reg [17, 18, 1029] [
  ⟨.op (.load 2 true (.slot 6)), none, none⟩, 
  ⟨.call 8 [(.slot 10)] false, none, none⟩, 
  ⟨.op (.asg (.slot 11)), some 7, none⟩]) c3_6
abbrev c3_8 : SCode := .seq (.reg [15, 16, 1029, 1030] [
  ⟨.op (.load 2 true (.slot 1)), none, none⟩, 
  ⟨.call 7 [(.slot 10)] false, none, none⟩, 
  ⟨.op (.mk 27 [(.int .i64 0), (.osl 0 3 0 [])]), some 6, none⟩, 
  ⟨.op (.store 2 true (.slot 6) (.slot 11)), none, none⟩]) c3_7
abbrev c3_9 : SCode := .seq (.reg [12, 13, 14, 1030] [
  ⟨.op (.load 2 true (.slot 1)), none, none⟩, 
  ⟨.call 7 [(.slot 10)] false, none, none⟩, 
  ⟨.call 6 [(.slot 11)] false, none, none⟩, 
  ⟨.op (.asg (.slot 12)), some 5, none⟩]) c3_8
abbrev c3_10 : SCode := .seq (.reg [1027] [
  ⟨.op (.asg (.con (.bool true))), some 2, none⟩]) (.ret)
abbrev c3_11 : SCode := .cond (.slot 4) c3_10 (.skip)
abbrev c3_12 : SCode := .seq (.seq (.reg [10, 1028] [
  ⟨.op (.mv (.slot 3)), none, none⟩, 
  ⟨.op (.bin .lss (.slot 10) (.con (.int .i64 0))), some 4, none⟩]) c3_11) c3_9
abbrev c3_13 : SCode := .seq (.reg [7, 8, 9, 1030] [
  ⟨.op (.load 2 true (.slot 1)), none, none⟩, 
  ⟨.op (.mv (.slot 3)), none, none⟩, 
  ⟨.call 5 [(.slot 10), (.slot 11)] false, none, none⟩, 
  ⟨.op (.asg (.slot 12)), some 3, none⟩]) c3_12
abbrev c3_14 : SCode := .seq (.reg [1027] [
  ⟨.op (.asg (.con (.int .i64 1048576))), some 3, none⟩]) c3_13
abbrev s3 : SCode := .seq (.reg [1027, 1028] [
  ⟨.op (.box 24 2 (.slot 0)), some 1, none⟩, 
  ⟨.op (.asg (.con (.bool false))), some 2, none⟩]) c3_14
theorem ok3 : okFn Go.Proofs.Tryd.prog Go.Proofs.Tryd.f3 v3 s3 r3 1 = true := by kernel_rfl

def v5 : List Nat := [0, 1, 2, 4, 10]
def r5 : List SRes := [.tmp 3]
abbrev c5_0 : SCode := .seq (.reg [11, 1013] [
  ⟨.op (.mv (.slot 1)), none, none⟩, 
  ⟨.op (.asg (.slot 5)), some 3, none⟩]) (.ret)
abbrev c5_1 : SCode := .seq (.reg [1012] [
  ⟨.op (.asg (.con (.int .i64 (-1)))), some 3, none⟩]) (.ret)
abbrev c5_2 : SCode := .cond (.slot 4) c5_1 (.skip)
abbrev c5_3 : SCode := .seq (.seq (.reg [9, 1013] [
  ⟨.op (.mv (.slot 1)), none, none⟩, 
  ⟨.op (.bin .lss (.slot 5) (.con (.int .i64 0))), some 4, none⟩]) c5_2) c5_0
abbrev c5_4 : SCode := .seq (.reg [5, 6, 7, 8, 1016] [
  ⟨.op (.faddr 1 (.slot 2)), none, none⟩, 
  ⟨.op (.load 1 false (.slot 5)), none, none⟩, 
  ⟨.op (.mv (.slot 1)), none, none⟩, 
  ⟨.call 15 [(.slot 6), (.slot 7)] false, none, none⟩, 
  ⟨.op (.asg (.slot 8)), some 1, none⟩]) c5_3
abbrev s5 : SCode := .seq (.reg [1012, 1013] [
  ⟨.op (.box 24 2 (.slot 0)), some 2, none⟩, 
  ⟨.op (.asg (.con (.int .i64 0))), some 3, none⟩]) c5_4
theorem ok5 : okFn Go.Proofs.Tryd.prog Go.Proofs.Tryd.f5 v5 s5 r5 2 = true := by kernel_rfl

def v6 : List Nat := [0, 1, 2, 6, 7, 9, 11, 3, 4, 17]
def r6 : List SRes := [.tmp 2]
abbrev c6_0 : SCode := .seq (.reg [1030] [
  ⟨.op (.asg (.con (.str []))), some 2, none⟩]) (.ret)
abbrev c6_1 : SCode := .seq (.reg [1030] [
  ⟨.op (.asg (.con (.str [111, 110, 101]))), some 2, none⟩]) (.ret)
abbrev c6_2 : SCode := .seq (.reg [1030] [
  ⟨.op (.asg (.con (.str [97, 108, 108]))), some 2, none⟩]) (.ret)
abbrev c6_3 : SCode := .seq (.reg [29, 1031] [
  ⟨.op (.mv (.slot 7)), none, none⟩, 
  ⟨.op (.asg (.slot 10)), some 2, none⟩]) (.ret)
abbrev c6_4 : SCode := .reg [18, 19, 1032] [
  ⟨.op (.mv (.slot 8)), none, none⟩, 
  ⟨.op (.bin .add (.slot 10) (.con (.int .i64 1))), none, none⟩, 
  ⟨.op (.asg (.slot 11)), some 8, none⟩]
abbrev c6_5 : SCode := .seq (.block 2 (.reg [20, 21, 22, 23, 24, 25, 26, 27, 28, 1039] [
  ⟨.op (.mv (.slot 7)), none, none⟩, 
  ⟨.op (.bin .add (.slot 10) (.con (.str [32]))), none, none⟩, 
  ⟨.op (.faddr 1 (.slot 1)), none, none⟩, 
  ⟨.op (.load 1 false (.slot 12)), none, none⟩, 
  ⟨.op (.mv (.slot 8)), none, none⟩, 
  ⟨.op (.iaddr 1 (.slot 13) (.slot 14)), none, none⟩, 
  ⟨.op (.load 1 false (.slot 15)), none, none⟩, 
  ⟨.call 16 [(.slot 16)] false, none, none⟩, 
  ⟨.op (.bin .add (.slot 11) (.slot 17)), none, none⟩, 
  ⟨.op (.asg (.slot 18)), some 7, none⟩])) c6_4
abbrev c6_6 : SCode := .cond (.slot 9) (.skip) (.exit 1)
abbrev b6_0 : SCode := .seq (.seq (.reg [13, 14, 15, 16, 1034] [
  ⟨.op (.mv (.slot 8)), none, none⟩, 
  ⟨.op (.faddr 1 (.slot 1)), none, none⟩, 
  ⟨.op (.load 1 false (.slot 11)), none, none⟩, 
  ⟨.op (.len false (.slot 12)), none, none⟩, 
  ⟨.op (.bin .lss (.slot 10) (.slot 13)), some 9, none⟩]) c6_6) c6_5
def l6_0 : SCode := .loop b6_0
abbrev c6_8 : SCode := .block 1 (l6_0)
abbrev c6_9 : SCode := .seq (.seq (.reg [1030] [
  ⟨.op (.asg (.con (.int .i64 0))), some 8, none⟩]) c6_8) c6_3
abbrev c6_10 : SCode := .seq (.reg [1030] [
  ⟨.op (.asg (.con (.str [108, 105, 110, 101]))), some 7, none⟩]) c6_9
abbrev c6_11 : SCode := .cond (.slot 6) c6_10 (.skip)
abbrev c6_12 : SCode := .seq (.reg [12, 1031] [
  ⟨.op (.bin .eql (.slot 3) (.con (.int .i64 2))), none, none⟩, 
  ⟨.op (.asg (.slot 10)), some 6, none⟩]) c6_11
abbrev c6_13 : SCode := .cond (.slot 5) c6_2 c6_12
abbrev c6_14 : SCode := .seq (.reg [10, 1031] [
  ⟨.op (.bin .eql (.slot 3) (.con (.int .i64 1))), none, none⟩, 
  ⟨.op (.asg (.slot 10)), some 5, none⟩]) c6_13
abbrev c6_15 : SCode := .cond (.slot 4) c6_1 c6_14
abbrev c6_16 : SCode := .block 0 (.seq (.reg [8, 1031] [
  ⟨.op (.bin .eql (.slot 3) (.con (.int .i64 0))), none, none⟩, 
  ⟨.op (.asg (.slot 10)), some 4, none⟩]) c6_15)
abbrev c6_17 : SCode := .seq (.seq (.reg [5, 1031] [
  ⟨.op (.faddr 0 (.slot 1)), none, none⟩, 
  ⟨.op (.load 1 false (.slot 10)), some 3, none⟩]) c6_16) c6_0
abbrev s6 : SCode := .seq (.reg [1030, 1031] [
  ⟨.op (.box 27 2 (.slot 0)), some 1, none⟩, 
  ⟨.op (.asg (.con (.str []))), some 2, none⟩]) c6_17
theorem ok6 : okFn Go.Proofs.Tryd.prog Go.Proofs.Tryd.f6 v6 s6 r6 1 = true := by kernel_rfl

def v7 : List Nat := [0, 1, 2, 3]
def r7 : List SRes := [.cell 2 2 true]
abbrev c7_0 : SCode := .seq (.reg [11, 1013] [
  ⟨.op (.load 2 true (.slot 3)), none, none⟩, 
  ⟨.op (.store 2 true (.slot 2) (.slot 4)), none, none⟩]) (.ret)
abbrev c7_1 : SCode := .seq (.reg [7, 8, 9, 10, 1016] [
  ⟨.op (.faddr 1 (.slot 1)), none, none⟩, 
  ⟨.op (.load 1 false (.slot 4)), none, none⟩, 
  ⟨.call 17 [(.slot 5)] false, none, none⟩, 
  ⟨.op (.faddr 1 (.slot 3)), none, none⟩, 
  ⟨.op (.store 1 true (.slot 7) (.slot 6)), none, none⟩]) c7_0
abbrev c7_2 : SCode := .seq (.reg [4, 5, 6, 1015] [
  ⟨.op (.faddr 0 (.slot 1)), none, none⟩, 
  ⟨.op (.load 1 false (.slot 4)), none, none⟩, 
  ⟨.op (.faddr 0 (.slot 3)), none, none⟩, 
  ⟨.op (.store 1 false (.slot 6) (.slot 5)), none, none⟩]) c7_1
abbrev c7_3 : SCode := .seq (.reg [1012] [
  ⟨.op (.mk 27 [(.int .i64 0), (.osl 0 3 0 [])]), some 3, none⟩]) c7_2
abbrev s7 : SCode := .seq (.reg [1012, 1013] [
  ⟨.op (.box 24 2 (.slot 0)), some 1, none⟩, 
  ⟨.op (.mk 27 [(.int .i64 0), (.osl 0 3 0 [])]), some 2, none⟩]) c7_3
theorem ok7 : okFn Go.Proofs.Tryd.prog Go.Proofs.Tryd.f7 v7 s7 r7 1 = true := by kernel_rfl

def v8 : List Nat := [0, 1, 2, 7, 8, 10, 12, 3, 15, 16, 17, 18, 5]
def r8 : List SRes := [.tmp 2]
abbrev c8_0 : SCode := .seq (.reg [1028] [
  ⟨.op (.asg (.con (.str []))), some 2, none⟩]) (.ret)
abbrev c8_1 : SCode := .seq (.reg [1028] [
  ⟨.op (.asg (.con (.str [111, 110, 101]))), some 2, none⟩]) (.ret)
abbrev c8_2 : SCode := .seq (.reg [1028] [
  ⟨.op (.asg (.con (.str [97, 108, 108]))), some 2, none⟩]) (.ret)
abbrev c8_3 : SCode := .seq (.reg [27, 1029] [
  ⟨.op (.mv (.slot 7)), none, none⟩, 
  ⟨.op (.asg (.slot 13)), some 2, none⟩]) (.ret)
abbrev c8_4 : SCode := .reg [26, 1029] [
  ⟨.op (.bin .add (.slot 10) (.con (.int .i64 1))), none, none⟩, 
  ⟨.op (.asg (.slot 13)), some 10, none⟩]
abbrev c8_5 : SCode := .reg [21, 22, 23, 24, 25, 1033] [
  ⟨.op (.mv (.slot 7)), none, none⟩, 
  ⟨.op (.mv (.slot 12)), none, none⟩, 
  ⟨.call 18 [(.slot 14)] false, none, none⟩, 
  ⟨.op (.bin .add (.con (.str [32])) (.slot 15)), none, none⟩, 
  ⟨.op (.bin .add (.slot 13) (.slot 16)), none, none⟩, 
  ⟨.op (.asg (.slot 17)), some 7, none⟩]
abbrev c8_6 : SCode := .seq (.block 2 (.seq (.reg [19, 20, 1030] [
  ⟨.op (.iaddr 1 (.slot 8) (.slot 10)), none, none⟩, 
  ⟨.op (.load 1 false (.slot 13)), none, none⟩, 
  ⟨.op (.asg (.slot 14)), some 12, none⟩]) c8_5)) c8_4
abbrev c8_7 : SCode := .seq (.cond (.slot 11) (.skip) (.exit 1)) c8_6
abbrev b8_0 : SCode := .seq (.reg [1028] [
  ⟨.op (.bin .lss (.slot 10) (.slot 9)), some 11, none⟩]) c8_7
def l8_0 : SCode := .loop b8_0
abbrev c8_9 : SCode := .block 1 (l8_0)
abbrev c8_10 : SCode := .seq (.seq (.reg [14, 1029, 1030, 1031] [
  ⟨.op (.faddr 1 (.slot 1)), none, none⟩, 
  ⟨.op (.load 1 false (.slot 13)), some 8, none⟩, 
  ⟨.op (.len false (.slot 8)), some 9, none⟩, 
  ⟨.op (.asg (.con (.int .i64 0))), some 10, none⟩]) c8_9) c8_3
abbrev c8_11 : SCode := .seq (.reg [1028] [
  ⟨.op (.asg (.con (.str [108, 105, 110, 101]))), some 7, none⟩]) c8_10
abbrev c8_12 : SCode := .cond (.slot 6) c8_11 (.skip)
abbrev c8_13 : SCode := .seq (.reg [13, 1029] [
  ⟨.op (.bin .eql (.slot 3) (.con (.int .i64 2))), none, none⟩, 
  ⟨.op (.asg (.slot 13)), some 6, none⟩]) c8_12
abbrev c8_14 : SCode := .cond (.slot 5) c8_2 c8_13
abbrev c8_15 : SCode := .seq (.reg [11, 1029] [
  ⟨.op (.bin .eql (.slot 3) (.con (.int .i64 1))), none, none⟩, 
  ⟨.op (.asg (.slot 13)), some 5, none⟩]) c8_14
abbrev c8_16 : SCode := .cond (.slot 4) c8_1 c8_15
abbrev c8_17 : SCode := .block 0 (.seq (.reg [9, 1029] [
  ⟨.op (.bin .eql (.slot 3) (.con (.int .i64 0))), none, none⟩, 
  ⟨.op (.asg (.slot 13)), some 4, none⟩]) c8_16)
abbrev c8_18 : SCode := .seq (.seq (.reg [6, 1029] [
  ⟨.op (.faddr 0 (.slot 1)), none, none⟩, 
  ⟨.op (.load 1 false (.slot 13)), some 3, none⟩]) c8_17) c8_0
abbrev s8 : SCode := .seq (.reg [1028, 1029] [
  ⟨.op (.box 27 2 (.slot 0)), some 1, none⟩, 
  ⟨.op (.asg (.con (.str []))), some 2, none⟩]) c8_18
theorem ok8 : okFn Go.Proofs.Tryd.prog Go.Proofs.Tryd.f8 v8 s8 r8 1 = true := by kernel_rfl

def v9 : List Nat := [0, 1, 2, 3, 4, 9, 15]
def r9 : List SRes := [.tmp 4]
abbrev c9_0 : SCode := .seq (.reg [1016] [
  ⟨.op (.asg (.con (.bool true))), some 4, none⟩]) (.ret)
abbrev c9_1 : SCode := .seq (.reg [1016] [
  ⟨.op (.asg (.con (.bool false))), some 4, none⟩]) (.ret)
abbrev c9_2 : SCode := .cond (.slot 6) c9_1 (.skip)
abbrev c9_3 : SCode := .seq (.seq (.reg [10, 11, 12, 13, 14, 1021] [
  ⟨.op (.faddr 1 (.slot 2)), none, none⟩, 
  ⟨.op (.load 1 false (.slot 7)), none, none⟩, 
  ⟨.op (.faddr 1 (.slot 3)), none, none⟩, 
  ⟨.op (.load 1 false (.slot 9)), none, none⟩, 
  ⟨.call 19 [(.slot 8), (.slot 10)] false, none, none⟩, 
  ⟨.op (.not (.slot 11)), some 6, none⟩]) c9_2) c9_0
abbrev c9_4 : SCode := .seq (.reg [1016] [
  ⟨.op (.asg (.con (.bool false))), some 4, none⟩]) (.ret)
abbrev c9_5 : SCode := .cond (.slot 5) c9_4 (.skip)
abbrev c9_6 : SCode := .seq (.seq (.reg [5, 6, 7, 8, 1020] [
  ⟨.op (.faddr 0 (.slot 2)), none, none⟩, 
  ⟨.op (.load 1 false (.slot 7)), none, none⟩, 
  ⟨.op (.faddr 0 (.slot 3)), none, none⟩, 
  ⟨.op (.load 1 false (.slot 9)), none, none⟩, 
  ⟨.op (.bin .neq (.slot 8) (.slot 10)), some 5, none⟩]) c9_5) c9_3
abbrev s9 : SCode := .seq (.reg [1016, 1017, 1018] [
  ⟨.op (.box 27 2 (.slot 0)), some 2, none⟩, 
  ⟨.op (.box 27 2 (.slot 1)), some 3, none⟩, 
  ⟨.op (.asg (.con (.bool false))), some 4, none⟩]) c9_6
theorem ok9 : okFn Go.Proofs.Tryd.prog Go.Proofs.Tryd.f9 v9 s9 r9 2 = true := by kernel_rfl

def v15 : List Nat := [0, 1, 4, 10]
def r15 : List SRes := [.tmp 2]
abbrev c15_0 : SCode := .seq (.reg [11, 1013] [
  ⟨.op (.mv (.slot 1)), none, none⟩, 
  ⟨.op (.asg (.slot 4)), some 2, none⟩]) (.ret)
abbrev c15_1 : SCode := .seq (.reg [1012] [
  ⟨.op (.asg (.con (.int .i64 (-1)))), some 2, none⟩]) (.ret)
abbrev c15_2 : SCode := .cond (.slot 3) c15_1 (.skip)
abbrev c15_3 : SCode := .seq (.seq (.reg [9, 1013] [
  ⟨.op (.mv (.slot 1)), none, none⟩, 
  ⟨.op (.bin .lss (.slot 4) (.con (.int .i64 0))), some 3, none⟩]) c15_2) c15_0
abbrev c15_4 : SCode := .seq (.reg [5, 6, 7, 8, 1016] [
  ⟨.op (.mv (.slot 1)), none, none⟩, 
  ⟨.op (.mv (.slot 0)), none, none⟩, 
  ⟨.op (.len false (.slot 5)), none, none⟩, 
  ⟨.op (.bin .sub (.slot 4) (.slot 6)), none, none⟩, 
  ⟨.op (.asg (.slot 7)), some 1, none⟩]) c15_3
abbrev s15 : SCode := .seq (.reg [1012] [
  ⟨.op (.asg (.con (.int .i64 0))), some 2, none⟩]) c15_4
theorem ok15 : okFn Go.Proofs.Tryd.prog Go.Proofs.Tryd.f15 v15 s15 r15 2 = true := by kernel_rfl

def v16 : List Nat := [0, 2, 7, 3, 4, 10, 5, 16, 27]
def r16 : List SRes := [.tmp 1]
abbrev c16_0 : SCode := .seq (.reg [30, 1032] [
  ⟨.op (.mv (.slot 3)), none, none⟩, 
  ⟨.op (.asg (.slot 9)), some 1, none⟩]) (.ret)
abbrev c16_1 : SCode := .seq (.reg [28, 29, 1033] [
  ⟨.op (.mv (.slot 3)), none, none⟩, 
  ⟨.op (.bin .add (.con (.str [45])) (.slot 9)), none, none⟩, 
  ⟨.op (.asg (.slot 10)), some 1, none⟩]) (.ret)
abbrev c16_2 : SCode := .cond (.slot 8) c16_1 (.skip)
abbrev c16_3 : SCode := .seq (.seq (.reg [26, 1032] [
  ⟨.op (.mv (.slot 0)), none, none⟩, 
  ⟨.op (.bin .lss (.slot 9) (.con (.int .i64 0))), some 8, none⟩]) c16_2) c16_0
abbrev c16_4 : SCode := .reg [11, 12, 1033] [
  ⟨.op (.mv (.slot 4)), none, none⟩, 
  ⟨.op (.bin .quo (.slot 9) (.con (.int .i64 10))), none, none⟩, 
  ⟨.op (.asg (.slot 10)), some 4, none⟩]
abbrev c16_5 : SCode := .reg [19, 20, 21, 22, 23, 24, 25, 1038] [
  ⟨.op (.mv (.slot 6)), none, none⟩, 
  ⟨.op (.bin .add (.con (.int .i64 48)) (.slot 9)), none, none⟩, 
  ⟨.op (.conv .u8 (.slot 10)), none, none⟩, 
  ⟨.op (.bsl 5 1 [(.int .u8 0)] [(0, 1, (.slot 11))]), none, none⟩, 
  ⟨.op (.b2s (.slot 12)), none, none⟩, 
  ⟨.op (.mv (.slot 3)), none, none⟩, 
  ⟨.op (.bin .add (.slot 13) (.slot 14)), none, none⟩, 
  ⟨.op (.asg (.slot 15)), some 3, none⟩]
abbrev c16_6 : SCode := .reg [17, 18, 1033] [
  ⟨.op (.mv (.slot 6)), none, none⟩, 
  ⟨.op (.neg (.slot 9)), none, none⟩, 
  ⟨.op (.asg (.slot 10)), some 6, none⟩]
abbrev c16_7 : SCode := .cond (.slot 7) c16_6 (.skip)
abbrev c16_8 : SCode := .seq (.seq (.reg [15, 1032] [
  ⟨.op (.mv (.slot 6)), none, none⟩, 
  ⟨.op (.bin .lss (.slot 9) (.con (.int .i64 0))), some 7, none⟩]) c16_7) c16_5
abbrev c16_9 : SCode := .seq (.block 1 (.seq (.reg [13, 14, 1033] [
  ⟨.op (.mv (.slot 4)), none, none⟩, 
  ⟨.op (.bin .rem (.slot 9) (.con (.int .i64 10))), none, none⟩, 
  ⟨.op (.asg (.slot 10)), some 6, none⟩]) c16_8)) c16_4
abbrev c16_10 : SCode := .cond (.slot 5) (.skip) (.exit 0)
abbrev b16_0 : SCode := .seq (.seq (.reg [9, 1032] [
  ⟨.op (.mv (.slot 4)), none, none⟩, 
  ⟨.op (.bin .neq (.slot 9) (.con (.int .i64 0))), some 5, none⟩]) c16_10) c16_9
def l16_0 : SCode := .loop b16_0
abbrev c16_12 : SCode := .block 0 (l16_0)
abbrev c16_13 : SCode := .seq (.seq (.reg [8, 1032] [
  ⟨.op (.mv (.slot 0)), none, none⟩, 
  ⟨.op (.asg (.slot 9)), some 4, none⟩]) c16_12) c16_3
abbrev c16_14 : SCode := .seq (.reg [1031] [
  ⟨.op (.asg (.con (.str []))), some 3, none⟩]) c16_13
abbrev c16_15 : SCode := .seq (.reg [1031] [
  ⟨.op (.asg (.con (.str [48]))), some 1, none⟩]) (.ret)
abbrev c16_16 : SCode := .cond (.slot 2) c16_15 (.skip)
abbrev c16_17 : SCode := .seq (.seq (.reg [6, 1032] [
  ⟨.op (.mv (.slot 0)), none, none⟩, 
  ⟨.op (.bin .eql (.slot 9) (.con (.int .i64 0))), some 2, none⟩]) c16_16) c16_14
abbrev s16 : SCode := .seq (.reg [1031] [
  ⟨.op (.asg (.con (.str []))), some 1, none⟩]) c16_17
theorem ok16 : okFn Go.Proofs.Tryd.prog Go.Proofs.Tryd.f16 v16 s16 r16 1 = true := by kernel_rfl

def v17 : List Nat := [0, 2, 3, 4, 11]
def r17 : List SRes := [.tmp 1]
abbrev c17_0 : SCode := .seq (.reg [21, 1023] [
  ⟨.op (.mv (.slot 2)), none, none⟩, 
  ⟨.op (.asg (.slot 5)), some 1, none⟩]) (.ret)
abbrev c17_1 : SCode := .reg [12, 13, 1024] [
  ⟨.op (.mv (.slot 3)), none, none⟩, 
  ⟨.op (.bin .add (.slot 5) (.con (.int .i64 1))), none, none⟩, 
  ⟨.op (.asg (.slot 6)), some 3, none⟩]
abbrev c17_2 : SCode := .seq (.block 1 (.reg [14, 15, 16, 17, 18, 19, 20, 1029] [
  ⟨.op (.mv (.slot 2)), none, none⟩, 
  ⟨.op (.mv (.slot 3)), none, none⟩, 
  ⟨.op (.mv (.slot 0)), none, none⟩, 
  ⟨.op (.mv (.slot 3)), none, none⟩, 
  ⟨.op (.iaddr 1 (.slot 7) (.slot 8)), none, none⟩, 
  ⟨.op (.load 1 false (.slot 9)), none, none⟩, 
  ⟨.op (.iaddr 1 (.slot 5) (.slot 6)), none, none⟩, 
  ⟨.op (.store 1 false (.slot 11) (.slot 10)), none, none⟩])) c17_1
abbrev c17_3 : SCode := .cond (.slot 4) (.skip) (.exit 0)
abbrev b17_0 : SCode := .seq (.seq (.reg [8, 9, 10, 1025] [
  ⟨.op (.mv (.slot 3)), none, none⟩, 
  ⟨.op (.mv (.slot 0)), none, none⟩, 
  ⟨.op (.len false (.slot 6)), none, none⟩, 
  ⟨.op (.bin .lss (.slot 5) (.slot 7)), some 4, none⟩]) c17_3) c17_2
def l17_0 : SCode := .loop b17_0
abbrev c17_5 : SCode := .block 0 (l17_0)
abbrev c17_6 : SCode := .seq (.seq (.reg [1022] [
  ⟨.op (.asg (.con (.int .i64 0))), some 3, none⟩]) c17_5) c17_0
abbrev c17_7 : SCode := .seq (.reg [5, 6, 7, 1025] [
  ⟨.op (.mv (.slot 0)), none, none⟩, 
  ⟨.op (.len false (.slot 5)), none, none⟩, 
  ⟨.op (.mksl 3 [(.int .i64 0)] (.slot 6) (.slot 6)), none, none⟩, 
  ⟨.op (.asg (.slot 7)), some 2, none⟩]) c17_6
abbrev s17 : SCode := .seq (.reg [1022] [
  ⟨.op (.asg (.con (.osl 0 3 0 []))), some 1, none⟩]) c17_7
theorem ok17 : okFn Go.Proofs.Tryd.prog Go.Proofs.Tryd.f17 v17 s17 r17 1 = true := by kernel_rfl

def v18 : List Nat := [0, 2]
def r18 : List SRes := [.tmp 1]
abbrev c18_0 : SCode := .seq (.reg [3, 4, 1007] [
  ⟨.op (.mv (.slot 0)), none, none⟩, 
  ⟨.call 26 [(.slot 2)] false, none, none⟩, 
  ⟨.op (.asg (.slot 3)), some 1, none⟩]) (.ret)
abbrev s18 : SCode := .seq (.reg [1005] [
  ⟨.op (.asg (.con (.str []))), some 1, none⟩]) c18_0
theorem ok18 : okFn Go.Proofs.Tryd.prog Go.Proofs.Tryd.f18 v18 s18 r18 1 = true := by kernel_rfl

def v19 : List Nat := [0, 1, 4, 10, 5, 14, 25]
def r19 : List SRes := [.tmp 2]
abbrev c19_0 : SCode := .seq (.reg [1026] [
  ⟨.op (.asg (.con (.bool true))), some 2, none⟩]) (.ret)
abbrev c19_1 : SCode := .reg [15, 16, 1028] [
  ⟨.op (.mv (.slot 4)), none, none⟩, 
  ⟨.op (.bin .add (.slot 7) (.con (.int .i64 1))), none, none⟩, 
  ⟨.op (.asg (.slot 8)), some 4, none⟩]
abbrev c19_2 : SCode := .seq (.reg [1026] [
  ⟨.op (.asg (.con (.bool false))), some 2, none⟩]) (.ret)
abbrev c19_3 : SCode := .cond (.slot 6) c19_2 (.skip)
abbrev c19_4 : SCode := .seq (.block 1 (.seq (.dreg [17, 18, 19, 20, 21, 22, 23, 24, 1034] [
  ⟨.op (.mv (.slot 0)), none, none⟩, 
  ⟨.op (.mv (.slot 4)), none, none⟩, 
  ⟨.op (.iaddr 1 (.slot 7) (.slot 8)), none, none⟩, 
  ⟨.op (.load 1 false (.slot 9)), none, none⟩, 
  ⟨.op (.mv (.slot 1)), none, none⟩, 
  ⟨.op (.mv (.slot 4)), none, none⟩, 
  ⟨.op (.iaddr 1 (.slot 11) (.slot 12)), none, none⟩, 
  ⟨.op (.load 1 false (.slot 13)), none, none⟩, 
  ⟨.op (.bin .neq (.slot 10) (.slot 14)), some 6, none⟩]
  [[], [], [0, 1], [0, 1, 2], [], [], [4, 5], [4, 5, 6], [0, 1, 2, 3, 4, 5, 6, 7]] 8 [] [([], none), ([false], none), ([true, true], none), ([true, true, true], none), ([false, false, false, false], none), ([false, false, false, false, false], none), ([false, false, false, false, true, true], none), ([false, false, false, false, true, true, true], none)] [true, true, true, true, true, true, true, true]) c19_3)) c19_1
abbrev c19_5 : SCode := .cond (.slot 5) (.skip) (.exit 0)
abbrev b19_0 : SCode := .seq (.seq (.reg [11, 12, 13, 1029] [
  ⟨.op (.mv (.slot 4)), none, none⟩, 
  ⟨.op (.mv (.slot 0)), none, none⟩, 
  ⟨.op (.len false (.slot 8)), none, none⟩, 
  ⟨.op (.bin .lss (.slot 7) (.slot 9)), some 5, none⟩]) c19_5) c19_4
def l19_0 : SCode := .loop b19_0
abbrev c19_7 : SCode := .block 0 (l19_0)
abbrev c19_8 : SCode := .seq (.seq (.reg [1026] [
  ⟨.op (.asg (.con (.int .i64 0))), some 4, none⟩]) c19_7) c19_0
abbrev c19_9 : SCode := .seq (.reg [1026] [
  ⟨.op (.asg (.con (.bool false))), some 2, none⟩]) (.ret)
abbrev c19_10 : SCode := .cond (.slot 3) c19_9 (.skip)
abbrev c19_11 : SCode := .seq (.seq (.reg [6, 7, 8, 9, 1030] [
  ⟨.op (.mv (.slot 0)), none, none⟩, 
  ⟨.op (.len false (.slot 7)), none, none⟩, 
  ⟨.op (.mv (.slot 1)), none, none⟩, 
  ⟨.op (.len false (.slot 9)), none, none⟩, 
  ⟨.op (.bin .neq (.slot 8) (.slot 10)), some 3, none⟩]) c19_10) c19_8
abbrev s19 : SCode := .seq (.reg [1026] [
  ⟨.op (.asg (.con (.bool false))), some 2, none⟩]) c19_11
theorem ok19 : okFn Go.Proofs.Tryd.prog Go.Proofs.Tryd.f19 v19 s19 r19 2 = true := by kernel_rfl

end Go.AmC
