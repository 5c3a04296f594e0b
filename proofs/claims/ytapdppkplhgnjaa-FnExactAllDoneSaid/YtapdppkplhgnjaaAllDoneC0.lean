/- Part of a proof: see the last text of this folder. -/
import Derived.Test.YtapdppkplhgnjaaAmG
import Derived.KernelRfl
import Derived.Test.YtapdppkplhgnjaaProg
set_option maxRecDepth 100000
namespace Go.AmC
open Go Go.AM
def v5 : List Nat := [0, 1, 2, 3, 11, 4, 5, 6, 21, 26]
def r5 : List SRes := [.tmp 2]
abbrev c5_0 : SCode := .seq (.reg [1027] [
  ⟨.op (.asg (.con (.bool true))), some 2, none⟩]) (.ret)
abbrev c5_1 : SCode := .seq (.reg [1027] [
  ⟨.op (.asg (.con (.bool false))), some 2, none⟩]) (.ret)
abbrev c5_2 : SCode := .cond (.slot 9) c5_1 (.skip)
abbrev c5_3 : SCode := .seq (.seq (.dreg [22, 23, 24, 25, 1031] [
  ⟨.op (.load 4 true (.slot 6)), none, none⟩, 
  ⟨.op (.load 4 true (.slot 1)), none, none⟩, 
  ⟨.call 17 [(.slot 11)] false, none, none⟩, 
  ⟨.call 19 [(.slot 10), (.slot 12)] false, none, none⟩, 
  ⟨.op (.not (.slot 13)), some 9, none⟩]
  [[], [], [1], [0, 1, 2], [0, 1, 2, 3]] 4 [] [([], none), ([false], none), ([false, true], none), ([true, true, true], none)] [true, true, true, true]) c5_2) c5_0
abbrev c5_4 : SCode := .seq (.reg [1027] [
  ⟨.op (.asg (.con (.bool false))), some 2, none⟩]) (.ret)
abbrev c5_5 : SCode := .cond (.slot 8) c5_4 (.skip)
abbrev c5_6 : SCode := .seq (.seq (.reg [19, 20, 1029] [
  ⟨.op (.mv (.slot 7)), none, none⟩, 
  ⟨.op (.mv (.slot 5)), none, none⟩, 
  ⟨.op (.beq true (.slot 10) (.slot 11)), some 8, none⟩]) c5_5) c5_3
abbrev c5_7 : SCode := .seq (.reg [17, 18, 1029] [
  ⟨.op (.load 4 true (.slot 6)), none, none⟩, 
  ⟨.call 18 [(.slot 10)] false, none, none⟩, 
  ⟨.op (.asg (.slot 11)), some 7, none⟩]) c5_6
abbrev c5_8 : SCode := .seq (.reg [15, 16, 1029, 1030] [
  ⟨.op (.load 4 true (.slot 1)), none, none⟩, 
  ⟨.call 17 [(.slot 10)] false, none, none⟩, 
  ⟨.op (.mk 49 [(.osl 0 3 0 []), (.osl 0 87 0 []), (.osl 0 3 0 []), (.bool false)]), some 6, none⟩, 
  ⟨.op (.store 4 true (.slot 6) (.slot 11)), none, none⟩]) c5_7
abbrev c5_9 : SCode := .seq (.reg [12, 13, 14, 1030] [
  ⟨.op (.load 4 true (.slot 1)), none, none⟩, 
  ⟨.call 17 [(.slot 10)] false, none, none⟩, 
  ⟨.call 16 [(.slot 11)] false, none, none⟩, 
  ⟨.op (.asg (.slot 12)), some 5, none⟩]) c5_8
abbrev c5_10 : SCode := .seq (.reg [1027] [
  ⟨.op (.asg (.con (.bool true))), some 2, none⟩]) (.ret)
abbrev c5_11 : SCode := .cond (.slot 4) c5_10 (.skip)
abbrev c5_12 : SCode := .seq (.seq (.reg [10, 1028] [
  ⟨.op (.mv (.slot 3)), none, none⟩, 
  ⟨.op (.bin .lss (.slot 10) (.con (.int .i64 0))), some 4, none⟩]) c5_11) c5_9
abbrev c5_13 : SCode := .seq (.reg [7, 8, 9, 1030] [
  ⟨.op (.load 4 true (.slot 1)), none, none⟩, 
  ⟨.op (.mv (.slot 3)), none, none⟩, 
  ⟨.call 15 [(.slot 10), (.slot 11)] false, none, none⟩, 
  ⟨.op (.asg (.slot 12)), some 3, none⟩]) c5_12
abbrev c5_14 : SCode := .seq (.reg [1027] [
  ⟨.op (.asg (.con (.int .i64 1048576))), some 3, none⟩]) c5_13
abbrev s5 : SCode := .seq (.reg [1027, 1028] [
  ⟨.op (.box 44 4 (.slot 0)), some 1, none⟩, 
  ⟨.op (.asg (.con (.bool false))), some 2, none⟩]) c5_14
theorem ok5 : okFn Go.Proofs.Try.prog Go.Proofs.Try.f5 v5 s5 r5 1 = true := by kernel_rfl

def v15 : List Nat := [0, 1, 2, 4, 10, 16, 22]
def r15 : List SRes := [.tmp 3]
abbrev c15_0 : SCode := .seq (.reg [23, 1025] [
  ⟨.op (.mv (.slot 1)), none, none⟩, 
  ⟨.op (.asg (.slot 7)), some 3, none⟩]) (.ret)
abbrev c15_1 : SCode := .seq (.reg [1024] [
  ⟨.op (.asg (.con (.int .i64 (-1)))), some 3, none⟩]) (.ret)
abbrev c15_2 : SCode := .cond (.slot 6) c15_1 (.skip)
abbrev c15_3 : SCode := .seq (.seq (.reg [21, 1025] [
  ⟨.op (.mv (.slot 1)), none, none⟩, 
  ⟨.op (.bin .lss (.slot 7) (.con (.int .i64 0))), some 6, none⟩]) c15_2) c15_0
abbrev c15_4 : SCode := .seq (.reg [17, 18, 19, 20, 1028] [
  ⟨.op (.faddr 2 (.slot 2)), none, none⟩, 
  ⟨.op (.load 1 false (.slot 7)), none, none⟩, 
  ⟨.op (.mv (.slot 1)), none, none⟩, 
  ⟨.call 40 [(.slot 8), (.slot 9)] false, none, none⟩, 
  ⟨.op (.asg (.slot 10)), some 1, none⟩]) c15_3
abbrev c15_5 : SCode := .seq (.reg [1024] [
  ⟨.op (.asg (.con (.int .i64 (-1)))), some 3, none⟩]) (.ret)
abbrev c15_6 : SCode := .cond (.slot 5) c15_5 (.skip)
abbrev c15_7 : SCode := .seq (.seq (.reg [15, 1025] [
  ⟨.op (.mv (.slot 1)), none, none⟩, 
  ⟨.op (.bin .lss (.slot 7) (.con (.int .i64 0))), some 5, none⟩]) c15_6) c15_4
abbrev c15_8 : SCode := .seq (.reg [11, 12, 13, 14, 1028] [
  ⟨.op (.faddr 1 (.slot 2)), none, none⟩, 
  ⟨.op (.load 1 false (.slot 7)), none, none⟩, 
  ⟨.op (.mv (.slot 1)), none, none⟩, 
  ⟨.call 41 [(.slot 8), (.slot 9)] false, none, none⟩, 
  ⟨.op (.asg (.slot 10)), some 1, none⟩]) c15_7
abbrev c15_9 : SCode := .seq (.reg [1024] [
  ⟨.op (.asg (.con (.int .i64 (-1)))), some 3, none⟩]) (.ret)
abbrev c15_10 : SCode := .cond (.slot 4) c15_9 (.skip)
abbrev c15_11 : SCode := .seq (.seq (.reg [9, 1025] [
  ⟨.op (.mv (.slot 1)), none, none⟩, 
  ⟨.op (.bin .lss (.slot 7) (.con (.int .i64 0))), some 4, none⟩]) c15_10) c15_8
abbrev c15_12 : SCode := .seq (.reg [5, 6, 7, 8, 1028] [
  ⟨.op (.faddr 0 (.slot 2)), none, none⟩, 
  ⟨.op (.load 1 false (.slot 7)), none, none⟩, 
  ⟨.op (.mv (.slot 1)), none, none⟩, 
  ⟨.call 40 [(.slot 8), (.slot 9)] false, none, none⟩, 
  ⟨.op (.asg (.slot 10)), some 1, none⟩]) c15_11
abbrev s15 : SCode := .seq (.reg [1024, 1025] [
  ⟨.op (.box 44 4 (.slot 0)), some 2, none⟩, 
  ⟨.op (.asg (.con (.int .i64 0))), some 3, none⟩]) c15_12
theorem ok15 : okFn Go.Proofs.Try.prog Go.Proofs.Try.f15 v15 s15 r15 2 = true := by kernel_rfl

def v16 : List Nat := [0, 1, 2, 3, 8, 22]
def r16 : List SRes := [.tmp 2]
abbrev c16_0 : SCode := .seq (.reg [23, 24, 25, 26, 1031] [
  ⟨.op (.faddr 1 (.slot 1)), none, none⟩, 
  ⟨.op (.load 1 false (.slot 6)), none, none⟩, 
  ⟨.op (.len false (.slot 7)), none, none⟩, 
  ⟨.op (.bin .gtr (.slot 8) (.con (.int .i64 0))), none, none⟩, 
  ⟨.op (.asg (.slot 9)), some 2, none⟩]) (.ret)
abbrev c16_1 : SCode := .reg [9, 10, 1029] [
  ⟨.op (.mv (.slot 3)), none, none⟩, 
  ⟨.op (.bin .add (.slot 6) (.con (.int .i64 1))), none, none⟩, 
  ⟨.op (.asg (.slot 7)), some 3, none⟩]
abbrev c16_2 : SCode := .seq (.reg [1027] [
  ⟨.op (.asg (.con (.bool false))), some 2, none⟩]) (.ret)
abbrev c16_3 : SCode := .cond (.slot 5) c16_2 (.skip)
abbrev c16_4 : SCode := .seq (.block 1 (.seq (.reg [11, 12, 13, 14, 15, 16, 17, 18, 19, 20, 21, 1038] [
  ⟨.op (.faddr 1 (.slot 1)), none, none⟩, 
  ⟨.op (.load 1 false (.slot 6)), none, none⟩, 
  ⟨.op (.mv (.slot 3)), none, none⟩, 
  ⟨.op (.iaddr 6 (.slot 7) (.slot 8)), none, none⟩, 
  ⟨.op (.faddr 5 (.slot 9)), none, none⟩, 
  ⟨.op (.load 1 false (.slot 10)), none, none⟩, 
  ⟨.op (.not (.slot 11)), none, none⟩, 
  ⟨.op (.mv (.slot 12)), none, none⟩, 
  ⟨.op (.faddr 3 (.slot 1)), none, some (13, true)⟩, 
  ⟨.op (.load 1 false (.slot 14)), none, some (13, true)⟩, 
  ⟨.op (.not (.slot 15)), none, some (13, true)⟩, 
  ⟨.op (.pick (.slot 13) (.slot 16) (.con (.bool false))), some 5, none⟩]) c16_3)) c16_1
abbrev c16_5 : SCode := .cond (.slot 4) (.skip) (.exit 0)
abbrev b16_0 : SCode := .seq (.seq (.reg [4, 5, 6, 7, 1031] [
  ⟨.op (.mv (.slot 3)), none, none⟩, 
  ⟨.op (.faddr 1 (.slot 1)), none, none⟩, 
  ⟨.op (.load 1 false (.slot 7)), none, none⟩, 
  ⟨.op (.len false (.slot 8)), none, none⟩, 
  ⟨.op (.bin .lss (.slot 6) (.slot 9)), some 4, none⟩]) c16_5) c16_4
def l16_0 : SCode := .loop b16_0
abbrev c16_7 : SCode := .block 0 (l16_0)
abbrev c16_8 : SCode := .seq (.seq (.reg [1027] [
  ⟨.op (.asg (.con (.int .i64 0))), some 3, none⟩]) c16_7) c16_0
abbrev s16 : SCode := .seq (.reg [1027, 1028] [
  ⟨.op (.box 49 4 (.slot 0)), some 1, none⟩, 
  ⟨.op (.asg (.con (.bool false))), some 2, none⟩]) c16_8
theorem ok16 : okFn Go.Proofs.Try.prog Go.Proofs.Try.f16 v16 s16 r16 1 = true := by kernel_rfl

def v17 : List Nat := [0, 1, 2, 3]
def r17 : List SRes := [.cell 2 4 true]
abbrev c17_0 : SCode := .seq (.reg [19, 1021] [
  ⟨.op (.load 4 true (.slot 3)), none, none⟩, 
  ⟨.op (.store 4 true (.slot 2) (.slot 4)), none, none⟩]) (.ret)
abbrev c17_1 : SCode := .seq (.reg [16, 17, 18, 1023] [
  ⟨.op (.faddr 3 (.slot 1)), none, none⟩, 
  ⟨.op (.load 1 false (.slot 4)), none, none⟩, 
  ⟨.op (.faddr 3 (.slot 3)), none, none⟩, 
  ⟨.op (.store 1 false (.slot 6) (.slot 5)), none, none⟩]) c17_0
abbrev c17_2 : SCode := .seq (.reg [12, 13, 14, 15, 1024] [
  ⟨.op (.faddr 2 (.slot 1)), none, none⟩, 
  ⟨.op (.load 1 false (.slot 4)), none, none⟩, 
  ⟨.call 42 [(.slot 5)] false, none, none⟩, 
  ⟨.op (.faddr 2 (.slot 3)), none, none⟩, 
  ⟨.op (.store 1 true (.slot 7) (.slot 6)), none, none⟩]) c17_1
abbrev c17_3 : SCode := .seq (.reg [8, 9, 10, 11, 1024] [
  ⟨.op (.faddr 1 (.slot 1)), none, none⟩, 
  ⟨.op (.load 1 false (.slot 4)), none, none⟩, 
  ⟨.call 43 [(.slot 5)] false, none, none⟩, 
  ⟨.op (.faddr 1 (.slot 3)), none, none⟩, 
  ⟨.op (.store 1 true (.slot 7) (.slot 6)), none, none⟩]) c17_2
abbrev c17_4 : SCode := .seq (.reg [4, 5, 6, 7, 1024] [
  ⟨.op (.faddr 0 (.slot 1)), none, none⟩, 
  ⟨.op (.load 1 false (.slot 4)), none, none⟩, 
  ⟨.call 42 [(.slot 5)] false, none, none⟩, 
  ⟨.op (.faddr 0 (.slot 3)), none, none⟩, 
  ⟨.op (.store 1 true (.slot 7) (.slot 6)), none, none⟩]) c17_3
abbrev c17_5 : SCode := .seq (.reg [1020] [
  ⟨.op (.mk 49 [(.osl 0 3 0 []), (.osl 0 87 0 []), (.osl 0 3 0 []), (.bool false)]), some 3, none⟩]) c17_4
abbrev s17 : SCode := .seq (.reg [1020, 1021] [
  ⟨.op (.box 44 4 (.slot 0)), some 1, none⟩, 
  ⟨.op (.mk 49 [(.osl 0 3 0 []), (.osl 0 87 0 []), (.osl 0 3 0 []), (.bool false)]), some 2, none⟩]) c17_5
theorem ok17 : okFn Go.Proofs.Try.prog Go.Proofs.Try.f17 v17 s17 r17 1 = true := by kernel_rfl

def v18 : List Nat := [0, 1, 2, 8, 10, 11, 12, 13, 4, 23]
def r18 : List SRes := [.tmp 2]
abbrev c18_0 : SCode := .seq (.reg [1025] [
  ⟨.op (.asg (.con (.bool true))), some 2, none⟩]) (.ret)
abbrev c18_1 : SCode := .reg [24, 1026] [
  ⟨.op (.bin .add (.slot 6) (.con (.int .i64 1))), none, none⟩, 
  ⟨.op (.asg (.slot 10)), some 6, none⟩]
abbrev c18_2 : SCode := .seq (.reg [1025] [
  ⟨.op (.asg (.con (.bool false))), some 2, none⟩]) (.ret)
abbrev c18_3 : SCode := .cond (.slot 9) c18_2 (.skip)
abbrev c18_4 : SCode := .seq (.reg [16, 17, 18, 19, 20, 21, 22, 1032] [
  ⟨.op (.faddr 5 (.slot 8)), none, none⟩, 
  ⟨.op (.load 1 false (.slot 10)), none, none⟩, 
  ⟨.op (.not (.slot 11)), none, none⟩, 
  ⟨.op (.mv (.slot 12)), none, none⟩, 
  ⟨.op (.faddr 3 (.slot 1)), none, some (13, true)⟩, 
  ⟨.op (.load 1 false (.slot 14)), none, some (13, true)⟩, 
  ⟨.op (.not (.slot 15)), none, some (13, true)⟩, 
  ⟨.op (.pick (.slot 13) (.slot 16) (.con (.bool false))), some 9, none⟩]) c18_3
abbrev c18_5 : SCode := .seq (.block 1 (.seq (.reg [14, 15, 1027, 1028] [
  ⟨.op (.iaddr 6 (.slot 4) (.slot 6)), none, none⟩, 
  ⟨.op (.load 6 true (.slot 10)), none, none⟩, 
  ⟨.op (.mk 87 [(.int .i64 0), (.osl 0 3 0 []), (.osl 0 3 0 []), (.osl 0 124 0 []), (.bool false), (.bool false)]), some 8, none⟩, 
  ⟨.op (.store 6 true (.slot 8) (.slot 11)), none, none⟩]) c18_4)) c18_1
abbrev c18_6 : SCode := .seq (.cond (.slot 7) (.skip) (.exit 0)) c18_5
abbrev b18_0 : SCode := .seq (.reg [1025] [
  ⟨.op (.bin .lss (.slot 6) (.slot 5)), some 7, none⟩]) c18_6
def l18_0 : SCode := .loop b18_0
abbrev c18_8 : SCode := .block 0 (l18_0)
abbrev c18_9 : SCode := .seq (.seq (.reg [9, 1026, 1027, 1028] [
  ⟨.op (.faddr 1 (.slot 1)), none, none⟩, 
  ⟨.op (.load 1 false (.slot 10)), some 4, none⟩, 
  ⟨.op (.len false (.slot 4)), some 5, none⟩, 
  ⟨.op (.asg (.con (.int .i64 0))), some 6, none⟩]) c18_8) c18_0
abbrev c18_10 : SCode := .seq (.reg [1025] [
  ⟨.op (.asg (.con (.bool false))), some 2, none⟩]) (.ret)
abbrev c18_11 : SCode := .cond (.slot 3) c18_10 (.skip)
abbrev c18_12 : SCode := .seq (.seq (.reg [5, 6, 7, 1028] [
  ⟨.op (.faddr 1 (.slot 1)), none, none⟩, 
  ⟨.op (.load 1 false (.slot 10)), none, none⟩, 
  ⟨.op (.len false (.slot 11)), none, none⟩, 
  ⟨.op (.bin .eql (.slot 12) (.con (.int .i64 0))), some 3, none⟩]) c18_11) c18_9
abbrev s18 : SCode := .seq (.reg [1025, 1026] [
  ⟨.op (.box 49 4 (.slot 0)), some 1, none⟩, 
  ⟨.op (.asg (.con (.bool false))), some 2, none⟩]) c18_12
theorem ok18 : okFn Go.Proofs.Try.prog Go.Proofs.Try.f18 v18 s18 r18 1 = true := by kernel_rfl

def v19 : List Nat := [0, 1, 2, 3, 4, 10, 16, 22, 27]
def r19 : List SRes := [.tmp 4]
abbrev c19_0 : SCode := .seq (.reg [1028] [
  ⟨.op (.asg (.con (.bool true))), some 4, none⟩]) (.ret)
abbrev c19_1 : SCode := .seq (.reg [1028] [
  ⟨.op (.asg (.con (.bool false))), some 4, none⟩]) (.ret)
abbrev c19_2 : SCode := .cond (.slot 8) c19_1 (.skip)
abbrev c19_3 : SCode := .seq (.seq (.reg [23, 24, 25, 26, 1032] [
  ⟨.op (.faddr 3 (.slot 2)), none, none⟩, 
  ⟨.op (.load 1 false (.slot 9)), none, none⟩, 
  ⟨.op (.faddr 3 (.slot 3)), none, none⟩, 
  ⟨.op (.load 1 false (.slot 11)), none, none⟩, 
  ⟨.op (.beq true (.slot 10) (.slot 12)), some 8, none⟩]) c19_2) c19_0
abbrev c19_4 : SCode := .seq (.reg [1028] [
  ⟨.op (.asg (.con (.bool false))), some 4, none⟩]) (.ret)
abbrev c19_5 : SCode := .cond (.slot 7) c19_4 (.skip)
abbrev c19_6 : SCode := .seq (.seq (.reg [17, 18, 19, 20, 21, 1033] [
  ⟨.op (.faddr 2 (.slot 2)), none, none⟩, 
  ⟨.op (.load 1 false (.slot 9)), none, none⟩, 
  ⟨.op (.faddr 2 (.slot 3)), none, none⟩, 
  ⟨.op (.load 1 false (.slot 11)), none, none⟩, 
  ⟨.call 44 [(.slot 10), (.slot 12)] false, none, none⟩, 
  ⟨.op (.not (.slot 13)), some 7, none⟩]) c19_5) c19_3
abbrev c19_7 : SCode := .seq (.reg [1028] [
  ⟨.op (.asg (.con (.bool false))), some 4, none⟩]) (.ret)
abbrev c19_8 : SCode := .cond (.slot 6) c19_7 (.skip)
abbrev c19_9 : SCode := .seq (.seq (.reg [11, 12, 13, 14, 15, 1033] [
  ⟨.op (.faddr 1 (.slot 2)), none, none⟩, 
  ⟨.op (.load 1 false (.slot 9)), none, none⟩, 
  ⟨.op (.faddr 1 (.slot 3)), none, none⟩, 
  ⟨.op (.load 1 false (.slot 11)), none, none⟩, 
  ⟨.call 45 [(.slot 10), (.slot 12)] false, none, none⟩, 
  ⟨.op (.not (.slot 13)), some 6, none⟩]) c19_8) c19_6
abbrev c19_10 : SCode := .seq (.reg [1028] [
  ⟨.op (.asg (.con (.bool false))), some 4, none⟩]) (.ret)
abbrev c19_11 : SCode := .cond (.slot 5) c19_10 (.skip)
abbrev c19_12 : SCode := .seq (.seq (.reg [5, 6, 7, 8, 9, 1033] [
  ⟨.op (.faddr 0 (.slot 2)), none, none⟩, 
  ⟨.op (.load 1 false (.slot 9)), none, none⟩, 
  ⟨.op (.faddr 0 (.slot 3)), none, none⟩, 
  ⟨.op (.load 1 false (.slot 11)), none, none⟩, 
  ⟨.call 44 [(.slot 10), (.slot 12)] false, none, none⟩, 
  ⟨.op (.not (.slot 13)), some 5, none⟩]) c19_11) c19_9
abbrev s19 : SCode := .seq (.reg [1028, 1029, 1030] [
  ⟨.op (.box 49 4 (.slot 0)), some 2, none⟩, 
  ⟨.op (.box 49 4 (.slot 1)), some 3, none⟩, 
  ⟨.op (.asg (.con (.bool false))), some 4, none⟩]) c19_12
theorem ok19 : okFn Go.Proofs.Try.prog Go.Proofs.Try.f19 v19 s19 r19 2 = true := by kernel_rfl

def v40 : List Nat := [0, 1, 4, 10]
def r40 : List SRes := [.tmp 2]
abbrev c40_0 : SCode := .seq (.reg [11, 1013] [
  ⟨.op (.mv (.slot 1)), none, none⟩, 
  ⟨.op (.asg (.slot 4)), some 2, none⟩]) (.ret)
abbrev c40_1 : SCode := .seq (.reg [1012] [
  ⟨.op (.asg (.con (.int .i64 (-1)))), some 2, none⟩]) (.ret)
abbrev c40_2 : SCode := .cond (.slot 3) c40_1 (.skip)
abbrev c40_3 : SCode := .seq (.seq (.reg [9, 1013] [
  ⟨.op (.mv (.slot 1)), none, none⟩, 
  ⟨.op (.bin .lss (.slot 4) (.con (.int .i64 0))), some 3, none⟩]) c40_2) c40_0
abbrev c40_4 : SCode := .seq (.reg [5, 6, 7, 8, 1016] [
  ⟨.op (.mv (.slot 1)), none, none⟩, 
  ⟨.op (.mv (.slot 0)), none, none⟩, 
  ⟨.op (.len false (.slot 5)), none, none⟩, 
  ⟨.op (.bin .sub (.slot 4) (.slot 6)), none, none⟩, 
  ⟨.op (.asg (.slot 7)), some 1, none⟩]) c40_3
abbrev s40 : SCode := .seq (.reg [1012] [
  ⟨.op (.asg (.con (.int .i64 0))), some 2, none⟩]) c40_4
theorem ok40 : okFn Go.Proofs.Try.prog Go.Proofs.Try.f40 v40 s40 r40 2 = true := by kernel_rfl

def v41 : List Nat := [0, 1, 4, 11, 5, 15, 25]
def r41 : List SRes := [.tmp 2]
abbrev c41_0 : SCode := .seq (.reg [26, 1028] [
  ⟨.op (.mv (.slot 1)), none, none⟩, 
  ⟨.op (.asg (.slot 7)), some 2, none⟩]) (.ret)
abbrev c41_1 : SCode := .reg [16, 17, 1029] [
  ⟨.op (.mv (.slot 4)), none, none⟩, 
  ⟨.op (.bin .add (.slot 7) (.con (.int .i64 1))), none, none⟩, 
  ⟨.op (.asg (.slot 8)), some 4, none⟩]
abbrev c41_2 : SCode := .seq (.reg [1027] [
  ⟨.op (.asg (.con (.int .i64 (-1)))), some 2, none⟩]) (.ret)
abbrev c41_3 : SCode := .cond (.slot 6) c41_2 (.skip)
abbrev c41_4 : SCode := .seq (.reg [24, 1028] [
  ⟨.op (.mv (.slot 1)), none, none⟩, 
  ⟨.op (.bin .lss (.slot 7) (.con (.int .i64 0))), some 6, none⟩]) c41_3
abbrev c41_5 : SCode := .seq (.block 1 (.seq (.reg [18, 19, 20, 21, 22, 23, 1033] [
  ⟨.op (.mv (.slot 0)), none, none⟩, 
  ⟨.op (.mv (.slot 4)), none, none⟩, 
  ⟨.op (.iaddr 6 (.slot 7) (.slot 8)), none, none⟩, 
  ⟨.op (.load 6 true (.slot 9)), none, none⟩, 
  ⟨.op (.mv (.slot 1)), none, none⟩, 
  ⟨.call 65 [(.slot 10), (.slot 11)] false, none, none⟩, 
  ⟨.op (.asg (.slot 12)), some 1, none⟩]) c41_4)) c41_1
abbrev c41_6 : SCode := .cond (.slot 5) (.skip) (.exit 0)
abbrev b41_0 : SCode := .seq (.seq (.reg [12, 13, 14, 1030] [
  ⟨.op (.mv (.slot 4)), none, none⟩, 
  ⟨.op (.mv (.slot 0)), none, none⟩, 
  ⟨.op (.len false (.slot 8)), none, none⟩, 
  ⟨.op (.bin .lss (.slot 7) (.slot 9)), some 5, none⟩]) c41_6) c41_5
def l41_0 : SCode := .loop b41_0
abbrev c41_8 : SCode := .block 0 (l41_0)
abbrev c41_9 : SCode := .seq (.seq (.reg [1027] [
  ⟨.op (.asg (.con (.int .i64 0))), some 4, none⟩]) c41_8) c41_0
abbrev c41_10 : SCode := .seq (.reg [1027] [
  ⟨.op (.asg (.con (.int .i64 (-1)))), some 2, none⟩]) (.ret)
abbrev c41_11 : SCode := .cond (.slot 3) c41_10 (.skip)
abbrev c41_12 : SCode := .seq (.seq (.reg [10, 1028] [
  ⟨.op (.mv (.slot 1)), none, none⟩, 
  ⟨.op (.bin .lss (.slot 7) (.con (.int .i64 0))), some 3, none⟩]) c41_11) c41_9
abbrev c41_13 : SCode := .seq (.reg [6, 7, 8, 9, 1031] [
  ⟨.op (.mv (.slot 1)), none, none⟩, 
  ⟨.op (.mv (.slot 0)), none, none⟩, 
  ⟨.op (.len false (.slot 8)), none, none⟩, 
  ⟨.op (.bin .sub (.slot 7) (.slot 9)), none, none⟩, 
  ⟨.op (.asg (.slot 10)), some 1, none⟩]) c41_12
abbrev s41 : SCode := .seq (.reg [1027] [
  ⟨.op (.asg (.con (.int .i64 0))), some 2, none⟩]) c41_13
theorem ok41 : okFn Go.Proofs.Try.prog Go.Proofs.Try.f41 v41 s41 r41 2 = true := by kernel_rfl

def v42 : List Nat := [0, 2, 3, 4, 11]
def r42 : List SRes := [.tmp 1]
abbrev c42_0 : SCode := .seq (.reg [21, 1023] [
  ⟨.op (.mv (.slot 2)), none, none⟩, 
  ⟨.op (.asg (.slot 5)), some 1, none⟩]) (.ret)
abbrev c42_1 : SCode := .reg [12, 13, 1024] [
  ⟨.op (.mv (.slot 3)), none, none⟩, 
  ⟨.op (.bin .add (.slot 5) (.con (.int .i64 1))), none, none⟩, 
  ⟨.op (.asg (.slot 6)), some 3, none⟩]
abbrev c42_2 : SCode := .seq (.block 1 (.reg [14, 15, 16, 17, 18, 19, 20, 1029] [
  ⟨.op (.mv (.slot 2)), none, none⟩, 
  ⟨.op (.mv (.slot 3)), none, none⟩, 
  ⟨.op (.mv (.slot 0)), none, none⟩, 
  ⟨.op (.mv (.slot 3)), none, none⟩, 
  ⟨.op (.iaddr 1 (.slot 7) (.slot 8)), none, none⟩, 
  ⟨.op (.load 1 false (.slot 9)), none, none⟩, 
  ⟨.op (.iaddr 1 (.slot 5) (.slot 6)), none, none⟩, 
  ⟨.op (.store 1 false (.slot 11) (.slot 10)), none, none⟩])) c42_1
abbrev c42_3 : SCode := .cond (.slot 4) (.skip) (.exit 0)
abbrev b42_0 : SCode := .seq (.seq (.reg [8, 9, 10, 1025] [
  ⟨.op (.mv (.slot 3)), none, none⟩, 
  ⟨.op (.mv (.slot 0)), none, none⟩, 
  ⟨.op (.len false (.slot 6)), none, none⟩, 
  ⟨.op (.bin .lss (.slot 5) (.slot 7)), some 4, none⟩]) c42_3) c42_2
def l42_0 : SCode := .loop b42_0
abbrev c42_5 : SCode := .block 0 (l42_0)
abbrev c42_6 : SCode := .seq (.seq (.reg [1022] [
  ⟨.op (.asg (.con (.int .i64 0))), some 3, none⟩]) c42_5) c42_0
abbrev c42_7 : SCode := .seq (.reg [5, 6, 7, 1025] [
  ⟨.op (.mv (.slot 0)), none, none⟩, 
  ⟨.op (.len false (.slot 5)), none, none⟩, 
  ⟨.op (.mksl 3 [(.int .i64 0)] (.slot 6) (.slot 6)), none, none⟩, 
  ⟨.op (.asg (.slot 7)), some 2, none⟩]) c42_6
abbrev s42 : SCode := .seq (.reg [1022] [
  ⟨.op (.asg (.con (.osl 0 3 0 []))), some 1, none⟩]) c42_7
theorem ok42 : okFn Go.Proofs.Try.prog Go.Proofs.Try.f42 v42 s42 r42 1 = true := by kernel_rfl

def v43 : List Nat := [0, 2, 3, 4, 11]
def r43 : List SRes := [.tmp 1]
abbrev c43_0 : SCode := .seq (.reg [22, 1024] [
  ⟨.op (.mv (.slot 2)), none, none⟩, 
  ⟨.op (.asg (.slot 5)), some 1, none⟩]) (.ret)
abbrev c43_1 : SCode := .reg [12, 13, 1025] [
  ⟨.op (.mv (.slot 3)), none, none⟩, 
  ⟨.op (.bin .add (.slot 5) (.con (.int .i64 1))), none, none⟩, 
  ⟨.op (.asg (.slot 6)), some 3, none⟩]
abbrev c43_2 : SCode := .seq (.block 1 (.reg [14, 15, 16, 17, 18, 19, 20, 21, 1031] [
  ⟨.op (.mv (.slot 2)), none, none⟩, 
  ⟨.op (.mv (.slot 3)), none, none⟩, 
  ⟨.op (.mv (.slot 0)), none, none⟩, 
  ⟨.op (.mv (.slot 3)), none, none⟩, 
  ⟨.op (.iaddr 6 (.slot 7) (.slot 8)), none, none⟩, 
  ⟨.op (.load 6 true (.slot 9)), none, none⟩, 
  ⟨.call 66 [(.slot 10)] false, none, none⟩, 
  ⟨.op (.iaddr 6 (.slot 5) (.slot 6)), none, none⟩, 
  ⟨.op (.store 6 true (.slot 12) (.slot 11)), none, none⟩])) c43_1
abbrev c43_3 : SCode := .cond (.slot 4) (.skip) (.exit 0)
abbrev b43_0 : SCode := .seq (.seq (.reg [8, 9, 10, 1026] [
  ⟨.op (.mv (.slot 3)), none, none⟩, 
  ⟨.op (.mv (.slot 0)), none, none⟩, 
  ⟨.op (.len false (.slot 6)), none, none⟩, 
  ⟨.op (.bin .lss (.slot 5) (.slot 7)), some 4, none⟩]) c43_3) c43_2
def l43_0 : SCode := .loop b43_0
abbrev c43_5 : SCode := .block 0 (l43_0)
abbrev c43_6 : SCode := .seq (.seq (.reg [1023] [
  ⟨.op (.asg (.con (.int .i64 0))), some 3, none⟩]) c43_5) c43_0
abbrev c43_7 : SCode := .seq (.reg [5, 6, 7, 1026] [
  ⟨.op (.mv (.slot 0)), none, none⟩, 
  ⟨.op (.len false (.slot 5)), none, none⟩, 
  ⟨.op (.mksl 87 [(.int .i64 0), (.osl 0 3 0 []), (.osl 0 3 0 []), (.osl 0 124 0 []), (.bool false), (.bool false)] (.slot 6) (.slot 6)), none, none⟩, 
  ⟨.op (.asg (.slot 7)), some 2, none⟩]) c43_6
abbrev s43 : SCode := .seq (.reg [1023] [
  ⟨.op (.asg (.con (.osl 0 87 0 []))), some 1, none⟩]) c43_7
theorem ok43 : okFn Go.Proofs.Try.prog Go.Proofs.Try.f43 v43 s43 r43 1 = true := by kernel_rfl

def v44 : List Nat := [0, 1, 4, 10, 5, 14, 25]
def r44 : List SRes := [.tmp 2]
abbrev c44_0 : SCode := .seq (.reg [1026] [
  ⟨.op (.asg (.con (.bool true))), some 2, none⟩]) (.ret)
abbrev c44_1 : SCode := .reg [15, 16, 1028] [
  ⟨.op (.mv (.slot 4)), none, none⟩, 
  ⟨.op (.bin .add (.slot 7) (.con (.int .i64 1))), none, none⟩, 
  ⟨.op (.asg (.slot 8)), some 4, none⟩]
abbrev c44_2 : SCode := .seq (.reg [1026] [
  ⟨.op (.asg (.con (.bool false))), some 2, none⟩]) (.ret)
abbrev c44_3 : SCode := .cond (.slot 6) c44_2 (.skip)
abbrev c44_4 : SCode := .seq (.block 1 (.seq (.dreg [17, 18, 19, 20, 21, 22, 23, 24, 1034] [
  ⟨.op (.mv (.slot 0)), none, none⟩, 
  ⟨.op (.mv (.slot 4)), none, none⟩, 
  ⟨.op (.iaddr 1 (.slot 7) (.slot 8)), none, none⟩, 
  ⟨.op (.load 1 false (.slot 9)), none, none⟩, 
  ⟨.op (.mv (.slot 1)), none, none⟩, 
  ⟨.op (.mv (.slot 4)), none, none⟩, 
  ⟨.op (.iaddr 1 (.slot 11) (.slot 12)), none, none⟩, 
  ⟨.op (.load 1 false (.slot 13)), none, none⟩, 
  ⟨.op (.bin .neq (.slot 10) (.slot 14)), some 6, none⟩]
  [[], [], [0, 1], [0, 1, 2], [], [], [4, 5], [4, 5, 6], [0, 1, 2, 3, 4, 5, 6, 7]] 8 [] [([], none), ([false], none), ([true, true], none), ([true, true, true], none), ([false, false, false, false], none), ([false, false, false, false, false], none), ([false, false, false, false, true, true], none), ([false, false, false, false, true, true, true], none)] [true, true, true, true, true, true, true, true]) c44_3)) c44_1
abbrev c44_5 : SCode := .cond (.slot 5) (.skip) (.exit 0)
abbrev b44_0 : SCode := .seq (.seq (.reg [11, 12, 13, 1029] [
  ⟨.op (.mv (.slot 4)), none, none⟩, 
  ⟨.op (.mv (.slot 0)), none, none⟩, 
  ⟨.op (.len false (.slot 8)), none, none⟩, 
  ⟨.op (.bin .lss (.slot 7) (.slot 9)), some 5, none⟩]) c44_5) c44_4
def l44_0 : SCode := .loop b44_0
abbrev c44_7 : SCode := .block 0 (l44_0)
abbrev c44_8 : SCode := .seq (.seq (.reg [1026] [
  ⟨.op (.asg (.con (.int .i64 0))), some 4, none⟩]) c44_7) c44_0
abbrev c44_9 : SCode := .seq (.reg [1026] [
  ⟨.op (.asg (.con (.bool false))), some 2, none⟩]) (.ret)
abbrev c44_10 : SCode := .cond (.slot 3) c44_9 (.skip)
abbrev c44_11 : SCode := .seq (.seq (.reg [6, 7, 8, 9, 1030] [
  ⟨.op (.mv (.slot 0)), none, none⟩, 
  ⟨.op (.len false (.slot 7)), none, none⟩, 
  ⟨.op (.mv (.slot 1)), none, none⟩, 
  ⟨.op (.len false (.slot 9)), none, none⟩, 
  ⟨.op (.bin .neq (.slot 8) (.slot 10)), some 3, none⟩]) c44_10) c44_8
abbrev s44 : SCode := .seq (.reg [1026] [
  ⟨.op (.asg (.con (.bool false))), some 2, none⟩]) c44_11
theorem ok44 : okFn Go.Proofs.Try.prog Go.Proofs.Try.f44 v44 s44 r44 2 = true := by kernel_rfl

def v45 : List Nat := [0, 1, 4, 10, 5, 14, 26]
def r45 : List SRes := [.tmp 2]
abbrev c45_0 : SCode := .seq (.reg [1027] [
  ⟨.op (.asg (.con (.bool true))), some 2, none⟩]) (.ret)
abbrev c45_1 : SCode := .reg [15, 16, 1029] [
  ⟨.op (.mv (.slot 4)), none, none⟩, 
  ⟨.op (.bin .add (.slot 7) (.con (.int .i64 1))), none, none⟩, 
  ⟨.op (.asg (.slot 8)), some 4, none⟩]
abbrev c45_2 : SCode := .seq (.reg [1027] [
  ⟨.op (.asg (.con (.bool false))), some 2, none⟩]) (.ret)
abbrev c45_3 : SCode := .cond (.slot 6) c45_2 (.skip)
abbrev c45_4 : SCode := .seq (.block 1 (.seq (.dreg [17, 18, 19, 20, 21, 22, 23, 24, 25, 1036] [
  ⟨.op (.mv (.slot 0)), none, none⟩, 
  ⟨.op (.mv (.slot 4)), none, none⟩, 
  ⟨.op (.iaddr 6 (.slot 7) (.slot 8)), none, none⟩, 
  ⟨.op (.load 6 true (.slot 9)), none, none⟩, 
  ⟨.op (.mv (.slot 1)), none, none⟩, 
  ⟨.op (.mv (.slot 4)), none, none⟩, 
  ⟨.op (.iaddr 6 (.slot 11) (.slot 12)), none, none⟩, 
  ⟨.op (.load 6 true (.slot 13)), none, none⟩, 
  ⟨.call 67 [(.slot 10), (.slot 14)] false, none, none⟩, 
  ⟨.op (.not (.slot 15)), some 6, none⟩]
  [[], [], [0, 1], [0, 1, 2], [], [], [4, 5], [4, 5, 6], [0, 1, 2, 3, 4, 5, 6, 7], [0, 1, 2, 3, 4, 5, 6, 7, 8]] 9 [] [([], none), ([false], none), ([true, true], none), ([true, true, true], none), ([false, false, false, false], none), ([false, false, false, false, false], none), ([false, false, false, false, true, true], none), ([false, false, false, false, true, true, true], none), ([true, true, true, true, true, true, true, true], none)] [true, true, true, true, true, true, true, true, true]) c45_3)) c45_1
abbrev c45_5 : SCode := .cond (.slot 5) (.skip) (.exit 0)
abbrev b45_0 : SCode := .seq (.seq (.reg [11, 12, 13, 1030] [
  ⟨.op (.mv (.slot 4)), none, none⟩, 
  ⟨.op (.mv (.slot 0)), none, none⟩, 
  ⟨.op (.len false (.slot 8)), none, none⟩, 
  ⟨.op (.bin .lss (.slot 7) (.slot 9)), some 5, none⟩]) c45_5) c45_4
def l45_0 : SCode := .loop b45_0
abbrev c45_7 : SCode := .block 0 (l45_0)
abbrev c45_8 : SCode := .seq (.seq (.reg [1027] [
  ⟨.op (.asg (.con (.int .i64 0))), some 4, none⟩]) c45_7) c45_0
abbrev c45_9 : SCode := .seq (.reg [1027] [
  ⟨.op (.asg (.con (.bool false))), some 2, none⟩]) (.ret)
abbrev c45_10 : SCode := .cond (.slot 3) c45_9 (.skip)
abbrev c45_11 : SCode := .seq (.seq (.reg [6, 7, 8, 9, 1031] [
  ⟨.op (.mv (.slot 0)), none, none⟩, 
  ⟨.op (.len false (.slot 7)), none, none⟩, 
  ⟨.op (.mv (.slot 1)), none, none⟩, 
  ⟨.op (.len false (.slot 9)), none, none⟩, 
  ⟨.op (.bin .neq (.slot 8) (.slot 10)), some 3, none⟩]) c45_10) c45_8
abbrev s45 : SCode := .seq (.reg [1027] [
  ⟨.op (.asg (.con (.bool false))), some 2, none⟩]) c45_11
theorem ok45 : okFn Go.Proofs.Try.prog Go.Proofs.Try.f45 v45 s45 r45 2 = true := by kernel_rfl

def v65 : List Nat := [0, 1, 2, 4, 10, 16, 22]
def r65 : List SRes := [.tmp 3]
abbrev c65_0 : SCode := .seq (.reg [23, 1025] [
  ⟨.op (.mv (.slot 1)), none, none⟩, 
  ⟨.op (.asg (.slot 7)), some 3, none⟩]) (.ret)
abbrev c65_1 : SCode := .seq (.reg [1024] [
  ⟨.op (.asg (.con (.int .i64 (-1)))), some 3, none⟩]) (.ret)
abbrev c65_2 : SCode := .cond (.slot 6) c65_1 (.skip)
abbrev c65_3 : SCode := .seq (.seq (.reg [21, 1025] [
  ⟨.op (.mv (.slot 1)), none, none⟩, 
  ⟨.op (.bin .lss (.slot 7) (.con (.int .i64 0))), some 6, none⟩]) c65_2) c65_0
abbrev c65_4 : SCode := .seq (.reg [17, 18, 19, 20, 1028] [
  ⟨.op (.faddr 3 (.slot 2)), none, none⟩, 
  ⟨.op (.load 1 false (.slot 7)), none, none⟩, 
  ⟨.op (.mv (.slot 1)), none, none⟩, 
  ⟨.call 79 [(.slot 8), (.slot 9)] false, none, none⟩, 
  ⟨.op (.asg (.slot 10)), some 1, none⟩]) c65_3
abbrev c65_5 : SCode := .seq (.reg [1024] [
  ⟨.op (.asg (.con (.int .i64 (-1)))), some 3, none⟩]) (.ret)
abbrev c65_6 : SCode := .cond (.slot 5) c65_5 (.skip)
abbrev c65_7 : SCode := .seq (.seq (.reg [15, 1025] [
  ⟨.op (.mv (.slot 1)), none, none⟩, 
  ⟨.op (.bin .lss (.slot 7) (.con (.int .i64 0))), some 5, none⟩]) c65_6) c65_4
abbrev c65_8 : SCode := .seq (.reg [11, 12, 13, 14, 1028] [
  ⟨.op (.faddr 2 (.slot 2)), none, none⟩, 
  ⟨.op (.load 1 false (.slot 7)), none, none⟩, 
  ⟨.op (.mv (.slot 1)), none, none⟩, 
  ⟨.call 40 [(.slot 8), (.slot 9)] false, none, none⟩, 
  ⟨.op (.asg (.slot 10)), some 1, none⟩]) c65_7
abbrev c65_9 : SCode := .seq (.reg [1024] [
  ⟨.op (.asg (.con (.int .i64 (-1)))), some 3, none⟩]) (.ret)
abbrev c65_10 : SCode := .cond (.slot 4) c65_9 (.skip)
abbrev c65_11 : SCode := .seq (.seq (.reg [9, 1025] [
  ⟨.op (.mv (.slot 1)), none, none⟩, 
  ⟨.op (.bin .lss (.slot 7) (.con (.int .i64 0))), some 4, none⟩]) c65_10) c65_8
abbrev c65_12 : SCode := .seq (.reg [5, 6, 7, 8, 1028] [
  ⟨.op (.faddr 1 (.slot 2)), none, none⟩, 
  ⟨.op (.load 1 false (.slot 7)), none, none⟩, 
  ⟨.op (.mv (.slot 1)), none, none⟩, 
  ⟨.call 40 [(.slot 8), (.slot 9)] false, none, none⟩, 
  ⟨.op (.asg (.slot 10)), some 1, none⟩]) c65_11
abbrev s65 : SCode := .seq (.reg [1024, 1025] [
  ⟨.op (.box 107 6 (.slot 0)), some 2, none⟩, 
  ⟨.op (.asg (.con (.int .i64 0))), some 3, none⟩]) c65_12
theorem ok65 : okFn Go.Proofs.Try.prog Go.Proofs.Try.f65 v65 s65 r65 2 = true := by kernel_rfl

def v66 : List Nat := [0, 1, 2, 3]
def r66 : List SRes := [.cell 2 6 true]
abbrev c66_0 : SCode := .seq (.reg [25, 1027] [
  ⟨.op (.load 6 true (.slot 3)), none, none⟩, 
  ⟨.op (.store 6 true (.slot 2) (.slot 4)), none, none⟩]) (.ret)
abbrev c66_1 : SCode := .seq (.reg [22, 23, 24, 1029] [
  ⟨.op (.faddr 5 (.slot 1)), none, none⟩, 
  ⟨.op (.load 1 false (.slot 4)), none, none⟩, 
  ⟨.op (.faddr 5 (.slot 3)), none, none⟩, 
  ⟨.op (.store 1 false (.slot 6) (.slot 5)), none, none⟩]) c66_0
abbrev c66_2 : SCode := .seq (.reg [19, 20, 21, 1029] [
  ⟨.op (.faddr 4 (.slot 1)), none, none⟩, 
  ⟨.op (.load 1 false (.slot 4)), none, none⟩, 
  ⟨.op (.faddr 4 (.slot 3)), none, none⟩, 
  ⟨.op (.store 1 false (.slot 6) (.slot 5)), none, none⟩]) c66_1
abbrev c66_3 : SCode := .seq (.reg [15, 16, 17, 18, 1030] [
  ⟨.op (.faddr 3 (.slot 1)), none, none⟩, 
  ⟨.op (.load 1 false (.slot 4)), none, none⟩, 
  ⟨.call 80 [(.slot 5)] false, none, none⟩, 
  ⟨.op (.faddr 3 (.slot 3)), none, none⟩, 
  ⟨.op (.store 1 true (.slot 7) (.slot 6)), none, none⟩]) c66_2
abbrev c66_4 : SCode := .seq (.reg [11, 12, 13, 14, 1030] [
  ⟨.op (.faddr 2 (.slot 1)), none, none⟩, 
  ⟨.op (.load 1 false (.slot 4)), none, none⟩, 
  ⟨.call 42 [(.slot 5)] false, none, none⟩, 
  ⟨.op (.faddr 2 (.slot 3)), none, none⟩, 
  ⟨.op (.store 1 true (.slot 7) (.slot 6)), none, none⟩]) c66_3
abbrev c66_5 : SCode := .seq (.reg [7, 8, 9, 10, 1030] [
  ⟨.op (.faddr 1 (.slot 1)), none, none⟩, 
  ⟨.op (.load 1 false (.slot 4)), none, none⟩, 
  ⟨.call 42 [(.slot 5)] false, none, none⟩, 
  ⟨.op (.faddr 1 (.slot 3)), none, none⟩, 
  ⟨.op (.store 1 true (.slot 7) (.slot 6)), none, none⟩]) c66_4
abbrev c66_6 : SCode := .seq (.reg [4, 5, 6, 1029] [
  ⟨.op (.faddr 0 (.slot 1)), none, none⟩, 
  ⟨.op (.load 1 false (.slot 4)), none, none⟩, 
  ⟨.op (.faddr 0 (.slot 3)), none, none⟩, 
  ⟨.op (.store 1 false (.slot 6) (.slot 5)), none, none⟩]) c66_5
abbrev c66_7 : SCode := .seq (.reg [1026] [
  ⟨.op (.mk 87 [(.int .i64 0), (.osl 0 3 0 []), (.osl 0 3 0 []), (.osl 0 124 0 []), (.bool false), (.bool false)]), some 3, none⟩]) c66_6
abbrev s66 : SCode := .seq (.reg [1026, 1027] [
  ⟨.op (.box 107 6 (.slot 0)), some 1, none⟩, 
  ⟨.op (.mk 87 [(.int .i64 0), (.osl 0 3 0 []), (.osl 0 3 0 []), (.osl 0 124 0 []), (.bool false), (.bool false)]), some 2, none⟩]) c66_7
theorem ok66 : okFn Go.Proofs.Try.prog Go.Proofs.Try.f66 v66 s66 r66 1 = true := by kernel_rfl

def v67 : List Nat := [0, 1, 2, 3, 4, 9, 15, 21, 27, 32, 37]
def r67 : List SRes := [.tmp 4]
abbrev c67_0 : SCode := .seq (.reg [1038] [
  ⟨.op (.asg (.con (.bool true))), some 4, none⟩]) (.ret)
abbrev c67_1 : SCode := .seq (.reg [1038] [
  ⟨.op (.asg (.con (.bool false))), some 4, none⟩]) (.ret)
abbrev c67_2 : SCode := .cond (.slot 10) c67_1 (.skip)
abbrev c67_3 : SCode := .seq (.seq (.reg [33, 34, 35, 36, 1042] [
  ⟨.op (.faddr 5 (.slot 2)), none, none⟩, 
  ⟨.op (.load 1 false (.slot 11)), none, none⟩, 
  ⟨.op (.faddr 5 (.slot 3)), none, none⟩, 
  ⟨.op (.load 1 false (.slot 13)), none, none⟩, 
  ⟨.op (.beq true (.slot 12) (.slot 14)), some 10, none⟩]) c67_2) c67_0
abbrev c67_4 : SCode := .seq (.reg [1038] [
  ⟨.op (.asg (.con (.bool false))), some 4, none⟩]) (.ret)
abbrev c67_5 : SCode := .cond (.slot 9) c67_4 (.skip)
abbrev c67_6 : SCode := .seq (.seq (.reg [28, 29, 30, 31, 1042] [
  ⟨.op (.faddr 4 (.slot 2)), none, none⟩, 
  ⟨.op (.load 1 false (.slot 11)), none, none⟩, 
  ⟨.op (.faddr 4 (.slot 3)), none, none⟩, 
  ⟨.op (.load 1 false (.slot 13)), none, none⟩, 
  ⟨.op (.beq true (.slot 12) (.slot 14)), some 9, none⟩]) c67_5) c67_3
abbrev c67_7 : SCode := .seq (.reg [1038] [
  ⟨.op (.asg (.con (.bool false))), some 4, none⟩]) (.ret)
abbrev c67_8 : SCode := .cond (.slot 8) c67_7 (.skip)
abbrev c67_9 : SCode := .seq (.seq (.reg [22, 23, 24, 25, 26, 1043] [
  ⟨.op (.faddr 3 (.slot 2)), none, none⟩, 
  ⟨.op (.load 1 false (.slot 11)), none, none⟩, 
  ⟨.op (.faddr 3 (.slot 3)), none, none⟩, 
  ⟨.op (.load 1 false (.slot 13)), none, none⟩, 
  ⟨.call 81 [(.slot 12), (.slot 14)] false, none, none⟩, 
  ⟨.op (.not (.slot 15)), some 8, none⟩]) c67_8) c67_6
abbrev c67_10 : SCode := .seq (.reg [1038] [
  ⟨.op (.asg (.con (.bool false))), some 4, none⟩]) (.ret)
abbrev c67_11 : SCode := .cond (.slot 7) c67_10 (.skip)
abbrev c67_12 : SCode := .seq (.seq (.reg [16, 17, 18, 19, 20, 1043] [
  ⟨.op (.faddr 2 (.slot 2)), none, none⟩, 
  ⟨.op (.load 1 false (.slot 11)), none, none⟩, 
  ⟨.op (.faddr 2 (.slot 3)), none, none⟩, 
  ⟨.op (.load 1 false (.slot 13)), none, none⟩, 
  ⟨.call 44 [(.slot 12), (.slot 14)] false, none, none⟩, 
  ⟨.op (.not (.slot 15)), some 7, none⟩]) c67_11) c67_9
abbrev c67_13 : SCode := .seq (.reg [1038] [
  ⟨.op (.asg (.con (.bool false))), some 4, none⟩]) (.ret)
abbrev c67_14 : SCode := .cond (.slot 6) c67_13 (.skip)
abbrev c67_15 : SCode := .seq (.seq (.reg [10, 11, 12, 13, 14, 1043] [
  ⟨.op (.faddr 1 (.slot 2)), none, none⟩, 
  ⟨.op (.load 1 false (.slot 11)), none, none⟩, 
  ⟨.op (.faddr 1 (.slot 3)), none, none⟩, 
  ⟨.op (.load 1 false (.slot 13)), none, none⟩, 
  ⟨.call 44 [(.slot 12), (.slot 14)] false, none, none⟩, 
  ⟨.op (.not (.slot 15)), some 6, none⟩]) c67_14) c67_12
abbrev c67_16 : SCode := .seq (.reg [1038] [
  ⟨.op (.asg (.con (.bool false))), some 4, none⟩]) (.ret)
abbrev c67_17 : SCode := .cond (.slot 5) c67_16 (.skip)
abbrev c67_18 : SCode := .seq (.seq (.reg [5, 6, 7, 8, 1042] [
  ⟨.op (.faddr 0 (.slot 2)), none, none⟩, 
  ⟨.op (.load 1 false (.slot 11)), none, none⟩, 
  ⟨.op (.faddr 0 (.slot 3)), none, none⟩, 
  ⟨.op (.load 1 false (.slot 13)), none, none⟩, 
  ⟨.op (.bin .neq (.slot 12) (.slot 14)), some 5, none⟩]) c67_17) c67_15
abbrev s67 : SCode := .seq (.reg [1038, 1039, 1040] [
  ⟨.op (.box 87 6 (.slot 0)), some 2, none⟩, 
  ⟨.op (.box 87 6 (.slot 1)), some 3, none⟩, 
  ⟨.op (.asg (.con (.bool false))), some 4, none⟩]) c67_18
theorem ok67 : okFn Go.Proofs.Try.prog Go.Proofs.Try.f67 v67 s67 r67 2 = true := by kernel_rfl

def v79 : List Nat := [0, 1, 4, 10]
def r79 : List SRes := [.tmp 2]
abbrev c79_0 : SCode := .seq (.reg [11, 1013] [
  ⟨.op (.mv (.slot 1)), none, none⟩, 
  ⟨.op (.asg (.slot 4)), some 2, none⟩]) (.ret)
abbrev c79_1 : SCode := .seq (.reg [1012] [
  ⟨.op (.asg (.con (.int .i64 (-1)))), some 2, none⟩]) (.ret)
abbrev c79_2 : SCode := .cond (.slot 3) c79_1 (.skip)
abbrev c79_3 : SCode := .seq (.seq (.reg [9, 1013] [
  ⟨.op (.mv (.slot 1)), none, none⟩, 
  ⟨.op (.bin .lss (.slot 4) (.con (.int .i64 0))), some 3, none⟩]) c79_2) c79_0
abbrev c79_4 : SCode := .seq (.reg [5, 6, 7, 8, 1016] [
  ⟨.op (.mv (.slot 1)), none, none⟩, 
  ⟨.op (.mv (.slot 0)), none, none⟩, 
  ⟨.op (.len false (.slot 5)), none, none⟩, 
  ⟨.op (.bin .sub (.slot 4) (.slot 6)), none, none⟩, 
  ⟨.op (.asg (.slot 7)), some 1, none⟩]) c79_3
abbrev s79 : SCode := .seq (.reg [1012] [
  ⟨.op (.asg (.con (.int .i64 0))), some 2, none⟩]) c79_4
theorem ok79 : okFn Go.Proofs.Try.prog Go.Proofs.Try.f79 v79 s79 r79 2 = true := by kernel_rfl

def v80 : List Nat := [0, 2, 3, 4, 11]
def r80 : List SRes := [.tmp 1]
abbrev c80_0 : SCode := .seq (.reg [22, 1024] [
  ⟨.op (.mv (.slot 2)), none, none⟩, 
  ⟨.op (.asg (.slot 5)), some 1, none⟩]) (.ret)
abbrev c80_1 : SCode := .reg [12, 13, 1025] [
  ⟨.op (.mv (.slot 3)), none, none⟩, 
  ⟨.op (.bin .add (.slot 5) (.con (.int .i64 1))), none, none⟩, 
  ⟨.op (.asg (.slot 6)), some 3, none⟩]
abbrev c80_2 : SCode := .seq (.block 1 (.reg [14, 15, 16, 17, 18, 19, 20, 21, 1031] [
  ⟨.op (.mv (.slot 2)), none, none⟩, 
  ⟨.op (.mv (.slot 3)), none, none⟩, 
  ⟨.op (.mv (.slot 0)), none, none⟩, 
  ⟨.op (.mv (.slot 3)), none, none⟩, 
  ⟨.op (.iaddr 2 (.slot 7) (.slot 8)), none, none⟩, 
  ⟨.op (.load 2 true (.slot 9)), none, none⟩, 
  ⟨.call 84 [(.slot 10)] false, none, none⟩, 
  ⟨.op (.iaddr 2 (.slot 5) (.slot 6)), none, none⟩, 
  ⟨.op (.store 2 false (.slot 12) (.slot 11)), none, none⟩])) c80_1
abbrev c80_3 : SCode := .cond (.slot 4) (.skip) (.exit 0)
abbrev b80_0 : SCode := .seq (.seq (.reg [8, 9, 10, 1026] [
  ⟨.op (.mv (.slot 3)), none, none⟩, 
  ⟨.op (.mv (.slot 0)), none, none⟩, 
  ⟨.op (.len false (.slot 6)), none, none⟩, 
  ⟨.op (.bin .lss (.slot 5) (.slot 7)), some 4, none⟩]) c80_3) c80_2
def l80_0 : SCode := .loop b80_0
abbrev c80_5 : SCode := .block 0 (l80_0)
abbrev c80_6 : SCode := .seq (.seq (.reg [1023] [
  ⟨.op (.asg (.con (.int .i64 0))), some 3, none⟩]) c80_5) c80_0
abbrev c80_7 : SCode := .seq (.reg [5, 6, 7, 1026] [
  ⟨.op (.mv (.slot 0)), none, none⟩, 
  ⟨.op (.len false (.slot 5)), none, none⟩, 
  ⟨.op (.mksl 124 [(.int .i64 0), (.int .i64 0)] (.slot 6) (.slot 6)), none, none⟩, 
  ⟨.op (.asg (.slot 7)), some 2, none⟩]) c80_6
abbrev s80 : SCode := .seq (.reg [1023] [
  ⟨.op (.asg (.con (.osl 0 124 0 []))), some 1, none⟩]) c80_7
theorem ok80 : okFn Go.Proofs.Try.prog Go.Proofs.Try.f80 v80 s80 r80 1 = true := by kernel_rfl

def v81 : List Nat := [0, 1, 4, 10, 5, 14, 26]
def r81 : List SRes := [.tmp 2]
abbrev c81_0 : SCode := .seq (.reg [1027] [
  ⟨.op (.asg (.con (.bool true))), some 2, none⟩]) (.ret)
abbrev c81_1 : SCode := .reg [15, 16, 1029] [
  ⟨.op (.mv (.slot 4)), none, none⟩, 
  ⟨.op (.bin .add (.slot 7) (.con (.int .i64 1))), none, none⟩, 
  ⟨.op (.asg (.slot 8)), some 4, none⟩]
abbrev c81_2 : SCode := .seq (.reg [1027] [
  ⟨.op (.asg (.con (.bool false))), some 2, none⟩]) (.ret)
abbrev c81_3 : SCode := .cond (.slot 6) c81_2 (.skip)
abbrev c81_4 : SCode := .seq (.block 1 (.seq (.dreg [17, 18, 19, 20, 21, 22, 23, 24, 25, 1036] [
  ⟨.op (.mv (.slot 0)), none, none⟩, 
  ⟨.op (.mv (.slot 4)), none, none⟩, 
  ⟨.op (.iaddr 2 (.slot 7) (.slot 8)), none, none⟩, 
  ⟨.op (.load 2 true (.slot 9)), none, none⟩, 
  ⟨.op (.mv (.slot 1)), none, none⟩, 
  ⟨.op (.mv (.slot 4)), none, none⟩, 
  ⟨.op (.iaddr 2 (.slot 11) (.slot 12)), none, none⟩, 
  ⟨.op (.load 2 true (.slot 13)), none, none⟩, 
  ⟨.call 85 [(.slot 10), (.slot 14)] false, none, none⟩, 
  ⟨.op (.not (.slot 15)), some 6, none⟩]
  [[], [], [0, 1], [0, 1, 2], [], [], [4, 5], [4, 5, 6], [0, 1, 2, 3, 4, 5, 6, 7], [0, 1, 2, 3, 4, 5, 6, 7, 8]] 9 [] [([], none), ([false], none), ([true, true], none), ([true, true, true], none), ([false, false, false, false], none), ([false, false, false, false, false], none), ([false, false, false, false, true, true], none), ([false, false, false, false, true, true, true], none), ([true, true, true, true, true, true, true, true], none)] [true, true, true, true, true, true, true, true, true]) c81_3)) c81_1
abbrev c81_5 : SCode := .cond (.slot 5) (.skip) (.exit 0)
abbrev b81_0 : SCode := .seq (.seq (.reg [11, 12, 13, 1030] [
  ⟨.op (.mv (.slot 4)), none, none⟩, 
  ⟨.op (.mv (.slot 0)), none, none⟩, 
  ⟨.op (.len false (.slot 8)), none, none⟩, 
  ⟨.op (.bin .lss (.slot 7) (.slot 9)), some 5, none⟩]) c81_5) c81_4
def l81_0 : SCode := .loop b81_0
abbrev c81_7 : SCode := .block 0 (l81_0)
abbrev c81_8 : SCode := .seq (.seq (.reg [1027] [
  ⟨.op (.asg (.con (.int .i64 0))), some 4, none⟩]) c81_7) c81_0
abbrev c81_9 : SCode := .seq (.reg [1027] [
  ⟨.op (.asg (.con (.bool false))), some 2, none⟩]) (.ret)
abbrev c81_10 : SCode := .cond (.slot 3) c81_9 (.skip)
abbrev c81_11 : SCode := .seq (.seq (.reg [6, 7, 8, 9, 1031] [
  ⟨.op (.mv (.slot 0)), none, none⟩, 
  ⟨.op (.len false (.slot 7)), none, none⟩, 
  ⟨.op (.mv (.slot 1)), none, none⟩, 
  ⟨.op (.len false (.slot 9)), none, none⟩, 
  ⟨.op (.bin .neq (.slot 8) (.slot 10)), some 3, none⟩]) c81_10) c81_8
abbrev s81 : SCode := .seq (.reg [1027] [
  ⟨.op (.asg (.con (.bool false))), some 2, none⟩]) c81_11
theorem ok81 : okFn Go.Proofs.Try.prog Go.Proofs.Try.f81 v81 s81 r81 2 = true := by kernel_rfl

def v84 : List Nat := [0, 1, 2, 3]
def r84 : List SRes := [.cell 2 2 true]
abbrev c84_0 : SCode := .seq (.reg [10, 1012] [
  ⟨.op (.load 2 true (.slot 3)), none, none⟩, 
  ⟨.op (.store 2 false (.slot 2) (.slot 4)), none, none⟩]) (.ret)
abbrev c84_1 : SCode := .seq (.reg [7, 8, 9, 1014] [
  ⟨.op (.faddr 1 (.slot 1)), none, none⟩, 
  ⟨.op (.load 1 false (.slot 4)), none, none⟩, 
  ⟨.op (.faddr 1 (.slot 3)), none, none⟩, 
  ⟨.op (.store 1 false (.slot 6) (.slot 5)), none, none⟩]) c84_0
abbrev c84_2 : SCode := .seq (.reg [4, 5, 6, 1014] [
  ⟨.op (.faddr 0 (.slot 1)), none, none⟩, 
  ⟨.op (.load 1 false (.slot 4)), none, none⟩, 
  ⟨.op (.faddr 0 (.slot 3)), none, none⟩, 
  ⟨.op (.store 1 false (.slot 6) (.slot 5)), none, none⟩]) c84_1
abbrev c84_3 : SCode := .seq (.reg [1011] [
  ⟨.op (.mk 124 [(.int .i64 0), (.int .i64 0)]), some 3, none⟩]) c84_2
abbrev s84 : SCode := .seq (.reg [1011, 1012] [
  ⟨.op (.box 126 2 (.slot 0)), some 1, none⟩, 
  ⟨.op (.mk 124 [(.int .i64 0), (.int .i64 0)]), some 2, none⟩]) c84_3
theorem ok84 : okFn Go.Proofs.Try.prog Go.Proofs.Try.f84 v84 s84 r84 1 = true := by kernel_rfl

def v85 : List Nat := [0, 1, 2, 3, 4, 9, 14]
def r85 : List SRes := [.tmp 4]
abbrev c85_0 : SCode := .seq (.reg [1015] [
  ⟨.op (.asg (.con (.bool true))), some 4, none⟩]) (.ret)
abbrev c85_1 : SCode := .seq (.reg [1015] [
  ⟨.op (.asg (.con (.bool false))), some 4, none⟩]) (.ret)
abbrev c85_2 : SCode := .cond (.slot 6) c85_1 (.skip)
abbrev c85_3 : SCode := .seq (.seq (.reg [10, 11, 12, 13, 1019] [
  ⟨.op (.faddr 1 (.slot 2)), none, none⟩, 
  ⟨.op (.load 1 false (.slot 7)), none, none⟩, 
  ⟨.op (.faddr 1 (.slot 3)), none, none⟩, 
  ⟨.op (.load 1 false (.slot 9)), none, none⟩, 
  ⟨.op (.bin .neq (.slot 8) (.slot 10)), some 6, none⟩]) c85_2) c85_0
abbrev c85_4 : SCode := .seq (.reg [1015] [
  ⟨.op (.asg (.con (.bool false))), some 4, none⟩]) (.ret)
abbrev c85_5 : SCode := .cond (.slot 5) c85_4 (.skip)
abbrev c85_6 : SCode := .seq (.seq (.reg [5, 6, 7, 8, 1019] [
  ⟨.op (.faddr 0 (.slot 2)), none, none⟩, 
  ⟨.op (.load 1 false (.slot 7)), none, none⟩, 
  ⟨.op (.faddr 0 (.slot 3)), none, none⟩, 
  ⟨.op (.load 1 false (.slot 9)), none, none⟩, 
  ⟨.op (.bin .neq (.slot 8) (.slot 10)), some 5, none⟩]) c85_5) c85_3
abbrev s85 : SCode := .seq (.reg [1015, 1016, 1017] [
  ⟨.op (.box 124 2 (.slot 0)), some 2, none⟩, 
  ⟨.op (.box 124 2 (.slot 1)), some 3, none⟩, 
  ⟨.op (.asg (.con (.bool false))), some 4, none⟩]) c85_6
theorem ok85 : okFn Go.Proofs.Try.prog Go.Proofs.Try.f85 v85 s85 r85 2 = true := by kernel_rfl

end Go.AmC
