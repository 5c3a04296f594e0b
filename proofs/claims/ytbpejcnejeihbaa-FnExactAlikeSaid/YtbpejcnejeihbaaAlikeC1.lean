/- Part of a proof: see the last text of this folder. -/
import Derived.Test.YtbpejcnejeihbaaAlikeC0
import Derived.KernelRfl
import Derived.Test.YtbpejcnejeihbaaProg
set_option maxRecDepth 100000
namespace Go.AmC
open Go Go.AM
def v133 : List Nat := [0, 2, 4, 8, 14]
def r133 : List SRes := [.tmp 1]
abbrev c133_0 : SCode := .seq (.reg [19, 20, 21, 22, 23, 24, 1031] [
  ⟨.op (.mv (.slot 1)), none, none⟩, 
  ⟨.op (.mv (.slot 0)), none, none⟩, 
  ⟨.op (.conv .u8 (.slot 6)), none, none⟩, 
  ⟨.op (.idx (.con (.str [0, 1, 2, 2, 3, 3, 3, 3, 4, 4, 4, 4, 4, 4, 4, 4, 5, 5, 5, 5, 5, 5, 5, 5, 5, 5, 5, 5, 5, 5, 5, 5, 6, 6, 6, 6, 6, 6, 6, 6, 6, 6, 6, 6, 6, 6, 6, 6, 6, 6, 6, 6, 6, 6, 6, 6, 6, 6, 6, 6, 6, 6, 6, 6, 7, 7, 7, 7, 7, 7, 7, 7, 7, 7, 7, 7, 7, 7, 7, 7, 7, 7, 7, 7, 7, 7, 7, 7, 7, 7, 7, 7, 7, 7, 7, 7, 7, 7, 7, 7, 7, 7, 7, 7, 7, 7, 7, 7, 7, 7, 7, 7, 7, 7, 7, 7, 7, 7, 7, 7, 7, 7, 7, 7, 7, 7, 7, 7, 8, 8, 8, 8, 8, 8, 8, 8, 8, 8, 8, 8, 8, 8, 8, 8, 8, 8, 8, 8, 8, 8, 8, 8, 8, 8, 8, 8, 8, 8, 8, 8, 8, 8, 8, 8, 8, 8, 8, 8, 8, 8, 8, 8, 8, 8, 8, 8, 8, 8, 8, 8, 8, 8, 8, 8, 8, 8, 8, 8, 8, 8, 8, 8, 8, 8, 8, 8, 8, 8, 8, 8, 8, 8, 8, 8, 8, 8, 8, 8, 8, 8, 8, 8, 8, 8, 8, 8, 8, 8, 8, 8, 8, 8, 8, 8, 8, 8, 8, 8, 8, 8, 8, 8, 8, 8, 8, 8, 8, 8, 8, 8, 8, 8, 8, 8, 8, 8, 8, 8, 8, 8, 8, 8, 8, 8, 8, 8])) (.slot 7)), none, none⟩, 
  ⟨.op (.conv .i64 (.slot 8)), none, none⟩, 
  ⟨.op (.bin .add (.slot 5) (.slot 9)), none, none⟩, 
  ⟨.op (.asg (.slot 10)), some 1, none⟩]) (.ret)
abbrev c133_1 : SCode := .reg [17, 18, 1027] [
  ⟨.op (.mv (.slot 1)), none, none⟩, 
  ⟨.op (.bin .add (.slot 5) (.con (.int .i64 8))), none, none⟩, 
  ⟨.op (.asg (.slot 6)), some 1, none⟩]
abbrev c133_2 : SCode := .seq (.bad ) c133_1
abbrev c133_3 : SCode := .cond (.slot 4) c133_2 (.skip)
abbrev c133_4 : SCode := .seq (.seq (.reg [13, 1026] [
  ⟨.op (.mv (.slot 0)), none, none⟩, 
  ⟨.op (.bin .geq (.slot 5) (.con (.int .u64 256))), some 4, none⟩]) c133_3) c133_0
abbrev c133_5 : SCode := .reg [11, 12, 1027] [
  ⟨.op (.mv (.slot 1)), none, none⟩, 
  ⟨.op (.bin .add (.slot 5) (.con (.int .i64 16))), none, none⟩, 
  ⟨.op (.asg (.slot 6)), some 1, none⟩]
abbrev c133_6 : SCode := .seq (.bad ) c133_5
abbrev c133_7 : SCode := .cond (.slot 3) c133_6 (.skip)
abbrev c133_8 : SCode := .seq (.seq (.reg [7, 1026] [
  ⟨.op (.mv (.slot 0)), none, none⟩, 
  ⟨.op (.bin .geq (.slot 5) (.con (.int .u64 65536))), some 3, none⟩]) c133_7) c133_4
abbrev c133_9 : SCode := .reg [1025] [
  ⟨.op (.asg (.con (.int .i64 32))), some 1, none⟩]
abbrev c133_10 : SCode := .seq (.bad ) c133_9
abbrev c133_11 : SCode := .cond (.slot 2) c133_10 (.skip)
abbrev c133_12 : SCode := .seq (.seq (.reg [3, 1026] [
  ⟨.op (.mv (.slot 0)), none, none⟩, 
  ⟨.op (.bin .geq (.slot 5) (.con (.int .u64 4294967296))), some 2, none⟩]) c133_11) c133_8
abbrev s133 : SCode := .seq (.reg [1025] [
  ⟨.op (.asg (.con (.int .i64 0))), some 1, none⟩]) c133_12
theorem ok133 : okFn Go.Proofs.Try.prog Go.Proofs.Try.f133 v133 s133 r133 1 = true := by kernel_rfl

def v134 : List Nat := [0, 1, 2, 3, 4, 10, 11, 18, 40, 58]
def r134 : List SRes := []
abbrev c134_0 : SCode := .reg [81, 1083] [
  ⟨.op (.mv (.slot 6)), none, none⟩, 
  ⟨.op (.asg (.slot 10)), some 5, none⟩]
abbrev c134_1 : SCode := .seq (.bad ) c134_0
abbrev c134_2 : SCode := .cond (.slot 9) (.ret) (.skip)
abbrev c134_3 : SCode := .seq (.seq (.dreg [43, 44, 45, 46, 47, 48, 49, 50, 51, 52, 53, 54, 55, 56, 57, 1097] [
  ⟨.op (.mv (.slot 4)), none, none⟩, 
  ⟨.op (.mv (.slot 0)), none, none⟩, 
  ⟨.op (.mv (.slot 3)), none, none⟩, 
  ⟨.op (.mv (.slot 5)), none, none⟩, 
  ⟨.op (.bin .add (.slot 12) (.slot 13)), none, none⟩, 
  ⟨.op (.iaddr 2 (.slot 11) (.slot 14)), none, none⟩, 
  ⟨.op (.load 2 true (.slot 15)), none, none⟩, 
  ⟨.op (.mv (.slot 0)), none, none⟩, 
  ⟨.op (.mv (.slot 3)), none, none⟩, 
  ⟨.op (.mv (.slot 6)), none, none⟩, 
  ⟨.op (.bin .add (.slot 18) (.slot 19)), none, none⟩, 
  ⟨.op (.iaddr 2 (.slot 17) (.slot 20)), none, none⟩, 
  ⟨.op (.load 2 true (.slot 21)), none, none⟩, 
  ⟨.callv (.slot 10) [(.slot 16), (.slot 22)], none, none⟩, 
  ⟨.op (.bin .lss (.slot 23) (.con (.int .i64 0))), none, none⟩, 
  ⟨.op (.not (.slot 24)), some 9, none⟩]
  [[], [], [], [], [2, 3], [1, 2, 3, 4], [1, 2, 3, 4, 5], [], [], [], [8, 9], [7, 8, 9, 10], [7, 8, 9, 10, 11], [0, 1, 2, 3, 4, 5, 6, 7, 8, 9, 10, 11, 12], [0, 1, 2, 3, 4, 5, 6, 7, 8, 9, 10, 11, 12, 13], [0, 1, 2, 3, 4, 5, 6, 7, 8, 9, 10, 11, 12, 13, 14]] 15 [] [([], none), ([false], none), ([false, false], none), ([false, false, false], none), ([false, false, true, true], none), ([false, true, true, true, true], none), ([false, true, true, true, true, true], none), ([false, false, false, false, false, false, false], none), ([false, false, false, false, false, false, false, false], none), ([false, false, false, false, false, false, false, false, false], none), ([false, false, false, false, false, false, false, false, true, true], none), ([false, false, false, false, false, false, false, true, true, true, true], none), ([false, false, false, false, false, false, false, true, true, true, true, true], none), ([true, true, true, true, true, true, true, true, true, true, true, true, true], none), ([true, true, true, true, true, true, true, true, true, true, true, true, true, true], none)] [true, true, true, true, true, true, true, true, true, true, true, true, true, true, true]) c134_2) c134_1
abbrev c134_4 : SCode := .reg [41, 42, 1084] [
  ⟨.op (.mv (.slot 6)), none, none⟩, 
  ⟨.op (.bin .add (.slot 10) (.con (.int .i64 1))), none, none⟩, 
  ⟨.op (.asg (.slot 11)), some 6, none⟩]
abbrev c134_5 : SCode := .cond (.slot 8) c134_4 (.skip)
abbrev c134_6 : SCode := .seq (.seq (.dreg [19, 20, 21, 22, 23, 24, 25, 26, 27, 28, 29, 30, 31, 32, 33, 34, 35, 36, 37, 38, 39, 1103] [
  ⟨.op (.mv (.slot 6)), none, none⟩, 
  ⟨.op (.bin .add (.slot 10) (.con (.int .i64 1))), none, none⟩, 
  ⟨.op (.mv (.slot 2)), none, none⟩, 
  ⟨.op (.bin .lss (.slot 11) (.slot 12)), none, none⟩, 
  ⟨.op (.mv (.slot 13)), none, none⟩, 
  ⟨.op (.mv (.slot 4)), none, some (14, true)⟩, 
  ⟨.op (.mv (.slot 0)), none, some (14, true)⟩, 
  ⟨.op (.mv (.slot 3)), none, some (14, true)⟩, 
  ⟨.op (.mv (.slot 6)), none, some (14, true)⟩, 
  ⟨.op (.bin .add (.slot 17) (.slot 18)), none, some (14, true)⟩, 
  ⟨.op (.iaddr 2 (.slot 16) (.slot 19)), none, some (14, true)⟩, 
  ⟨.op (.load 2 true (.slot 20)), none, some (14, true)⟩, 
  ⟨.op (.mv (.slot 0)), none, some (14, true)⟩, 
  ⟨.op (.mv (.slot 3)), none, some (14, true)⟩, 
  ⟨.op (.mv (.slot 6)), none, some (14, true)⟩, 
  ⟨.op (.bin .add (.slot 23) (.slot 24)), none, some (14, true)⟩, 
  ⟨.op (.bin .add (.slot 25) (.con (.int .i64 1))), none, some (14, true)⟩, 
  ⟨.op (.iaddr 2 (.slot 22) (.slot 26)), none, some (14, true)⟩, 
  ⟨.op (.load 2 true (.slot 27)), none, some (14, true)⟩, 
  ⟨.callv (.slot 15) [(.slot 21), (.slot 28)], none, some (14, true)⟩, 
  ⟨.op (.bin .lss (.slot 29) (.con (.int .i64 0))), none, some (14, true)⟩, 
  ⟨.op (.pick (.slot 14) (.slot 30) (.con (.bool false))), some 8, none⟩]
  [[], [0], [], [0, 1, 2], [0, 1, 2, 3], [0, 1, 2, 3, 4], [0, 1, 2, 3, 4], [0, 1, 2, 3, 4], [0, 1, 2, 3, 4], [0, 1, 2, 3, 4, 7, 8], [0, 1, 2, 3, 4, 6, 7, 8, 9], [0, 1, 2, 3, 4, 6, 7, 8, 9, 10], [0, 1, 2, 3, 4], [0, 1, 2, 3, 4], [0, 1, 2, 3, 4], [0, 1, 2, 3, 4, 13, 14], [0, 1, 2, 3, 4, 13, 14, 15], [0, 1, 2, 3, 4, 12, 13, 14, 15, 16], [0, 1, 2, 3, 4, 12, 13, 14, 15, 16, 17], [0, 1, 2, 3, 4, 5, 6, 7, 8, 9, 10, 11, 12, 13, 14, 15, 16, 17, 18], [0, 1, 2, 3, 4, 5, 6, 7, 8, 9, 10, 11, 12, 13, 14, 15, 16, 17, 18, 19], [0, 1, 2, 3, 4, 5, 6, 7, 8, 9, 10, 11, 12, 13, 14, 15, 16, 17, 18, 19, 20]] 21 [] [([], none), ([true], none), ([false, false], none), ([true, true, true], none), ([true, true, true, true], none), ([true, true, true, true, true], none), ([true, true, true, true, true, false], none), ([true, true, true, true, true, false, false], none), ([true, true, true, true, true, false, false, false], none), ([true, true, true, true, true, false, false, true, true], none), ([true, true, true, true, true, false, true, true, true, true], none), ([true, true, true, true, true, false, true, true, true, true, true], none), ([true, true, true, true, true, false, false, false, false, false, false, false], none), ([true, true, true, true, true, false, false, false, false, false, false, false, false], none), ([true, true, true, true, true, false, false, false, false, false, false, false, false, false], none), ([true, true, true, true, true, false, false, false, false, false, false, false, false, true, true], none), ([true, true, true, true, true, false, false, false, false, false, false, false, false, true, true, true], none), ([true, true, true, true, true, false, false, false, false, false, false, false, true, true, true, true, true], none), ([true, true, true, true, true, false, false, false, false, false, false, false, true, true, true, true, true, true], none), ([true, true, true, true, true, true, true, true, true, true, true, true, true, true, true, true, true, true, true], none), ([true, true, true, true, true, true, true, true, true, true, true, true, true, true, true, true, true, true, true, true], none)] [true, true, true, true, true, true, true, true, true, true, true, true, true, true, true, true, true, true, true, true, true]) c134_5) c134_3
abbrev c134_7 : SCode := .cond (.slot 7) (.exit 0) (.skip)
abbrev c134_8 : SCode := .seq (.seq (.reg [16, 17, 1084] [
  ⟨.op (.mv (.slot 6)), none, none⟩, 
  ⟨.op (.mv (.slot 2)), none, none⟩, 
  ⟨.op (.bin .geq (.slot 10) (.slot 11)), some 7, none⟩]) c134_7) c134_6
abbrev b134_0 : SCode := .block 1 (.seq (.reg [13, 14, 15, 1085] [
  ⟨.op (.mv (.slot 5)), none, none⟩, 
  ⟨.op (.bin .mul (.con (.int .i64 2)) (.slot 10)), none, none⟩, 
  ⟨.op (.bin .add (.slot 11) (.con (.int .i64 1))), none, none⟩, 
  ⟨.op (.asg (.slot 12)), some 6, none⟩]) c134_8)
def l134_0 : SCode := .loop b134_0
abbrev c134_10 : SCode := .block 0 (l134_0)
abbrev s134 : SCode := .seq (.reg [12, 1083] [
  ⟨.op (.mv (.slot 1)), none, none⟩, 
  ⟨.op (.asg (.slot 10)), some 5, none⟩]) c134_10
theorem ok134 : okFn Go.Proofs.Try.prog Go.Proofs.Try.f134 v134 s134 r134 5 = true := by kernel_rfl

def v135 : List Nat := [0, 2]
def r135 : List SRes := [.tmp 1]
abbrev c135_0 : SCode := .seq (.bad ) (.ret)
abbrev s135 : SCode := .seq (.reg [1007] [
  ⟨.op (.asg (.con (.int .u64 0))), some 1, none⟩]) c135_0
theorem ok135 : okFn Go.Proofs.Try.prog Go.Proofs.Try.f135 v135 s135 r135 1 = true := by kernel_rfl

def v136 : List Nat := [0, 2]
def r136 : List SRes := [.tmp 1]
abbrev c136_0 : SCode := .seq (.bad ) (.ret)
abbrev c136_1 : SCode := .seq (.bad ) c136_0
abbrev c136_2 : SCode := .seq (.bad ) c136_1
abbrev c136_3 : SCode := .seq (.bad ) c136_2
abbrev s136 : SCode := .seq (.reg [1033] [
  ⟨.op (.asg (.con (.int .u64 0))), some 1, none⟩]) c136_3
theorem ok136 : okFn Go.Proofs.Try.prog Go.Proofs.Try.f136 v136 s136 r136 1 = true := by kernel_rfl

def v137 : List Nat := [0, 1, 2, 3, 8]
def r137 : List SRes := [.tmp 4]
abbrev c137_0 : SCode := .seq (.reg [9, 10, 11, 12, 13, 14, 15, 16, 17, 1027] [
  ⟨.op (.mv (.slot 0)), none, none⟩, 
  ⟨.op (.mv (.slot 1)), none, none⟩, 
  ⟨.op (.bin .sub (.slot 6) (.con (.int .i64 1))), none, none⟩, 
  ⟨.op (.mv (.slot 1)), none, none⟩, 
  ⟨.op (.mv (.slot 1)), none, none⟩, 
  ⟨.op (.bin .add (.slot 9) (.con (.int .i64 1))), none, none⟩, 
  ⟨.op (.mv (.slot 2)), none, none⟩, 
  ⟨.op (.mv (.slot 3)), none, none⟩, 
  ⟨.call 138 [(.slot 5), (.slot 7), (.slot 8), (.slot 10), (.slot 11), (.slot 12)] false, none, none⟩, 
  ⟨.op (.asg (.slot 13)), some 4, none⟩]) (.ret)
abbrev s137 : SCode := .seq (.reg [1018] [
  ⟨.op (.asg (.con (.int .i64 0))), some 4, none⟩]) c137_0
theorem ok137 : okFn Go.Proofs.Try.prog Go.Proofs.Try.f137 v137 s137 r137 4 = true := by kernel_rfl

def v138 : List Nat := [0, 1, 2, 3, 4, 5, 12]
def r138 : List SRes := [.tmp 6]
abbrev c138_0 : SCode := .seq (.reg [40, 1042] [
  ⟨.op (.mv (.slot 2)), none, none⟩, 
  ⟨.op (.asg (.slot 7)), some 6, none⟩]) (.ret)
abbrev c138_1 : SCode := .seq (.reg [32, 33, 34, 35, 36, 37, 31, 38, 39, 1050, 1051] [
  ⟨.op (.mv (.slot 0)), none, none⟩, 
  ⟨.op (.mv (.slot 1)), none, none⟩, 
  ⟨.op (.mv (.slot 2)), none, none⟩, 
  ⟨.op (.mv (.slot 4)), none, none⟩, 
  ⟨.op (.mv (.slot 5)), none, none⟩, 
  ⟨.call 139 [(.slot 7), (.slot 8), (.slot 9), (.slot 10), (.slot 11)] false, none, none⟩, 
  ⟨.op (.mvt 12), none, none⟩, 
  ⟨.op (.ext 13 0), none, none⟩, 
  ⟨.op (.ext 13 1), none, none⟩, 
  ⟨.op (.asg (.slot 14)), some 1, none⟩, 
  ⟨.op (.asg (.slot 15)), some 2, none⟩]) c138_0
abbrev c138_2 : SCode := .seq (.reg [23, 24, 25, 26, 27, 28, 22, 29, 30, 1050, 1051] [
  ⟨.op (.mv (.slot 0)), none, none⟩, 
  ⟨.op (.mv (.slot 2)), none, none⟩, 
  ⟨.op (.mv (.slot 3)), none, none⟩, 
  ⟨.op (.mv (.slot 4)), none, none⟩, 
  ⟨.op (.mv (.slot 5)), none, none⟩, 
  ⟨.call 139 [(.slot 7), (.slot 8), (.slot 9), (.slot 10), (.slot 11)] false, none, none⟩, 
  ⟨.op (.mvt 12), none, none⟩, 
  ⟨.op (.ext 13 0), none, none⟩, 
  ⟨.op (.ext 13 1), none, none⟩, 
  ⟨.op (.asg (.slot 14)), some 2, none⟩, 
  ⟨.op (.asg (.slot 15)), some 3, none⟩]) c138_1
abbrev c138_3 : SCode := .seq (.reg [14, 15, 16, 17, 18, 19, 13, 20, 21, 1050, 1051] [
  ⟨.op (.mv (.slot 0)), none, none⟩, 
  ⟨.op (.mv (.slot 1)), none, none⟩, 
  ⟨.op (.mv (.slot 2)), none, none⟩, 
  ⟨.op (.mv (.slot 4)), none, none⟩, 
  ⟨.op (.mv (.slot 5)), none, none⟩, 
  ⟨.call 139 [(.slot 7), (.slot 8), (.slot 9), (.slot 10), (.slot 11)] false, none, none⟩, 
  ⟨.op (.mvt 12), none, none⟩, 
  ⟨.op (.ext 13 0), none, none⟩, 
  ⟨.op (.ext 13 1), none, none⟩, 
  ⟨.op (.asg (.slot 14)), some 1, none⟩, 
  ⟨.op (.asg (.slot 15)), some 2, none⟩]) c138_2
abbrev s138 : SCode := .seq (.reg [1041] [
  ⟨.op (.asg (.con (.int .i64 0))), some 6, none⟩]) c138_3
theorem ok138 : okFn Go.Proofs.Try.prog Go.Proofs.Try.f138 v138 s138 r138 6 = true := by kernel_rfl

def v139 : List Nat := [0, 1, 2, 3, 4, 10, 11, 22]
def r139 : List SRes := [.tmp 5, .tmp 6]
abbrev c139_0 : SCode := .seq (.reg [30, 31, 1034, 1035] [
  ⟨.op (.mv (.slot 1)), none, none⟩, 
  ⟨.op (.mv (.slot 2)), none, none⟩, 
  ⟨.op (.asg (.slot 8)), some 5, none⟩, 
  ⟨.op (.asg (.slot 9)), some 6, none⟩]) (.ret)
abbrev c139_1 : SCode := .seq (.reg [28, 29, 1034, 1035] [
  ⟨.op (.mv (.slot 2)), none, none⟩, 
  ⟨.op (.mv (.slot 1)), none, none⟩, 
  ⟨.op (.asg (.slot 8)), some 5, none⟩, 
  ⟨.op (.asg (.slot 9)), some 6, none⟩]) (.ret)
abbrev c139_2 : SCode := .seq (.bad ) c139_1
abbrev c139_3 : SCode := .cond (.slot 7) c139_2 (.skip)
abbrev c139_4 : SCode := .seq (.seq (.dreg [12, 13, 14, 15, 16, 17, 18, 19, 20, 21, 1042] [
  ⟨.op (.mv (.slot 4)), none, none⟩, 
  ⟨.op (.mv (.slot 0)), none, none⟩, 
  ⟨.op (.mv (.slot 2)), none, none⟩, 
  ⟨.op (.iaddr 2 (.slot 9) (.slot 10)), none, none⟩, 
  ⟨.op (.load 2 true (.slot 11)), none, none⟩, 
  ⟨.op (.mv (.slot 0)), none, none⟩, 
  ⟨.op (.mv (.slot 1)), none, none⟩, 
  ⟨.op (.iaddr 2 (.slot 13) (.slot 14)), none, none⟩, 
  ⟨.op (.load 2 true (.slot 15)), none, none⟩, 
  ⟨.callv (.slot 8) [(.slot 12), (.slot 16)], none, none⟩, 
  ⟨.op (.bin .lss (.slot 17) (.con (.int .i64 0))), some 7, none⟩]
  [[], [], [], [1, 2], [1, 2, 3], [], [], [5, 6], [5, 6, 7], [0, 1, 2, 3, 4, 5, 6, 7, 8], [0, 1, 2, 3, 4, 5, 6, 7, 8, 9]] 10 [] [([], none), ([false], none), ([false, false], none), ([false, true, true], none), ([false, true, true, true], none), ([false, false, false, false, false], none), ([false, false, false, false, false, false], none), ([false, false, false, false, false, true, true], none), ([false, false, false, false, false, true, true, true], none), ([true, true, true, true, true, true, true, true, true], none)] [true, true, true, true, true, true, true, true, true, true]) c139_3) c139_0
abbrev s139 : SCode := .seq (.reg [1032, 1033] [
  ⟨.op (.asg (.con (.int .i64 0))), some 5, none⟩, 
  ⟨.op (.asg (.con (.int .i64 0))), some 6, none⟩]) c139_4
theorem ok139 : okFn Go.Proofs.Try.prog Go.Proofs.Try.f139 v139 s139 r139 5 = true := by kernel_rfl

end Go.AmC
