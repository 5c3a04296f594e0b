/- Part of a proof: see the last text of this folder. -/
import Derived.Test.YtbpejcnejeihbaaSplitC0
import Derived.KernelRfl
import Derived.Test.YtbpejcnejeihbaaProg
set_option maxRecDepth 100000
namespace Go.AmC
open Go Go.AM
def v119 : List Nat := [0, 1, 2, 6, 7, 8, 9, 4, 3, 43]
def r119 : List SRes := [.tmp 2]
abbrev c119_0 : SCode := .seq (.reg [45, 46, 47, 1051] [
  ⟨.op (.faddr 0 (.slot 1)), none, none⟩, 
  ⟨.op (.load 1 false (.slot 10)), none, none⟩, 
  ⟨.call 102 [(.slot 11)] false, none, none⟩, 
  ⟨.op (.asg (.slot 12)), some 2, none⟩]) (.ret)
abbrev c119_1 : SCode := .reg [44, 1049] [
  ⟨.op (.bin .add (.slot 5) (.con (.int .i64 1))), none, none⟩, 
  ⟨.op (.asg (.slot 10)), some 5, none⟩]
abbrev c119_2 : SCode := .seq (.reg [1048] [
  ⟨.op (.asg (.con (.bool false))), some 2, none⟩]) (.ret)
abbrev c119_3 : SCode := .cond (.slot 9) c119_2 (.skip)
abbrev c119_4 : SCode := .seq (.dreg [13, 14, 15, 16, 17, 18, 19, 20, 21, 22, 23, 24, 25, 26, 27, 28, 29, 30, 31, 32, 33, 34, 35, 36, 37, 38, 39, 40, 41, 42, 1078] [
  ⟨.op (.faddr 0 (.slot 7)), none, none⟩, 
  ⟨.op (.load 1 false (.slot 10)), none, none⟩, 
  ⟨.call 93 [(.slot 11)] false, none, none⟩, 
  ⟨.op (.not (.slot 12)), none, none⟩, 
  ⟨.op (.mv (.slot 13)), none, none⟩, 
  ⟨.op (.faddr 1 (.slot 7)), none, some (14, false)⟩, 
  ⟨.op (.load 1 false (.slot 15)), none, some (14, false)⟩, 
  ⟨.op (.bin .eql (.slot 16) (.con (.int .i64 0))), none, some (14, false)⟩, 
  ⟨.op (.pick (.slot 14) (.con (.bool true)) (.slot 17)), none, none⟩, 
  ⟨.op (.mv (.slot 18)), none, none⟩, 
  ⟨.op (.faddr 1 (.slot 7)), none, some (19, false)⟩, 
  ⟨.op (.load 1 false (.slot 20)), none, some (19, false)⟩, 
  ⟨.call 102 [(.slot 21)] false, none, some (19, false)⟩, 
  ⟨.op (.not (.slot 22)), none, some (19, false)⟩, 
  ⟨.op (.pick (.slot 19) (.con (.bool true)) (.slot 23)), none, none⟩, 
  ⟨.op (.mv (.slot 24)), none, none⟩, 
  ⟨.op (.mv (.slot 8)), none, some (25, false)⟩, 
  ⟨.op (.bin .gtr (.slot 26) (.con (.int .i64 0))), none, some (25, false)⟩, 
  ⟨.op (.mv (.slot 27)), none, some (25, false)⟩, 
  ⟨.op (.faddr 0 (.slot 7)), none, some (28, true)⟩, 
  ⟨.op (.load 1 false (.slot 29)), none, some (28, true)⟩, 
  ⟨.op (.faddr 1 (.slot 1)), none, some (28, true)⟩, 
  ⟨.op (.load 1 false (.slot 31)), none, some (28, true)⟩, 
  ⟨.op (.mv (.slot 8)), none, some (28, true)⟩, 
  ⟨.op (.bin .sub (.slot 33) (.con (.int .i64 1))), none, some (28, true)⟩, 
  ⟨.op (.iaddr 2 (.slot 32) (.slot 34)), none, some (28, true)⟩, 
  ⟨.op (.faddr 0 (.slot 35)), none, some (28, true)⟩, 
  ⟨.op (.load 1 false (.slot 36)), none, some (28, true)⟩, 
  ⟨.op (.bin .leq (.slot 30) (.slot 37)), none, some (28, true)⟩, 
  ⟨.op (.pick (.slot 28) (.slot 38) (.con (.bool false))), none, some (25, false)⟩, 
  ⟨.op (.pick (.slot 25) (.con (.bool true)) (.slot 39)), some 9, none⟩]
  [[], [0], [0, 1], [0, 1, 2], [0, 1, 2, 3], [0, 1, 2, 3, 4], [0, 1, 2, 3, 4, 5], [0, 1, 2, 3, 4, 5, 6], [0, 1, 2, 3, 4, 5, 6, 7], [0, 1, 2, 3, 4, 5, 6, 7, 8], [0, 1, 2, 3, 4, 5, 6, 7, 8, 9], [0, 1, 2, 3, 4, 5, 6, 7, 8, 9, 10], [0, 1, 2, 3, 4, 5, 6, 7, 8, 9, 10, 11], [0, 1, 2, 3, 4, 5, 6, 7, 8, 9, 10, 11, 12], [0, 1, 2, 3, 4, 5, 6, 7, 8, 9, 10, 11, 12, 13], [0, 1, 2, 3, 4, 5, 6, 7, 8, 9, 10, 11, 12, 13, 14], [0, 1, 2, 3, 4, 5, 6, 7, 8, 9, 10, 11, 12, 13, 14, 15], [0, 1, 2, 3, 4, 5, 6, 7, 8, 9, 10, 11, 12, 13, 14, 15, 16], [0, 1, 2, 3, 4, 5, 6, 7, 8, 9, 10, 11, 12, 13, 14, 15, 16, 17], [0, 1, 2, 3, 4, 5, 6, 7, 8, 9, 10, 11, 12, 13, 14, 15, 16, 17, 18], [0, 1, 2, 3, 4, 5, 6, 7, 8, 9, 10, 11, 12, 13, 14, 15, 16, 17, 18, 19], [0, 1, 2, 3, 4, 5, 6, 7, 8, 9, 10, 11, 12, 13, 14, 15, 16, 17, 18], [0, 1, 2, 3, 4, 5, 6, 7, 8, 9, 10, 11, 12, 13, 14, 15, 16, 17, 18, 21], [0, 1, 2, 3, 4, 5, 6, 7, 8, 9, 10, 11, 12, 13, 14, 15, 16, 17, 18], [0, 1, 2, 3, 4, 5, 6, 7, 8, 9, 10, 11, 12, 13, 14, 15, 16, 17, 18, 23], [0, 1, 2, 3, 4, 5, 6, 7, 8, 9, 10, 11, 12, 13, 14, 15, 16, 17, 18, 21, 22, 23, 24], [0, 1, 2, 3, 4, 5, 6, 7, 8, 9, 10, 11, 12, 13, 14, 15, 16, 17, 18, 21, 22, 23, 24, 25], [0, 1, 2, 3, 4, 5, 6, 7, 8, 9, 10, 11, 12, 13, 14, 15, 16, 17, 18, 21, 22, 23, 24, 25, 26], [0, 1, 2, 3, 4, 5, 6, 7, 8, 9, 10, 11, 12, 13, 14, 15, 16, 17, 18, 19, 20, 21, 22, 23, 24, 25, 26, 27], [0, 1, 2, 3, 4, 5, 6, 7, 8, 9, 10, 11, 12, 13, 14, 15, 16, 17, 18, 19, 20, 21, 22, 23, 24, 25, 26, 27, 28], [0, 1, 2, 3, 4, 5, 6, 7, 8, 9, 10, 11, 12, 13, 14, 15, 16, 17, 18, 19, 20, 21, 22, 23, 24, 25, 26, 27, 28, 29]] 30 [] [([], none), ([true], none), ([true, true], none), ([true, true, true], none), ([true, true, true, true], none), ([true, true, true, true, true], none), ([true, true, true, true, true, true], none), ([true, true, true, true, true, true, true], none), ([true, true, true, true, true, true, true, true], none), ([true, true, true, true, true, true, true, true, true], none), ([true, true, true, true, true, true, true, true, true, true], none), ([true, true, true, true, true, true, true, true, true, true, true], none), ([true, true, true, true, true, true, true, true, true, true, true, true], none), ([true, true, true, true, true, true, true, true, true, true, true, true, true], none), ([true, true, true, true, true, true, true, true, true, true, true, true, true, true], none), ([true, true, true, true, true, true, true, true, true, true, true, true, true, true, true], none), ([true, true, true, true, true, true, true, true, true, true, true, true, true, true, true, true], none), ([true, true, true, true, true, true, true, true, true, true, true, true, true, true, true, true, true], none), ([true, true, true, true, true, true, true, true, true, true, true, true, true, true, true, true, true, true], none), ([true, true, true, true, true, true, true, true, true, true, true, true, true, true, true, true, true, true, true], none), ([true, true, true, true, true, true, true, true, true, true, true, true, true, true, true, true, true, true, true, true], none), ([true, true, true, true, true, true, true, true, true, true, true, true, true, true, true, true, true, true, true, false, false], none), ([true, true, true, true, true, true, true, true, true, true, true, true, true, true, true, true, true, true, true, false, false, true], none), ([true, true, true, true, true, true, true, true, true, true, true, true, true, true, true, true, true, true, true, false, false, false, false], none), ([true, true, true, true, true, true, true, true, true, true, true, true, true, true, true, true, true, true, true, false, false, false, false, true], none), ([true, true, true, true, true, true, true, true, true, true, true, true, true, true, true, true, true, true, true, false, false, true, true, true, true], none), ([true, true, true, true, true, true, true, true, true, true, true, true, true, true, true, true, true, true, true, false, false, true, true, true, true, true], none), ([true, true, true, true, true, true, true, true, true, true, true, true, true, true, true, true, true, true, true, false, false, true, true, true, true, true, true], none), ([true, true, true, true, true, true, true, true, true, true, true, true, true, true, true, true, true, true, true, true, true, true, true, true, true, true, true, true], none), ([true, true, true, true, true, true, true, true, true, true, true, true, true, true, true, true, true, true, true, true, true, true, true, true, true, true, true, true, true], none)] [true, true, true, true, true, true, true, true, true, true, true, true, true, true, true, true, true, true, true, true, true, true, true, true, true, true, true, true, true, true]) c119_3
abbrev c119_5 : SCode := .seq (.block 1 (.seq (.reg [10, 11, 12, 1051, 1052, 1053] [
  ⟨.op (.mv (.slot 5)), none, none⟩, 
  ⟨.op (.iaddr 2 (.slot 3) (.slot 5)), none, none⟩, 
  ⟨.op (.load 2 true (.slot 11)), none, none⟩, 
  ⟨.op (.mk 111 [(.str []), (.int .i64 0)]), some 7, none⟩, 
  ⟨.op (.asg (.slot 10)), some 8, none⟩, 
  ⟨.op (.store 2 false (.slot 7) (.slot 12)), none, none⟩]) c119_4)) c119_1
abbrev c119_6 : SCode := .seq (.cond (.slot 6) (.skip) (.exit 0)) c119_5
abbrev b119_0 : SCode := .seq (.reg [1048] [
  ⟨.op (.bin .lss (.slot 5) (.slot 4)), some 6, none⟩]) c119_6
def l119_0 : SCode := .loop b119_0
abbrev c119_8 : SCode := .block 0 (l119_0)
abbrev c119_9 : SCode := .seq (.seq (.reg [5, 1049, 1050, 1051] [
  ⟨.op (.faddr 1 (.slot 1)), none, none⟩, 
  ⟨.op (.load 1 false (.slot 10)), some 3, none⟩, 
  ⟨.op (.len false (.slot 3)), some 4, none⟩, 
  ⟨.op (.asg (.con (.int .i64 0))), some 5, none⟩]) c119_8) c119_0
abbrev s119 : SCode := .seq (.reg [1048, 1049] [
  ⟨.op (.box 103 2 (.slot 0)), some 1, none⟩, 
  ⟨.op (.asg (.con (.bool false))), some 2, none⟩]) c119_9
theorem ok119 : okFn Go.Proofs.Try.prog Go.Proofs.Try.f119 v119 s119 r119 1 = true := by kernel_rfl

def v120 : List Nat := [0, 1, 4, 5, 6, 7, 12, 24, 34, 43]
def r120 : List SRes := [.tmp 2]
abbrev c120_0 : SCode := .seq (.reg [48, 1050] [
  ⟨.op (.mv (.slot 3)), none, none⟩, 
  ⟨.op (.asg (.slot 10)), some 2, none⟩]) (.ret)
abbrev c120_1 : SCode := .reg [44, 45, 46, 47, 1053] [
  ⟨.op (.mv (.slot 3)), none, none⟩, 
  ⟨.op (.mv (.slot 1)), none, none⟩, 
  ⟨.op (.bsl 9 1 [(.str [])] [(0, 1, (.slot 11))]), none, none⟩, 
  ⟨.op (.append 9 1 (.slot 10) (.slot 12)), none, none⟩, 
  ⟨.op (.asg (.slot 13)), some 3, none⟩]
abbrev c120_2 : SCode := .cond (.slot 9) c120_1 (.skip)
abbrev c120_3 : SCode := .seq (.seq (.reg [42, 1050] [
  ⟨.op (.mv (.slot 4)), none, none⟩, 
  ⟨.op (.not (.slot 10)), some 9, none⟩]) c120_2) c120_0
abbrev c120_4 : SCode := .reg [13, 14, 1051] [
  ⟨.op (.mv (.slot 5)), none, none⟩, 
  ⟨.op (.bin .add (.slot 10) (.con (.int .i64 1))), none, none⟩, 
  ⟨.op (.asg (.slot 11)), some 5, none⟩]
abbrev c120_5 : SCode := .reg [35, 36, 37, 38, 39, 40, 41, 1056] [
  ⟨.op (.mv (.slot 3)), none, none⟩, 
  ⟨.op (.mv (.slot 0)), none, none⟩, 
  ⟨.op (.mv (.slot 5)), none, none⟩, 
  ⟨.op (.iaddr 1 (.slot 11) (.slot 12)), none, none⟩, 
  ⟨.op (.load 1 false (.slot 13)), none, none⟩, 
  ⟨.op (.bsl 9 1 [(.str [])] [(0, 1, (.slot 14))]), none, none⟩, 
  ⟨.op (.append 9 1 (.slot 10) (.slot 15)), none, none⟩, 
  ⟨.op (.asg (.slot 16)), some 3, none⟩]
abbrev c120_6 : SCode := .cond (.slot 8) c120_5 (.skip)
abbrev c120_7 : SCode := .seq (.reg [29, 30, 31, 32, 33, 1054] [
  ⟨.op (.mv (.slot 0)), none, none⟩, 
  ⟨.op (.mv (.slot 5)), none, none⟩, 
  ⟨.op (.iaddr 1 (.slot 10) (.slot 11)), none, none⟩, 
  ⟨.op (.load 1 false (.slot 12)), none, none⟩, 
  ⟨.op (.mv (.slot 1)), none, none⟩, 
  ⟨.op (.bin .neq (.slot 13) (.slot 14)), some 8, none⟩]) c120_6
abbrev c120_8 : SCode := .reg [1049] [
  ⟨.op (.asg (.con (.bool true))), some 4, none⟩]
abbrev c120_9 : SCode := .seq (.reg [25, 26, 27, 28, 1053] [
  ⟨.op (.mv (.slot 3)), none, none⟩, 
  ⟨.op (.mv (.slot 1)), none, none⟩, 
  ⟨.op (.bsl 9 1 [(.str [])] [(0, 1, (.slot 11))]), none, none⟩, 
  ⟨.op (.append 9 1 (.slot 10) (.slot 12)), none, none⟩, 
  ⟨.op (.asg (.slot 13)), some 3, none⟩]) c120_8
abbrev c120_10 : SCode := .cond (.slot 7) c120_9 (.skip)
abbrev c120_11 : SCode := .seq (.block 1 (.seq (.seq (.reg [15, 16, 17, 18, 19, 20, 21, 22, 23, 1058] [
  ⟨.op (.mv (.slot 4)), none, none⟩, 
  ⟨.op (.not (.slot 10)), none, none⟩, 
  ⟨.op (.mv (.slot 11)), none, none⟩, 
  ⟨.op (.mv (.slot 0)), none, some (12, true)⟩, 
  ⟨.op (.mv (.slot 5)), none, some (12, true)⟩, 
  ⟨.op (.iaddr 1 (.slot 13) (.slot 14)), none, some (12, true)⟩, 
  ⟨.op (.load 1 false (.slot 15)), none, some (12, true)⟩, 
  ⟨.op (.mv (.slot 1)), none, some (12, true)⟩, 
  ⟨.op (.bin .geq (.slot 16) (.slot 17)), none, some (12, true)⟩, 
  ⟨.op (.pick (.slot 12) (.slot 18) (.con (.bool false))), some 7, none⟩]) c120_10) c120_7)) c120_4
abbrev c120_12 : SCode := .cond (.slot 6) (.skip) (.exit 0)
abbrev b120_0 : SCode := .seq (.seq (.reg [9, 10, 11, 1052] [
  ⟨.op (.mv (.slot 5)), none, none⟩, 
  ⟨.op (.mv (.slot 0)), none, none⟩, 
  ⟨.op (.len false (.slot 11)), none, none⟩, 
  ⟨.op (.bin .lss (.slot 10) (.slot 12)), some 6, none⟩]) c120_12) c120_11
def l120_0 : SCode := .loop b120_0
abbrev c120_14 : SCode := .block 0 (l120_0)
abbrev c120_15 : SCode := .seq (.seq (.reg [1049] [
  ⟨.op (.asg (.con (.int .i64 0))), some 5, none⟩]) c120_14) c120_3
abbrev c120_16 : SCode := .seq (.reg [1049] [
  ⟨.op (.asg (.con (.bool false))), some 4, none⟩]) c120_15
abbrev c120_17 : SCode := .seq (.reg [8, 1050] [
  ⟨.op (.bsl 9 0 [(.str [])] []), none, none⟩, 
  ⟨.op (.asg (.slot 10)), some 3, none⟩]) c120_16
abbrev s120 : SCode := .seq (.reg [1049] [
  ⟨.op (.asg (.con (.osl 0 9 0 []))), some 2, none⟩]) c120_17
theorem ok120 : okFn Go.Proofs.Try.prog Go.Proofs.Try.f120 v120 s120 r120 2 = true := by kernel_rfl

def v121 : List Nat := [0, 1, 2, 3, 4, 10, 11, 12, 25, 32, 39, 13, 14, 56, 75, 80, 97, 15, 16, 17, 18, 19, 20, 125]
def r121 : List SRes := []
abbrev c121_0 : SCode := .reg [135, 136, 1150] [
  ⟨.op (.mv (.slot 18)), none, none⟩, 
  ⟨.op (.bin .add (.slot 24) (.con (.int .i64 1))), none, none⟩, 
  ⟨.op (.asg (.slot 25)), some 1, none⟩]
abbrev c121_1 : SCode := .seq (.reg [129, 130, 131, 132, 133, 134] [
  ⟨.op (.mv (.slot 0)), none, none⟩, 
  ⟨.op (.mv (.slot 1)), none, none⟩, 
  ⟨.op (.mv (.slot 18)), none, none⟩, 
  ⟨.op (.mv (.slot 3)), none, none⟩, 
  ⟨.op (.mv (.slot 4)), none, none⟩, 
  ⟨.callm (.con (.fn 121 [])) [((.slot 24), true), ((.slot 25), false), ((.slot 26), false), ((.slot 27), false), ((.slot 28), false)], none, none⟩]) c121_0
abbrev c121_2 : SCode := .seq (.reg [126, 127, 128, 1151] [
  ⟨.op (.mv (.slot 20)), none, none⟩, 
  ⟨.op (.mv (.slot 22)), none, none⟩, 
  ⟨.op (.bin .geq (.slot 24) (.slot 25)), none, none⟩, 
  ⟨.op (.asg (.slot 26)), some 5, none⟩]) c121_1
abbrev c121_3 : SCode := .reg [147, 1149] [
  ⟨.op (.mv (.slot 18)), none, none⟩, 
  ⟨.op (.asg (.slot 24)), some 2, none⟩]
abbrev c121_4 : SCode := .seq (.reg [140, 141, 142, 143, 144, 145, 146] [
  ⟨.op (.mv (.slot 0)), none, none⟩, 
  ⟨.op (.mv (.slot 18)), none, none⟩, 
  ⟨.op (.bin .add (.slot 25) (.con (.int .i64 1))), none, none⟩, 
  ⟨.op (.mv (.slot 2)), none, none⟩, 
  ⟨.op (.mv (.slot 3)), none, none⟩, 
  ⟨.op (.mv (.slot 4)), none, none⟩, 
  ⟨.callm (.con (.fn 121 [])) [((.slot 24), true), ((.slot 26), false), ((.slot 27), false), ((.slot 28), false), ((.slot 29), false)], none, none⟩]) c121_3
abbrev c121_5 : SCode := .seq (.reg [137, 138, 139, 1151] [
  ⟨.op (.mv (.slot 21)), none, none⟩, 
  ⟨.op (.mv (.slot 22)), none, none⟩, 
  ⟨.op (.bin .geq (.slot 24) (.slot 25)), none, none⟩, 
  ⟨.op (.asg (.slot 26)), some 5, none⟩]) c121_4
abbrev c121_6 : SCode := .cond (.slot 23) c121_2 c121_5
abbrev c121_7 : SCode := .seq (.reg [123, 124, 1150] [
  ⟨.op (.mv (.slot 20)), none, none⟩, 
  ⟨.op (.mv (.slot 21)), none, none⟩, 
  ⟨.op (.bin .lss (.slot 24) (.slot 25)), some 23, none⟩]) c121_6
abbrev c121_8 : SCode := .seq (.reg [121, 122, 1150] [
  ⟨.op (.mv (.slot 7)), none, none⟩, 
  ⟨.op (.bin .quo (.slot 24) (.con (.int .i64 8))), none, none⟩, 
  ⟨.op (.asg (.slot 25)), some 22, none⟩]) c121_7
abbrev c121_9 : SCode := .seq (.reg [115, 116, 117, 118, 119, 120, 1154, 1155] [
  ⟨.op (.mv (.slot 18)), none, none⟩, 
  ⟨.op (.mv (.slot 1)), none, none⟩, 
  ⟨.op (.bin .sub (.slot 24) (.slot 25)), none, none⟩, 
  ⟨.op (.mv (.slot 2)), none, none⟩, 
  ⟨.op (.mv (.slot 18)), none, none⟩, 
  ⟨.op (.bin .sub (.slot 27) (.slot 28)), none, none⟩, 
  ⟨.op (.asg (.slot 26)), some 20, none⟩, 
  ⟨.op (.asg (.slot 29)), some 21, none⟩]) c121_8
abbrev c121_10 : SCode := .seq (.reg [114, 1149] [
  ⟨.op (.mv (.slot 19)), none, none⟩, 
  ⟨.op (.asg (.slot 24)), some 6, none⟩]) c121_9
abbrev c121_11 : SCode := .seq (.reg [106, 107, 108, 109, 110, 111, 105, 112, 113, 1157, 1158] [
  ⟨.op (.mv (.slot 0)), none, none⟩, 
  ⟨.op (.mv (.slot 1)), none, none⟩, 
  ⟨.op (.mv (.slot 2)), none, none⟩, 
  ⟨.op (.mv (.slot 11)), none, none⟩, 
  ⟨.op (.mv (.slot 4)), none, none⟩, 
  ⟨.callm (.con (.fn 131 [])) [((.slot 24), true), ((.slot 25), false), ((.slot 26), false), ((.slot 27), false), ((.slot 28), false)], none, none⟩, 
  ⟨.op (.mvt 29), none, none⟩, 
  ⟨.op (.ext 30 0), none, none⟩, 
  ⟨.op (.ext 30 1), none, none⟩, 
  ⟨.op (.asg (.slot 31)), some 18, none⟩, 
  ⟨.op (.asg (.slot 32)), some 19, none⟩]) c121_10
abbrev c121_12 : SCode := .seq (.reg [104, 1149] [
  ⟨.op (.mv (.slot 17)), none, none⟩, 
  ⟨.op (.asg (.slot 24)), some 1, none⟩]) (.exit 1)
abbrev c121_13 : SCode := .seq (.reg [98, 99, 100, 101, 102, 103, 1154] [
  ⟨.op (.mv (.slot 0)), none, none⟩, 
  ⟨.op (.mv (.slot 1)), none, none⟩, 
  ⟨.op (.mv (.slot 2)), none, none⟩, 
  ⟨.op (.mv (.slot 11)), none, none⟩, 
  ⟨.op (.mv (.slot 4)), none, none⟩, 
  ⟨.callm (.con (.fn 130 [])) [((.slot 24), true), ((.slot 25), false), ((.slot 26), false), ((.slot 27), false), ((.slot 28), false)], none, none⟩, 
  ⟨.op (.asg (.slot 29)), some 17, none⟩]) c121_12
abbrev c121_14 : SCode := .cond (.slot 16) c121_13 (.skip)
abbrev c121_15 : SCode := .seq (.seq (.dreg [81, 82, 83, 84, 85, 86, 87, 88, 89, 90, 91, 92, 93, 94, 95, 96, 1164] [
  ⟨.op (.mv (.slot 1)), none, none⟩, 
  ⟨.op (.bin .gtr (.slot 24) (.con (.int .i64 0))), none, none⟩, 
  ⟨.op (.mv (.slot 25)), none, none⟩, 
  ⟨.op (.mv (.slot 4)), none, some (26, true)⟩, 
  ⟨.op (.mv (.slot 0)), none, some (26, true)⟩, 
  ⟨.op (.mv (.slot 1)), none, some (26, true)⟩, 
  ⟨.op (.bin .sub (.slot 29) (.con (.int .i64 1))), none, some (26, true)⟩, 
  ⟨.op (.iaddr 2 (.slot 28) (.slot 30)), none, some (26, true)⟩, 
  ⟨.op (.load 2 true (.slot 31)), none, some (26, true)⟩, 
  ⟨.op (.mv (.slot 0)), none, some (26, true)⟩, 
  ⟨.op (.mv (.slot 11)), none, some (26, true)⟩, 
  ⟨.op (.iaddr 2 (.slot 33) (.slot 34)), none, some (26, true)⟩, 
  ⟨.op (.load 2 true (.slot 35)), none, some (26, true)⟩, 
  ⟨.callv (.slot 27) [(.slot 32), (.slot 36)], none, some (26, true)⟩, 
  ⟨.op (.bin .lss (.slot 37) (.con (.int .i64 0))), none, some (26, true)⟩, 
  ⟨.op (.not (.slot 38)), none, some (26, true)⟩, 
  ⟨.op (.pick (.slot 26) (.slot 39) (.con (.bool false))), some 16, none⟩]
  [[], [0], [0, 1], [0, 1, 2], [0, 1, 2], [0, 1, 2], [0, 1, 2, 5], [0, 1, 2, 4, 5, 6], [0, 1, 2, 4, 5, 6, 7], [0, 1, 2], [0, 1, 2], [0, 1, 2, 9, 10], [0, 1, 2, 9, 10, 11], [0, 1, 2, 3, 4, 5, 6, 7, 8, 9, 10, 11, 12], [0, 1, 2, 3, 4, 5, 6, 7, 8, 9, 10, 11, 12, 13], [0, 1, 2, 3, 4, 5, 6, 7, 8, 9, 10, 11, 12, 13, 14], [0, 1, 2, 3, 4, 5, 6, 7, 8, 9, 10, 11, 12, 13, 14, 15]] 16 [] [([], none), ([true], none), ([true, true], none), ([true, true, true], none), ([true, true, true, false], none), ([true, true, true, false, false], none), ([true, true, true, false, false, true], none), ([true, true, true, false, true, true, true], none), ([true, true, true, false, true, true, true, true], none), ([true, true, true, false, false, false, false, false, false], none), ([true, true, true, false, false, false, false, false, false, false], none), ([true, true, true, false, false, false, false, false, false, true, true], none), ([true, true, true, false, false, false, false, false, false, true, true, true], none), ([true, true, true, true, true, true, true, true, true, true, true, true, true], none), ([true, true, true, true, true, true, true, true, true, true, true, true, true, true], none), ([true, true, true, true, true, true, true, true, true, true, true, true, true, true, true], none)] [true, true, true, true, true, true, true, true, true, true, true, true, true, true, true, true]) c121_14) c121_11
abbrev c121_16 : SCode := .cond (.slot 15) (.ret) (.skip)
abbrev c121_17 : SCode := .seq (.reg [76, 77, 78, 79, 1152] [
  ⟨.op (.mv (.slot 0)), none, none⟩, 
  ⟨.op (.mv (.slot 1)), none, none⟩, 
  ⟨.op (.mv (.slot 2)), none, none⟩, 
  ⟨.op (.mv (.slot 4)), none, none⟩, 
  ⟨.callm (.con (.fn 129 [])) [((.slot 24), true), ((.slot 25), false), ((.slot 26), false), ((.slot 27), false)], some 15, none⟩]) c121_16
abbrev c121_18 : SCode := .cond (.slot 14) c121_17 (.skip)
abbrev c121_19 : SCode := .seq (.seq (.reg [68, 69, 70, 71, 72, 73, 74, 1155] [
  ⟨.op (.mv (.slot 5)), none, none⟩, 
  ⟨.op (.mv (.slot 24)), none, none⟩, 
  ⟨.op (.mv (.slot 6)), none, some (25, true)⟩, 
  ⟨.op (.pick (.slot 25) (.slot 26) (.con (.bool false))), none, none⟩, 
  ⟨.op (.mv (.slot 27)), none, none⟩, 
  ⟨.op (.mv (.slot 12)), none, some (28, true)⟩, 
  ⟨.op (.bin .eql (.slot 29) (.con (.int .i64 1))), none, some (28, true)⟩, 
  ⟨.op (.pick (.slot 28) (.slot 30) (.con (.bool false))), some 14, none⟩]) c121_18) c121_15
abbrev c121_20 : SCode := .reg [1148] [
  ⟨.op (.asg (.con (.int .i64 1))), some 12, none⟩]
abbrev c121_21 : SCode := .seq (.reg [62, 63, 64, 65, 66, 67, 1154] [
  ⟨.op (.mv (.slot 2)), none, none⟩, 
  ⟨.op (.bin .sub (.slot 24) (.con (.int .i64 1))), none, none⟩, 
  ⟨.op (.mv (.slot 11)), none, none⟩, 
  ⟨.op (.mv (.slot 1)), none, none⟩, 
  ⟨.op (.bin .sub (.slot 26) (.slot 27)), none, none⟩, 
  ⟨.op (.bin .sub (.slot 25) (.slot 28)), none, none⟩, 
  ⟨.op (.asg (.slot 29)), some 11, none⟩]) c121_20
abbrev c121_22 : SCode := .seq (.reg [57, 58, 59, 60, 61] [
  ⟨.op (.mv (.slot 0)), none, none⟩, 
  ⟨.op (.mv (.slot 1)), none, none⟩, 
  ⟨.op (.mv (.slot 2)), none, none⟩, 
  ⟨.op (.mv (.slot 4)), none, none⟩, 
  ⟨.callm (.con (.fn 128 [])) [((.slot 24), true), ((.slot 25), false), ((.slot 26), false), ((.slot 27), false)], none, none⟩]) c121_21
abbrev c121_23 : SCode := .cond (.slot 13) c121_22 (.skip)
abbrev c121_24 : SCode := .seq (.seq (.reg [55, 1149] [
  ⟨.op (.mv (.slot 12)), none, none⟩, 
  ⟨.op (.bin .eql (.slot 24) (.con (.int .i64 2))), some 13, none⟩]) c121_23) c121_19
abbrev c121_25 : SCode := .seq (.reg [48, 49, 50, 51, 52, 47, 53, 54, 1156, 1157] [
  ⟨.op (.mv (.slot 0)), none, none⟩, 
  ⟨.op (.mv (.slot 1)), none, none⟩, 
  ⟨.op (.mv (.slot 2)), none, none⟩, 
  ⟨.op (.mv (.slot 4)), none, none⟩, 
  ⟨.callm (.con (.fn 127 [])) [((.slot 24), true), ((.slot 25), false), ((.slot 26), false), ((.slot 27), false)], none, none⟩, 
  ⟨.op (.mvt 28), none, none⟩, 
  ⟨.op (.ext 29 0), none, none⟩, 
  ⟨.op (.ext 29 1), none, none⟩, 
  ⟨.op (.asg (.slot 30)), some 11, none⟩, 
  ⟨.op (.asg (.slot 31)), some 12, none⟩]) c121_24
abbrev c121_26 : SCode := .reg [45, 46, 1150] [
  ⟨.op (.mv (.slot 3)), none, none⟩, 
  ⟨.op (.bin .sub (.slot 24) (.con (.int .i64 1))), none, none⟩, 
  ⟨.op (.asg (.slot 25)), some 3, none⟩]
abbrev c121_27 : SCode := .seq (.reg [40, 41, 42, 43, 44] [
  ⟨.op (.mv (.slot 0)), none, none⟩, 
  ⟨.op (.mv (.slot 1)), none, none⟩, 
  ⟨.op (.mv (.slot 2)), none, none⟩, 
  ⟨.op (.mv (.slot 4)), none, none⟩, 
  ⟨.callm (.con (.fn 126 [])) [((.slot 24), true), ((.slot 25), false), ((.slot 26), false), ((.slot 27), false)], none, none⟩]) c121_26
abbrev c121_28 : SCode := .cond (.slot 10) c121_27 (.skip)
abbrev c121_29 : SCode := .seq (.seq (.reg [38, 1149] [
  ⟨.op (.mv (.slot 5)), none, none⟩, 
  ⟨.op (.not (.slot 24)), some 10, none⟩]) c121_28) c121_25
abbrev c121_30 : SCode := .seq (.reg [33, 34, 35, 36, 37] [
  ⟨.op (.mv (.slot 0)), none, none⟩, 
  ⟨.op (.mv (.slot 1)), none, none⟩, 
  ⟨.op (.mv (.slot 2)), none, none⟩, 
  ⟨.op (.mv (.slot 4)), none, none⟩, 
  ⟨.callm (.con (.fn 125 [])) [((.slot 24), true), ((.slot 25), false), ((.slot 26), false), ((.slot 27), false)], none, none⟩]) (.ret)
abbrev c121_31 : SCode := .cond (.slot 9) c121_30 (.skip)
abbrev c121_32 : SCode := .seq (.seq (.reg [31, 1149] [
  ⟨.op (.mv (.slot 3)), none, none⟩, 
  ⟨.op (.bin .eql (.slot 24) (.con (.int .i64 0))), some 9, none⟩]) c121_31) c121_29
abbrev c121_33 : SCode := .seq (.reg [26, 27, 28, 29, 30] [
  ⟨.op (.mv (.slot 0)), none, none⟩, 
  ⟨.op (.mv (.slot 1)), none, none⟩, 
  ⟨.op (.mv (.slot 2)), none, none⟩, 
  ⟨.op (.mv (.slot 4)), none, none⟩, 
  ⟨.callm (.con (.fn 124 [])) [((.slot 24), true), ((.slot 25), false), ((.slot 26), false), ((.slot 27), false)], none, none⟩]) (.ret)
abbrev c121_34 : SCode := .cond (.slot 8) c121_33 (.skip)
abbrev c121_35 : SCode := .seq (.seq (.reg [24, 1149] [
  ⟨.op (.mv (.slot 7)), none, none⟩, 
  ⟨.op (.bin .leq (.slot 24) (.con (.int .i64 12))), some 8, none⟩]) c121_34) c121_32
abbrev b121_0 : SCode := .block 1 (.seq (.reg [21, 22, 23, 1151] [
  ⟨.op (.mv (.slot 2)), none, none⟩, 
  ⟨.op (.mv (.slot 1)), none, none⟩, 
  ⟨.op (.bin .sub (.slot 24) (.slot 25)), none, none⟩, 
  ⟨.op (.asg (.slot 26)), some 7, none⟩]) c121_35)
def l121_0 : SCode := .loop b121_0
abbrev c121_37 : SCode := .block 0 (l121_0)
abbrev c121_38 : SCode := .seq (.reg [1148] [
  ⟨.op (.asg (.con (.bool true))), some 6, none⟩]) c121_37
abbrev s121 : SCode := .seq (.reg [1148] [
  ⟨.op (.asg (.con (.bool true))), some 5, none⟩]) c121_38
theorem ok121 : okFn Go.Proofs.Try.prog Go.Proofs.Try.f121 v121 s121 r121 5 = true := by kernel_rfl

def v122 : List Nat := [0, 2]
def r122 : List SRes := [.tmp 1]
abbrev c122_0 : SCode := .seq (.reg [6, 7, 1010] [
  ⟨.op (.mv (.slot 0)), none, none⟩, 
  ⟨.call 133 [(.slot 2)] false, none, none⟩, 
  ⟨.op (.asg (.slot 3)), some 1, none⟩]) (.ret)
abbrev c122_1 : SCode := .seq (.reg [3, 4, 5, 1011] [
  ⟨.op (.mv (.slot 0)), none, none⟩, 
  ⟨.op (.conv .u32 (.slot 2)), none, none⟩, 
  ⟨.call 132 [(.slot 3)] false, none, none⟩, 
  ⟨.op (.asg (.slot 4)), some 1, none⟩]) (.ret)
abbrev c122_2 : SCode := .seq (.cond (.con (.bool false)) c122_1 (.skip)) c122_0
abbrev s122 : SCode := .seq (.reg [1008] [
  ⟨.op (.asg (.con (.int .i64 0))), some 1, none⟩]) c122_2
theorem ok122 : okFn Go.Proofs.Try.prog Go.Proofs.Try.f122 v122 s122 r122 1 = true := by kernel_rfl

def v123 : List Nat := [0, 2]
def r123 : List SRes := [.tmp 1]
abbrev c123_0 : SCode := .seq (.reg [3, 4, 5, 1009] [
  ⟨.op (.mv (.slot 0)), none, none⟩, 
  ⟨.op (.mv (.slot 0)), none, none⟩, 
  ⟨.op (.bin .neq (.slot 2) (.slot 3)), none, none⟩, 
  ⟨.op (.asg (.slot 4)), some 1, none⟩]) (.ret)
abbrev s123 : SCode := .seq (.reg [1006] [
  ⟨.op (.asg (.con (.bool false))), some 1, none⟩]) c123_0
theorem ok123 : okFn Go.Proofs.Try.prog Go.Proofs.Try.f123 v123 s123 r123 1 = true := by kernel_rfl

def v124 : List Nat := [0, 1, 2, 3, 8, 14, 9, 34]
def r124 : List SRes := []
abbrev c124_0 : SCode := .reg [15, 16, 1055] [
  ⟨.op (.mv (.slot 4)), none, none⟩, 
  ⟨.op (.bin .add (.slot 8) (.con (.int .i64 1))), none, none⟩, 
  ⟨.op (.asg (.slot 9)), some 4, none⟩]
abbrev c124_1 : SCode := .reg [35, 36, 1055] [
  ⟨.op (.mv (.slot 6)), none, none⟩, 
  ⟨.op (.bin .sub (.slot 8) (.con (.int .i64 1))), none, none⟩, 
  ⟨.op (.asg (.slot 9)), some 6, none⟩]
abbrev c124_2 : SCode := .seq (.block 3 (.bad )) c124_1
abbrev c124_3 : SCode := .cond (.slot 7) (.skip) (.exit 2)
abbrev b124_0 : SCode := .seq (.seq (.dreg [18, 19, 20, 21, 22, 23, 24, 25, 26, 27, 28, 29, 30, 31, 32, 33, 1069] [
  ⟨.op (.mv (.slot 6)), none, none⟩, 
  ⟨.op (.mv (.slot 1)), none, none⟩, 
  ⟨.op (.bin .gtr (.slot 8) (.slot 9)), none, none⟩, 
  ⟨.op (.mv (.slot 10)), none, none⟩, 
  ⟨.op (.mv (.slot 3)), none, some (11, true)⟩, 
  ⟨.op (.mv (.slot 0)), none, some (11, true)⟩, 
  ⟨.op (.mv (.slot 6)), none, some (11, true)⟩, 
  ⟨.op (.iaddr 2 (.slot 13) (.slot 14)), none, some (11, true)⟩, 
  ⟨.op (.load 2 true (.slot 15)), none, some (11, true)⟩, 
  ⟨.op (.mv (.slot 0)), none, some (11, true)⟩, 
  ⟨.op (.mv (.slot 6)), none, some (11, true)⟩, 
  ⟨.op (.bin .sub (.slot 18) (.con (.int .i64 1))), none, some (11, true)⟩, 
  ⟨.op (.iaddr 2 (.slot 17) (.slot 19)), none, some (11, true)⟩, 
  ⟨.op (.load 2 true (.slot 20)), none, some (11, true)⟩, 
  ⟨.callv (.slot 12) [(.slot 16), (.slot 21)], none, some (11, true)⟩, 
  ⟨.op (.bin .lss (.slot 22) (.con (.int .i64 0))), none, some (11, true)⟩, 
  ⟨.op (.pick (.slot 11) (.slot 23) (.con (.bool false))), some 7, none⟩]
  [[], [], [0, 1], [0, 1, 2], [0, 1, 2, 3], [0, 1, 2, 3], [0, 1, 2, 3], [0, 1, 2, 3, 5, 6], [0, 1, 2, 3, 5, 6, 7], [0, 1, 2, 3], [0, 1, 2, 3], [0, 1, 2, 3, 10], [0, 1, 2, 3, 9, 10, 11], [0, 1, 2, 3, 9, 10, 11, 12], [0, 1, 2, 3, 4, 5, 6, 7, 8, 9, 10, 11, 12, 13], [0, 1, 2, 3, 4, 5, 6, 7, 8, 9, 10, 11, 12, 13, 14], [0, 1, 2, 3, 4, 5, 6, 7, 8, 9, 10, 11, 12, 13, 14, 15]] 16 [] [([], none), ([false], none), ([true, true], none), ([true, true, true], none), ([true, true, true, true], none), ([true, true, true, true, false], none), ([true, true, true, true, false, false], none), ([true, true, true, true, false, true, true], none), ([true, true, true, true, false, true, true, true], none), ([true, true, true, true, false, false, false, false, false], none), ([true, true, true, true, false, false, false, false, false, false], none), ([true, true, true, true, false, false, false, false, false, false, true], none), ([true, true, true, true, false, false, false, false, false, true, true, true], none), ([true, true, true, true, false, false, false, false, false, true, true, true, true], none), ([true, true, true, true, true, true, true, true, true, true, true, true, true, true], none), ([true, true, true, true, true, true, true, true, true, true, true, true, true, true, true], none)] [true, true, true, true, true, true, true, true, true, true, true, true, true, true, true, true]) c124_3) c124_2
def l124_0 : SCode := .loop b124_0
abbrev c124_5 : SCode := .block 2 (l124_0)
abbrev c124_6 : SCode := .seq (.block 1 (.seq (.reg [17, 1054] [
  ⟨.op (.mv (.slot 4)), none, none⟩, 
  ⟨.op (.asg (.slot 8)), some 6, none⟩]) c124_5)) c124_0
abbrev c124_7 : SCode := .cond (.slot 5) (.skip) (.exit 0)
abbrev b124_1 : SCode := .seq (.seq (.reg [12, 13, 1055] [
  ⟨.op (.mv (.slot 4)), none, none⟩, 
  ⟨.op (.mv (.slot 2)), none, none⟩, 
  ⟨.op (.bin .lss (.slot 8) (.slot 9)), some 5, none⟩]) c124_7) c124_6
def l124_1 : SCode := .loop b124_1
abbrev c124_9 : SCode := .block 0 (l124_1)
abbrev s124 : SCode := .seq (.reg [10, 11, 1055] [
  ⟨.op (.mv (.slot 1)), none, none⟩, 
  ⟨.op (.bin .add (.slot 8) (.con (.int .i64 1))), none, none⟩, 
  ⟨.op (.asg (.slot 9)), some 4, none⟩]) c124_9
theorem ok124 : okFn Go.Proofs.Try.prog Go.Proofs.Try.f124 v124 s124 r124 4 = true := by kernel_rfl

def v125 : List Nat := [0, 1, 2, 3, 8, 9, 10, 11, 21, 12, 33]
def r125 : List SRes := []
abbrev c125_0 : SCode := .reg [34, 35, 1062] [
  ⟨.op (.mv (.slot 9)), none, none⟩, 
  ⟨.op (.bin .sub (.slot 11) (.con (.int .i64 1))), none, none⟩, 
  ⟨.op (.asg (.slot 12)), some 9, none⟩]
abbrev c125_1 : SCode := .reg [54, 55, 56, 57, 58, 59] [
  ⟨.op (.mv (.slot 0)), none, none⟩, 
  ⟨.op (.mv (.slot 5)), none, none⟩, 
  ⟨.op (.mv (.slot 9)), none, none⟩, 
  ⟨.op (.mv (.slot 4)), none, none⟩, 
  ⟨.op (.mv (.slot 3)), none, none⟩, 
  ⟨.callm (.con (.fn 134 [])) [((.slot 11), true), ((.slot 12), false), ((.slot 13), false), ((.slot 14), false), ((.slot 15), false)], none, none⟩]
abbrev c125_2 : SCode := .seq (.block 3 (.seq (.bad ) c125_1)) c125_0
abbrev c125_3 : SCode := .cond (.slot 10) (.skip) (.exit 2)
abbrev b125_0 : SCode := .seq (.seq (.reg [32, 1061] [
  ⟨.op (.mv (.slot 9)), none, none⟩, 
  ⟨.op (.bin .geq (.slot 11) (.con (.int .i64 0))), some 10, none⟩]) c125_3) c125_2
def l125_0 : SCode := .loop b125_0
abbrev c125_5 : SCode := .block 2 (l125_0)
abbrev c125_6 : SCode := .seq (.reg [30, 31, 1062] [
  ⟨.op (.mv (.slot 6)), none, none⟩, 
  ⟨.op (.bin .sub (.slot 11) (.con (.int .i64 1))), none, none⟩, 
  ⟨.op (.asg (.slot 12)), some 9, none⟩]) c125_5
abbrev c125_7 : SCode := .reg [22, 23, 1062] [
  ⟨.op (.mv (.slot 7)), none, none⟩, 
  ⟨.op (.bin .sub (.slot 11) (.con (.int .i64 1))), none, none⟩, 
  ⟨.op (.asg (.slot 12)), some 7, none⟩]
abbrev c125_8 : SCode := .seq (.block 1 (.reg [24, 25, 26, 27, 28, 29] [
  ⟨.op (.mv (.slot 0)), none, none⟩, 
  ⟨.op (.mv (.slot 7)), none, none⟩, 
  ⟨.op (.mv (.slot 6)), none, none⟩, 
  ⟨.op (.mv (.slot 4)), none, none⟩, 
  ⟨.op (.mv (.slot 3)), none, none⟩, 
  ⟨.callm (.con (.fn 134 [])) [((.slot 11), true), ((.slot 12), false), ((.slot 13), false), ((.slot 14), false), ((.slot 15), false)], none, none⟩])) c125_7
abbrev c125_9 : SCode := .cond (.slot 8) (.skip) (.exit 0)
abbrev b125_1 : SCode := .seq (.seq (.reg [20, 1061] [
  ⟨.op (.mv (.slot 7)), none, none⟩, 
  ⟨.op (.bin .geq (.slot 11) (.con (.int .i64 0))), some 8, none⟩]) c125_9) c125_8
def l125_1 : SCode := .loop b125_1
abbrev c125_11 : SCode := .block 0 (l125_1)
abbrev c125_12 : SCode := .seq (.seq (.reg [17, 18, 19, 1063] [
  ⟨.op (.mv (.slot 6)), none, none⟩, 
  ⟨.op (.bin .sub (.slot 11) (.con (.int .i64 1))), none, none⟩, 
  ⟨.op (.bin .quo (.slot 12) (.con (.int .i64 2))), none, none⟩, 
  ⟨.op (.asg (.slot 13)), some 7, none⟩]) c125_11) c125_6
abbrev c125_13 : SCode := .seq (.reg [14, 15, 16, 1063] [
  ⟨.op (.mv (.slot 2)), none, none⟩, 
  ⟨.op (.mv (.slot 1)), none, none⟩, 
  ⟨.op (.bin .sub (.slot 11) (.slot 12)), none, none⟩, 
  ⟨.op (.asg (.slot 13)), some 6, none⟩]) c125_12
abbrev c125_14 : SCode := .seq (.reg [1060] [
  ⟨.op (.asg (.con (.int .i64 0))), some 5, none⟩]) c125_13
abbrev s125 : SCode := .seq (.reg [13, 1061] [
  ⟨.op (.mv (.slot 1)), none, none⟩, 
  ⟨.op (.asg (.slot 11)), some 4, none⟩]) c125_14
theorem ok125 : okFn Go.Proofs.Try.prog Go.Proofs.Try.f125 v125 s125 r125 4 = true := by kernel_rfl

def v126 : List Nat := [0, 1, 2, 3, 8, 17, 9, 10, 11, 35, 12, 45]
def r126 : List SRes := []
abbrev c126_0 : SCode := .reg [36, 37, 1069] [
  ⟨.op (.mv (.slot 8)), none, none⟩, 
  ⟨.op (.bin .add (.slot 12) (.con (.int .i64 1))), none, none⟩, 
  ⟨.op (.asg (.slot 13)), some 8, none⟩]
abbrev c126_1 : SCode := .reg [46, 47, 48, 1070] [
  ⟨.op (.mv (.slot 10)), none, none⟩, 
  ⟨.op (.mv (.slot 4)), none, none⟩, 
  ⟨.op (.bin .sub (.slot 12) (.slot 13)), none, none⟩, 
  ⟨.op (.asg (.slot 14)), some 10, none⟩]
abbrev c126_2 : SCode := .cond (.slot 11) c126_1 (.skip)
abbrev c126_3 : SCode := .seq (.seq (.reg [43, 44, 1069] [
  ⟨.op (.mv (.slot 10)), none, none⟩, 
  ⟨.op (.mv (.slot 4)), none, none⟩, 
  ⟨.op (.bin .geq (.slot 12) (.slot 13)), some 11, none⟩]) c126_2) (.bad )
abbrev c126_4 : SCode := .seq (.block 1 (.seq (.reg [38, 39, 40, 41, 42, 1072] [
  ⟨.call 136 [(.slot 6)] false, none, none⟩, 
  ⟨.op (.mv (.slot 7)), none, none⟩, 
  ⟨.op (.bin .sub (.slot 13) (.con (.int .u64 1))), none, none⟩, 
  ⟨.op (.bin .and (.slot 12) (.slot 14)), none, none⟩, 
  ⟨.op (.conv .i64 (.slot 15)), none, none⟩, 
  ⟨.op (.asg (.slot 16)), some 10, none⟩]) c126_3)) c126_0
abbrev c126_5 : SCode := .cond (.slot 9) (.skip) (.exit 0)
abbrev b126_0 : SCode := .seq (.seq (.reg [28, 29, 30, 31, 32, 33, 34, 1074] [
  ⟨.op (.mv (.slot 8)), none, none⟩, 
  ⟨.op (.mv (.slot 1)), none, none⟩, 
  ⟨.op (.mv (.slot 4)), none, none⟩, 
  ⟨.op (.bin .quo (.slot 14) (.con (.int .i64 4))), none, none⟩, 
  ⟨.op (.bin .mul (.slot 15) (.con (.int .i64 2))), none, none⟩, 
  ⟨.op (.bin .add (.slot 13) (.slot 16)), none, none⟩, 
  ⟨.op (.bin .add (.slot 17) (.con (.int .i64 1))), none, none⟩, 
  ⟨.op (.bin .leq (.slot 12) (.slot 18)), some 9, none⟩]) c126_5) c126_4
def l126_0 : SCode := .loop b126_0
abbrev c126_7 : SCode := .block 0 (l126_0)
abbrev c126_8 : SCode := .seq (.reg [22, 23, 24, 25, 26, 27, 1073] [
  ⟨.op (.mv (.slot 1)), none, none⟩, 
  ⟨.op (.mv (.slot 4)), none, none⟩, 
  ⟨.op (.bin .quo (.slot 13) (.con (.int .i64 4))), none, none⟩, 
  ⟨.op (.bin .mul (.slot 14) (.con (.int .i64 2))), none, none⟩, 
  ⟨.op (.bin .add (.slot 12) (.slot 15)), none, none⟩, 
  ⟨.op (.bin .sub (.slot 16) (.con (.int .i64 1))), none, none⟩, 
  ⟨.op (.asg (.slot 17)), some 8, none⟩]) c126_7
abbrev c126_9 : SCode := .seq (.reg [20, 21, 1069] [
  ⟨.op (.mv (.slot 4)), none, none⟩, 
  ⟨.call 135 [(.slot 12)] false, none, none⟩, 
  ⟨.op (.asg (.slot 13)), some 7, none⟩]) c126_8
abbrev c126_10 : SCode := .seq (.reg [18, 19, 1069, 1070] [
  ⟨.op (.mv (.slot 4)), none, none⟩, 
  ⟨.op (.conv .u64 (.slot 12)), none, none⟩, 
  ⟨.op (.mk 141 [(.int .u64 0)]), some 6, none⟩, 
  ⟨.op (.store 1 false (.slot 6) (.slot 13)), none, none⟩]) c126_9
abbrev c126_11 : SCode := .cond (.slot 5) c126_10 (.skip)
abbrev c126_12 : SCode := .seq (.reg [16, 1068] [
  ⟨.op (.mv (.slot 4)), none, none⟩, 
  ⟨.op (.bin .geq (.slot 12) (.con (.int .i64 8))), some 5, none⟩]) c126_11
abbrev s126 : SCode := .seq (.reg [13, 14, 15, 1070] [
  ⟨.op (.mv (.slot 2)), none, none⟩, 
  ⟨.op (.mv (.slot 1)), none, none⟩, 
  ⟨.op (.bin .sub (.slot 12) (.slot 13)), none, none⟩, 
  ⟨.op (.asg (.slot 14)), some 4, none⟩]) c126_12
theorem ok126 : okFn Go.Proofs.Try.prog Go.Proofs.Try.f126 v126 s126 r126 4 = true := by kernel_rfl

def v127 : List Nat := [0, 1, 2, 3, 8, 9, 10, 11, 12, 13, 14, 34, 36, 55, 57, 60]
def r127 : List SRes := [.tmp 4, .tmp 5]
abbrev c127_0 : SCode := .seq (.reg [59, 1064, 1065] [
  ⟨.op (.mv (.slot 9)), none, none⟩, 
  ⟨.op (.asg (.slot 16)), some 4, none⟩, 
  ⟨.op (.asg (.con (.int .i64 1))), some 5, none⟩]) (.ret)
abbrev c127_1 : SCode := .seq (.reg [62, 1064, 1065] [
  ⟨.op (.mv (.slot 9)), none, none⟩, 
  ⟨.op (.asg (.slot 16)), some 4, none⟩, 
  ⟨.op (.asg (.con (.int .i64 2))), some 5, none⟩]) (.ret)
abbrev c127_2 : SCode := .seq (.reg [56, 1064, 1065] [
  ⟨.op (.mv (.slot 9)), none, none⟩, 
  ⟨.op (.asg (.slot 16)), some 4, none⟩, 
  ⟨.op (.asg (.con (.int .i64 0))), some 5, none⟩]) (.ret)
abbrev c127_3 : SCode := .cond (.slot 15) c127_1 c127_2
abbrev c127_4 : SCode := .seq (.reg [61, 1064] [
  ⟨.op (.bin .eql (.slot 13) (.con (.int .i64 12))), none, none⟩, 
  ⟨.op (.asg (.slot 16)), some 15, none⟩]) c127_3
abbrev c127_5 : SCode := .cond (.slot 14) c127_0 c127_4
abbrev c127_6 : SCode := .block 0 (.seq (.reg [58, 1064] [
  ⟨.op (.bin .eql (.slot 13) (.con (.int .i64 0))), none, none⟩, 
  ⟨.op (.asg (.slot 16)), some 14, none⟩]) c127_5)
abbrev c127_7 : SCode := .seq (.reg [1063] [
  ⟨.op (.load 1 false (.slot 7)), some 13, none⟩]) c127_6
abbrev c127_8 : SCode := .reg [49, 50, 51, 52, 53, 54, 1069] [
  ⟨.op (.mv (.slot 0)), none, none⟩, 
  ⟨.op (.mv (.slot 8)), none, none⟩, 
  ⟨.op (.mv (.slot 9)), none, none⟩, 
  ⟨.op (.mv (.slot 10)), none, none⟩, 
  ⟨.op (.mv (.slot 3)), none, none⟩, 
  ⟨.call 138 [(.slot 16), (.slot 17), (.slot 18), (.slot 19), (.slot 7), (.slot 20)] false, none, none⟩, 
  ⟨.op (.asg (.slot 21)), some 9, none⟩]
abbrev c127_9 : SCode := .reg [45, 46, 47, 48, 1067] [
  ⟨.op (.mv (.slot 0)), none, none⟩, 
  ⟨.op (.mv (.slot 10)), none, none⟩, 
  ⟨.op (.mv (.slot 3)), none, none⟩, 
  ⟨.call 137 [(.slot 16), (.slot 17), (.slot 7), (.slot 18)] false, none, none⟩, 
  ⟨.op (.asg (.slot 19)), some 10, none⟩]
abbrev c127_10 : SCode := .seq (.reg [41, 42, 43, 44, 1067] [
  ⟨.op (.mv (.slot 0)), none, none⟩, 
  ⟨.op (.mv (.slot 9)), none, none⟩, 
  ⟨.op (.mv (.slot 3)), none, none⟩, 
  ⟨.call 137 [(.slot 16), (.slot 17), (.slot 7), (.slot 18)] false, none, none⟩, 
  ⟨.op (.asg (.slot 19)), some 9, none⟩]) c127_9
abbrev c127_11 : SCode := .seq (.reg [37, 38, 39, 40, 1067] [
  ⟨.op (.mv (.slot 0)), none, none⟩, 
  ⟨.op (.mv (.slot 8)), none, none⟩, 
  ⟨.op (.mv (.slot 3)), none, none⟩, 
  ⟨.call 137 [(.slot 16), (.slot 17), (.slot 7), (.slot 18)] false, none, none⟩, 
  ⟨.op (.asg (.slot 19)), some 8, none⟩]) c127_10
abbrev c127_12 : SCode := .cond (.slot 12) c127_11 (.skip)
abbrev c127_13 : SCode := .seq (.seq (.reg [35, 1064] [
  ⟨.op (.mv (.slot 6)), none, none⟩, 
  ⟨.op (.bin .geq (.slot 16) (.con (.int .i64 50))), some 12, none⟩]) c127_12) c127_8
abbrev c127_14 : SCode := .cond (.slot 11) c127_13 (.skip)
abbrev c127_15 : SCode := .seq (.seq (.reg [33, 1064] [
  ⟨.op (.mv (.slot 6)), none, none⟩, 
  ⟨.op (.bin .geq (.slot 16) (.con (.int .i64 8))), some 11, none⟩]) c127_14) c127_7
abbrev c127_16 : SCode := .seq (.reg [28, 29, 30, 31, 32, 1068] [
  ⟨.op (.mv (.slot 1)), none, none⟩, 
  ⟨.op (.mv (.slot 6)), none, none⟩, 
  ⟨.op (.bin .quo (.slot 17) (.con (.int .i64 4))), none, none⟩, 
  ⟨.op (.bin .mul (.slot 18) (.con (.int .i64 3))), none, none⟩, 
  ⟨.op (.bin .add (.slot 16) (.slot 19)), none, none⟩, 
  ⟨.op (.asg (.slot 20)), some 10, none⟩]) c127_15
abbrev c127_17 : SCode := .seq (.reg [23, 24, 25, 26, 27, 1068] [
  ⟨.op (.mv (.slot 1)), none, none⟩, 
  ⟨.op (.mv (.slot 6)), none, none⟩, 
  ⟨.op (.bin .quo (.slot 17) (.con (.int .i64 4))), none, none⟩, 
  ⟨.op (.bin .mul (.slot 18) (.con (.int .i64 2))), none, none⟩, 
  ⟨.op (.bin .add (.slot 16) (.slot 19)), none, none⟩, 
  ⟨.op (.asg (.slot 20)), some 9, none⟩]) c127_16
abbrev c127_18 : SCode := .seq (.reg [18, 19, 20, 21, 22, 1068] [
  ⟨.op (.mv (.slot 1)), none, none⟩, 
  ⟨.op (.mv (.slot 6)), none, none⟩, 
  ⟨.op (.bin .quo (.slot 17) (.con (.int .i64 4))), none, none⟩, 
  ⟨.op (.bin .mul (.slot 18) (.con (.int .i64 1))), none, none⟩, 
  ⟨.op (.bin .add (.slot 16) (.slot 19)), none, none⟩, 
  ⟨.op (.asg (.slot 20)), some 8, none⟩]) c127_17
abbrev c127_19 : SCode := .seq (.reg [1063] [
  ⟨.op (.mk 3 [(.int .i64 0)]), some 7, none⟩]) c127_18
abbrev c127_20 : SCode := .seq (.reg [15, 16, 17, 1066] [
  ⟨.op (.mv (.slot 2)), none, none⟩, 
  ⟨.op (.mv (.slot 1)), none, none⟩, 
  ⟨.op (.bin .sub (.slot 16) (.slot 17)), none, none⟩, 
  ⟨.op (.asg (.slot 18)), some 6, none⟩]) c127_19
abbrev s127 : SCode := .seq (.reg [1063, 1064] [
  ⟨.op (.asg (.con (.int .i64 0))), some 4, none⟩, 
  ⟨.op (.asg (.con (.int .i64 0))), some 5, none⟩]) c127_20
theorem ok127 : okFn Go.Proofs.Try.prog Go.Proofs.Try.f127 v127 s127 r127 4 = true := by kernel_rfl

def v128 : List Nat := [0, 1, 2, 3, 8, 9, 15]
def r128 : List SRes := []
abbrev c128_0 : SCode := .reg [32, 33, 1036] [
  ⟨.op (.mv (.slot 5)), none, none⟩, 
  ⟨.op (.bin .sub (.slot 7) (.con (.int .i64 1))), none, none⟩, 
  ⟨.op (.asg (.slot 8)), some 5, none⟩]
abbrev c128_1 : SCode := .seq (.reg [30, 31, 1036] [
  ⟨.op (.mv (.slot 4)), none, none⟩, 
  ⟨.op (.bin .add (.slot 7) (.con (.int .i64 1))), none, none⟩, 
  ⟨.op (.asg (.slot 8)), some 4, none⟩]) c128_0
abbrev c128_2 : SCode := .block 1 (.seq (.bad ) c128_1)
abbrev c128_3 : SCode := .cond (.slot 6) (.skip) (.exit 0)
abbrev b128_0 : SCode := .seq (.seq (.reg [13, 14, 1036] [
  ⟨.op (.mv (.slot 4)), none, none⟩, 
  ⟨.op (.mv (.slot 5)), none, none⟩, 
  ⟨.op (.bin .lss (.slot 7) (.slot 8)), some 6, none⟩]) c128_3) c128_2
def l128_0 : SCode := .loop b128_0
abbrev c128_5 : SCode := .block 0 (l128_0)
abbrev c128_6 : SCode := .seq (.reg [11, 12, 1036] [
  ⟨.op (.mv (.slot 2)), none, none⟩, 
  ⟨.op (.bin .sub (.slot 7) (.con (.int .i64 1))), none, none⟩, 
  ⟨.op (.asg (.slot 8)), some 5, none⟩]) c128_5
abbrev s128 : SCode := .seq (.reg [10, 1035] [
  ⟨.op (.mv (.slot 1)), none, none⟩, 
  ⟨.op (.asg (.slot 7)), some 4, none⟩]) c128_6
theorem ok128 : okFn Go.Proofs.Try.prog Go.Proofs.Try.f128 v128 s128 r128 4 = true := by kernel_rfl

def v129 : List Nat := [0, 1, 2, 3, 8, 9, 10, 16, 36, 41, 45, 65, 11, 69, 84, 104, 12, 109, 124]
def r129 : List SRes := [.tmp 4]
abbrev c129_0 : SCode := .seq (.reg [1141] [
  ⟨.op (.asg (.con (.bool false))), some 4, none⟩]) (.ret)
abbrev c129_1 : SCode := .reg [17, 18, 1143] [
  ⟨.op (.mv (.slot 6)), none, none⟩, 
  ⟨.op (.bin .add (.slot 19) (.con (.int .i64 1))), none, none⟩, 
  ⟨.op (.asg (.slot 20)), some 6, none⟩]
abbrev c129_2 : SCode := .reg [110, 111, 1143] [
  ⟨.op (.mv (.slot 16)), none, none⟩, 
  ⟨.op (.bin .add (.slot 19) (.con (.int .i64 1))), none, none⟩, 
  ⟨.op (.asg (.slot 20)), some 16, none⟩]
abbrev c129_3 : SCode := .cond (.slot 18) (.exit 6) (.skip)
abbrev c129_4 : SCode := .seq (.block 7 (.seq (.seq (.dreg [112, 113, 114, 115, 116, 117, 118, 119, 120, 121, 122, 123, 1153] [
  ⟨.op (.mv (.slot 3)), none, none⟩, 
  ⟨.op (.mv (.slot 0)), none, none⟩, 
  ⟨.op (.mv (.slot 16)), none, none⟩, 
  ⟨.op (.iaddr 2 (.slot 20) (.slot 21)), none, none⟩, 
  ⟨.op (.load 2 true (.slot 22)), none, none⟩, 
  ⟨.op (.mv (.slot 0)), none, none⟩, 
  ⟨.op (.mv (.slot 16)), none, none⟩, 
  ⟨.op (.bin .sub (.slot 25) (.con (.int .i64 1))), none, none⟩, 
  ⟨.op (.iaddr 2 (.slot 24) (.slot 26)), none, none⟩, 
  ⟨.op (.load 2 true (.slot 27)), none, none⟩, 
  ⟨.callv (.slot 19) [(.slot 23), (.slot 28)], none, none⟩, 
  ⟨.op (.bin .lss (.slot 29) (.con (.int .i64 0))), none, none⟩, 
  ⟨.op (.not (.slot 30)), some 18, none⟩]
  [[], [], [], [1, 2], [1, 2, 3], [], [], [6], [5, 6, 7], [5, 6, 7, 8], [0, 1, 2, 3, 4, 5, 6, 7, 8, 9], [0, 1, 2, 3, 4, 5, 6, 7, 8, 9, 10], [0, 1, 2, 3, 4, 5, 6, 7, 8, 9, 10, 11]] 12 [] [([], none), ([false], none), ([false, false], none), ([false, true, true], none), ([false, true, true, true], none), ([false, false, false, false, false], none), ([false, false, false, false, false, false], none), ([false, false, false, false, false, false, true], none), ([false, false, false, false, false, true, true, true], none), ([false, false, false, false, false, true, true, true, true], none), ([true, true, true, true, true, true, true, true, true, true], none), ([true, true, true, true, true, true, true, true, true, true, true], none)] [true, true, true, true, true, true, true, true, true, true, true, true]) c129_3) (.bad ))) c129_2
abbrev c129_5 : SCode := .cond (.slot 17) (.skip) (.exit 6)
abbrev b129_0 : SCode := .seq (.seq (.reg [107, 108, 1143] [
  ⟨.op (.mv (.slot 16)), none, none⟩, 
  ⟨.op (.mv (.slot 2)), none, none⟩, 
  ⟨.op (.bin .lss (.slot 19) (.slot 20)), some 17, none⟩]) c129_5) c129_4
def l129_0 : SCode := .loop b129_0
abbrev c129_7 : SCode := .block 6 (l129_0)
abbrev c129_8 : SCode := .seq (.reg [105, 106, 1143] [
  ⟨.op (.mv (.slot 5)), none, none⟩, 
  ⟨.op (.bin .add (.slot 19) (.con (.int .i64 1))), none, none⟩, 
  ⟨.op (.asg (.slot 20)), some 16, none⟩]) c129_7
abbrev c129_9 : SCode := .cond (.slot 15) c129_8 (.skip)
abbrev c129_10 : SCode := .seq (.reg [101, 102, 103, 1144] [
  ⟨.op (.mv (.slot 2)), none, none⟩, 
  ⟨.op (.mv (.slot 5)), none, none⟩, 
  ⟨.op (.bin .sub (.slot 19) (.slot 20)), none, none⟩, 
  ⟨.op (.bin .geq (.slot 21) (.con (.int .i64 2))), some 15, none⟩]) c129_9
abbrev c129_11 : SCode := .reg [70, 71, 1143] [
  ⟨.op (.mv (.slot 12)), none, none⟩, 
  ⟨.op (.bin .sub (.slot 19) (.con (.int .i64 1))), none, none⟩, 
  ⟨.op (.asg (.slot 20)), some 12, none⟩]
abbrev c129_12 : SCode := .cond (.slot 14) (.exit 4) (.skip)
abbrev c129_13 : SCode := .seq (.block 5 (.seq (.seq (.dreg [72, 73, 74, 75, 76, 77, 78, 79, 80, 81, 82, 83, 1153] [
  ⟨.op (.mv (.slot 3)), none, none⟩, 
  ⟨.op (.mv (.slot 0)), none, none⟩, 
  ⟨.op (.mv (.slot 12)), none, none⟩, 
  ⟨.op (.iaddr 2 (.slot 20) (.slot 21)), none, none⟩, 
  ⟨.op (.load 2 true (.slot 22)), none, none⟩, 
  ⟨.op (.mv (.slot 0)), none, none⟩, 
  ⟨.op (.mv (.slot 12)), none, none⟩, 
  ⟨.op (.bin .sub (.slot 25) (.con (.int .i64 1))), none, none⟩, 
  ⟨.op (.iaddr 2 (.slot 24) (.slot 26)), none, none⟩, 
  ⟨.op (.load 2 true (.slot 27)), none, none⟩, 
  ⟨.callv (.slot 19) [(.slot 23), (.slot 28)], none, none⟩, 
  ⟨.op (.bin .lss (.slot 29) (.con (.int .i64 0))), none, none⟩, 
  ⟨.op (.not (.slot 30)), some 14, none⟩]
  [[], [], [], [1, 2], [1, 2, 3], [], [], [6], [5, 6, 7], [5, 6, 7, 8], [0, 1, 2, 3, 4, 5, 6, 7, 8, 9], [0, 1, 2, 3, 4, 5, 6, 7, 8, 9, 10], [0, 1, 2, 3, 4, 5, 6, 7, 8, 9, 10, 11]] 12 [] [([], none), ([false], none), ([false, false], none), ([false, true, true], none), ([false, true, true, true], none), ([false, false, false, false, false], none), ([false, false, false, false, false, false], none), ([false, false, false, false, false, false, true], none), ([false, false, false, false, false, true, true, true], none), ([false, false, false, false, false, true, true, true, true], none), ([true, true, true, true, true, true, true, true, true, true], none), ([true, true, true, true, true, true, true, true, true, true, true], none)] [true, true, true, true, true, true, true, true, true, true, true, true]) c129_12) (.bad ))) c129_11
abbrev c129_14 : SCode := .cond (.slot 13) (.skip) (.exit 4)
abbrev b129_1 : SCode := .seq (.seq (.reg [68, 1142] [
  ⟨.op (.mv (.slot 12)), none, none⟩, 
  ⟨.op (.bin .geq (.slot 19) (.con (.int .i64 1))), some 13, none⟩]) c129_14) c129_13
def l129_1 : SCode := .loop b129_1
abbrev c129_16 : SCode := .block 4 (l129_1)
abbrev c129_17 : SCode := .seq (.reg [66, 67, 1143] [
  ⟨.op (.mv (.slot 5)), none, none⟩, 
  ⟨.op (.bin .sub (.slot 19) (.con (.int .i64 1))), none, none⟩, 
  ⟨.op (.asg (.slot 20)), some 12, none⟩]) c129_16
abbrev c129_18 : SCode := .cond (.slot 11) c129_17 (.skip)
abbrev c129_19 : SCode := .seq (.seq (.reg [62, 63, 64, 1144] [
  ⟨.op (.mv (.slot 5)), none, none⟩, 
  ⟨.op (.mv (.slot 1)), none, none⟩, 
  ⟨.op (.bin .sub (.slot 19) (.slot 20)), none, none⟩, 
  ⟨.op (.bin .geq (.slot 21) (.con (.int .i64 2))), some 11, none⟩]) c129_18) c129_10
abbrev c129_20 : SCode := .seq (.bad ) c129_19
abbrev c129_21 : SCode := .seq (.reg [1141] [
  ⟨.op (.asg (.con (.bool false))), some 4, none⟩]) (.ret)
abbrev c129_22 : SCode := .cond (.slot 10) c129_21 (.skip)
abbrev c129_23 : SCode := .seq (.seq (.reg [42, 43, 44, 1144] [
  ⟨.op (.mv (.slot 2)), none, none⟩, 
  ⟨.op (.mv (.slot 1)), none, none⟩, 
  ⟨.op (.bin .sub (.slot 19) (.slot 20)), none, none⟩, 
  ⟨.op (.bin .lss (.slot 21) (.con (.int .i64 50))), some 10, none⟩]) c129_22) c129_20
abbrev c129_24 : SCode := .seq (.reg [1141] [
  ⟨.op (.asg (.con (.bool true))), some 4, none⟩]) (.ret)
abbrev c129_25 : SCode := .cond (.slot 9) c129_24 (.skip)
abbrev c129_26 : SCode := .seq (.seq (.reg [39, 40, 1143] [
  ⟨.op (.mv (.slot 5)), none, none⟩, 
  ⟨.op (.mv (.slot 2)), none, none⟩, 
  ⟨.op (.bin .eql (.slot 19) (.slot 20)), some 9, none⟩]) c129_25) c129_23
abbrev c129_27 : SCode := .block 3 (.reg [37, 38, 1143] [
  ⟨.op (.mv (.slot 5)), none, none⟩, 
  ⟨.op (.bin .add (.slot 19) (.con (.int .i64 1))), none, none⟩, 
  ⟨.op (.asg (.slot 20)), some 5, none⟩])
abbrev c129_28 : SCode := .cond (.slot 8) (.skip) (.exit 2)
abbrev b129_2 : SCode := .seq (.seq (.dreg [19, 20, 21, 22, 23, 24, 25, 26, 27, 28, 29, 30, 31, 32, 33, 34, 35, 1158] [
  ⟨.op (.mv (.slot 5)), none, none⟩, 
  ⟨.op (.mv (.slot 2)), none, none⟩, 
  ⟨.op (.bin .lss (.slot 19) (.slot 20)), none, none⟩, 
  ⟨.op (.mv (.slot 21)), none, none⟩, 
  ⟨.op (.mv (.slot 3)), none, some (22, true)⟩, 
  ⟨.op (.mv (.slot 0)), none, some (22, true)⟩, 
  ⟨.op (.mv (.slot 5)), none, some (22, true)⟩, 
  ⟨.op (.iaddr 2 (.slot 24) (.slot 25)), none, some (22, true)⟩, 
  ⟨.op (.load 2 true (.slot 26)), none, some (22, true)⟩, 
  ⟨.op (.mv (.slot 0)), none, some (22, true)⟩, 
  ⟨.op (.mv (.slot 5)), none, some (22, true)⟩, 
  ⟨.op (.bin .sub (.slot 29) (.con (.int .i64 1))), none, some (22, true)⟩, 
  ⟨.op (.iaddr 2 (.slot 28) (.slot 30)), none, some (22, true)⟩, 
  ⟨.op (.load 2 true (.slot 31)), none, some (22, true)⟩, 
  ⟨.callv (.slot 23) [(.slot 27), (.slot 32)], none, some (22, true)⟩, 
  ⟨.op (.bin .lss (.slot 33) (.con (.int .i64 0))), none, some (22, true)⟩, 
  ⟨.op (.not (.slot 34)), none, some (22, true)⟩, 
  ⟨.op (.pick (.slot 22) (.slot 35) (.con (.bool false))), some 8, none⟩]
  [[], [], [0, 1], [0, 1, 2], [0, 1, 2, 3], [0, 1, 2, 3], [0, 1, 2, 3], [0, 1, 2, 3, 5, 6], [0, 1, 2, 3, 5, 6, 7], [0, 1, 2, 3], [0, 1, 2, 3], [0, 1, 2, 3, 10], [0, 1, 2, 3, 9, 10, 11], [0, 1, 2, 3, 9, 10, 11, 12], [0, 1, 2, 3, 4, 5, 6, 7, 8, 9, 10, 11, 12, 13], [0, 1, 2, 3, 4, 5, 6, 7, 8, 9, 10, 11, 12, 13, 14], [0, 1, 2, 3, 4, 5, 6, 7, 8, 9, 10, 11, 12, 13, 14, 15], [0, 1, 2, 3, 4, 5, 6, 7, 8, 9, 10, 11, 12, 13, 14, 15, 16]] 17 [] [([], none), ([false], none), ([true, true], none), ([true, true, true], none), ([true, true, true, true], none), ([true, true, true, true, false], none), ([true, true, true, true, false, false], none), ([true, true, true, true, false, true, true], none), ([true, true, true, true, false, true, true, true], none), ([true, true, true, true, false, false, false, false, false], none), ([true, true, true, true, false, false, false, false, false, false], none), ([true, true, true, true, false, false, false, false, false, false, true], none), ([true, true, true, true, false, false, false, false, false, true, true, true], none), ([true, true, true, true, false, false, false, false, false, true, true, true, true], none), ([true, true, true, true, true, true, true, true, true, true, true, true, true, true], none), ([true, true, true, true, true, true, true, true, true, true, true, true, true, true, true], none), ([true, true, true, true, true, true, true, true, true, true, true, true, true, true, true, true], none)] [true, true, true, true, true, true, true, true, true, true, true, true, true, true, true, true, true]) c129_28) c129_27
def l129_2 : SCode := .loop b129_2
abbrev c129_30 : SCode := .seq (.block 1 (.seq (.block 2 (l129_2)) c129_26)) c129_1
abbrev c129_31 : SCode := .cond (.slot 7) (.skip) (.exit 0)
abbrev b129_3 : SCode := .seq (.seq (.reg [15, 1142] [
  ⟨.op (.mv (.slot 6)), none, none⟩, 
  ⟨.op (.bin .lss (.slot 19) (.con (.int .i64 5))), some 7, none⟩]) c129_31) c129_30
def l129_3 : SCode := .loop b129_3
abbrev c129_33 : SCode := .block 0 (l129_3)
abbrev c129_34 : SCode := .seq (.seq (.reg [1141] [
  ⟨.op (.asg (.con (.int .i64 0))), some 6, none⟩]) c129_33) c129_0
abbrev c129_35 : SCode := .seq (.reg [13, 14, 1143] [
  ⟨.op (.mv (.slot 1)), none, none⟩, 
  ⟨.op (.bin .add (.slot 19) (.con (.int .i64 1))), none, none⟩, 
  ⟨.op (.asg (.slot 20)), some 5, none⟩]) c129_34
abbrev s129 : SCode := .seq (.reg [1141] [
  ⟨.op (.asg (.con (.bool false))), some 4, none⟩]) c129_35
theorem ok129 : okFn Go.Proofs.Try.prog Go.Proofs.Try.f129 v129 s129 r129 4 = true := by kernel_rfl

def v130 : List Nat := [0, 1, 2, 3, 4, 10, 11, 12, 47, 65, 70]
def r130 : List SRes := [.tmp 5]
abbrev c130_0 : SCode := .seq (.reg [89, 1091] [
  ⟨.op (.mv (.slot 6)), none, none⟩, 
  ⟨.op (.asg (.slot 11)), some 5, none⟩]) (.ret)
abbrev c130_1 : SCode := .reg [87, 88, 1092] [
  ⟨.op (.mv (.slot 7)), none, none⟩, 
  ⟨.op (.bin .sub (.slot 11) (.con (.int .i64 1))), none, none⟩, 
  ⟨.op (.asg (.slot 12)), some 7, none⟩]
abbrev c130_2 : SCode := .seq (.reg [85, 86, 1092] [
  ⟨.op (.mv (.slot 6)), none, none⟩, 
  ⟨.op (.bin .add (.slot 11) (.con (.int .i64 1))), none, none⟩, 
  ⟨.op (.asg (.slot 12)), some 6, none⟩]) c130_1
abbrev c130_3 : SCode := .seq (.bad ) c130_2
abbrev c130_4 : SCode := .cond (.slot 10) (.exit 0) (.skip)
abbrev c130_5 : SCode := .seq (.seq (.reg [68, 69, 1092] [
  ⟨.op (.mv (.slot 6)), none, none⟩, 
  ⟨.op (.mv (.slot 7)), none, none⟩, 
  ⟨.op (.bin .gtr (.slot 11) (.slot 12)), some 10, none⟩]) c130_4) c130_3
abbrev c130_6 : SCode := .block 5 (.reg [66, 67, 1092] [
  ⟨.op (.mv (.slot 7)), none, none⟩, 
  ⟨.op (.bin .sub (.slot 11) (.con (.int .i64 1))), none, none⟩, 
  ⟨.op (.asg (.slot 12)), some 7, none⟩])
abbrev c130_7 : SCode := .cond (.slot 9) (.skip) (.exit 4)
abbrev b130_0 : SCode := .seq (.seq (.dreg [50, 51, 52, 53, 54, 55, 56, 57, 58, 59, 60, 61, 62, 63, 64, 1105] [
  ⟨.op (.mv (.slot 6)), none, none⟩, 
  ⟨.op (.mv (.slot 7)), none, none⟩, 
  ⟨.op (.bin .leq (.slot 11) (.slot 12)), none, none⟩, 
  ⟨.op (.mv (.slot 13)), none, none⟩, 
  ⟨.op (.mv (.slot 4)), none, some (14, true)⟩, 
  ⟨.op (.mv (.slot 0)), none, some (14, true)⟩, 
  ⟨.op (.mv (.slot 1)), none, some (14, true)⟩, 
  ⟨.op (.iaddr 2 (.slot 16) (.slot 17)), none, some (14, true)⟩, 
  ⟨.op (.load 2 true (.slot 18)), none, some (14, true)⟩, 
  ⟨.op (.mv (.slot 0)), none, some (14, true)⟩, 
  ⟨.op (.mv (.slot 7)), none, some (14, true)⟩, 
  ⟨.op (.iaddr 2 (.slot 20) (.slot 21)), none, some (14, true)⟩, 
  ⟨.op (.load 2 true (.slot 22)), none, some (14, true)⟩, 
  ⟨.callv (.slot 15) [(.slot 19), (.slot 23)], none, some (14, true)⟩, 
  ⟨.op (.bin .lss (.slot 24) (.con (.int .i64 0))), none, some (14, true)⟩, 
  ⟨.op (.pick (.slot 14) (.slot 25) (.con (.bool false))), some 9, none⟩]
  [[], [], [0, 1], [0, 1, 2], [0, 1, 2, 3], [0, 1, 2, 3], [0, 1, 2, 3], [0, 1, 2, 3, 5, 6], [0, 1, 2, 3, 5, 6, 7], [0, 1, 2, 3], [0, 1, 2, 3], [0, 1, 2, 3, 9, 10], [0, 1, 2, 3, 9, 10, 11], [0, 1, 2, 3, 4, 5, 6, 7, 8, 9, 10, 11, 12], [0, 1, 2, 3, 4, 5, 6, 7, 8, 9, 10, 11, 12, 13], [0, 1, 2, 3, 4, 5, 6, 7, 8, 9, 10, 11, 12, 13, 14]] 15 [] [([], none), ([false], none), ([true, true], none), ([true, true, true], none), ([true, true, true, true], none), ([true, true, true, true, false], none), ([true, true, true, true, false, false], none), ([true, true, true, true, false, true, true], none), ([true, true, true, true, false, true, true, true], none), ([true, true, true, true, false, false, false, false, false], none), ([true, true, true, true, false, false, false, false, false, false], none), ([true, true, true, true, false, false, false, false, false, true, true], none), ([true, true, true, true, false, false, false, false, false, true, true, true], none), ([true, true, true, true, true, true, true, true, true, true, true, true, true], none), ([true, true, true, true, true, true, true, true, true, true, true, true, true, true], none)] [true, true, true, true, true, true, true, true, true, true, true, true, true, true, true]) c130_7) c130_6
def l130_0 : SCode := .loop b130_0
abbrev c130_9 : SCode := .seq (.block 4 (l130_0)) c130_5
abbrev c130_10 : SCode := .block 3 (.reg [48, 49, 1092] [
  ⟨.op (.mv (.slot 6)), none, none⟩, 
  ⟨.op (.bin .add (.slot 11) (.con (.int .i64 1))), none, none⟩, 
  ⟨.op (.asg (.slot 12)), some 6, none⟩])
abbrev c130_11 : SCode := .cond (.slot 8) (.skip) (.exit 2)
abbrev b130_1 : SCode := .seq (.seq (.dreg [31, 32, 33, 34, 35, 36, 37, 38, 39, 40, 41, 42, 43, 44, 45, 46, 1106] [
  ⟨.op (.mv (.slot 6)), none, none⟩, 
  ⟨.op (.mv (.slot 7)), none, none⟩, 
  ⟨.op (.bin .leq (.slot 11) (.slot 12)), none, none⟩, 
  ⟨.op (.mv (.slot 13)), none, none⟩, 
  ⟨.op (.mv (.slot 4)), none, some (14, true)⟩, 
  ⟨.op (.mv (.slot 0)), none, some (14, true)⟩, 
  ⟨.op (.mv (.slot 1)), none, some (14, true)⟩, 
  ⟨.op (.iaddr 2 (.slot 16) (.slot 17)), none, some (14, true)⟩, 
  ⟨.op (.load 2 true (.slot 18)), none, some (14, true)⟩, 
  ⟨.op (.mv (.slot 0)), none, some (14, true)⟩, 
  ⟨.op (.mv (.slot 6)), none, some (14, true)⟩, 
  ⟨.op (.iaddr 2 (.slot 20) (.slot 21)), none, some (14, true)⟩, 
  ⟨.op (.load 2 true (.slot 22)), none, some (14, true)⟩, 
  ⟨.callv (.slot 15) [(.slot 19), (.slot 23)], none, some (14, true)⟩, 
  ⟨.op (.bin .lss (.slot 24) (.con (.int .i64 0))), none, some (14, true)⟩, 
  ⟨.op (.not (.slot 25)), none, some (14, true)⟩, 
  ⟨.op (.pick (.slot 14) (.slot 26) (.con (.bool false))), some 8, none⟩]
  [[], [], [0, 1], [0, 1, 2], [0, 1, 2, 3], [0, 1, 2, 3], [0, 1, 2, 3], [0, 1, 2, 3, 5, 6], [0, 1, 2, 3, 5, 6, 7], [0, 1, 2, 3], [0, 1, 2, 3], [0, 1, 2, 3, 9, 10], [0, 1, 2, 3, 9, 10, 11], [0, 1, 2, 3, 4, 5, 6, 7, 8, 9, 10, 11, 12], [0, 1, 2, 3, 4, 5, 6, 7, 8, 9, 10, 11, 12, 13], [0, 1, 2, 3, 4, 5, 6, 7, 8, 9, 10, 11, 12, 13, 14], [0, 1, 2, 3, 4, 5, 6, 7, 8, 9, 10, 11, 12, 13, 14, 15]] 16 [] [([], none), ([false], none), ([true, true], none), ([true, true, true], none), ([true, true, true, true], none), ([true, true, true, true, false], none), ([true, true, true, true, false, false], none), ([true, true, true, true, false, true, true], none), ([true, true, true, true, false, true, true, true], none), ([true, true, true, true, false, false, false, false, false], none), ([true, true, true, true, false, false, false, false, false, false], none), ([true, true, true, true, false, false, false, false, false, true, true], none), ([true, true, true, true, false, false, false, false, false, true, true, true], none), ([true, true, true, true, true, true, true, true, true, true, true, true, true], none), ([true, true, true, true, true, true, true, true, true, true, true, true, true, true], none), ([true, true, true, true, true, true, true, true, true, true, true, true, true, true, true], none)] [true, true, true, true, true, true, true, true, true, true, true, true, true, true, true, true]) c130_11) c130_10
def l130_1 : SCode := .loop b130_1
abbrev b130_2 : SCode := .block 1 (.seq (.block 2 (l130_1)) c130_9)
def l130_2 : SCode := .loop b130_2
abbrev c130_14 : SCode := .seq (.block 0 (l130_2)) c130_0
abbrev c130_15 : SCode := .seq (.reg [27, 28, 29, 30, 1094, 1095] [
  ⟨.op (.mv (.slot 1)), none, none⟩, 
  ⟨.op (.bin .add (.slot 11) (.con (.int .i64 1))), none, none⟩, 
  ⟨.op (.mv (.slot 2)), none, none⟩, 
  ⟨.op (.bin .sub (.slot 13) (.con (.int .i64 1))), none, none⟩, 
  ⟨.op (.asg (.slot 12)), some 6, none⟩, 
  ⟨.op (.asg (.slot 14)), some 7, none⟩]) c130_14
abbrev c130_16 : SCode := .seq (.bad ) c130_15
abbrev s130 : SCode := .seq (.reg [1090] [
  ⟨.op (.asg (.con (.int .i64 0))), some 5, none⟩]) c130_16
theorem ok130 : okFn Go.Proofs.Try.prog Go.Proofs.Try.f130 v130 s130 r130 5 = true := by kernel_rfl

def v131 : List Nat := [0, 1, 2, 3, 4, 10, 11, 12, 13, 47, 66, 71, 120, 139, 144]
def r131 : List SRes := [.tmp 5, .tmp 6]
abbrev c131_0 : SCode := .seq (.reg [177, 1179, 1180] [
  ⟨.op (.mv (.slot 8)), none, none⟩, 
  ⟨.op (.asg (.slot 15)), some 5, none⟩, 
  ⟨.op (.asg (.con (.bool false))), some 6, none⟩]) (.ret)
abbrev c131_1 : SCode := .seq (.bad ) c131_0
abbrev c131_2 : SCode := .reg [161, 162, 1180] [
  ⟨.op (.mv (.slot 8)), none, none⟩, 
  ⟨.op (.bin .sub (.slot 15) (.con (.int .i64 1))), none, none⟩, 
  ⟨.op (.asg (.slot 16)), some 8, none⟩]
abbrev c131_3 : SCode := .seq (.reg [159, 160, 1180] [
  ⟨.op (.mv (.slot 7)), none, none⟩, 
  ⟨.op (.bin .add (.slot 15) (.con (.int .i64 1))), none, none⟩, 
  ⟨.op (.asg (.slot 16)), some 7, none⟩]) c131_2
abbrev c131_4 : SCode := .seq (.bad ) c131_3
abbrev c131_5 : SCode := .cond (.slot 14) (.exit 4) (.skip)
abbrev c131_6 : SCode := .seq (.seq (.reg [142, 143, 1180] [
  ⟨.op (.mv (.slot 7)), none, none⟩, 
  ⟨.op (.mv (.slot 8)), none, none⟩, 
  ⟨.op (.bin .gtr (.slot 15) (.slot 16)), some 14, none⟩]) c131_5) c131_4
abbrev c131_7 : SCode := .block 9 (.reg [140, 141, 1180] [
  ⟨.op (.mv (.slot 8)), none, none⟩, 
  ⟨.op (.bin .sub (.slot 15) (.con (.int .i64 1))), none, none⟩, 
  ⟨.op (.asg (.slot 16)), some 8, none⟩])
abbrev c131_8 : SCode := .cond (.slot 13) (.skip) (.exit 8)
abbrev b131_0 : SCode := .seq (.seq (.dreg [123, 124, 125, 126, 127, 128, 129, 130, 131, 132, 133, 134, 135, 136, 137, 138, 1194] [
  ⟨.op (.mv (.slot 7)), none, none⟩, 
  ⟨.op (.mv (.slot 8)), none, none⟩, 
  ⟨.op (.bin .leq (.slot 15) (.slot 16)), none, none⟩, 
  ⟨.op (.mv (.slot 17)), none, none⟩, 
  ⟨.op (.mv (.slot 4)), none, some (18, true)⟩, 
  ⟨.op (.mv (.slot 0)), none, some (18, true)⟩, 
  ⟨.op (.mv (.slot 8)), none, some (18, true)⟩, 
  ⟨.op (.iaddr 2 (.slot 20) (.slot 21)), none, some (18, true)⟩, 
  ⟨.op (.load 2 true (.slot 22)), none, some (18, true)⟩, 
  ⟨.op (.mv (.slot 0)), none, some (18, true)⟩, 
  ⟨.op (.mv (.slot 1)), none, some (18, true)⟩, 
  ⟨.op (.iaddr 2 (.slot 24) (.slot 25)), none, some (18, true)⟩, 
  ⟨.op (.load 2 true (.slot 26)), none, some (18, true)⟩, 
  ⟨.callv (.slot 19) [(.slot 23), (.slot 27)], none, some (18, true)⟩, 
  ⟨.op (.bin .lss (.slot 28) (.con (.int .i64 0))), none, some (18, true)⟩, 
  ⟨.op (.not (.slot 29)), none, some (18, true)⟩, 
  ⟨.op (.pick (.slot 18) (.slot 30) (.con (.bool false))), some 13, none⟩]
  [[], [], [0, 1], [0, 1, 2], [0, 1, 2, 3], [0, 1, 2, 3], [0, 1, 2, 3], [0, 1, 2, 3, 5, 6], [0, 1, 2, 3, 5, 6, 7], [0, 1, 2, 3], [0, 1, 2, 3], [0, 1, 2, 3, 9, 10], [0, 1, 2, 3, 9, 10, 11], [0, 1, 2, 3, 4, 5, 6, 7, 8, 9, 10, 11, 12], [0, 1, 2, 3, 4, 5, 6, 7, 8, 9, 10, 11, 12, 13], [0, 1, 2, 3, 4, 5, 6, 7, 8, 9, 10, 11, 12, 13, 14], [0, 1, 2, 3, 4, 5, 6, 7, 8, 9, 10, 11, 12, 13, 14, 15]] 16 [] [([], none), ([false], none), ([true, true], none), ([true, true, true], none), ([true, true, true, true], none), ([true, true, true, true, false], none), ([true, true, true, true, false, false], none), ([true, true, true, true, false, true, true], none), ([true, true, true, true, false, true, true, true], none), ([true, true, true, true, false, false, false, false, false], none), ([true, true, true, true, false, false, false, false, false, false], none), ([true, true, true, true, false, false, false, false, false, true, true], none), ([true, true, true, true, false, false, false, false, false, true, true, true], none), ([true, true, true, true, true, true, true, true, true, true, true, true, true], none), ([true, true, true, true, true, true, true, true, true, true, true, true, true, true], none), ([true, true, true, true, true, true, true, true, true, true, true, true, true, true, true], none)] [true, true, true, true, true, true, true, true, true, true, true, true, true, true, true, true]) c131_8) c131_7
def l131_0 : SCode := .loop b131_0
abbrev c131_10 : SCode := .seq (.block 8 (l131_0)) c131_6
abbrev c131_11 : SCode := .block 7 (.reg [121, 122, 1180] [
  ⟨.op (.mv (.slot 7)), none, none⟩, 
  ⟨.op (.bin .add (.slot 15) (.con (.int .i64 1))), none, none⟩, 
  ⟨.op (.asg (.slot 16)), some 7, none⟩])
abbrev c131_12 : SCode := .cond (.slot 12) (.skip) (.exit 6)
abbrev b131_1 : SCode := .seq (.seq (.dreg [105, 106, 107, 108, 109, 110, 111, 112, 113, 114, 115, 116, 117, 118, 119, 1193] [
  ⟨.op (.mv (.slot 7)), none, none⟩, 
  ⟨.op (.mv (.slot 8)), none, none⟩, 
  ⟨.op (.bin .leq (.slot 15) (.slot 16)), none, none⟩, 
  ⟨.op (.mv (.slot 17)), none, none⟩, 
  ⟨.op (.mv (.slot 4)), none, some (18, true)⟩, 
  ⟨.op (.mv (.slot 0)), none, some (18, true)⟩, 
  ⟨.op (.mv (.slot 7)), none, some (18, true)⟩, 
  ⟨.op (.iaddr 2 (.slot 20) (.slot 21)), none, some (18, true)⟩, 
  ⟨.op (.load 2 true (.slot 22)), none, some (18, true)⟩, 
  ⟨.op (.mv (.slot 0)), none, some (18, true)⟩, 
  ⟨.op (.mv (.slot 1)), none, some (18, true)⟩, 
  ⟨.op (.iaddr 2 (.slot 24) (.slot 25)), none, some (18, true)⟩, 
  ⟨.op (.load 2 true (.slot 26)), none, some (18, true)⟩, 
  ⟨.callv (.slot 19) [(.slot 23), (.slot 27)], none, some (18, true)⟩, 
  ⟨.op (.bin .lss (.slot 28) (.con (.int .i64 0))), none, some (18, true)⟩, 
  ⟨.op (.pick (.slot 18) (.slot 29) (.con (.bool false))), some 12, none⟩]
  [[], [], [0, 1], [0, 1, 2], [0, 1, 2, 3], [0, 1, 2, 3], [0, 1, 2, 3], [0, 1, 2, 3, 5, 6], [0, 1, 2, 3, 5, 6, 7], [0, 1, 2, 3], [0, 1, 2, 3], [0, 1, 2, 3, 9, 10], [0, 1, 2, 3, 9, 10, 11], [0, 1, 2, 3, 4, 5, 6, 7, 8, 9, 10, 11, 12], [0, 1, 2, 3, 4, 5, 6, 7, 8, 9, 10, 11, 12, 13], [0, 1, 2, 3, 4, 5, 6, 7, 8, 9, 10, 11, 12, 13, 14]] 15 [] [([], none), ([false], none), ([true, true], none), ([true, true, true], none), ([true, true, true, true], none), ([true, true, true, true, false], none), ([true, true, true, true, false, false], none), ([true, true, true, true, false, true, true], none), ([true, true, true, true, false, true, true, true], none), ([true, true, true, true, false, false, false, false, false], none), ([true, true, true, true, false, false, false, false, false, false], none), ([true, true, true, true, false, false, false, false, false, true, true], none), ([true, true, true, true, false, false, false, false, false, true, true, true], none), ([true, true, true, true, true, true, true, true, true, true, true, true, true], none), ([true, true, true, true, true, true, true, true, true, true, true, true, true, true], none)] [true, true, true, true, true, true, true, true, true, true, true, true, true, true, true]) c131_12) c131_11
def l131_1 : SCode := .loop b131_1
abbrev b131_2 : SCode := .block 5 (.seq (.block 6 (l131_1)) c131_10)
def l131_2 : SCode := .loop b131_2
abbrev c131_15 : SCode := .seq (.block 4 (l131_2)) c131_1
abbrev c131_16 : SCode := .seq (.reg [103, 104, 1180] [
  ⟨.op (.mv (.slot 8)), none, none⟩, 
  ⟨.op (.bin .sub (.slot 15) (.con (.int .i64 1))), none, none⟩, 
  ⟨.op (.asg (.slot 16)), some 8, none⟩]) c131_15
abbrev c131_17 : SCode := .seq (.reg [101, 102, 1180] [
  ⟨.op (.mv (.slot 7)), none, none⟩, 
  ⟨.op (.bin .add (.slot 15) (.con (.int .i64 1))), none, none⟩, 
  ⟨.op (.asg (.slot 16)), some 7, none⟩]) c131_16
abbrev c131_18 : SCode := .seq (.bad ) c131_17
abbrev c131_19 : SCode := .seq (.reg [86, 1179, 1180] [
  ⟨.op (.mv (.slot 8)), none, none⟩, 
  ⟨.op (.asg (.slot 15)), some 5, none⟩, 
  ⟨.op (.asg (.con (.bool true))), some 6, none⟩]) (.ret)
abbrev c131_20 : SCode := .seq (.bad ) c131_19
abbrev c131_21 : SCode := .cond (.slot 11) c131_20 (.skip)
abbrev c131_22 : SCode := .seq (.seq (.reg [69, 70, 1180] [
  ⟨.op (.mv (.slot 7)), none, none⟩, 
  ⟨.op (.mv (.slot 8)), none, none⟩, 
  ⟨.op (.bin .gtr (.slot 15) (.slot 16)), some 11, none⟩]) c131_21) c131_18
abbrev c131_23 : SCode := .block 3 (.reg [67, 68, 1180] [
  ⟨.op (.mv (.slot 8)), none, none⟩, 
  ⟨.op (.bin .sub (.slot 15) (.con (.int .i64 1))), none, none⟩, 
  ⟨.op (.asg (.slot 16)), some 8, none⟩])
abbrev c131_24 : SCode := .cond (.slot 10) (.skip) (.exit 2)
abbrev b131_3 : SCode := .seq (.seq (.dreg [50, 51, 52, 53, 54, 55, 56, 57, 58, 59, 60, 61, 62, 63, 64, 65, 1194] [
  ⟨.op (.mv (.slot 7)), none, none⟩, 
  ⟨.op (.mv (.slot 8)), none, none⟩, 
  ⟨.op (.bin .leq (.slot 15) (.slot 16)), none, none⟩, 
  ⟨.op (.mv (.slot 17)), none, none⟩, 
  ⟨.op (.mv (.slot 4)), none, some (18, true)⟩, 
  ⟨.op (.mv (.slot 0)), none, some (18, true)⟩, 
  ⟨.op (.mv (.slot 8)), none, some (18, true)⟩, 
  ⟨.op (.iaddr 2 (.slot 20) (.slot 21)), none, some (18, true)⟩, 
  ⟨.op (.load 2 true (.slot 22)), none, some (18, true)⟩, 
  ⟨.op (.mv (.slot 0)), none, some (18, true)⟩, 
  ⟨.op (.mv (.slot 1)), none, some (18, true)⟩, 
  ⟨.op (.iaddr 2 (.slot 24) (.slot 25)), none, some (18, true)⟩, 
  ⟨.op (.load 2 true (.slot 26)), none, some (18, true)⟩, 
  ⟨.callv (.slot 19) [(.slot 23), (.slot 27)], none, some (18, true)⟩, 
  ⟨.op (.bin .lss (.slot 28) (.con (.int .i64 0))), none, some (18, true)⟩, 
  ⟨.op (.not (.slot 29)), none, some (18, true)⟩, 
  ⟨.op (.pick (.slot 18) (.slot 30) (.con (.bool false))), some 10, none⟩]
  [[], [], [0, 1], [0, 1, 2], [0, 1, 2, 3], [0, 1, 2, 3], [0, 1, 2, 3], [0, 1, 2, 3, 5, 6], [0, 1, 2, 3, 5, 6, 7], [0, 1, 2, 3], [0, 1, 2, 3], [0, 1, 2, 3, 9, 10], [0, 1, 2, 3, 9, 10, 11], [0, 1, 2, 3, 4, 5, 6, 7, 8, 9, 10, 11, 12], [0, 1, 2, 3, 4, 5, 6, 7, 8, 9, 10, 11, 12, 13], [0, 1, 2, 3, 4, 5, 6, 7, 8, 9, 10, 11, 12, 13, 14], [0, 1, 2, 3, 4, 5, 6, 7, 8, 9, 10, 11, 12, 13, 14, 15]] 16 [] [([], none), ([false], none), ([true, true], none), ([true, true, true], none), ([true, true, true, true], none), ([true, true, true, true, false], none), ([true, true, true, true, false, false], none), ([true, true, true, true, false, true, true], none), ([true, true, true, true, false, true, true, true], none), ([true, true, true, true, false, false, false, false, false], none), ([true, true, true, true, false, false, false, false, false, false], none), ([true, true, true, true, false, false, false, false, false, true, true], none), ([true, true, true, true, false, false, false, false, false, true, true, true], none), ([true, true, true, true, true, true, true, true, true, true, true, true, true], none), ([true, true, true, true, true, true, true, true, true, true, true, true, true, true], none), ([true, true, true, true, true, true, true, true, true, true, true, true, true, true, true], none)] [true, true, true, true, true, true, true, true, true, true, true, true, true, true, true, true]) c131_24) c131_23
def l131_3 : SCode := .loop b131_3
abbrev c131_26 : SCode := .seq (.block 2 (l131_3)) c131_22
abbrev c131_27 : SCode := .block 1 (.reg [48, 49, 1180] [
  ⟨.op (.mv (.slot 7)), none, none⟩, 
  ⟨.op (.bin .add (.slot 15) (.con (.int .i64 1))), none, none⟩, 
  ⟨.op (.asg (.slot 16)), some 7, none⟩])
abbrev c131_28 : SCode := .cond (.slot 9) (.skip) (.exit 0)
abbrev b131_4 : SCode := .seq (.seq (.dreg [32, 33, 34, 35, 36, 37, 38, 39, 40, 41, 42, 43, 44, 45, 46, 1193] [
  ⟨.op (.mv (.slot 7)), none, none⟩, 
  ⟨.op (.mv (.slot 8)), none, none⟩, 
  ⟨.op (.bin .leq (.slot 15) (.slot 16)), none, none⟩, 
  ⟨.op (.mv (.slot 17)), none, none⟩, 
  ⟨.op (.mv (.slot 4)), none, some (18, true)⟩, 
  ⟨.op (.mv (.slot 0)), none, some (18, true)⟩, 
  ⟨.op (.mv (.slot 7)), none, some (18, true)⟩, 
  ⟨.op (.iaddr 2 (.slot 20) (.slot 21)), none, some (18, true)⟩, 
  ⟨.op (.load 2 true (.slot 22)), none, some (18, true)⟩, 
  ⟨.op (.mv (.slot 0)), none, some (18, true)⟩, 
  ⟨.op (.mv (.slot 1)), none, some (18, true)⟩, 
  ⟨.op (.iaddr 2 (.slot 24) (.slot 25)), none, some (18, true)⟩, 
  ⟨.op (.load 2 true (.slot 26)), none, some (18, true)⟩, 
  ⟨.callv (.slot 19) [(.slot 23), (.slot 27)], none, some (18, true)⟩, 
  ⟨.op (.bin .lss (.slot 28) (.con (.int .i64 0))), none, some (18, true)⟩, 
  ⟨.op (.pick (.slot 18) (.slot 29) (.con (.bool false))), some 9, none⟩]
  [[], [], [0, 1], [0, 1, 2], [0, 1, 2, 3], [0, 1, 2, 3], [0, 1, 2, 3], [0, 1, 2, 3, 5, 6], [0, 1, 2, 3, 5, 6, 7], [0, 1, 2, 3], [0, 1, 2, 3], [0, 1, 2, 3, 9, 10], [0, 1, 2, 3, 9, 10, 11], [0, 1, 2, 3, 4, 5, 6, 7, 8, 9, 10, 11, 12], [0, 1, 2, 3, 4, 5, 6, 7, 8, 9, 10, 11, 12, 13], [0, 1, 2, 3, 4, 5, 6, 7, 8, 9, 10, 11, 12, 13, 14]] 15 [] [([], none), ([false], none), ([true, true], none), ([true, true, true], none), ([true, true, true, true], none), ([true, true, true, true, false], none), ([true, true, true, true, false, false], none), ([true, true, true, true, false, true, true], none), ([true, true, true, true, false, true, true, true], none), ([true, true, true, true, false, false, false, false, false], none), ([true, true, true, true, false, false, false, false, false, false], none), ([true, true, true, true, false, false, false, false, false, true, true], none), ([true, true, true, true, false, false, false, false, false, true, true, true], none), ([true, true, true, true, true, true, true, true, true, true, true, true, true], none), ([true, true, true, true, true, true, true, true, true, true, true, true, true, true], none)] [true, true, true, true, true, true, true, true, true, true, true, true, true, true, true]) c131_28) c131_27
def l131_4 : SCode := .loop b131_4
abbrev c131_30 : SCode := .seq (.block 0 (l131_4)) c131_26
abbrev c131_31 : SCode := .seq (.reg [28, 29, 30, 31, 1182, 1183] [
  ⟨.op (.mv (.slot 1)), none, none⟩, 
  ⟨.op (.bin .add (.slot 15) (.con (.int .i64 1))), none, none⟩, 
  ⟨.op (.mv (.slot 2)), none, none⟩, 
  ⟨.op (.bin .sub (.slot 17) (.con (.int .i64 1))), none, none⟩, 
  ⟨.op (.asg (.slot 16)), some 7, none⟩, 
  ⟨.op (.asg (.slot 18)), some 8, none⟩]) c131_30
abbrev c131_32 : SCode := .seq (.bad ) c131_31
abbrev s131 : SCode := .seq (.reg [1178, 1179] [
  ⟨.op (.asg (.con (.int .i64 0))), some 5, none⟩, 
  ⟨.op (.asg (.con (.bool false))), some 6, none⟩]) c131_32
theorem ok131 : okFn Go.Proofs.Try.prog Go.Proofs.Try.f131 v131 s131 r131 5 = true := by kernel_rfl

def v132 : List Nat := [0, 2, 4, 8]
def r132 : List SRes := [.tmp 1]
abbrev c132_0 : SCode := .seq (.reg [13, 14, 15, 16, 17, 18, 1025] [
  ⟨.op (.mv (.slot 1)), none, none⟩, 
  ⟨.op (.mv (.slot 0)), none, none⟩, 
  ⟨.op (.conv .u8 (.slot 5)), none, none⟩, 
  ⟨.op (.idx (.con (.str [0, 1, 2, 2, 3, 3, 3, 3, 4, 4, 4, 4, 4, 4, 4, 4, 5, 5, 5, 5, 5, 5, 5, 5, 5, 5, 5, 5, 5, 5, 5, 5, 6, 6, 6, 6, 6, 6, 6, 6, 6, 6, 6, 6, 6, 6, 6, 6, 6, 6, 6, 6, 6, 6, 6, 6, 6, 6, 6, 6, 6, 6, 6, 6, 7, 7, 7, 7, 7, 7, 7, 7, 7, 7, 7, 7, 7, 7, 7, 7, 7, 7, 7, 7, 7, 7, 7, 7, 7, 7, 7, 7, 7, 7, 7, 7, 7, 7, 7, 7, 7, 7, 7, 7, 7, 7, 7, 7, 7, 7, 7, 7, 7, 7, 7, 7, 7, 7, 7, 7, 7, 7, 7, 7, 7, 7, 7, 7, 8, 8, 8, 8, 8, 8, 8, 8, 8, 8, 8, 8, 8, 8, 8, 8, 8, 8, 8, 8, 8, 8, 8, 8, 8, 8, 8, 8, 8, 8, 8, 8, 8, 8, 8, 8, 8, 8, 8, 8, 8, 8, 8, 8, 8, 8, 8, 8, 8, 8, 8, 8, 8, 8, 8, 8, 8, 8, 8, 8, 8, 8, 8, 8, 8, 8, 8, 8, 8, 8, 8, 8, 8, 8, 8, 8, 8, 8, 8, 8, 8, 8, 8, 8, 8, 8, 8, 8, 8, 8, 8, 8, 8, 8, 8, 8, 8, 8, 8, 8, 8, 8, 8, 8, 8, 8, 8, 8, 8, 8, 8, 8, 8, 8, 8, 8, 8, 8, 8, 8, 8, 8, 8, 8, 8, 8, 8, 8])) (.slot 6)), none, none⟩, 
  ⟨.op (.conv .i64 (.slot 7)), none, none⟩, 
  ⟨.op (.bin .add (.slot 4) (.slot 8)), none, none⟩, 
  ⟨.op (.asg (.slot 9)), some 1, none⟩]) (.ret)
abbrev c132_1 : SCode := .reg [11, 12, 1021] [
  ⟨.op (.mv (.slot 1)), none, none⟩, 
  ⟨.op (.bin .add (.slot 4) (.con (.int .i64 8))), none, none⟩, 
  ⟨.op (.asg (.slot 5)), some 1, none⟩]
abbrev c132_2 : SCode := .seq (.bad ) c132_1
abbrev c132_3 : SCode := .cond (.slot 3) c132_2 (.skip)
abbrev c132_4 : SCode := .seq (.seq (.reg [7, 1020] [
  ⟨.op (.mv (.slot 0)), none, none⟩, 
  ⟨.op (.bin .geq (.slot 4) (.con (.int .u32 256))), some 3, none⟩]) c132_3) c132_0
abbrev c132_5 : SCode := .reg [1019] [
  ⟨.op (.asg (.con (.int .i64 16))), some 1, none⟩]
abbrev c132_6 : SCode := .seq (.bad ) c132_5
abbrev c132_7 : SCode := .cond (.slot 2) c132_6 (.skip)
abbrev c132_8 : SCode := .seq (.seq (.reg [3, 1020] [
  ⟨.op (.mv (.slot 0)), none, none⟩, 
  ⟨.op (.bin .geq (.slot 4) (.con (.int .u32 65536))), some 2, none⟩]) c132_7) c132_4
abbrev s132 : SCode := .seq (.reg [1019] [
  ⟨.op (.asg (.con (.int .i64 0))), some 1, none⟩]) c132_8
theorem ok132 : okFn Go.Proofs.Try.prog Go.Proofs.Try.f132 v132 s132 r132 1 = true := by kernel_rfl

def v133 : List Nat := [0, 2, 4, 8, 14]
def r133 : List SRes := [.tmp 1]
abbrev c133_0 : SCode := .seq (.reg [19, 20, 21, 22, 23, 24, 1031] [
  ⟨.op (.mv (.slot 1)), none, none⟩, 
  ⟨.op (.mv (.slot 0)), none, none⟩, 
  ⟨.op (.conv .u8 (.slot 6)), none, none⟩, 
  ⟨.op (.idx (.con (.str [0, 1, 2, 2, 3, 3, 3, 3, 4, 4, 4, 4, 4, 4, 4, 4, 5, 5, 5, 5, 5, 5, 5, 5, 5, 5, 5, 5, 5, 5, 5, 5, 6, 6, 6, 6, 6, 6, 6, 6, 6, 6, 6, 6, 6, 6, 6, 6, 6, 6, 6, 6, 6, 6, 6, 6, 6, 6, 6, 6, 6, 6, 6, 6, 7, 7, 7, 7, 7, 7, 7, 7, 7, 7, 7, 7, 7, 7, 7, 7, 7, 7, 7, 7, 7, 7, 7, 7, 7, 7, 7, 7, 7, 7, 7, 7, 7, 7, 7, 7, 7, 7, 7, 7, 7, 7, 7, 7, 7, 7, 7, 7, 7, 7, 7, 7, 7, 7, 7, 7, 7, 7, 7, 7, 7, 7, 7, 7, 8, 8, 8, 8, 8, 8, 8, 8, 8, 8, 8, 8, 8, 8, 8, 8, 8, 8, 8, 8, 8, 8, 8, 8, 8, 8, 8, 8, 8, 8, 8, 8, 8, 8, 8, 8, 8, 8, 8, 8, 8, 8, 8, 8, 8, 8, 8, 8, 8, 8, 8, 8, 8, 8, 8, 8, 8, 8, 8, 8, 8, 8, 8, 8, 8, 8, 8, 8, 8, 8, 8, 8, 8, 8, 8, 8, 8, 8, 8, 8, 8, 8, 8, 8, 8, 8, 8, 8, 8, 8, 8, 8, 8, 8, 8, 8, 8, 8, 8, 8, 8, 8, 8, 8, 8, 8, 8, 8, 8, 8, 8, 8, 8, 8, 8, 8, 8, 8, 8, 8, 8, 8, 8, 8, 8, 8, 8, 8])) (.slot 7)), none, none⟩, 
  ⟨.op (.conv .i64 (.slot 8)), none, none⟩, 
  ⟨.op (.bin .add (.slot 5) (.slot 9)), none, none⟩, 
  ⟨.op (.asg (.slot 10)), some 1, none⟩]) (.ret)
abbrev c133_1 : SCode := .reg [17, 18, 1027] [
  ⟨.op (.mv (.slot 1)), none, none⟩, 
  ⟨.op (.bin .add (.slot 5) (.con (.int .i64 8))), none, none⟩, 
  ⟨.op (.asg (.slot 6)), some 1, none⟩]
abbrev c133_2 : SCode := .seq (.bad ) c133_1
abbrev c133_3 : SCode := .cond (.slot 4) c133_2 (.skip)
abbrev c133_4 : SCode := .seq (.seq (.reg [13, 1026] [
  ⟨.op (.mv (.slot 0)), none, none⟩, 
  ⟨.op (.bin .geq (.slot 5) (.con (.int .u64 256))), some 4, none⟩]) c133_3) c133_0
abbrev c133_5 : SCode := .reg [11, 12, 1027] [
  ⟨.op (.mv (.slot 1)), none, none⟩, 
  ⟨.op (.bin .add (.slot 5) (.con (.int .i64 16))), none, none⟩, 
  ⟨.op (.asg (.slot 6)), some 1, none⟩]
abbrev c133_6 : SCode := .seq (.bad ) c133_5
abbrev c133_7 : SCode := .cond (.slot 3) c133_6 (.skip)
abbrev c133_8 : SCode := .seq (.seq (.reg [7, 1026] [
  ⟨.op (.mv (.slot 0)), none, none⟩, 
  ⟨.op (.bin .geq (.slot 5) (.con (.int .u64 65536))), some 3, none⟩]) c133_7) c133_4
abbrev c133_9 : SCode := .reg [1025] [
  ⟨.op (.asg (.con (.int .i64 32))), some 1, none⟩]
abbrev c133_10 : SCode := .seq (.bad ) c133_9
abbrev c133_11 : SCode := .cond (.slot 2) c133_10 (.skip)
abbrev c133_12 : SCode := .seq (.seq (.reg [3, 1026] [
  ⟨.op (.mv (.slot 0)), none, none⟩, 
  ⟨.op (.bin .geq (.slot 5) (.con (.int .u64 4294967296))), some 2, none⟩]) c133_11) c133_8
abbrev s133 : SCode := .seq (.reg [1025] [
  ⟨.op (.asg (.con (.int .i64 0))), some 1, none⟩]) c133_12
theorem ok133 : okFn Go.Proofs.Try.prog Go.Proofs.Try.f133 v133 s133 r133 1 = true := by kernel_rfl

def v134 : List Nat := [0, 1, 2, 3, 4, 10, 11, 18, 40, 58]
def r134 : List SRes := []
abbrev c134_0 : SCode := .reg [81, 1083] [
  ⟨.op (.mv (.slot 6)), none, none⟩, 
  ⟨.op (.asg (.slot 10)), some 5, none⟩]
abbrev c134_1 : SCode := .seq (.bad ) c134_0
abbrev c134_2 : SCode := .cond (.slot 9) (.ret) (.skip)
abbrev c134_3 : SCode := .seq (.seq (.dreg [43, 44, 45, 46, 47, 48, 49, 50, 51, 52, 53, 54, 55, 56, 57, 1097] [
  ⟨.op (.mv (.slot 4)), none, none⟩, 
  ⟨.op (.mv (.slot 0)), none, none⟩, 
  ⟨.op (.mv (.slot 3)), none, none⟩, 
  ⟨.op (.mv (.slot 5)), none, none⟩, 
  ⟨.op (.bin .add (.slot 12) (.slot 13)), none, none⟩, 
  ⟨.op (.iaddr 2 (.slot 11) (.slot 14)), none, none⟩, 
  ⟨.op (.load 2 true (.slot 15)), none, none⟩, 
  ⟨.op (.mv (.slot 0)), none, none⟩, 
  ⟨.op (.mv (.slot 3)), none, none⟩, 
  ⟨.op (.mv (.slot 6)), none, none⟩, 
  ⟨.op (.bin .add (.slot 18) (.slot 19)), none, none⟩, 
  ⟨.op (.iaddr 2 (.slot 17) (.slot 20)), none, none⟩, 
  ⟨.op (.load 2 true (.slot 21)), none, none⟩, 
  ⟨.callv (.slot 10) [(.slot 16), (.slot 22)], none, none⟩, 
  ⟨.op (.bin .lss (.slot 23) (.con (.int .i64 0))), none, none⟩, 
  ⟨.op (.not (.slot 24)), some 9, none⟩]
  [[], [], [], [], [2, 3], [1, 2, 3, 4], [1, 2, 3, 4, 5], [], [], [], [8, 9], [7, 8, 9, 10], [7, 8, 9, 10, 11], [0, 1, 2, 3, 4, 5, 6, 7, 8, 9, 10, 11, 12], [0, 1, 2, 3, 4, 5, 6, 7, 8, 9, 10, 11, 12, 13], [0, 1, 2, 3, 4, 5, 6, 7, 8, 9, 10, 11, 12, 13, 14]] 15 [] [([], none), ([false], none), ([false, false], none), ([false, false, false], none), ([false, false, true, true], none), ([false, true, true, true, true], none), ([false, true, true, true, true, true], none), ([false, false, false, false, false, false, false], none), ([false, false, false, false, false, false, false, false], none), ([false, false, false, false, false, false, false, false, false], none), ([false, false, false, false, false, false, false, false, true, true], none), ([false, false, false, false, false, false, false, true, true, true, true], none), ([false, false, false, false, false, false, false, true, true, true, true, true], none), ([true, true, true, true, true, true, true, true, true, true, true, true, true], none), ([true, true, true, true, true, true, true, true, true, true, true, true, true, true], none)] [true, true, true, true, true, true, true, true, true, true, true, true, true, true, true]) c134_2) c134_1
abbrev c134_4 : SCode := .reg [41, 42, 1084] [
  ⟨.op (.mv (.slot 6)), none, none⟩, 
  ⟨.op (.bin .add (.slot 10) (.con (.int .i64 1))), none, none⟩, 
  ⟨.op (.asg (.slot 11)), some 6, none⟩]
abbrev c134_5 : SCode := .cond (.slot 8) c134_4 (.skip)
abbrev c134_6 : SCode := .seq (.seq (.dreg [19, 20, 21, 22, 23, 24, 25, 26, 27, 28, 29, 30, 31, 32, 33, 34, 35, 36, 37, 38, 39, 1103] [
  ⟨.op (.mv (.slot 6)), none, none⟩, 
  ⟨.op (.bin .add (.slot 10) (.con (.int .i64 1))), none, none⟩, 
  ⟨.op (.mv (.slot 2)), none, none⟩, 
  ⟨.op (.bin .lss (.slot 11) (.slot 12)), none, none⟩, 
  ⟨.op (.mv (.slot 13)), none, none⟩, 
  ⟨.op (.mv (.slot 4)), none, some (14, true)⟩, 
  ⟨.op (.mv (.slot 0)), none, some (14, true)⟩, 
  ⟨.op (.mv (.slot 3)), none, some (14, true)⟩, 
  ⟨.op (.mv (.slot 6)), none, some (14, true)⟩, 
  ⟨.op (.bin .add (.slot 17) (.slot 18)), none, some (14, true)⟩, 
  ⟨.op (.iaddr 2 (.slot 16) (.slot 19)), none, some (14, true)⟩, 
  ⟨.op (.load 2 true (.slot 20)), none, some (14, true)⟩, 
  ⟨.op (.mv (.slot 0)), none, some (14, true)⟩, 
  ⟨.op (.mv (.slot 3)), none, some (14, true)⟩, 
  ⟨.op (.mv (.slot 6)), none, some (14, true)⟩, 
  ⟨.op (.bin .add (.slot 23) (.slot 24)), none, some (14, true)⟩, 
  ⟨.op (.bin .add (.slot 25) (.con (.int .i64 1))), none, some (14, true)⟩, 
  ⟨.op (.iaddr 2 (.slot 22) (.slot 26)), none, some (14, true)⟩, 
  ⟨.op (.load 2 true (.slot 27)), none, some (14, true)⟩, 
  ⟨.callv (.slot 15) [(.slot 21), (.slot 28)], none, some (14, true)⟩, 
  ⟨.op (.bin .lss (.slot 29) (.con (.int .i64 0))), none, some (14, true)⟩, 
  ⟨.op (.pick (.slot 14) (.slot 30) (.con (.bool false))), some 8, none⟩]
  [[], [0], [], [0, 1, 2], [0, 1, 2, 3], [0, 1, 2, 3, 4], [0, 1, 2, 3, 4], [0, 1, 2, 3, 4], [0, 1, 2, 3, 4], [0, 1, 2, 3, 4, 7, 8], [0, 1, 2, 3, 4, 6, 7, 8, 9], [0, 1, 2, 3, 4, 6, 7, 8, 9, 10], [0, 1, 2, 3, 4], [0, 1, 2, 3, 4], [0, 1, 2, 3, 4], [0, 1, 2, 3, 4, 13, 14], [0, 1, 2, 3, 4, 13, 14, 15], [0, 1, 2, 3, 4, 12, 13, 14, 15, 16], [0, 1, 2, 3, 4, 12, 13, 14, 15, 16, 17], [0, 1, 2, 3, 4, 5, 6, 7, 8, 9, 10, 11, 12, 13, 14, 15, 16, 17, 18], [0, 1, 2, 3, 4, 5, 6, 7, 8, 9, 10, 11, 12, 13, 14, 15, 16, 17, 18, 19], [0, 1, 2, 3, 4, 5, 6, 7, 8, 9, 10, 11, 12, 13, 14, 15, 16, 17, 18, 19, 20]] 21 [] [([], none), ([true], none), ([false, false], none), ([true, true, true], none), ([true, true, true, true], none), ([true, true, true, true, true], none), ([true, true, true, true, true, false], none), ([true, true, true, true, true, false, false], none), ([true, true, true, true, true, false, false, false], none), ([true, true, true, true, true, false, false, true, true], none), ([true, true, true, true, true, false, true, true, true, true], none), ([true, true, true, true, true, false, true, true, true, true, true], none), ([true, true, true, true, true, false, false, false, false, false, false, false], none), ([true, true, true, true, true, false, false, false, false, false, false, false, false], none), ([true, true, true, true, true, false, false, false, false, false, false, false, false, false], none), ([true, true, true, true, true, false, false, false, false, false, false, false, false, true, true], none), ([true, true, true, true, true, false, false, false, false, false, false, false, false, true, true, true], none), ([true, true, true, true, true, false, false, false, false, false, false, false, true, true, true, true, true], none), ([true, true, true, true, true, false, false, false, false, false, false, false, true, true, true, true, true, true], none), ([true, true, true, true, true, true, true, true, true, true, true, true, true, true, true, true, true, true, true], none), ([true, true, true, true, true, true, true, true, true, true, true, true, true, true, true, true, true, true, true, true], none)] [true, true, true, true, true, true, true, true, true, true, true, true, true, true, true, true, true, true, true, true, true]) c134_5) c134_3
abbrev c134_7 : SCode := .cond (.slot 7) (.exit 0) (.skip)
abbrev c134_8 : SCode := .seq (.seq (.reg [16, 17, 1084] [
  ⟨.op (.mv (.slot 6)), none, none⟩, 
  ⟨.op (.mv (.slot 2)), none, none⟩, 
  ⟨.op (.bin .geq (.slot 10) (.slot 11)), some 7, none⟩]) c134_7) c134_6
abbrev b134_0 : SCode := .block 1 (.seq (.reg [13, 14, 15, 1085] [
  ⟨.op (.mv (.slot 5)), none, none⟩, 
  ⟨.op (.bin .mul (.con (.int .i64 2)) (.slot 10)), none, none⟩, 
  ⟨.op (.bin .add (.slot 11) (.con (.int .i64 1))), none, none⟩, 
  ⟨.op (.asg (.slot 12)), some 6, none⟩]) c134_8)
def l134_0 : SCode := .loop b134_0
abbrev c134_10 : SCode := .block 0 (l134_0)
abbrev s134 : SCode := .seq (.reg [12, 1083] [
  ⟨.op (.mv (.slot 1)), none, none⟩, 
  ⟨.op (.asg (.slot 10)), some 5, none⟩]) c134_10
theorem ok134 : okFn Go.Proofs.Try.prog Go.Proofs.Try.f134 v134 s134 r134 5 = true := by kernel_rfl

def v135 : List Nat := [0, 2]
def r135 : List SRes := [.tmp 1]
abbrev c135_0 : SCode := .seq (.bad ) (.ret)
abbrev s135 : SCode := .seq (.reg [1007] [
  ⟨.op (.asg (.con (.int .u64 0))), some 1, none⟩]) c135_0
theorem ok135 : okFn Go.Proofs.Try.prog Go.Proofs.Try.f135 v135 s135 r135 1 = true := by kernel_rfl

def v136 : List Nat := [0, 2]
def r136 : List SRes := [.tmp 1]
abbrev c136_0 : SCode := .seq (.bad ) (.ret)
abbrev c136_1 : SCode := .seq (.bad ) c136_0
abbrev c136_2 : SCode := .seq (.bad ) c136_1
abbrev c136_3 : SCode := .seq (.bad ) c136_2
abbrev s136 : SCode := .seq (.reg [1033] [
  ⟨.op (.asg (.con (.int .u64 0))), some 1, none⟩]) c136_3
theorem ok136 : okFn Go.Proofs.Try.prog Go.Proofs.Try.f136 v136 s136 r136 1 = true := by kernel_rfl

def v137 : List Nat := [0, 1, 2, 3, 8]
def r137 : List SRes := [.tmp 4]
abbrev c137_0 : SCode := .seq (.reg [9, 10, 11, 12, 13, 14, 15, 16, 17, 1027] [
  ⟨.op (.mv (.slot 0)), none, none⟩, 
  ⟨.op (.mv (.slot 1)), none, none⟩, 
  ⟨.op (.bin .sub (.slot 6) (.con (.int .i64 1))), none, none⟩, 
  ⟨.op (.mv (.slot 1)), none, none⟩, 
  ⟨.op (.mv (.slot 1)), none, none⟩, 
  ⟨.op (.bin .add (.slot 9) (.con (.int .i64 1))), none, none⟩, 
  ⟨.op (.mv (.slot 2)), none, none⟩, 
  ⟨.op (.mv (.slot 3)), none, none⟩, 
  ⟨.call 138 [(.slot 5), (.slot 7), (.slot 8), (.slot 10), (.slot 11), (.slot 12)] false, none, none⟩, 
  ⟨.op (.asg (.slot 13)), some 4, none⟩]) (.ret)
abbrev s137 : SCode := .seq (.reg [1018] [
  ⟨.op (.asg (.con (.int .i64 0))), some 4, none⟩]) c137_0
theorem ok137 : okFn Go.Proofs.Try.prog Go.Proofs.Try.f137 v137 s137 r137 4 = true := by kernel_rfl

def v138 : List Nat := [0, 1, 2, 3, 4, 5, 12]
def r138 : List SRes := [.tmp 6]
abbrev c138_0 : SCode := .seq (.reg [40, 1042] [
  ⟨.op (.mv (.slot 2)), none, none⟩, 
  ⟨.op (.asg (.slot 7)), some 6, none⟩]) (.ret)
abbrev c138_1 : SCode := .seq (.reg [32, 33, 34, 35, 36, 37, 31, 38, 39, 1050, 1051] [
  ⟨.op (.mv (.slot 0)), none, none⟩, 
  ⟨.op (.mv (.slot 1)), none, none⟩, 
  ⟨.op (.mv (.slot 2)), none, none⟩, 
  ⟨.op (.mv (.slot 4)), none, none⟩, 
  ⟨.op (.mv (.slot 5)), none, none⟩, 
  ⟨.call 139 [(.slot 7), (.slot 8), (.slot 9), (.slot 10), (.slot 11)] false, none, none⟩, 
  ⟨.op (.mvt 12), none, none⟩, 
  ⟨.op (.ext 13 0), none, none⟩, 
  ⟨.op (.ext 13 1), none, none⟩, 
  ⟨.op (.asg (.slot 14)), some 1, none⟩, 
  ⟨.op (.asg (.slot 15)), some 2, none⟩]) c138_0
abbrev c138_2 : SCode := .seq (.reg [23, 24, 25, 26, 27, 28, 22, 29, 30, 1050, 1051] [
  ⟨.op (.mv (.slot 0)), none, none⟩, 
  ⟨.op (.mv (.slot 2)), none, none⟩, 
  ⟨.op (.mv (.slot 3)), none, none⟩, 
  ⟨.op (.mv (.slot 4)), none, none⟩, 
  ⟨.op (.mv (.slot 5)), none, none⟩, 
  ⟨.call 139 [(.slot 7), (.slot 8), (.slot 9), (.slot 10), (.slot 11)] false, none, none⟩, 
  ⟨.op (.mvt 12), none, none⟩, 
  ⟨.op (.ext 13 0), none, none⟩, 
  ⟨.op (.ext 13 1), none, none⟩, 
  ⟨.op (.asg (.slot 14)), some 2, none⟩, 
  ⟨.op (.asg (.slot 15)), some 3, none⟩]) c138_1
abbrev c138_3 : SCode := .seq (.reg [14, 15, 16, 17, 18, 19, 13, 20, 21, 1050, 1051] [
  ⟨.op (.mv (.slot 0)), none, none⟩, 
  ⟨.op (.mv (.slot 1)), none, none⟩, 
  ⟨.op (.mv (.slot 2)), none, none⟩, 
  ⟨.op (.mv (.slot 4)), none, none⟩, 
  ⟨.op (.mv (.slot 5)), none, none⟩, 
  ⟨.call 139 [(.slot 7), (.slot 8), (.slot 9), (.slot 10), (.slot 11)] false, none, none⟩, 
  ⟨.op (.mvt 12), none, none⟩, 
  ⟨.op (.ext 13 0), none, none⟩, 
  ⟨.op (.ext 13 1), none, none⟩, 
  ⟨.op (.asg (.slot 14)), some 1, none⟩, 
  ⟨.op (.asg (.slot 15)), some 2, none⟩]) c138_2
abbrev s138 : SCode := .seq (.reg [1041] [
  ⟨.op (.asg (.con (.int .i64 0))), some 6, none⟩]) c138_3
theorem ok138 : okFn Go.Proofs.Try.prog Go.Proofs.Try.f138 v138 s138 r138 6 = true := by kernel_rfl

def v139 : List Nat := [0, 1, 2, 3, 4, 10, 11, 22]
def r139 : List SRes := [.tmp 5, .tmp 6]
abbrev c139_0 : SCode := .seq (.reg [30, 31, 1034, 1035] [
  ⟨.op (.mv (.slot 1)), none, none⟩, 
  ⟨.op (.mv (.slot 2)), none, none⟩, 
  ⟨.op (.asg (.slot 8)), some 5, none⟩, 
  ⟨.op (.asg (.slot 9)), some 6, none⟩]) (.ret)
abbrev c139_1 : SCode := .seq (.reg [28, 29, 1034, 1035] [
  ⟨.op (.mv (.slot 2)), none, none⟩, 
  ⟨.op (.mv (.slot 1)), none, none⟩, 
  ⟨.op (.asg (.slot 8)), some 5, none⟩, 
  ⟨.op (.asg (.slot 9)), some 6, none⟩]) (.ret)
abbrev c139_2 : SCode := .seq (.bad ) c139_1
abbrev c139_3 : SCode := .cond (.slot 7) c139_2 (.skip)
abbrev c139_4 : SCode := .seq (.seq (.dreg [12, 13, 14, 15, 16, 17, 18, 19, 20, 21, 1042] [
  ⟨.op (.mv (.slot 4)), none, none⟩, 
  ⟨.op (.mv (.slot 0)), none, none⟩, 
  ⟨.op (.mv (.slot 2)), none, none⟩, 
  ⟨.op (.iaddr 2 (.slot 9) (.slot 10)), none, none⟩, 
  ⟨.op (.load 2 true (.slot 11)), none, none⟩, 
  ⟨.op (.mv (.slot 0)), none, none⟩, 
  ⟨.op (.mv (.slot 1)), none, none⟩, 
  ⟨.op (.iaddr 2 (.slot 13) (.slot 14)), none, none⟩, 
  ⟨.op (.load 2 true (.slot 15)), none, none⟩, 
  ⟨.callv (.slot 8) [(.slot 12), (.slot 16)], none, none⟩, 
  ⟨.op (.bin .lss (.slot 17) (.con (.int .i64 0))), some 7, none⟩]
  [[], [], [], [1, 2], [1, 2, 3], [], [], [5, 6], [5, 6, 7], [0, 1, 2, 3, 4, 5, 6, 7, 8], [0, 1, 2, 3, 4, 5, 6, 7, 8, 9]] 10 [] [([], none), ([false], none), ([false, false], none), ([false, true, true], none), ([false, true, true, true], none), ([false, false, false, false, false], none), ([false, false, false, false, false, false], none), ([false, false, false, false, false, true, true], none), ([false, false, false, false, false, true, true, true], none), ([true, true, true, true, true, true, true, true, true], none)] [true, true, true, true, true, true, true, true, true, true]) c139_3) c139_0
abbrev s139 : SCode := .seq (.reg [1032, 1033] [
  ⟨.op (.asg (.con (.int .i64 0))), some 5, none⟩, 
  ⟨.op (.asg (.con (.int .i64 0))), some 6, none⟩]) c139_4
theorem ok139 : okFn Go.Proofs.Try.prog Go.Proofs.Try.f139 v139 s139 r139 5 = true := by kernel_rfl

end Go.AmC
