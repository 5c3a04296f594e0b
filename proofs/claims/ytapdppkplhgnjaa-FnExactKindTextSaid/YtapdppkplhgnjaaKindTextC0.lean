/- Part of a proof: see the last text of this folder. -/
import Derived.Test.YtapdppkplhgnjaaAmG
import Derived.KernelRfl
import Derived.Test.YtapdppkplhgnjaaProg
set_option maxRecDepth 100000
namespace Go.AmC
open Go Go.AM
def v3 : List Nat := [0, 2, 3, 4, 11]
def r3 : List SRes := [.tmp 1]
abbrev c3_0 : SCode := .seq (.reg [1012] [
  ⟨.op (.asg (.con (.bool true))), some 1, none⟩]) (.ret)
abbrev c3_1 : SCode := .seq (.reg [1012] [
  ⟨.op (.asg (.con (.bool false))), some 1, none⟩]) (.ret)
abbrev c3_2 : SCode := .cond (.slot 4) c3_1 (.skip)
abbrev c3_3 : SCode := .seq (.seq (.reg [9, 10, 1014] [
  ⟨.op (.mv (.slot 3)), none, none⟩, 
  ⟨.op (.mv (.slot 2)), none, none⟩, 
  ⟨.op (.bin .neq (.slot 5) (.slot 6)), some 4, none⟩]) c3_2) c3_0
abbrev c3_4 : SCode := .seq (.reg [7, 8, 1014] [
  ⟨.op (.mv (.slot 0)), none, none⟩, 
  ⟨.call 9 [(.slot 5)] false, none, none⟩, 
  ⟨.op (.asg (.slot 6)), some 3, none⟩]) c3_3
abbrev c3_5 : SCode := .seq (.reg [5, 6, 1014] [
  ⟨.op (.mv (.slot 0)), none, none⟩, 
  ⟨.call 8 [(.slot 5)] false, none, none⟩, 
  ⟨.op (.asg (.slot 6)), some 2, none⟩]) c3_4
abbrev s3 : SCode := .seq (.reg [1012] [
  ⟨.op (.asg (.con (.bool false))), some 1, none⟩]) c3_5
theorem ok3 : okFn Go.Proofs.Try.prog Go.Proofs.Try.f3 v3 s3 r3 1 = true := by kernel_rfl

def v8 : List Nat := [0, 2, 3, 7]
def r8 : List SRes := [.tmp 1]
abbrev c8_0 : SCode := .seq (.reg [8, 9, 10, 11, 1016] [
  ⟨.op (.mv (.slot 2)), none, none⟩, 
  ⟨.op (.mv (.slot 0)), none, none⟩, 
  ⟨.op (.iaddr 1 (.slot 4) (.slot 5)), none, none⟩, 
  ⟨.op (.load 1 false (.slot 6)), none, none⟩, 
  ⟨.op (.asg (.slot 7)), some 1, none⟩]) (.ret)
abbrev c8_1 : SCode := .seq (.reg [1012] [
  ⟨.op (.asg (.con (.str []))), some 1, none⟩]) (.ret)
abbrev c8_2 : SCode := .cond (.slot 3) c8_1 (.skip)
abbrev c8_3 : SCode := .seq (.seq (.reg [5, 6, 1014] [
  ⟨.op (.mv (.slot 0)), none, none⟩, 
  ⟨.call 35 [(.slot 4), (.con (.int .i64 0)), (.con (.int .i64 6))] false, none, none⟩, 
  ⟨.op (.not (.slot 5)), some 3, none⟩]) c8_2) c8_0
abbrev c8_4 : SCode := .seq (.reg [4, 1013] [
  ⟨.op (.bsl 9 7 [(.str [])] [(0, 1, (.con (.str [110, 111, 110, 101]))), (1, 1, (.con (.str [97, 115, 107, 101, 100]))), (2, 1, (.con (.str [115, 117, 109]))), (3, 1, (.con (.str [109, 105, 110]))), (4, 1, (.con (.str [109, 97, 120]))), (5, 1, (.con (.str [111, 119, 110]))), (6, 1, (.con (.str [116, 105, 101, 100])))]), none, none⟩, 
  ⟨.op (.asg (.slot 4)), some 2, none⟩]) c8_3
abbrev s8 : SCode := .seq (.reg [1012] [
  ⟨.op (.asg (.con (.str []))), some 1, none⟩]) c8_4
theorem ok8 : okFn Go.Proofs.Try.prog Go.Proofs.Try.f8 v8 s8 r8 1 = true := by kernel_rfl

def v9 : List Nat := [0, 2, 5]
def r9 : List SRes := [.tmp 1]
abbrev c9_0 : SCode := .seq (.reg [6, 7, 8, 1012] [
  ⟨.op (.build [(.str []), (.str []), (.str []), (.str []), (.str []), (.str []), (.str [])] [(0, 1, (.con (.str [110, 111, 110, 101]))), (1, 1, (.con (.str [97, 115, 107, 101, 100]))), (2, 1, (.con (.str [115, 117, 109]))), (3, 1, (.con (.str [109, 105, 110]))), (4, 1, (.con (.str [109, 97, 120]))), (5, 1, (.con (.str [111, 119, 110]))), (6, 1, (.con (.str [116, 105, 101, 100])))]), none, none⟩, 
  ⟨.op (.mv (.slot 0)), none, none⟩, 
  ⟨.op (.aidx 1 false 7 (.slot 3) (.slot 4)), none, none⟩, 
  ⟨.op (.asg (.slot 5)), some 1, none⟩]) (.ret)
abbrev c9_1 : SCode := .seq (.reg [1009] [
  ⟨.op (.asg (.con (.str []))), some 1, none⟩]) (.ret)
abbrev c9_2 : SCode := .cond (.slot 2) c9_1 (.skip)
abbrev c9_3 : SCode := .seq (.seq (.reg [3, 4, 1011] [
  ⟨.op (.mv (.slot 0)), none, none⟩, 
  ⟨.call 36 [(.slot 3), (.con (.int .i64 0)), (.con (.int .i64 6))] false, none, none⟩, 
  ⟨.op (.not (.slot 4)), some 2, none⟩]) c9_2) c9_0
abbrev s9 : SCode := .seq (.reg [1009] [
  ⟨.op (.asg (.con (.str []))), some 1, none⟩]) c9_3
theorem ok9 : okFn Go.Proofs.Try.prog Go.Proofs.Try.f9 v9 s9 r9 1 = true := by kernel_rfl

def v35 : List Nat := [0, 1, 2, 6]
def r35 : List SRes := [.tmp 3]
abbrev c35_0 : SCode := .seq (.reg [7, 8, 9, 10, 11, 12, 13, 14, 1023] [
  ⟨.op (.mv (.slot 0)), none, none⟩, 
  ⟨.op (.mv (.slot 1)), none, none⟩, 
  ⟨.op (.bin .geq (.slot 4) (.slot 5)), none, none⟩, 
  ⟨.op (.mv (.slot 6)), none, none⟩, 
  ⟨.op (.mv (.slot 0)), none, some (7, true)⟩, 
  ⟨.op (.mv (.slot 2)), none, some (7, true)⟩, 
  ⟨.op (.bin .leq (.slot 8) (.slot 9)), none, some (7, true)⟩, 
  ⟨.op (.pick (.slot 7) (.slot 10) (.con (.bool false))), none, none⟩, 
  ⟨.op (.asg (.slot 11)), some 3, none⟩]) (.ret)
abbrev s35 : SCode := .seq (.reg [1015] [
  ⟨.op (.asg (.con (.bool false))), some 3, none⟩]) c35_0
theorem ok35 : okFn Go.Proofs.Try.prog Go.Proofs.Try.f35 v35 s35 r35 3 = true := by kernel_rfl

def v36 : List Nat := [0, 1, 2, 6]
def r36 : List SRes := [.tmp 3]
abbrev c36_0 : SCode := .seq (.reg [7, 8, 9, 10, 11, 12, 13, 14, 1023] [
  ⟨.op (.mv (.slot 0)), none, none⟩, 
  ⟨.op (.mv (.slot 1)), none, none⟩, 
  ⟨.op (.bin .geq (.slot 4) (.slot 5)), none, none⟩, 
  ⟨.op (.mv (.slot 6)), none, none⟩, 
  ⟨.op (.mv (.slot 0)), none, some (7, true)⟩, 
  ⟨.op (.mv (.slot 2)), none, some (7, true)⟩, 
  ⟨.op (.bin .leq (.slot 8) (.slot 9)), none, some (7, true)⟩, 
  ⟨.op (.pick (.slot 7) (.slot 10) (.con (.bool false))), none, none⟩, 
  ⟨.op (.asg (.slot 11)), some 3, none⟩]) (.ret)
abbrev s36 : SCode := .seq (.reg [1015] [
  ⟨.op (.asg (.con (.bool false))), some 3, none⟩]) c36_0
theorem ok36 : okFn Go.Proofs.Try.prog Go.Proofs.Try.f36 v36 s36 r36 3 = true := by kernel_rfl

end Go.AmC
