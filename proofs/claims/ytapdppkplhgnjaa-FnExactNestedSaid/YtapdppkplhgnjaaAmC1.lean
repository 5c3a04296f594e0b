/- Part of a proof: see the last text of this folder. -/
import Derived.Test.YtapdppkplhgnjaaAmW
import Derived.KernelRfl
import Derived.Test.YtapdppkplhgnjaaProg
set_option maxRecDepth 100000
namespace Go.AmC
open Go Go.AM

-- 0: main.main: NOT COVERED: no body

-- 1: gosem.cut: NOT COVERED: no body

-- 2: gosem.cut.init: NOT COVERED: call of gosem.cut (op 0 at )

/- 3: loop.example/g00476/laws.FnExactKindText. Slots: aK:0, :2, w0:3, g0:4, :11 -/
def v3 : List Nat := [0, 2, 3, 4, 11]
def r3 : List SRes := [.tmp 1]
def s3 : SCode :=
  .seq (
   .reg [1012] [
       { k := .op (.asg (.con (.bool false))), dst := some 1 }]) (
   .seq (
    .reg [5, 6, 1014] [
        { k := .op (.mv (.slot 0)) }, 
        { k := .call 8 [(.slot 5)] false }, 
        { k := .op (.asg (.slot 6)), dst := some 2 }]) (
    .seq (
     .reg [7, 8, 1014] [
         { k := .op (.mv (.slot 0)) }, 
         { k := .call 9 [(.slot 5)] false }, 
         { k := .op (.asg (.slot 6)), dst := some 3 }]) (
     .seq (
      .seq (
       .reg [9, 10, 1014] [
           { k := .op (.mv (.slot 3)) }, 
           { k := .op (.mv (.slot 2)) }, 
           { k := .op (.bin .neq (.slot 5) (.slot 6)), dst := some 4 }]) (
       .cond (.slot 4) (
        .seq (
         .reg [1012] [
             { k := .op (.asg (.con (.bool false))), dst := some 1 }]) (
         .ret)) (
        .skip))) (
      .seq (
       .reg [1012] [
           { k := .op (.asg (.con (.bool true))), dst := some 1 }]) (
       .ret)))))
theorem ok3 : okFn Go.Proofs.Try.prog Go.Proofs.Try.f3 v3 s3 r3 1 = true := by kernel_rfl

/- 4: loop.example/g00476/laws.FnExactNested. Slots: aS:0, aS:1, :2, left:3, :11, w0:4, x0:5, g0:6, :21, :26 -/
def v4 : List Nat := [0, 1, 2, 3, 11, 4, 5, 6, 21, 26]
def r4 : List SRes := [.tmp 2]
def s4 : SCode :=
  .seq (
   .reg [1027, 1028] [
       { k := .op (.box 29 19 (.slot 0)), dst := some 1 }, 
       { k := .op (.asg (.con (.bool false))), dst := some 2 }]) (
   .seq (
    .reg [1027] [
        { k := .op (.asg (.con (.int .i64 1048576))), dst := some 3 }]) (
    .seq (
     .reg [7, 8, 9, 1030] [
         { k := .op (.load 19 true (.slot 1)) }, 
         { k := .op (.mv (.slot 3)) }, 
         { k := .call 10 [(.slot 10), (.slot 11)] false }, 
         { k := .op (.asg (.slot 12)), dst := some 3 }]) (
     .seq (
      .seq (
       .reg [10, 1028] [
           { k := .op (.mv (.slot 3)) }, 
           { k := .op (.bin .lss (.slot 10) (.con (.int .i64 0))), dst := some 4 }]) (
       .cond (.slot 4) (
        .seq (
         .reg [1027] [
             { k := .op (.asg (.con (.bool true))), dst := some 2 }]) (
         .ret)) (
        .skip))) (
      .seq (
       .reg [12, 13, 14, 1030] [
           { k := .op (.load 19 true (.slot 1)) }, 
           { k := .call 12 [(.slot 10)] false }, 
           { k := .call 11 [(.slot 11)] false }, 
           { k := .op (.asg (.slot 12)), dst := some 5 }]) (
       .seq (
        .reg [15, 16, 1029, 1030] [
            { k := .op (.load 19 true (.slot 1)) }, 
            { k := .call 12 [(.slot 10)] false }, 
            { k := .op (.mk 37 [(.int .i64 0), (.str []), (.int .i64 0), (.int .i64 0), (.str []), (.osl 0 34 0 []), (.int .i64 0), (.int .i64 0), (.str []), (.osl 0 34 0 []), (.int .i64 0), (.int .i64 0), (.str []), (.osl 0 34 0 []), (.int .i64 0), (.int .i64 0), (.str []), (.osl 0 34 0 []), (.osl 0 37 0 [])]), dst := some 6 }, 
            { k := .op (.store 19 true (.slot 6) (.slot 11)) }]) (
        .seq (
         .reg [17, 18, 1029] [
             { k := .op (.load 19 true (.slot 6)) }, 
             { k := .call 13 [(.slot 10)] false }, 
             { k := .op (.asg (.slot 11)), dst := some 7 }]) (
         .seq (
          .seq (
           .reg [19, 20, 1029] [
               { k := .op (.mv (.slot 7)) }, 
               { k := .op (.mv (.slot 5)) }, 
               { k := .op (.beq true (.slot 10) (.slot 11)), dst := some 8 }]) (
           .cond (.slot 8) (
            .seq (
             .reg [1027] [
                 { k := .op (.asg (.con (.bool false))), dst := some 2 }]) (
             .ret)) (
            .skip))) (
          .seq (
           .seq (
            .dreg [22, 23, 24, 25, 1031] [
                { k := .op (.load 19 true (.slot 6)) }, 
                { k := .op (.load 19 true (.slot 1)) }, 
                { k := .call 12 [(.slot 11)] false }, 
                { k := .call 14 [(.slot 10), (.slot 12)] false }, 
                { k := .op (.not (.slot 13)), dst := some 9 }]
              [[], [], [1], [0, 1, 2], [0, 1, 2, 3]] 4) (
            .cond (.slot 9) (
             .seq (
              .reg [1027] [
                  { k := .op (.asg (.con (.bool false))), dst := some 2 }]) (
              .ret)) (
             .skip))) (
           .seq (
            .reg [1027] [
                { k := .op (.asg (.con (.bool true))), dst := some 2 }]) (
            .ret))))))))))
theorem ok4 : okFn Go.Proofs.Try.prog Go.Proofs.Try.f4 v4 s4 r4 1 = true := by kernel_rfl

/- 5: loop.example/g00476/laws.FnExactAllDone. Slots: aM:0, aM:1, :2, left:3, :11, w0:4, x0:5, g0:6, :21, :26 -/
def v5 : List Nat := [0, 1, 2, 3, 11, 4, 5, 6, 21, 26]
def r5 : List SRes := [.tmp 2]
def s5 : SCode :=
  .seq (
   .reg [1027, 1028] [
       { k := .op (.box 44 4 (.slot 0)), dst := some 1 }, 
       { k := .op (.asg (.con (.bool false))), dst := some 2 }]) (
   .seq (
    .reg [1027] [
        { k := .op (.asg (.con (.int .i64 1048576))), dst := some 3 }]) (
    .seq (
     .reg [7, 8, 9, 1030] [
         { k := .op (.load 4 true (.slot 1)) }, 
         { k := .op (.mv (.slot 3)) }, 
         { k := .call 15 [(.slot 10), (.slot 11)] false }, 
         { k := .op (.asg (.slot 12)), dst := some 3 }]) (
     .seq (
      .seq (
       .reg [10, 1028] [
           { k := .op (.mv (.slot 3)) }, 
           { k := .op (.bin .lss (.slot 10) (.con (.int .i64 0))), dst := some 4 }]) (
       .cond (.slot 4) (
        .seq (
         .reg [1027] [
             { k := .op (.asg (.con (.bool true))), dst := some 2 }]) (
         .ret)) (
        .skip))) (
      .seq (
       .reg [12, 13, 14, 1030] [
           { k := .op (.load 4 true (.slot 1)) }, 
           { k := .call 17 [(.slot 10)] false }, 
           { k := .call 16 [(.slot 11)] false }, 
           { k := .op (.asg (.slot 12)), dst := some 5 }]) (
       .seq (
        .reg [15, 16, 1029, 1030] [
            { k := .op (.load 4 true (.slot 1)) }, 
            { k := .call 17 [(.slot 10)] false }, 
            { k := .op (.mk 49 [(.osl 0 3 0 []), (.osl 0 87 0 []), (.osl 0 3 0 []), (.bool false)]), dst := some 6 }, 
            { k := .op (.store 4 true (.slot 6) (.slot 11)) }]) (
        .seq (
         .reg [17, 18, 1029] [
             { k := .op (.load 4 true (.slot 6)) }, 
             { k := .call 18 [(.slot 10)] false }, 
             { k := .op (.asg (.slot 11)), dst := some 7 }]) (
         .seq (
          .seq (
           .reg [19, 20, 1029] [
               { k := .op (.mv (.slot 7)) }, 
               { k := .op (.mv (.slot 5)) }, 
               { k := .op (.beq true (.slot 10) (.slot 11)), dst := some 8 }]) (
           .cond (.slot 8) (
            .seq (
             .reg [1027] [
                 { k := .op (.asg (.con (.bool false))), dst := some 2 }]) (
             .ret)) (
            .skip))) (
          .seq (
           .seq (
            .dreg [22, 23, 24, 25, 1031] [
                { k := .op (.load 4 true (.slot 6)) }, 
                { k := .op (.load 4 true (.slot 1)) }, 
                { k := .call 17 [(.slot 11)] false }, 
                { k := .call 19 [(.slot 10), (.slot 12)] false }, 
                { k := .op (.not (.slot 13)), dst := some 9 }]
              [[], [], [1], [0, 1, 2], [0, 1, 2, 3]] 4) (
            .cond (.slot 9) (
             .seq (
              .reg [1027] [
                  { k := .op (.asg (.con (.bool false))), dst := some 2 }]) (
              .ret)) (
             .skip))) (
           .seq (
            .reg [1027] [
                { k := .op (.asg (.con (.bool true))), dst := some 2 }]) (
            .ret))))))))))
theorem ok5 : okFn Go.Proofs.Try.prog Go.Proofs.Try.f5 v5 s5 r5 1 = true := by kernel_rfl

/- 6: loop.example/g00476/laws.FnExactFoldExp. Slots: aE:0, aE:1, :2, left:3, :15, w0:4, x0:5, g0:6, :26, :31, k:7, :42, m:8, q:9, :50, :53, h0:10, :60, :65, :68 -/
def v6 : List Nat := [0, 1, 2, 3, 15, 4, 5, 6, 26, 31, 7, 42, 8, 9, 50, 53, 10, 60, 65, 68]
def r6 : List SRes := [.tmp 2]
def s6 : SCode :=
  .seq (
   .reg [1069, 1070] [
       { k := .op (.box 26 4 (.slot 0)), dst := some 1 }, 
       { k := .op (.asg (.con (.bool false))), dst := some 2 }]) (
   .seq (
    .reg [1069] [
        { k := .op (.asg (.con (.int .i64 1048576))), dst := some 3 }]) (
    .seq (
     .reg [11, 12, 13, 1072] [
         { k := .op (.load 4 true (.slot 1)) }, 
         { k := .op (.mv (.slot 3)) }, 
         { k := .call 20 [(.slot 20), (.slot 21)] false }, 
         { k := .op (.asg (.slot 22)), dst := some 3 }]) (
     .seq (
      .seq (
       .reg [14, 1070] [
           { k := .op (.mv (.slot 3)) }, 
           { k := .op (.bin .lss (.slot 20) (.con (.int .i64 0))), dst := some 4 }]) (
       .cond (.slot 4) (
        .seq (
         .reg [1069] [
             { k := .op (.asg (.con (.bool true))), dst := some 2 }]) (
         .ret)) (
        .skip))) (
      .seq (
       .reg [16, 17, 18, 1072, 1073] [
           { k := .op (.load 4 true (.slot 1)) }, 
           { k := .call 22 [(.slot 20)] false }, 
           { k := .call 21 [(.slot 21)] false }, 
           { k := .op (.mk 34 [(.int .i64 0), (.int .i64 0), (.str []), (.osl 0 34 0 [])]), dst := some 5 }, 
           { k := .op (.store 4 true (.slot 5) (.slot 22)) }]) (
       .seq (
        .reg [19, 20, 1071, 1072] [
            { k := .op (.load 4 true (.slot 1)) }, 
            { k := .call 22 [(.slot 20)] false }, 
            { k := .op (.mk 34 [(.int .i64 0), (.int .i64 0), (.str []), (.osl 0 34 0 [])]), dst := some 6 }, 
            { k := .op (.store 4 true (.slot 6) (.slot 21)) }]) (
        .seq (
         .reg [21, 22, 1071, 1072] [
             { k := .op (.load 4 true (.slot 6)) }, 
             { k := .call 23 [(.slot 20)] false }, 
             { k := .op (.mk 34 [(.int .i64 0), (.int .i64 0), (.str []), (.osl 0 34 0 [])]), dst := some 7 }, 
             { k := .op (.store 4 true (.slot 7) (.slot 21)) }]) (
         .seq (
          .seq (
           .reg [23, 24, 25, 1072] [
               { k := .op (.load 4 true (.slot 7)) }, 
               { k := .op (.load 4 true (.slot 5)) }, 
               { k := .call 24 [(.slot 20), (.slot 21)] false }, 
               { k := .op (.not (.slot 22)), dst := some 8 }]) (
           .cond (.slot 8) (
            .seq (
             .reg [1069] [
                 { k := .op (.asg (.con (.bool false))), dst := some 2 }]) (
             .ret)) (
            .skip))) (
          .seq (
           .seq (
            .dreg [27, 28, 29, 30, 1073] [
                { k := .op (.load 4 true (.slot 6)) }, 
                { k := .op (.load 4 true (.slot 1)) }, 
                { k := .call 22 [(.slot 21)] false }, 
                { k := .call 24 [(.slot 20), (.slot 22)] false }, 
                { k := .op (.not (.slot 23)), dst := some 9 }]
              [[], [], [1], [0, 1, 2], [0, 1, 2, 3]] 4) (
            .cond (.slot 9) (
             .seq (
              .reg [1069] [
                  { k := .op (.asg (.con (.bool false))), dst := some 2 }]) (
              .ret)) (
             .skip))) (
           .seq (
            .reg [1069] [
                { k := .op (.asg (.con (.int .i64 1))), dst := some 10 }]) (
            .seq (
             .reg [32, 33, 34, 1072] [
                 { k := .op (.load 4 true (.slot 6)) }, 
                 { k := .op (.mv (.slot 10)) }, 
                 { k := .call 25 [(.slot 20), (.slot 21)] false }, 
                 { k := .op (.asg (.slot 22)), dst := some 10 }]) (
             .seq (
              .seq (
               .reg [35, 36, 37, 38, 39, 40, 41, 1076] [
                   { k := .op (.mv (.slot 10)) }, 
                   { k := .op (.bin .lss (.slot 20) (.con (.int .i64 0))) }, 
                   { k := .op (.mv (.slot 21)) }, 
                   { k := .op (.load 4 true (.slot 7)), guard := some (22, false) }, 
                   { k := .op (.load 4 true (.slot 5)), guard := some (22, false) }, 
                   { k := .call 24 [(.slot 23), (.slot 24)] false, guard := some (22, false) }, 
                   { k := .op (.not (.slot 25)), guard := some (22, false) }, 
                   { k := .op (.pick (.slot 22) (.con (.bool true)) (.slot 26)), dst := some 11 }]) (
               .cond (.slot 11) (
                .seq (
                 .reg [1069] [
                     { k := .op (.asg (.con (.bool false))), dst := some 2 }]) (
                 .ret)) (
                .skip))) (
              .seq (
               .reg [1069] [
                   { k := .op (.asg (.con (.int .i64 1))), dst := some 12 }]) (
               .seq (
                .reg [43, 44, 45, 1072] [
                    { k := .op (.load 4 true (.slot 7)) }, 
                    { k := .op (.mv (.slot 12)) }, 
                    { k := .call 25 [(.slot 20), (.slot 21)] false }, 
                    { k := .op (.asg (.slot 22)), dst := some 12 }]) (
                .seq (
                 .reg [1069] [
                     { k := .op (.asg (.con (.int .i64 1))), dst := some 13 }]) (
                 .seq (
                  .reg [46, 47, 48, 1072] [
                      { k := .op (.load 4 true (.slot 7)) }, 
                      { k := .op (.mv (.slot 13)) }, 
                      { k := .call 26 [(.slot 20), (.slot 21)] false }, 
                      { k := .op (.asg (.slot 22)), dst := some 13 }]) (
                  .seq (
                   .seq (
                    .reg [49, 1070] [
                        { k := .op (.mv (.slot 13)) }, 
                        { k := .op (.bin .lss (.slot 20) (.con (.int .i64 0))), dst := some 14 }]) (
                    .cond (.slot 14) (
                     .seq (
                      .reg [1069] [
                          { k := .op (.asg (.con (.bool false))), dst := some 2 }]) (
                      .ret)) (
                     .skip))) (
                   .seq (
                    .seq (
                     .reg [51, 52, 1071] [
                         { k := .op (.mv (.slot 13)) }, 
                         { k := .op (.mv (.slot 12)) }, 
                         { k := .op (.bin .neq (.slot 20) (.slot 21)), dst := some 15 }]) (
                     .cond (.slot 15) (
                      .seq (
                       .reg [1069] [
                           { k := .op (.asg (.con (.bool false))), dst := some 2 }]) (
                       .ret)) (
                      .skip))) (
                    .seq (
                     .reg [54, 55, 56, 1072, 1073] [
                         { k := .op (.load 4 true (.slot 1)) }, 
                         { k := .call 22 [(.slot 20)] false }, 
                         { k := .call 23 [(.slot 21)] false }, 
                         { k := .op (.mk 34 [(.int .i64 0), (.int .i64 0), (.str []), (.osl 0 34 0 [])]), dst := some 16 }, 
                         { k := .op (.store 4 true (.slot 16) (.slot 22)) }]) (
                     .seq (
                      .seq (
                       .reg [57, 58, 59, 1072] [
                           { k := .op (.load 4 true (.slot 16)) }, 
                           { k := .op (.load 4 true (.slot 5)) }, 
                           { k := .call 24 [(.slot 20), (.slot 21)] false }, 
                           { k := .op (.not (.slot 22)), dst := some 17 }]) (
                       .cond (.slot 17) (
                        .seq (
                         .reg [1069] [
                             { k := .op (.asg (.con (.bool false))), dst := some 2 }]) (
                         .ret)) (
                        .skip))) (
                      .seq (
                       .reg [1069] [
                           { k := .op (.asg (.con (.int .i64 1))), dst := some 13 }]) (
                       .seq (
                        .reg [61, 62, 63, 1072] [
                            { k := .op (.load 4 true (.slot 7)) }, 
                            { k := .op (.mv (.slot 13)) }, 
                            { k := .call 26 [(.slot 20), (.slot 21)] false }, 
                            { k := .op (.asg (.slot 22)), dst := some 13 }]) (
                        .seq (
                         .seq (
                          .reg [64, 1070] [
                              { k := .op (.mv (.slot 13)) }, 
                              { k := .op (.bin .lss (.slot 20) (.con (.int .i64 0))), dst := some 18 }]) (
                          .cond (.slot 18) (
                           .seq (
                            .reg [1069] [
                                { k := .op (.asg (.con (.bool false))), dst := some 2 }]) (
                            .ret)) (
                           .skip))) (
                         .seq (
                          .seq (
                           .reg [66, 67, 1071] [
                               { k := .op (.mv (.slot 13)) }, 
                               { k := .op (.mv (.slot 12)) }, 
                               { k := .op (.bin .neq (.slot 20) (.slot 21)), dst := some 19 }]) (
                           .cond (.slot 19) (
                            .seq (
                             .reg [1069] [
                                 { k := .op (.asg (.con (.bool false))), dst := some 2 }]) (
                             .ret)) (
                            .skip))) (
                          .seq (
                           .reg [1069] [
                               { k := .op (.asg (.con (.bool true))), dst := some 2 }]) (
                           .ret)))))))))))))))))))))))))
theorem ok6 : okFn Go.Proofs.Try.prog Go.Proofs.Try.f6 v6 s6 r6 1 = true := by kernel_rfl

/- 7: loop.example/g00476/laws.FnExactAgree. Slots: aP:0, aA:1, aB:2, aP:3, aA:4, aB:5, :6, left:7, :17, :22, :27, w0:8, x0:9, x1:10, x2:11, g0:12, :47, :52, :57, :62 -/
def v7 : List Nat := [0, 1, 2, 3, 4, 5, 6, 7, 17, 22, 27, 8, 9, 10, 11, 12, 47, 52, 57, 62]
def r7 : List SRes := [.tmp 6]
def s7 : SCode :=
  .seq (
   .reg [1063, 1064, 1065, 1066] [
       { k := .op (.box 61 2 (.slot 0)), dst := some 3 }, 
       { k := .op (.box 64 4 (.slot 1)), dst := some 4 }, 
       { k := .op (.box 64 4 (.slot 2)), dst := some 5 }, 
       { k := .op (.asg (.con (.bool false))), dst := some 6 }]) (
   .seq (
    .reg [1063] [
        { k := .op (.asg (.con (.int .i64 1048576))), dst := some 7 }]) (
    .seq (
     .reg [13, 14, 15, 1066] [
         { k := .op (.load 2 true (.slot 3)) }, 
         { k := .op (.mv (.slot 7)) }, 
         { k := .call 27 [(.slot 20), (.slot 21)] false }, 
         { k := .op (.asg (.slot 22)), dst := some 7 }]) (
     .seq (
      .seq (
       .reg [16, 1064] [
           { k := .op (.mv (.slot 7)) }, 
           { k := .op (.bin .lss (.slot 20) (.con (.int .i64 0))), dst := some 8 }]) (
       .cond (.slot 8) (
        .seq (
         .reg [1063] [
             { k := .op (.asg (.con (.bool true))), dst := some 6 }]) (
         .ret)) (
        .skip))) (
      .seq (
       .reg [18, 19, 20, 1066] [
           { k := .op (.load 4 true (.slot 4)) }, 
           { k := .op (.mv (.slot 7)) }, 
           { k := .call 28 [(.slot 20), (.slot 21)] false }, 
           { k := .op (.asg (.slot 22)), dst := some 7 }]) (
       .seq (
        .seq (
         .reg [21, 1064] [
             { k := .op (.mv (.slot 7)) }, 
             { k := .op (.bin .lss (.slot 20) (.con (.int .i64 0))), dst := some 9 }]) (
         .cond (.slot 9) (
          .seq (
           .reg [1063] [
               { k := .op (.asg (.con (.bool true))), dst := some 6 }]) (
           .ret)) (
          .skip))) (
        .seq (
         .reg [23, 24, 25, 1066] [
             { k := .op (.load 4 true (.slot 5)) }, 
             { k := .op (.mv (.slot 7)) }, 
             { k := .call 28 [(.slot 20), (.slot 21)] false }, 
             { k := .op (.asg (.slot 22)), dst := some 7 }]) (
         .seq (
          .seq (
           .reg [26, 1064] [
               { k := .op (.mv (.slot 7)) }, 
               { k := .op (.bin .lss (.slot 20) (.con (.int .i64 0))), dst := some 10 }]) (
           .cond (.slot 10) (
            .seq (
             .reg [1063] [
                 { k := .op (.asg (.con (.bool true))), dst := some 6 }]) (
             .ret)) (
            .skip))) (
          .seq (
           .dreg [28, 29, 30, 31, 32, 33, 34, 1070] [
               { k := .op (.load 2 true (.slot 3)) }, 
               { k := .call 30 [(.slot 20)] false }, 
               { k := .op (.load 4 true (.slot 4)) }, 
               { k := .call 31 [(.slot 22)] false }, 
               { k := .op (.load 4 true (.slot 5)) }, 
               { k := .call 31 [(.slot 24)] false }, 
               { k := .call 29 [(.slot 21), (.slot 23), (.slot 25)] false }, 
               { k := .op (.asg (.slot 26)), dst := some 11 }]
             [[], [0], [], [0, 1, 2], [], [0, 1, 2, 3, 4], [0, 1, 2, 3, 4, 5], [0, 1, 2, 3, 4, 5, 6]] 7) (
           .seq (
            .reg [35, 36, 1065, 1066] [
                { k := .op (.load 2 true (.slot 3)) }, 
                { k := .call 30 [(.slot 20)] false }, 
                { k := .op (.mk 70 [(.osl 0 114 0 []), (.osl 0 37 0 [])]), dst := some 12 }, 
                { k := .op (.store 2 true (.slot 12) (.slot 21)) }]) (
            .seq (
             .reg [37, 38, 1065, 1066] [
                 { k := .op (.load 4 true (.slot 4)) }, 
                 { k := .call 31 [(.slot 20)] false }, 
                 { k := .op (.mk 72 [(.osl 0 41 0 []), (.osl 0 3 0 []), (.osl 0 3 0 []), (.int .i64 0)]), dst := some 13 }, 
                 { k := .op (.store 4 true (.slot 13) (.slot 21)) }]) (
             .seq (
              .reg [39, 40, 1065, 1066] [
                  { k := .op (.load 4 true (.slot 5)) }, 
                  { k := .call 31 [(.slot 20)] false }, 
                  { k := .op (.mk 72 [(.osl 0 41 0 []), (.osl 0 3 0 []), (.osl 0 3 0 []), (.int .i64 0)]), dst := some 14 }, 
                  { k := .op (.store 4 true (.slot 14) (.slot 21)) }]) (
              .seq (
               .reg [41, 42, 43, 44, 1067] [
                   { k := .op (.load 2 true (.slot 12)) }, 
                   { k := .op (.load 4 true (.slot 13)) }, 
                   { k := .op (.load 4 true (.slot 14)) }, 
                   { k := .call 32 [(.slot 20), (.slot 21), (.slot 22)] false }, 
                   { k := .op (.asg (.slot 23)), dst := some 15 }]) (
               .seq (
                .seq (
                 .reg [45, 46, 1065] [
                     { k := .op (.mv (.slot 15)) }, 
                     { k := .op (.mv (.slot 11)) }, 
                     { k := .op (.beq true (.slot 20) (.slot 21)), dst := some 16 }]) (
                 .cond (.slot 16) (
                  .seq (
                   .reg [1063] [
                       { k := .op (.asg (.con (.bool false))), dst := some 6 }]) (
                   .ret)) (
                  .skip))) (
                .seq (
                 .seq (
                  .dreg [48, 49, 50, 51, 1067] [
                      { k := .op (.load 2 true (.slot 12)) }, 
                      { k := .op (.load 2 true (.slot 3)) }, 
                      { k := .call 30 [(.slot 21)] false }, 
                      { k := .call 33 [(.slot 20), (.slot 22)] false }, 
                      { k := .op (.not (.slot 23)), dst := some 17 }]
                    [[], [], [1], [0, 1, 2], [0, 1, 2, 3]] 4) (
                  .cond (.slot 17) (
                   .seq (
                    .reg [1063] [
                        { k := .op (.asg (.con (.bool false))), dst := some 6 }]) (
                    .ret)) (
                   .skip))) (
                 .seq (
                  .seq (
                   .dreg [53, 54, 55, 56, 1067] [
                       { k := .op (.load 4 true (.slot 13)) }, 
                       { k := .op (.load 4 true (.slot 4)) }, 
                       { k := .call 31 [(.slot 21)] false }, 
                       { k := .call 34 [(.slot 20), (.slot 22)] false }, 
                       { k := .op (.not (.slot 23)), dst := some 18 }]
                     [[], [], [1], [0, 1, 2], [0, 1, 2, 3]] 4) (
                   .cond (.slot 18) (
                    .seq (
                     .reg [1063] [
                         { k := .op (.asg (.con (.bool false))), dst := some 6 }]) (
                     .ret)) (
                    .skip))) (
                  .seq (
                   .seq (
                    .dreg [58, 59, 60, 61, 1067] [
                        { k := .op (.load 4 true (.slot 14)) }, 
                        { k := .op (.load 4 true (.slot 5)) }, 
                        { k := .call 31 [(.slot 21)] false }, 
                        { k := .call 34 [(.slot 20), (.slot 22)] false }, 
                        { k := .op (.not (.slot 23)), dst := some 19 }]
                      [[], [], [1], [0, 1, 2], [0, 1, 2, 3]] 4) (
                    .cond (.slot 19) (
                     .seq (
                      .reg [1063] [
                          { k := .op (.asg (.con (.bool false))), dst := some 6 }]) (
                      .ret)) (
                     .skip))) (
                   .seq (
                    .reg [1063] [
                        { k := .op (.asg (.con (.bool true))), dst := some 6 }]) (
                    .ret))))))))))))))))))
theorem ok7 : okFn Go.Proofs.Try.prog Go.Proofs.Try.f7 v7 s7 r7 3 = true := by kernel_rfl

/- 8: loop.example/g00476/spec.KindText. Slots: k:0, :2, l:3, :7 -/
def v8 : List Nat := [0, 2, 3, 7]
def r8 : List SRes := [.tmp 1]
def s8 : SCode :=
  .seq (
   .reg [1012] [
       { k := .op (.asg (.con (.str []))), dst := some 1 }]) (
   .seq (
    .reg [4, 1013] [
        { k := .op (.bsl 9 7 [(.str [])] [(0, 1, (.con (.str [110, 111, 110, 101]))), (1, 1, (.con (.str [97, 115, 107, 101, 100]))), (2, 1, (.con (.str [115, 117, 109]))), (3, 1, (.con (.str [109, 105, 110]))), (4, 1, (.con (.str [109, 97, 120]))), (5, 1, (.con (.str [111, 119, 110]))), (6, 1, (.con (.str [116, 105, 101, 100])))]) }, 
        { k := .op (.asg (.slot 4)), dst := some 2 }]) (
    .seq (
     .seq (
      .reg [5, 6, 1014] [
          { k := .op (.mv (.slot 0)) }, 
          { k := .call 35 [(.slot 4), (.con (.int .i64 0)), (.con (.int .i64 6))] false }, 
          { k := .op (.not (.slot 5)), dst := some 3 }]) (
      .cond (.slot 3) (
       .seq (
        .reg [1012] [
            { k := .op (.asg (.con (.str []))), dst := some 1 }]) (
        .ret)) (
       .skip))) (
     .seq (
      .reg [8, 9, 10, 11, 1016] [
          { k := .op (.mv (.slot 2)) }, 
          { k := .op (.mv (.slot 0)) }, 
          { k := .op (.iaddr 1 (.slot 4) (.slot 5)) }, 
          { k := .op (.load 1 false (.slot 6)) }, 
          { k := .op (.asg (.slot 7)), dst := some 1 }]) (
      .ret))))
theorem ok8 : okFn Go.Proofs.Try.prog Go.Proofs.Try.f8 v8 s8 r8 1 = true := by kernel_rfl

-- 9: loop.example/g00476/impl.KindText: NOT COVERED: build of what (op 0 at l27_text.go:25)

/- 10: loop.example/g00476/laws.szStmt. Slots: a:0, left:1, a:2, :4, :11, :17, :23, :29, :35, :41 -/
def v10 : List Nat := [0, 1, 2, 4, 11, 17, 23, 29, 35, 41]
def r10 : List SRes := [.tmp 3]
def s10 : SCode :=
  .seq (
   .reg [1043, 1044] [
       { k := .op (.box 29 19 (.slot 0)), dst := some 2 }, 
       { k := .op (.asg (.con (.int .i64 0))), dst := some 3 }]) (
   .seq (
    .reg [5, 6, 7, 8, 9, 1048] [
        { k := .op (.mv (.slot 1)) }, 
        { k := .op (.faddr 1 (.slot 2)) }, 
        { k := .op (.load 1 false (.slot 11)) }, 
        { k := .op (.len true (.slot 12)) }, 
        { k := .op (.bin .sub (.slot 10) (.slot 13)) }, 
        { k := .op (.asg (.slot 14)), dst := some 1 }]) (
    .seq (
     .seq (
      .reg [10, 1044] [
          { k := .op (.mv (.slot 1)) }, 
          { k := .op (.bin .lss (.slot 10) (.con (.int .i64 0))), dst := some 4 }]) (
      .cond (.slot 4) (
       .seq (
        .reg [1043] [
            { k := .op (.asg (.con (.int .i64 (-1)))), dst := some 3 }]) (
        .ret)) (
       .skip))) (
     .seq (
      .reg [12, 13, 14, 15, 1047] [
          { k := .op (.faddr 2 (.slot 2)) }, 
          { k := .op (.load 4 true (.slot 10)) }, 
          { k := .op (.mv (.slot 1)) }, 
          { k := .call 20 [(.slot 11), (.slot 12)] false }, 
          { k := .op (.asg (.slot 13)), dst := some 1 }]) (
      .seq (
       .seq (
        .reg [16, 1044] [
            { k := .op (.mv (.slot 1)) }, 
            { k := .op (.bin .lss (.slot 10) (.con (.int .i64 0))), dst := some 5 }]) (
        .cond (.slot 5) (
         .seq (
          .reg [1043] [
              { k := .op (.asg (.con (.int .i64 (-1)))), dst := some 3 }]) (
          .ret)) (
         .skip))) (
       .seq (
        .reg [18, 19, 20, 21, 1047] [
            { k := .op (.faddr 6 (.slot 2)) }, 
            { k := .op (.load 4 true (.slot 10)) }, 
            { k := .op (.mv (.slot 1)) }, 
            { k := .call 20 [(.slot 11), (.slot 12)] false }, 
            { k := .op (.asg (.slot 13)), dst := some 1 }]) (
        .seq (
         .seq (
          .reg [22, 1044] [
              { k := .op (.mv (.slot 1)) }, 
              { k := .op (.bin .lss (.slot 10) (.con (.int .i64 0))), dst := some 6 }]) (
          .cond (.slot 6) (
           .seq (
            .reg [1043] [
                { k := .op (.asg (.con (.int .i64 (-1)))), dst := some 3 }]) (
            .ret)) (
           .skip))) (
         .seq (
          .reg [24, 25, 26, 27, 1047] [
              { k := .op (.faddr 10 (.slot 2)) }, 
              { k := .op (.load 4 true (.slot 10)) }, 
              { k := .op (.mv (.slot 1)) }, 
              { k := .call 20 [(.slot 11), (.slot 12)] false }, 
              { k := .op (.asg (.slot 13)), dst := some 1 }]) (
          .seq (
           .seq (
            .reg [28, 1044] [
                { k := .op (.mv (.slot 1)) }, 
                { k := .op (.bin .lss (.slot 10) (.con (.int .i64 0))), dst := some 7 }]) (
            .cond (.slot 7) (
             .seq (
              .reg [1043] [
                  { k := .op (.asg (.con (.int .i64 (-1)))), dst := some 3 }]) (
              .ret)) (
             .skip))) (
           .seq (
            .reg [30, 31, 32, 33, 1047] [
                { k := .op (.faddr 14 (.slot 2)) }, 
                { k := .op (.load 4 true (.slot 10)) }, 
                { k := .op (.mv (.slot 1)) }, 
                { k := .call 20 [(.slot 11), (.slot 12)] false }, 
                { k := .op (.asg (.slot 13)), dst := some 1 }]) (
            .seq (
             .seq (
              .reg [34, 1044] [
                  { k := .op (.mv (.slot 1)) }, 
                  { k := .op (.bin .lss (.slot 10) (.con (.int .i64 0))), dst := some 8 }]) (
              .cond (.slot 8) (
               .seq (
                .reg [1043] [
                    { k := .op (.asg (.con (.int .i64 (-1)))), dst := some 3 }]) (
                .ret)) (
               .skip))) (
             .seq (
              .reg [36, 37, 38, 39, 1047] [
                  { k := .op (.faddr 18 (.slot 2)) }, 
                  { k := .op (.load 1 false (.slot 10)) }, 
                  { k := .op (.mv (.slot 1)) }, 
                  { k := .call 37 [(.slot 11), (.slot 12)] false }, 
                  { k := .op (.asg (.slot 13)), dst := some 1 }]) (
              .seq (
               .seq (
                .reg [40, 1044] [
                    { k := .op (.mv (.slot 1)) }, 
                    { k := .op (.bin .lss (.slot 10) (.con (.int .i64 0))), dst := some 9 }]) (
                .cond (.slot 9) (
                 .seq (
                  .reg [1043] [
                      { k := .op (.asg (.con (.int .i64 (-1)))), dst := some 3 }]) (
                  .ret)) (
                 .skip))) (
               .seq (
                .reg [42, 1044] [
                    { k := .op (.mv (.slot 1)) }, 
                    { k := .op (.asg (.slot 10)), dst := some 3 }]) (
                .ret))))))))))))))
theorem ok10 : okFn Go.Proofs.Try.prog Go.Proofs.Try.f10 v10 s10 r10 2 = true := by kernel_rfl

/- 11: loop.example/g00476/spec.Nested. Slots: s:0, s:1, :2 -/
def v11 : List Nat := [0, 1, 2]
def r11 : List SRes := [.tmp 2]
def s11 : SCode :=
  .seq (
   .reg [1020, 1021] [
       { k := .op (.box 37 19 (.slot 0)), dst := some 1 }, 
       { k := .op (.asg (.con (.bool false))), dst := some 2 }]) (
   .seq (
    .reg [3, 4, 5, 6, 7, 8, 9, 10, 11, 12, 13, 14, 15, 16, 17, 18, 19, 1037] [
        { k := .op (.faddr 0 (.slot 1)) }, 
        { k := .op (.load 1 false (.slot 3)) }, 
        { k := .op (.bin .eql (.slot 4) (.con (.int .i64 3))) }, 
        { k := .op (.mv (.slot 5)) }, 
        { k := .op (.faddr 18 (.slot 1)), guard := some (6, true) }, 
        { k := .op (.load 1 false (.slot 7)), guard := some (6, true) }, 
        { k := .op (.len false (.slot 8)), guard := some (6, true) }, 
        { k := .op (.bin .eql (.slot 9) (.con (.int .i64 1))), guard := some (6, true) }, 
        { k := .op (.pick (.slot 6) (.slot 10) (.con (.bool false))) }, 
        { k := .op (.mv (.slot 11)) }, 
        { k := .op (.faddr 18 (.slot 1)), guard := some (12, true) }, 
        { k := .op (.load 1 false (.slot 13)), guard := some (12, true) }, 
        { k := .op (.iaddr 19 (.slot 14) (.con (.int .i64 0))), guard := some (12, true) }, 
        { k := .op (.faddr 0 (.slot 15)), guard := some (12, true) }, 
        { k := .op (.load 1 false (.slot 16)), guard := some (12, true) }, 
        { k := .op (.bin .eql (.slot 17) (.con (.int .i64 3))), guard := some (12, true) }, 
        { k := .op (.pick (.slot 12) (.slot 18) (.con (.bool false))) }, 
        { k := .op (.asg (.slot 19)), dst := some 2 }]) (
    .ret))
theorem ok11 : okFn Go.Proofs.Try.prog Go.Proofs.Try.f11 v11 s11 r11 1 = true := by kernel_rfl

/- 12: loop.example/g00476/laws.toStmt. Slots: a:0, a:1, :2, out:3 -/
def v12 : List Nat := [0, 1, 2, 3]
def r12 : List SRes := [.cell 2 19 true]
def s12 : SCode :=
  .seq (
   .reg [1031, 1032] [
       { k := .op (.box 29 19 (.slot 0)), dst := some 1 }, 
       { k := .op (.mk 37 [(.int .i64 0), (.str []), (.int .i64 0), (.int .i64 0), (.str []), (.osl 0 34 0 []), (.int .i64 0), (.int .i64 0), (.str []), (.osl 0 34 0 []), (.int .i64 0), (.int .i64 0), (.str []), (.osl 0 34 0 []), (.int .i64 0), (.int .i64 0), (.str []), (.osl 0 34 0 []), (.osl 0 37 0 [])]), dst := some 2 }]) (
   .seq (
    .reg [1031] [
        { k := .op (.mk 37 [(.int .i64 0), (.str []), (.int .i64 0), (.int .i64 0), (.str []), (.osl 0 34 0 []), (.int .i64 0), (.int .i64 0), (.str []), (.osl 0 34 0 []), (.int .i64 0), (.int .i64 0), (.str []), (.osl 0 34 0 []), (.int .i64 0), (.int .i64 0), (.str []), (.osl 0 34 0 []), (.osl 0 37 0 [])]), dst := some 3 }]) (
    .seq (
     .reg [4, 5, 6, 1034] [
         { k := .op (.faddr 0 (.slot 1)) }, 
         { k := .op (.load 1 false (.slot 4)) }, 
         { k := .op (.faddr 0 (.slot 3)) }, 
         { k := .op (.store 1 false (.slot 6) (.slot 5)) }]) (
     .seq (
      .reg [7, 8, 9, 1034] [
          { k := .op (.faddr 1 (.slot 1)) }, 
          { k := .op (.load 1 false (.slot 4)) }, 
          { k := .op (.faddr 1 (.slot 3)) }, 
          { k := .op (.store 1 false (.slot 6) (.slot 5)) }]) (
      .seq (
       .reg [10, 11, 12, 13, 1035] [
           { k := .op (.faddr 2 (.slot 1)) }, 
           { k := .op (.load 4 true (.slot 4)) }, 
           { k := .call 22 [(.slot 5)] false }, 
           { k := .op (.faddr 2 (.slot 3)) }, 
           { k := .op (.store 4 true (.slot 7) (.slot 6)) }]) (
       .seq (
        .reg [14, 15, 16, 17, 1035] [
            { k := .op (.faddr 6 (.slot 1)) }, 
            { k := .op (.load 4 true (.slot 4)) }, 
            { k := .call 22 [(.slot 5)] false }, 
            { k := .op (.faddr 6 (.slot 3)) }, 
            { k := .op (.store 4 true (.slot 7) (.slot 6)) }]) (
        .seq (
         .reg [18, 19, 20, 21, 1035] [
             { k := .op (.faddr 10 (.slot 1)) }, 
             { k := .op (.load 4 true (.slot 4)) }, 
             { k := .call 22 [(.slot 5)] false }, 
             { k := .op (.faddr 10 (.slot 3)) }, 
             { k := .op (.store 4 true (.slot 7) (.slot 6)) }]) (
         .seq (
          .reg [22, 23, 24, 25, 1035] [
              { k := .op (.faddr 14 (.slot 1)) }, 
              { k := .op (.load 4 true (.slot 4)) }, 
              { k := .call 22 [(.slot 5)] false }, 
              { k := .op (.faddr 14 (.slot 3)) }, 
              { k := .op (.store 4 true (.slot 7) (.slot 6)) }]) (
          .seq (
           .reg [26, 27, 28, 29, 1035] [
               { k := .op (.faddr 18 (.slot 1)) }, 
               { k := .op (.load 1 false (.slot 4)) }, 
               { k := .call 38 [(.slot 5)] false }, 
               { k := .op (.faddr 18 (.slot 3)) }, 
               { k := .op (.store 1 true (.slot 7) (.slot 6)) }]) (
           .seq (
            .reg [30, 1032] [
                { k := .op (.load 19 true (.slot 3)) }, 
                { k := .op (.store 19 true (.slot 2) (.slot 4)) }]) (
            .ret))))))))))
theorem ok12 : okFn Go.Proofs.Try.prog Go.Proofs.Try.f12 v12 s12 r12 1 = true := by kernel_rfl

/- 13: loop.example/g00476/impl.Nested. Slots: s:0, s:1, :2 -/
def v13 : List Nat := [0, 1, 2]
def r13 : List SRes := [.tmp 2]
def s13 : SCode :=
  .seq (
   .reg [1020, 1021] [
       { k := .op (.box 37 19 (.slot 0)), dst := some 1 }, 
       { k := .op (.asg (.con (.bool false))), dst := some 2 }]) (
   .seq (
    .reg [3, 4, 5, 6, 7, 8, 9, 10, 11, 12, 13, 14, 15, 16, 17, 18, 19, 1037] [
        { k := .op (.faddr 0 (.slot 1)) }, 
        { k := .op (.load 1 false (.slot 3)) }, 
        { k := .op (.bin .eql (.slot 4) (.con (.int .i64 3))) }, 
        { k := .op (.mv (.slot 5)) }, 
        { k := .op (.faddr 18 (.slot 1)), guard := some (6, true) }, 
        { k := .op (.load 1 false (.slot 7)), guard := some (6, true) }, 
        { k := .op (.len false (.slot 8)), guard := some (6, true) }, 
        { k := .op (.bin .eql (.slot 9) (.con (.int .i64 1))), guard := some (6, true) }, 
        { k := .op (.pick (.slot 6) (.slot 10) (.con (.bool false))) }, 
        { k := .op (.mv (.slot 11)) }, 
        { k := .op (.faddr 18 (.slot 1)), guard := some (12, true) }, 
        { k := .op (.load 1 false (.slot 13)), guard := some (12, true) }, 
        { k := .op (.iaddr 19 (.slot 14) (.con (.int .i64 0))), guard := some (12, true) }, 
        { k := .op (.faddr 0 (.slot 15)), guard := some (12, true) }, 
        { k := .op (.load 1 false (.slot 16)), guard := some (12, true) }, 
        { k := .op (.bin .eql (.slot 17) (.con (.int .i64 3))), guard := some (12, true) }, 
        { k := .op (.pick (.slot 12) (.slot 18) (.con (.bool false))) }, 
        { k := .op (.asg (.slot 19)), dst := some 2 }]) (
    .ret))
theorem ok13 : okFn Go.Proofs.Try.prog Go.Proofs.Try.f13 v13 s13 r13 1 = true := by kernel_rfl

/- 14: loop.example/g00476/laws.eqStmt. Slots: a:0, b:1, a:2, b:3, :4, :9, :14, :20, :26, :32, :38, :44 -/
def v14 : List Nat := [0, 1, 2, 3, 4, 9, 14, 20, 26, 32, 38, 44]
def r14 : List SRes := [.tmp 4]
def s14 : SCode :=
  .seq (
   .reg [1045, 1046, 1047] [
       { k := .op (.box 37 19 (.slot 0)), dst := some 2 }, 
       { k := .op (.box 37 19 (.slot 1)), dst := some 3 }, 
       { k := .op (.asg (.con (.bool false))), dst := some 4 }]) (
   .seq (
    .seq (
     .reg [5, 6, 7, 8, 1049] [
         { k := .op (.faddr 0 (.slot 2)) }, 
         { k := .op (.load 1 false (.slot 12)) }, 
         { k := .op (.faddr 0 (.slot 3)) }, 
         { k := .op (.load 1 false (.slot 14)) }, 
         { k := .op (.bin .neq (.slot 13) (.slot 15)), dst := some 5 }]) (
     .cond (.slot 5) (
      .seq (
       .reg [1045] [
           { k := .op (.asg (.con (.bool false))), dst := some 4 }]) (
       .ret)) (
      .skip))) (
    .seq (
     .seq (
      .reg [10, 11, 12, 13, 1049] [
          { k := .op (.faddr 1 (.slot 2)) }, 
          { k := .op (.load 1 false (.slot 12)) }, 
          { k := .op (.faddr 1 (.slot 3)) }, 
          { k := .op (.load 1 false (.slot 14)) }, 
          { k := .op (.bin .neq (.slot 13) (.slot 15)), dst := some 6 }]) (
      .cond (.slot 6) (
       .seq (
        .reg [1045] [
            { k := .op (.asg (.con (.bool false))), dst := some 4 }]) (
        .ret)) (
       .skip))) (
     .seq (
      .seq (
       .reg [15, 16, 17, 18, 19, 1050] [
           { k := .op (.faddr 2 (.slot 2)) }, 
           { k := .op (.load 4 true (.slot 12)) }, 
           { k := .op (.faddr 2 (.slot 3)) }, 
           { k := .op (.load 4 true (.slot 14)) }, 
           { k := .call 24 [(.slot 13), (.slot 15)] false }, 
           { k := .op (.not (.slot 16)), dst := some 7 }]) (
       .cond (.slot 7) (
        .seq (
         .reg [1045] [
             { k := .op (.asg (.con (.bool false))), dst := some 4 }]) (
         .ret)) (
        .skip))) (
      .seq (
       .seq (
        .reg [21, 22, 23, 24, 25, 1050] [
            { k := .op (.faddr 6 (.slot 2)) }, 
            { k := .op (.load 4 true (.slot 12)) }, 
            { k := .op (.faddr 6 (.slot 3)) }, 
            { k := .op (.load 4 true (.slot 14)) }, 
            { k := .call 24 [(.slot 13), (.slot 15)] false }, 
            { k := .op (.not (.slot 16)), dst := some 8 }]) (
        .cond (.slot 8) (
         .seq (
          .reg [1045] [
              { k := .op (.asg (.con (.bool false))), dst := some 4 }]) (
          .ret)) (
         .skip))) (
       .seq (
        .seq (
         .reg [27, 28, 29, 30, 31, 1050] [
             { k := .op (.faddr 10 (.slot 2)) }, 
             { k := .op (.load 4 true (.slot 12)) }, 
             { k := .op (.faddr 10 (.slot 3)) }, 
             { k := .op (.load 4 true (.slot 14)) }, 
             { k := .call 24 [(.slot 13), (.slot 15)] false }, 
             { k := .op (.not (.slot 16)), dst := some 9 }]) (
         .cond (.slot 9) (
          .seq (
           .reg [1045] [
               { k := .op (.asg (.con (.bool false))), dst := some 4 }]) (
           .ret)) (
          .skip))) (
        .seq (
         .seq (
          .reg [33, 34, 35, 36, 37, 1050] [
              { k := .op (.faddr 14 (.slot 2)) }, 
              { k := .op (.load 4 true (.slot 12)) }, 
              { k := .op (.faddr 14 (.slot 3)) }, 
              { k := .op (.load 4 true (.slot 14)) }, 
              { k := .call 24 [(.slot 13), (.slot 15)] false }, 
              { k := .op (.not (.slot 16)), dst := some 10 }]) (
          .cond (.slot 10) (
           .seq (
            .reg [1045] [
                { k := .op (.asg (.con (.bool false))), dst := some 4 }]) (
            .ret)) (
           .skip))) (
         .seq (
          .seq (
           .reg [39, 40, 41, 42, 43, 1050] [
               { k := .op (.faddr 18 (.slot 2)) }, 
               { k := .op (.load 1 false (.slot 12)) }, 
               { k := .op (.faddr 18 (.slot 3)) }, 
               { k := .op (.load 1 false (.slot 14)) }, 
               { k := .call 39 [(.slot 13), (.slot 15)] false }, 
               { k := .op (.not (.slot 16)), dst := some 11 }]) (
           .cond (.slot 11) (
            .seq (
             .reg [1045] [
                 { k := .op (.asg (.con (.bool false))), dst := some 4 }]) (
             .ret)) (
            .skip))) (
          .seq (
           .reg [1045] [
               { k := .op (.asg (.con (.bool true))), dst := some 4 }]) (
           .ret)))))))))
theorem ok14 : okFn Go.Proofs.Try.prog Go.Proofs.Try.f14 v14 s14 r14 2 = true := by kernel_rfl

/- 15: loop.example/g00476/laws.szMach. Slots: a:0, left:1, a:2, :4, :10, :16, :22 -/
def v15 : List Nat := [0, 1, 2, 4, 10, 16, 22]
def r15 : List SRes := [.tmp 3]
def s15 : SCode :=
  .seq (
   .reg [1024, 1025] [
       { k := .op (.box 44 4 (.slot 0)), dst := some 2 }, 
       { k := .op (.asg (.con (.int .i64 0))), dst := some 3 }]) (
   .seq (
    .reg [5, 6, 7, 8, 1028] [
        { k := .op (.faddr 0 (.slot 2)) }, 
        { k := .op (.load 1 false (.slot 7)) }, 
        { k := .op (.mv (.slot 1)) }, 
        { k := .call 40 [(.slot 8), (.slot 9)] false }, 
        { k := .op (.asg (.slot 10)), dst := some 1 }]) (
    .seq (
     .seq (
      .reg [9, 1025] [
          { k := .op (.mv (.slot 1)) }, 
          { k := .op (.bin .lss (.slot 7) (.con (.int .i64 0))), dst := some 4 }]) (
      .cond (.slot 4) (
       .seq (
        .reg [1024] [
            { k := .op (.asg (.con (.int .i64 (-1)))), dst := some 3 }]) (
        .ret)) (
       .skip))) (
     .seq (
      .reg [11, 12, 13, 14, 1028] [
          { k := .op (.faddr 1 (.slot 2)) }, 
          { k := .op (.load 1 false (.slot 7)) }, 
          { k := .op (.mv (.slot 1)) }, 
          { k := .call 41 [(.slot 8), (.slot 9)] false }, 
          { k := .op (.asg (.slot 10)), dst := some 1 }]) (
      .seq (
       .seq (
        .reg [15, 1025] [
            { k := .op (.mv (.slot 1)) }, 
            { k := .op (.bin .lss (.slot 7) (.con (.int .i64 0))), dst := some 5 }]) (
        .cond (.slot 5) (
         .seq (
          .reg [1024] [
              { k := .op (.asg (.con (.int .i64 (-1)))), dst := some 3 }]) (
          .ret)) (
         .skip))) (
       .seq (
        .reg [17, 18, 19, 20, 1028] [
            { k := .op (.faddr 2 (.slot 2)) }, 
            { k := .op (.load 1 false (.slot 7)) }, 
            { k := .op (.mv (.slot 1)) }, 
            { k := .call 40 [(.slot 8), (.slot 9)] false }, 
            { k := .op (.asg (.slot 10)), dst := some 1 }]) (
        .seq (
         .seq (
          .reg [21, 1025] [
              { k := .op (.mv (.slot 1)) }, 
              { k := .op (.bin .lss (.slot 7) (.con (.int .i64 0))), dst := some 6 }]) (
          .cond (.slot 6) (
           .seq (
            .reg [1024] [
                { k := .op (.asg (.con (.int .i64 (-1)))), dst := some 3 }]) (
            .ret)) (
           .skip))) (
         .seq (
          .reg [23, 1025] [
              { k := .op (.mv (.slot 1)) }, 
              { k := .op (.asg (.slot 7)), dst := some 3 }]) (
          .ret))))))))
theorem ok15 : okFn Go.Proofs.Try.prog Go.Proofs.Try.f15 v15 s15 r15 2 = true := by kernel_rfl

/- 16: loop.example/g00476/spec.AllDone. Slots: m:0, m:1, :2, i:3, :8, :22 -/
def v16 : List Nat := [0, 1, 2, 3, 8, 22]
def r16 : List SRes := [.tmp 2]
def b16_0 : SCode :=
   .seq (
    .seq (
     .reg [4, 5, 6, 7, 1031] [
         { k := .op (.mv (.slot 3)) }, 
         { k := .op (.faddr 1 (.slot 1)) }, 
         { k := .op (.load 1 false (.slot 7)) }, 
         { k := .op (.len false (.slot 8)) }, 
         { k := .op (.bin .lss (.slot 6) (.slot 9)), dst := some 4 }]) (
     .cond (.slot 4) (
      .skip) (
      .exit 0))) (
    .seq (
     .block 1 (
      .seq (
       .reg [11, 12, 13, 14, 15, 16, 17, 18, 19, 20, 21, 1038] [
           { k := .op (.faddr 1 (.slot 1)) }, 
           { k := .op (.load 1 false (.slot 6)) }, 
           { k := .op (.mv (.slot 3)) }, 
           { k := .op (.iaddr 6 (.slot 7) (.slot 8)) }, 
           { k := .op (.faddr 5 (.slot 9)) }, 
           { k := .op (.load 1 false (.slot 10)) }, 
           { k := .op (.not (.slot 11)) }, 
           { k := .op (.mv (.slot 12)) }, 
           { k := .op (.faddr 3 (.slot 1)), guard := some (13, true) }, 
           { k := .op (.load 1 false (.slot 14)), guard := some (13, true) }, 
           { k := .op (.not (.slot 15)), guard := some (13, true) }, 
           { k := .op (.pick (.slot 13) (.slot 16) (.con (.bool false))), dst := some 5 }]) (
       .cond (.slot 5) (
        .seq (
         .reg [1027] [
             { k := .op (.asg (.con (.bool false))), dst := some 2 }]) (
         .ret)) (
        .skip)))) (
     .reg [9, 10, 1029] [
         { k := .op (.mv (.slot 3)) }, 
         { k := .op (.bin .add (.slot 6) (.con (.int .i64 1))) }, 
         { k := .op (.asg (.slot 7)), dst := some 3 }]))
def l16_0 : SCode := .loop b16_0
def s16 : SCode :=
  .seq (
   .reg [1027, 1028] [
       { k := .op (.box 49 4 (.slot 0)), dst := some 1 }, 
       { k := .op (.asg (.con (.bool false))), dst := some 2 }]) (
   .seq (
    .seq (
     .reg [1027] [
         { k := .op (.asg (.con (.int .i64 0))), dst := some 3 }]) (
     .block 0 (
      l16_0))) (
    .seq (
     .reg [23, 24, 25, 26, 1031] [
         { k := .op (.faddr 1 (.slot 1)) }, 
         { k := .op (.load 1 false (.slot 6)) }, 
         { k := .op (.len false (.slot 7)) }, 
         { k := .op (.bin .gtr (.slot 8) (.con (.int .i64 0))) }, 
         { k := .op (.asg (.slot 9)), dst := some 2 }]) (
     .ret)))
theorem ok16 : okFn Go.Proofs.Try.prog Go.Proofs.Try.f16 v16 s16 r16 1 = true := by kernel_rfl

/- 17: loop.example/g00476/laws.toMach. Slots: a:0, a:1, :2, out:3 -/
def v17 : List Nat := [0, 1, 2, 3]
def r17 : List SRes := [.cell 2 4 true]
def s17 : SCode :=
  .seq (
   .reg [1020, 1021] [
       { k := .op (.box 44 4 (.slot 0)), dst := some 1 }, 
       { k := .op (.mk 49 [(.osl 0 3 0 []), (.osl 0 87 0 []), (.osl 0 3 0 []), (.bool false)]), dst := some 2 }]) (
   .seq (
    .reg [1020] [
        { k := .op (.mk 49 [(.osl 0 3 0 []), (.osl 0 87 0 []), (.osl 0 3 0 []), (.bool false)]), dst := some 3 }]) (
    .seq (
     .reg [4, 5, 6, 7, 1024] [
         { k := .op (.faddr 0 (.slot 1)) }, 
         { k := .op (.load 1 false (.slot 4)) }, 
         { k := .call 42 [(.slot 5)] false }, 
         { k := .op (.faddr 0 (.slot 3)) }, 
         { k := .op (.store 1 true (.slot 7) (.slot 6)) }]) (
     .seq (
      .reg [8, 9, 10, 11, 1024] [
          { k := .op (.faddr 1 (.slot 1)) }, 
          { k := .op (.load 1 false (.slot 4)) }, 
          { k := .call 43 [(.slot 5)] false }, 
          { k := .op (.faddr 1 (.slot 3)) }, 
          { k := .op (.store 1 true (.slot 7) (.slot 6)) }]) (
      .seq (
       .reg [12, 13, 14, 15, 1024] [
           { k := .op (.faddr 2 (.slot 1)) }, 
           { k := .op (.load 1 false (.slot 4)) }, 
           { k := .call 42 [(.slot 5)] false }, 
           { k := .op (.faddr 2 (.slot 3)) }, 
           { k := .op (.store 1 true (.slot 7) (.slot 6)) }]) (
       .seq (
        .reg [16, 17, 18, 1023] [
            { k := .op (.faddr 3 (.slot 1)) }, 
            { k := .op (.load 1 false (.slot 4)) }, 
            { k := .op (.faddr 3 (.slot 3)) }, 
            { k := .op (.store 1 false (.slot 6) (.slot 5)) }]) (
        .seq (
         .reg [19, 1021] [
             { k := .op (.load 4 true (.slot 3)) }, 
             { k := .op (.store 4 true (.slot 2) (.slot 4)) }]) (
         .ret)))))))
theorem ok17 : okFn Go.Proofs.Try.prog Go.Proofs.Try.f17 v17 s17 r17 1 = true := by kernel_rfl

/- 18: loop.example/g00476/impl.AllDone. Slots: m:0, m:1, :2, :8, :10, :11, :12, :13, h:4, :23 -/
def v18 : List Nat := [0, 1, 2, 8, 10, 11, 12, 13, 4, 23]
def r18 : List SRes := [.tmp 2]
def b18_0 : SCode :=
   .seq (
    .reg [1025] [
        { k := .op (.bin .lss (.slot 6) (.slot 5)), dst := some 7 }]) (
    .seq (
     .cond (.slot 7) (
      .skip) (
      .exit 0)) (
     .seq (
      .block 1 (
       .seq (
        .reg [14, 15, 1027, 1028] [
            { k := .op (.iaddr 6 (.slot 4) (.slot 6)) }, 
            { k := .op (.load 6 true (.slot 10)) }, 
            { k := .op (.mk 87 [(.int .i64 0), (.osl 0 3 0 []), (.osl 0 3 0 []), (.osl 0 124 0 []), (.bool false), (.bool false)]), dst := some 8 }, 
            { k := .op (.store 6 true (.slot 8) (.slot 11)) }]) (
        .seq (
         .reg [16, 17, 18, 19, 20, 21, 22, 1032] [
             { k := .op (.faddr 5 (.slot 8)) }, 
             { k := .op (.load 1 false (.slot 10)) }, 
             { k := .op (.not (.slot 11)) }, 
             { k := .op (.mv (.slot 12)) }, 
             { k := .op (.faddr 3 (.slot 1)), guard := some (13, true) }, 
             { k := .op (.load 1 false (.slot 14)), guard := some (13, true) }, 
             { k := .op (.not (.slot 15)), guard := some (13, true) }, 
             { k := .op (.pick (.slot 13) (.slot 16) (.con (.bool false))), dst := some 9 }]) (
         .cond (.slot 9) (
          .seq (
           .reg [1025] [
               { k := .op (.asg (.con (.bool false))), dst := some 2 }]) (
           .ret)) (
          .skip))))) (
      .reg [24, 1026] [
          { k := .op (.bin .add (.slot 6) (.con (.int .i64 1))) }, 
          { k := .op (.asg (.slot 10)), dst := some 6 }])))
def l18_0 : SCode := .loop b18_0
def s18 : SCode :=
  .seq (
   .reg [1025, 1026] [
       { k := .op (.box 49 4 (.slot 0)), dst := some 1 }, 
       { k := .op (.asg (.con (.bool false))), dst := some 2 }]) (
   .seq (
    .seq (
     .reg [5, 6, 7, 1028] [
         { k := .op (.faddr 1 (.slot 1)) }, 
         { k := .op (.load 1 false (.slot 10)) }, 
         { k := .op (.len false (.slot 11)) }, 
         { k := .op (.bin .eql (.slot 12) (.con (.int .i64 0))), dst := some 3 }]) (
     .cond (.slot 3) (
      .seq (
       .reg [1025] [
           { k := .op (.asg (.con (.bool false))), dst := some 2 }]) (
       .ret)) (
      .skip))) (
    .seq (
     .seq (
      .reg [9, 1026, 1027, 1028] [
          { k := .op (.faddr 1 (.slot 1)) }, 
          { k := .op (.load 1 false (.slot 10)), dst := some 4 }, 
          { k := .op (.len false (.slot 4)), dst := some 5 }, 
          { k := .op (.asg (.con (.int .i64 0))), dst := some 6 }]) (
      .block 0 (
       l18_0))) (
     .seq (
      .reg [1025] [
          { k := .op (.asg (.con (.bool true))), dst := some 2 }]) (
      .ret))))
theorem ok18 : okFn Go.Proofs.Try.prog Go.Proofs.Try.f18 v18 s18 r18 1 = true := by kernel_rfl

/- 19: loop.example/g00476/laws.eqMach. Slots: a:0, b:1, a:2, b:3, :4, :10, :16, :22, :27 -/
def v19 : List Nat := [0, 1, 2, 3, 4, 10, 16, 22, 27]
def r19 : List SRes := [.tmp 4]
def s19 : SCode :=
  .seq (
   .reg [1028, 1029, 1030] [
       { k := .op (.box 49 4 (.slot 0)), dst := some 2 }, 
       { k := .op (.box 49 4 (.slot 1)), dst := some 3 }, 
       { k := .op (.asg (.con (.bool false))), dst := some 4 }]) (
   .seq (
    .seq (
     .reg [5, 6, 7, 8, 9, 1033] [
         { k := .op (.faddr 0 (.slot 2)) }, 
         { k := .op (.load 1 false (.slot 9)) }, 
         { k := .op (.faddr 0 (.slot 3)) }, 
         { k := .op (.load 1 false (.slot 11)) }, 
         { k := .call 44 [(.slot 10), (.slot 12)] false }, 
         { k := .op (.not (.slot 13)), dst := some 5 }]) (
     .cond (.slot 5) (
      .seq (
       .reg [1028] [
           { k := .op (.asg (.con (.bool false))), dst := some 4 }]) (
       .ret)) (
      .skip))) (
    .seq (
     .seq (
      .reg [11, 12, 13, 14, 15, 1033] [
          { k := .op (.faddr 1 (.slot 2)) }, 
          { k := .op (.load 1 false (.slot 9)) }, 
          { k := .op (.faddr 1 (.slot 3)) }, 
          { k := .op (.load 1 false (.slot 11)) }, 
          { k := .call 45 [(.slot 10), (.slot 12)] false }, 
          { k := .op (.not (.slot 13)), dst := some 6 }]) (
      .cond (.slot 6) (
       .seq (
        .reg [1028] [
            { k := .op (.asg (.con (.bool false))), dst := some 4 }]) (
        .ret)) (
       .skip))) (
     .seq (
      .seq (
       .reg [17, 18, 19, 20, 21, 1033] [
           { k := .op (.faddr 2 (.slot 2)) }, 
           { k := .op (.load 1 false (.slot 9)) }, 
           { k := .op (.faddr 2 (.slot 3)) }, 
           { k := .op (.load 1 false (.slot 11)) }, 
           { k := .call 44 [(.slot 10), (.slot 12)] false }, 
           { k := .op (.not (.slot 13)), dst := some 7 }]) (
       .cond (.slot 7) (
        .seq (
         .reg [1028] [
             { k := .op (.asg (.con (.bool false))), dst := some 4 }]) (
         .ret)) (
        .skip))) (
      .seq (
       .seq (
        .reg [23, 24, 25, 26, 1032] [
            { k := .op (.faddr 3 (.slot 2)) }, 
            { k := .op (.load 1 false (.slot 9)) }, 
            { k := .op (.faddr 3 (.slot 3)) }, 
            { k := .op (.load 1 false (.slot 11)) }, 
            { k := .op (.beq true (.slot 10) (.slot 12)), dst := some 8 }]) (
        .cond (.slot 8) (
         .seq (
          .reg [1028] [
              { k := .op (.asg (.con (.bool false))), dst := some 4 }]) (
          .ret)) (
         .skip))) (
       .seq (
        .reg [1028] [
            { k := .op (.asg (.con (.bool true))), dst := some 4 }]) (
        .ret))))))
theorem ok19 : okFn Go.Proofs.Try.prog Go.Proofs.Try.f19 v19 s19 r19 2 = true := by kernel_rfl

/- 20: loop.example/g00476/laws.szExp. Slots: a:0, left:1, a:2, :4, :11, :17 -/
def v20 : List Nat := [0, 1, 2, 4, 11, 17]
def r20 : List SRes := [.tmp 3]
def s20 : SCode :=
  .seq (
   .reg [1019, 1020] [
       { k := .op (.box 26 4 (.slot 0)), dst := some 2 }, 
       { k := .op (.asg (.con (.int .i64 0))), dst := some 3 }]) (
   .seq (
    .reg [5, 6, 7, 8, 9, 1024] [
        { k := .op (.mv (.slot 1)) }, 
        { k := .op (.faddr 2 (.slot 2)) }, 
        { k := .op (.load 1 false (.slot 7)) }, 
        { k := .op (.len true (.slot 8)) }, 
        { k := .op (.bin .sub (.slot 6) (.slot 9)) }, 
        { k := .op (.asg (.slot 10)), dst := some 1 }]) (
    .seq (
     .seq (
      .reg [10, 1020] [
          { k := .op (.mv (.slot 1)) }, 
          { k := .op (.bin .lss (.slot 6) (.con (.int .i64 0))), dst := some 4 }]) (
      .cond (.slot 4) (
       .seq (
        .reg [1019] [
            { k := .op (.asg (.con (.int .i64 (-1)))), dst := some 3 }]) (
        .ret)) (
       .skip))) (
     .seq (
      .reg [12, 13, 14, 15, 1023] [
          { k := .op (.faddr 3 (.slot 2)) }, 
          { k := .op (.load 1 false (.slot 6)) }, 
          { k := .op (.mv (.slot 1)) }, 
          { k := .call 46 [(.slot 7), (.slot 8)] false }, 
          { k := .op (.asg (.slot 9)), dst := some 1 }]) (
      .seq (
       .seq (
        .reg [16, 1020] [
            { k := .op (.mv (.slot 1)) }, 
            { k := .op (.bin .lss (.slot 6) (.con (.int .i64 0))), dst := some 5 }]) (
        .cond (.slot 5) (
         .seq (
          .reg [1019] [
              { k := .op (.asg (.con (.int .i64 (-1)))), dst := some 3 }]) (
          .ret)) (
         .skip))) (
       .seq (
        .reg [18, 1020] [
            { k := .op (.mv (.slot 1)) }, 
            { k := .op (.asg (.slot 6)), dst := some 3 }]) (
        .ret))))))
theorem ok20 : okFn Go.Proofs.Try.prog Go.Proofs.Try.f20 v20 s20 r20 2 = true := by kernel_rfl

/- 21: loop.example/g00476/spec.FoldExp. Slots: e:0, e:1, :2, out:3, i:4, :18, x:5, :57, n:6, :72 -/
def v21 : List Nat := [0, 1, 2, 3, 4, 18, 5, 57, 6, 72]
def r21 : List SRes := [.cell 2 4 true]
def b21_0 : SCode :=
   .seq (
    .seq (
     .reg [14, 15, 16, 17, 1080] [
         { k := .op (.mv (.slot 4)) }, 
         { k := .op (.faddr 3 (.slot 1)) }, 
         { k := .op (.load 1 false (.slot 11)) }, 
         { k := .op (.len false (.slot 12)) }, 
         { k := .op (.bin .lss (.slot 10) (.slot 13)), dst := some 5 }]) (
     .cond (.slot 5) (
      .skip) (
      .exit 0))) (
    .seq (
     .block 1 (
      .seq (
       .reg [21, 22, 23, 24, 25, 26, 1082, 1083] [
           { k := .op (.faddr 3 (.slot 1)) }, 
           { k := .op (.load 1 false (.slot 10)) }, 
           { k := .op (.mv (.slot 4)) }, 
           { k := .op (.iaddr 4 (.slot 11) (.slot 12)) }, 
           { k := .op (.load 4 true (.slot 13)) }, 
           { k := .call 21 [(.slot 14)] false }, 
           { k := .op (.mk 34 [(.int .i64 0), (.int .i64 0), (.str []), (.osl 0 34 0 [])]), dst := some 6 }, 
           { k := .op (.store 4 true (.slot 6) (.slot 15)) }]) (
       .reg [27, 28, 29, 30, 31, 32, 1082] [
           { k := .op (.faddr 3 (.slot 3)) }, 
           { k := .op (.load 1 false (.slot 10)) }, 
           { k := .op (.load 4 true (.slot 6)) }, 
           { k := .op (.bsl 34 1 [(.int .i64 0), (.int .i64 0), (.str []), (.osl 0 34 0 [])] [(0, 4, (.slot 12))]) }, 
           { k := .op (.append 34 4 (.slot 11) (.slot 13)) }, 
           { k := .op (.faddr 3 (.slot 3)) }, 
           { k := .op (.store 1 true (.slot 15) (.slot 14)) }]))) (
     .reg [19, 20, 1078] [
         { k := .op (.mv (.slot 4)) }, 
         { k := .op (.bin .add (.slot 10) (.con (.int .i64 1))) }, 
         { k := .op (.asg (.slot 11)), dst := some 4 }]))
def l21_0 : SCode := .loop b21_0
def s21 : SCode :=
  .seq (
   .reg [1076, 1077] [
       { k := .op (.box 34 4 (.slot 0)), dst := some 1 }, 
       { k := .op (.mk 34 [(.int .i64 0), (.int .i64 0), (.str []), (.osl 0 34 0 [])]), dst := some 2 }]) (
   .seq (
    .reg [7, 8, 9, 10, 11, 12, 13, 1083, 1084] [
        { k := .op (.faddr 0 (.slot 1)) }, 
        { k := .op (.load 1 false (.slot 10)) }, 
        { k := .op (.faddr 1 (.slot 1)) }, 
        { k := .op (.load 1 false (.slot 12)) }, 
        { k := .op (.faddr 2 (.slot 1)) }, 
        { k := .op (.load 1 false (.slot 14)) }, 
        { k := .op (.build [(.int .i64 0), (.int .i64 0), (.str []), (.osl 0 34 0 [])] [(0, 1, (.slot 11)), (1, 1, (.slot 13)), (2, 1, (.slot 15))]) }, 
        { k := .op (.mk 34 [(.int .i64 0), (.int .i64 0), (.str []), (.osl 0 34 0 [])]), dst := some 3 }, 
        { k := .op (.store 4 true (.slot 3) (.slot 16)) }]) (
    .seq (
     .seq (
      .reg [1076] [
          { k := .op (.asg (.con (.int .i64 0))), dst := some 4 }]) (
      .block 0 (
       l21_0))) (
     .seq (
      .seq (
       .reg [33, 34, 35, 36, 37, 38, 39, 40, 41, 42, 43, 44, 45, 46, 47, 48, 49, 50, 51, 52, 53, 54, 55, 56, 1100] [
           { k := .op (.faddr 3 (.slot 3)) }, 
           { k := .op (.load 1 false (.slot 10)) }, 
           { k := .op (.len false (.slot 11)) }, 
           { k := .op (.bin .eql (.slot 12) (.con (.int .i64 2))) }, 
           { k := .op (.mv (.slot 13)) }, 
           { k := .op (.faddr 0 (.slot 1)), guard := some (14, true) }, 
           { k := .op (.load 1 false (.slot 15)), guard := some (14, true) }, 
           { k := .call 35 [(.slot 16), (.con (.int .i64 4)), (.con (.int .i64 8))] false, guard := some (14, true) }, 
           { k := .op (.pick (.slot 14) (.slot 17) (.con (.bool false))) }, 
           { k := .op (.mv (.slot 18)) }, 
           { k := .op (.faddr 3 (.slot 3)), guard := some (19, true) }, 
           { k := .op (.load 1 false (.slot 20)), guard := some (19, true) }, 
           { k := .op (.iaddr 4 (.slot 21) (.con (.int .i64 0))), guard := some (19, true) }, 
           { k := .op (.faddr 0 (.slot 22)), guard := some (19, true) }, 
           { k := .op (.load 1 false (.slot 23)), guard := some (19, true) }, 
           { k := .op (.bin .eql (.slot 24) (.con (.int .i64 1))), guard := some (19, true) }, 
           { k := .op (.pick (.slot 19) (.slot 25) (.con (.bool false))) }, 
           { k := .op (.mv (.slot 26)) }, 
           { k := .op (.faddr 3 (.slot 3)), guard := some (27, true) }, 
           { k := .op (.load 1 false (.slot 28)), guard := some (27, true) }, 
           { k := .op (.iaddr 4 (.slot 29) (.con (.int .i64 1))), guard := some (27, true) }, 
           { k := .op (.faddr 0 (.slot 30)), guard := some (27, true) }, 
           { k := .op (.load 1 false (.slot 31)), guard := some (27, true) }, 
           { k := .op (.bin .eql (.slot 32) (.con (.int .i64 1))), guard := some (27, true) }, 
           { k := .op (.pick (.slot 27) (.slot 33) (.con (.bool false))), dst := some 7 }]) (
       .cond (.slot 7) (
        .seq (
         .dreg [58, 59, 60, 61, 62, 63, 64, 65, 66, 67, 68, 69, 70, 1089] [
             { k := .op (.faddr 0 (.slot 1)) }, 
             { k := .op (.load 1 false (.slot 10)) }, 
             { k := .op (.faddr 3 (.slot 3)) }, 
             { k := .op (.load 1 false (.slot 12)) }, 
             { k := .op (.iaddr 4 (.slot 13) (.con (.int .i64 0))) }, 
             { k := .op (.faddr 1 (.slot 14)) }, 
             { k := .op (.load 1 false (.slot 15)) }, 
             { k := .op (.faddr 3 (.slot 3)) }, 
             { k := .op (.load 1 false (.slot 17)) }, 
             { k := .op (.iaddr 4 (.slot 18) (.con (.int .i64 1))) }, 
             { k := .op (.faddr 1 (.slot 19)) }, 
             { k := .op (.load 1 false (.slot 20)) }, 
             { k := .call 47 [(.slot 11), (.slot 16), (.slot 21)] false }, 
             { k := .op (.asg (.slot 22)), dst := some 8 }]
           [[], [0], [], [2], [2, 3], [2, 3, 4], [2, 3, 4, 5], [], [7], [7, 8], [7, 8, 9], [7, 8, 9, 10], [0, 1, 2, 3, 4, 5, 6, 7, 8, 9, 10, 11], [0, 1, 2, 3, 4, 5, 6, 7, 8, 9, 10, 11, 12]] 13) (
         .seq (
          .reg [71, 1077] [
              { k := .op (.mv (.slot 8)) }, 
              { k := .call 35 [(.slot 10), (.con (.int .i64 0)), (.con (.int .i64 999999))] false, dst := some 9 }]) (
          .cond (.slot 9) (
           .seq (
            .reg [73, 74, 1078] [
                { k := .op (.mv (.slot 8)) }, 
                { k := .call 48 [(.slot 10)] false }, 
                { k := .op (.store 4 true (.slot 2) (.slot 11)) }]) (
            .ret)) (
           .skip)))) (
        .skip))) (
      .seq (
       .reg [75, 1077] [
           { k := .op (.load 4 true (.slot 3)) }, 
           { k := .op (.store 4 true (.slot 2) (.slot 10)) }]) (
       .ret)))))
theorem ok21 : okFn Go.Proofs.Try.prog Go.Proofs.Try.f21 v21 s21 r21 1 = true := by kernel_rfl

/- 22: loop.example/g00476/laws.toExp. Slots: a:0, a:1, :2, out:3 -/
def v22 : List Nat := [0, 1, 2, 3]
def r22 : List SRes := [.cell 2 4 true]
def s22 : SCode :=
  .seq (
   .reg [1018, 1019] [
       { k := .op (.box 26 4 (.slot 0)), dst := some 1 }, 
       { k := .op (.mk 34 [(.int .i64 0), (.int .i64 0), (.str []), (.osl 0 34 0 [])]), dst := some 2 }]) (
   .seq (
    .reg [1018] [
        { k := .op (.mk 34 [(.int .i64 0), (.int .i64 0), (.str []), (.osl 0 34 0 [])]), dst := some 3 }]) (
    .seq (
     .reg [4, 5, 6, 1021] [
         { k := .op (.faddr 0 (.slot 1)) }, 
         { k := .op (.load 1 false (.slot 4)) }, 
         { k := .op (.faddr 0 (.slot 3)) }, 
         { k := .op (.store 1 false (.slot 6) (.slot 5)) }]) (
     .seq (
      .reg [7, 8, 9, 1021] [
          { k := .op (.faddr 1 (.slot 1)) }, 
          { k := .op (.load 1 false (.slot 4)) }, 
          { k := .op (.faddr 1 (.slot 3)) }, 
          { k := .op (.store 1 false (.slot 6) (.slot 5)) }]) (
      .seq (
       .reg [10, 11, 12, 1021] [
           { k := .op (.faddr 2 (.slot 1)) }, 
           { k := .op (.load 1 false (.slot 4)) }, 
           { k := .op (.faddr 2 (.slot 3)) }, 
           { k := .op (.store 1 false (.slot 6) (.slot 5)) }]) (
       .seq (
        .reg [13, 14, 15, 16, 1022] [
            { k := .op (.faddr 3 (.slot 1)) }, 
            { k := .op (.load 1 false (.slot 4)) }, 
            { k := .call 49 [(.slot 5)] false }, 
            { k := .op (.faddr 3 (.slot 3)) }, 
            { k := .op (.store 1 true (.slot 7) (.slot 6)) }]) (
        .seq (
         .reg [17, 1019] [
             { k := .op (.load 4 true (.slot 3)) }, 
             { k := .op (.store 4 true (.slot 2) (.slot 4)) }]) (
         .ret)))))))
theorem ok22 : okFn Go.Proofs.Try.prog Go.Proofs.Try.f22 v22 s22 r22 1 = true := by kernel_rfl

-- 23: loop.example/g00476/impl.FoldExp: NOT COVERED: drawn tail: op 4 does not wait for all (op 4 is not pure) at l22_fold.go:6

/- 24: loop.example/g00476/laws.eqExp. Slots: a:0, b:1, a:2, b:3, :4, :9, :14, :19, :25 -/
def v24 : List Nat := [0, 1, 2, 3, 4, 9, 14, 19, 25]
def r24 : List SRes := [.tmp 4]
def s24 : SCode :=
  .seq (
   .reg [1026, 1027, 1028] [
       { k := .op (.box 34 4 (.slot 0)), dst := some 2 }, 
       { k := .op (.box 34 4 (.slot 1)), dst := some 3 }, 
       { k := .op (.asg (.con (.bool false))), dst := some 4 }]) (
   .seq (
    .seq (
     .reg [5, 6, 7, 8, 1030] [
         { k := .op (.faddr 0 (.slot 2)) }, 
         { k := .op (.load 1 false (.slot 9)) }, 
         { k := .op (.faddr 0 (.slot 3)) }, 
         { k := .op (.load 1 false (.slot 11)) }, 
         { k := .op (.bin .neq (.slot 10) (.slot 12)), dst := some 5 }]) (
     .cond (.slot 5) (
      .seq (
       .reg [1026] [
           { k := .op (.asg (.con (.bool false))), dst := some 4 }]) (
       .ret)) (
      .skip))) (
    .seq (
     .seq (
      .reg [10, 11, 12, 13, 1030] [
          { k := .op (.faddr 1 (.slot 2)) }, 
          { k := .op (.load 1 false (.slot 9)) }, 
          { k := .op (.faddr 1 (.slot 3)) }, 
          { k := .op (.load 1 false (.slot 11)) }, 
          { k := .op (.bin .neq (.slot 10) (.slot 12)), dst := some 6 }]) (
      .cond (.slot 6) (
       .seq (
        .reg [1026] [
            { k := .op (.asg (.con (.bool false))), dst := some 4 }]) (
        .ret)) (
       .skip))) (
     .seq (
      .seq (
       .reg [15, 16, 17, 18, 1030] [
           { k := .op (.faddr 2 (.slot 2)) }, 
           { k := .op (.load 1 false (.slot 9)) }, 
           { k := .op (.faddr 2 (.slot 3)) }, 
           { k := .op (.load 1 false (.slot 11)) }, 
           { k := .op (.bin .neq (.slot 10) (.slot 12)), dst := some 7 }]) (
       .cond (.slot 7) (
        .seq (
         .reg [1026] [
             { k := .op (.asg (.con (.bool false))), dst := some 4 }]) (
         .ret)) (
        .skip))) (
      .seq (
       .seq (
        .reg [20, 21, 22, 23, 24, 1031] [
            { k := .op (.faddr 3 (.slot 2)) }, 
            { k := .op (.load 1 false (.slot 9)) }, 
            { k := .op (.faddr 3 (.slot 3)) }, 
            { k := .op (.load 1 false (.slot 11)) }, 
            { k := .call 52 [(.slot 10), (.slot 12)] false }, 
            { k := .op (.not (.slot 13)), dst := some 8 }]) (
        .cond (.slot 8) (
         .seq (
          .reg [1026] [
              { k := .op (.asg (.con (.bool false))), dst := some 4 }]) (
          .ret)) (
         .skip))) (
       .seq (
        .reg [1026] [
            { k := .op (.asg (.con (.bool true))), dst := some 4 }]) (
        .ret))))))
theorem ok24 : okFn Go.Proofs.Try.prog Go.Proofs.Try.f24 v24 s24 r24 2 = true := by kernel_rfl

/- 25: loop.example/g00476/laws.markExp. Slots: a:0, k:1, a:2, :4 -/
def v25 : List Nat := [0, 1, 2, 4]
def r25 : List SRes := [.tmp 3]
def s25 : SCode :=
  .seq (
   .reg [1010, 1011] [
       { k := .op (.box 34 4 (.slot 0)), dst := some 2 }, 
       { k := .op (.asg (.con (.int .i64 0))), dst := some 3 }]) (
   .seq (
    .reg [5, 6, 7, 8, 1014] [
        { k := .op (.faddr 3 (.slot 2)) }, 
        { k := .op (.load 1 false (.slot 4)) }, 
        { k := .op (.mv (.slot 1)) }, 
        { k := .call 53 [(.slot 5), (.slot 6)] false }, 
        { k := .op (.asg (.slot 7)), dst := some 1 }]) (
    .seq (
     .reg [9, 1011] [
         { k := .op (.mv (.slot 1)) }, 
         { k := .op (.asg (.slot 4)), dst := some 3 }]) (
     .ret)))
theorem ok25 : okFn Go.Proofs.Try.prog Go.Proofs.Try.f25 v25 s25 r25 2 = true := by kernel_rfl

/- 26: loop.example/g00476/laws.heldExp. Slots: a:0, k:1, a:2, :4, :10 -/
def v26 : List Nat := [0, 1, 2, 4, 10]
def r26 : List SRes := [.tmp 3]
def s26 : SCode :=
  .seq (
   .reg [1012, 1013] [
       { k := .op (.box 34 4 (.slot 0)), dst := some 2 }, 
       { k := .op (.asg (.con (.int .i64 0))), dst := some 3 }]) (
   .seq (
    .reg [5, 6, 7, 8, 1016] [
        { k := .op (.faddr 3 (.slot 2)) }, 
        { k := .op (.load 1 false (.slot 5)) }, 
        { k := .op (.mv (.slot 1)) }, 
        { k := .call 54 [(.slot 6), (.slot 7)] false }, 
        { k := .op (.asg (.slot 8)), dst := some 1 }]) (
    .seq (
     .seq (
      .reg [9, 1013] [
          { k := .op (.mv (.slot 1)) }, 
          { k := .op (.bin .lss (.slot 5) (.con (.int .i64 0))), dst := some 4 }]) (
      .cond (.slot 4) (
       .seq (
        .reg [1012] [
            { k := .op (.asg (.con (.int .i64 (-1)))), dst := some 3 }]) (
        .ret)) (
       .skip))) (
     .seq (
      .reg [11, 1013] [
          { k := .op (.mv (.slot 1)) }, 
          { k := .op (.asg (.slot 5)), dst := some 3 }]) (
      .ret))))
theorem ok26 : okFn Go.Proofs.Try.prog Go.Proofs.Try.f26 v26 s26 r26 2 = true := by kernel_rfl

/- 27: loop.example/g00476/laws.szProg. Slots: a:0, left:1, a:2, :4, :10, :16 -/
def v27 : List Nat := [0, 1, 2, 4, 10, 16]
def r27 : List SRes := [.tmp 3]
def s27 : SCode :=
  .seq (
   .reg [1018, 1019] [
       { k := .op (.box 61 2 (.slot 0)), dst := some 2 }, 
       { k := .op (.asg (.con (.int .i64 0))), dst := some 3 }]) (
   .seq (
    .reg [5, 6, 7, 8, 1022] [
        { k := .op (.faddr 0 (.slot 2)) }, 
        { k := .op (.load 1 false (.slot 6)) }, 
        { k := .op (.mv (.slot 1)) }, 
        { k := .call 55 [(.slot 7), (.slot 8)] false }, 
        { k := .op (.asg (.slot 9)), dst := some 1 }]) (
    .seq (
     .seq (
      .reg [9, 1019] [
          { k := .op (.mv (.slot 1)) }, 
          { k := .op (.bin .lss (.slot 6) (.con (.int .i64 0))), dst := some 4 }]) (
      .cond (.slot 4) (
       .seq (
        .reg [1018] [
            { k := .op (.asg (.con (.int .i64 (-1)))), dst := some 3 }]) (
        .ret)) (
       .skip))) (
     .seq (
      .reg [11, 12, 13, 14, 1022] [
          { k := .op (.faddr 1 (.slot 2)) }, 
          { k := .op (.load 1 false (.slot 6)) }, 
          { k := .op (.mv (.slot 1)) }, 
          { k := .call 37 [(.slot 7), (.slot 8)] false }, 
          { k := .op (.asg (.slot 9)), dst := some 1 }]) (
      .seq (
       .seq (
        .reg [15, 1019] [
            { k := .op (.mv (.slot 1)) }, 
            { k := .op (.bin .lss (.slot 6) (.con (.int .i64 0))), dst := some 5 }]) (
        .cond (.slot 5) (
         .seq (
          .reg [1018] [
              { k := .op (.asg (.con (.int .i64 (-1)))), dst := some 3 }]) (
          .ret)) (
         .skip))) (
       .seq (
        .reg [17, 1019] [
            { k := .op (.mv (.slot 1)) }, 
            { k := .op (.asg (.slot 6)), dst := some 3 }]) (
        .ret))))))
theorem ok27 : okFn Go.Proofs.Try.prog Go.Proofs.Try.f27 v27 s27 r27 2 = true := by kernel_rfl

/- 28: loop.example/g00476/laws.szSto. Slots: a:0, left:1, a:2, :4, :10, :16, :22 -/
def v28 : List Nat := [0, 1, 2, 4, 10, 16, 22]
def r28 : List SRes := [.tmp 3]
def s28 : SCode :=
  .seq (
   .reg [1024, 1025] [
       { k := .op (.box 64 4 (.slot 0)), dst := some 2 }, 
       { k := .op (.asg (.con (.int .i64 0))), dst := some 3 }]) (
   .seq (
    .reg [5, 6, 7, 8, 1028] [
        { k := .op (.faddr 0 (.slot 2)) }, 
        { k := .op (.load 1 false (.slot 7)) }, 
        { k := .op (.mv (.slot 1)) }, 
        { k := .call 56 [(.slot 8), (.slot 9)] false }, 
        { k := .op (.asg (.slot 10)), dst := some 1 }]) (
    .seq (
     .seq (
      .reg [9, 1025] [
          { k := .op (.mv (.slot 1)) }, 
          { k := .op (.bin .lss (.slot 7) (.con (.int .i64 0))), dst := some 4 }]) (
      .cond (.slot 4) (
       .seq (
        .reg [1024] [
            { k := .op (.asg (.con (.int .i64 (-1)))), dst := some 3 }]) (
        .ret)) (
       .skip))) (
     .seq (
      .reg [11, 12, 13, 14, 1028] [
          { k := .op (.faddr 1 (.slot 2)) }, 
          { k := .op (.load 1 false (.slot 7)) }, 
          { k := .op (.mv (.slot 1)) }, 
          { k := .call 40 [(.slot 8), (.slot 9)] false }, 
          { k := .op (.asg (.slot 10)), dst := some 1 }]) (
      .seq (
       .seq (
        .reg [15, 1025] [
            { k := .op (.mv (.slot 1)) }, 
            { k := .op (.bin .lss (.slot 7) (.con (.int .i64 0))), dst := some 5 }]) (
        .cond (.slot 5) (
         .seq (
          .reg [1024] [
              { k := .op (.asg (.con (.int .i64 (-1)))), dst := some 3 }]) (
          .ret)) (
         .skip))) (
       .seq (
        .reg [17, 18, 19, 20, 1028] [
            { k := .op (.faddr 2 (.slot 2)) }, 
            { k := .op (.load 1 false (.slot 7)) }, 
            { k := .op (.mv (.slot 1)) }, 
            { k := .call 40 [(.slot 8), (.slot 9)] false }, 
            { k := .op (.asg (.slot 10)), dst := some 1 }]) (
        .seq (
         .seq (
          .reg [21, 1025] [
              { k := .op (.mv (.slot 1)) }, 
              { k := .op (.bin .lss (.slot 7) (.con (.int .i64 0))), dst := some 6 }]) (
          .cond (.slot 6) (
           .seq (
            .reg [1024] [
                { k := .op (.asg (.con (.int .i64 (-1)))), dst := some 3 }]) (
            .ret)) (
           .skip))) (
         .seq (
          .reg [23, 1025] [
              { k := .op (.mv (.slot 1)) }, 
              { k := .op (.asg (.slot 7)), dst := some 3 }]) (
          .ret))))))))
theorem ok28 : okFn Go.Proofs.Try.prog Go.Proofs.Try.f28 v28 s28 r28 2 = true := by kernel_rfl

/- 29: loop.example/g00476/spec.Agree. Slots: p:0, a:1, b:2, a:4, b:5, :6, :19 -/
def v29 : List Nat := [0, 1, 2, 4, 5, 6, 19]
def r29 : List SRes := [.tmp 5]
def s29 : SCode :=
  .seq (
   .reg [3, 1029, 1030, 1031] [
       { k := .op (.box 70 2 (.slot 0)) }, 
       { k := .op (.box 72 4 (.slot 1)), dst := some 3 }, 
       { k := .op (.box 72 4 (.slot 2)), dst := some 4 }, 
       { k := .op (.asg (.con (.bool false))), dst := some 5 }]) (
   .seq (
    .seq (
     .reg [7, 8, 9, 10, 11, 12, 13, 14, 15, 16, 17, 18, 1040] [
         { k := .op (.faddr 3 (.slot 3)) }, 
         { k := .op (.load 1 false (.slot 7)) }, 
         { k := .op (.faddr 3 (.slot 4)) }, 
         { k := .op (.load 1 false (.slot 9)) }, 
         { k := .op (.bin .neq (.slot 8) (.slot 10)) }, 
         { k := .op (.mv (.slot 11)) }, 
         { k := .op (.faddr 2 (.slot 3)), guard := some (12, false) }, 
         { k := .op (.load 1 false (.slot 13)), guard := some (12, false) }, 
         { k := .op (.faddr 2 (.slot 4)), guard := some (12, false) }, 
         { k := .op (.load 1 false (.slot 15)), guard := some (12, false) }, 
         { k := .call 57 [(.slot 14), (.slot 16)] false, guard := some (12, false) }, 
         { k := .op (.not (.slot 17)), guard := some (12, false) }, 
         { k := .op (.pick (.slot 12) (.con (.bool true)) (.slot 18)), dst := some 6 }]) (
     .cond (.slot 6) (
      .seq (
       .reg [1028] [
           { k := .op (.asg (.con (.bool false))), dst := some 5 }]) (
       .ret)) (
      .skip))) (
    .seq (
     .reg [20, 21, 22, 23, 24, 25, 26, 27, 1036] [
         { k := .op (.faddr 3 (.slot 3)) }, 
         { k := .op (.load 1 false (.slot 7)) }, 
         { k := .op (.bin .neq (.slot 8) (.con (.int .i64 0))) }, 
         { k := .op (.mv (.slot 9)) }, 
         { k := .op (.load 4 true (.slot 3)), guard := some (10, false) }, 
         { k := .op (.load 4 true (.slot 4)), guard := some (10, false) }, 
         { k := .call 58 [(.slot 11), (.slot 12)] false, guard := some (10, false) }, 
         { k := .op (.pick (.slot 10) (.con (.bool true)) (.slot 13)) }, 
         { k := .op (.asg (.slot 14)), dst := some 5 }]) (
     .ret)))
theorem ok29 : okFn Go.Proofs.Try.prog Go.Proofs.Try.f29 v29 s29 r29 3 = true := by kernel_rfl

/- 30: loop.example/g00476/laws.toProg. Slots: a:0, a:1, :2, out:3 -/
def v30 : List Nat := [0, 1, 2, 3]
def r30 : List SRes := [.cell 2 2 true]
def s30 : SCode :=
  .seq (
   .reg [1013, 1014] [
       { k := .op (.box 61 2 (.slot 0)), dst := some 1 }, 
       { k := .op (.mk 70 [(.osl 0 114 0 []), (.osl 0 37 0 [])]), dst := some 2 }]) (
   .seq (
    .reg [1013] [
        { k := .op (.mk 70 [(.osl 0 114 0 []), (.osl 0 37 0 [])]), dst := some 3 }]) (
    .seq (
     .reg [4, 5, 6, 7, 1017] [
         { k := .op (.faddr 0 (.slot 1)) }, 
         { k := .op (.load 1 false (.slot 4)) }, 
         { k := .call 59 [(.slot 5)] false }, 
         { k := .op (.faddr 0 (.slot 3)) }, 
         { k := .op (.store 1 true (.slot 7) (.slot 6)) }]) (
     .seq (
      .reg [8, 9, 10, 11, 1017] [
          { k := .op (.faddr 1 (.slot 1)) }, 
          { k := .op (.load 1 false (.slot 4)) }, 
          { k := .call 38 [(.slot 5)] false }, 
          { k := .op (.faddr 1 (.slot 3)) }, 
          { k := .op (.store 1 true (.slot 7) (.slot 6)) }]) (
      .seq (
       .reg [12, 1014] [
           { k := .op (.load 2 true (.slot 3)) }, 
           { k := .op (.store 2 true (.slot 2) (.slot 4)) }]) (
       .ret)))))
theorem ok30 : okFn Go.Proofs.Try.prog Go.Proofs.Try.f30 v30 s30 r30 1 = true := by kernel_rfl

/- 31: loop.example/g00476/laws.toSto. Slots: a:0, a:1, :2, out:3 -/
def v31 : List Nat := [0, 1, 2, 3]
def r31 : List SRes := [.cell 2 4 true]
def s31 : SCode :=
  .seq (
   .reg [1020, 1021] [
       { k := .op (.box 64 4 (.slot 0)), dst := some 1 }, 
       { k := .op (.mk 72 [(.osl 0 41 0 []), (.osl 0 3 0 []), (.osl 0 3 0 []), (.int .i64 0)]), dst := some 2 }]) (
   .seq (
    .reg [1020] [
        { k := .op (.mk 72 [(.osl 0 41 0 []), (.osl 0 3 0 []), (.osl 0 3 0 []), (.int .i64 0)]), dst := some 3 }]) (
    .seq (
     .reg [4, 5, 6, 7, 1024] [
         { k := .op (.faddr 0 (.slot 1)) }, 
         { k := .op (.load 1 false (.slot 4)) }, 
         { k := .call 60 [(.slot 5)] false }, 
         { k := .op (.faddr 0 (.slot 3)) }, 
         { k := .op (.store 1 true (.slot 7) (.slot 6)) }]) (
     .seq (
      .reg [8, 9, 10, 11, 1024] [
          { k := .op (.faddr 1 (.slot 1)) }, 
          { k := .op (.load 1 false (.slot 4)) }, 
          { k := .call 42 [(.slot 5)] false }, 
          { k := .op (.faddr 1 (.slot 3)) }, 
          { k := .op (.store 1 true (.slot 7) (.slot 6)) }]) (
      .seq (
       .reg [12, 13, 14, 15, 1024] [
           { k := .op (.faddr 2 (.slot 1)) }, 
           { k := .op (.load 1 false (.slot 4)) }, 
           { k := .call 42 [(.slot 5)] false }, 
           { k := .op (.faddr 2 (.slot 3)) }, 
           { k := .op (.store 1 true (.slot 7) (.slot 6)) }]) (
       .seq (
        .reg [16, 17, 18, 1023] [
            { k := .op (.faddr 3 (.slot 1)) }, 
            { k := .op (.load 1 false (.slot 4)) }, 
            { k := .op (.faddr 3 (.slot 3)) }, 
            { k := .op (.store 1 false (.slot 6) (.slot 5)) }]) (
        .seq (
         .reg [19, 1021] [
             { k := .op (.load 4 true (.slot 3)) }, 
             { k := .op (.store 4 true (.slot 2) (.slot 4)) }]) (
         .ret)))))))
theorem ok31 : okFn Go.Proofs.Try.prog Go.Proofs.Try.f31 v31 s31 r31 1 = true := by kernel_rfl

/- 32: loop.example/g00476/impl.Agree. Slots: p:0, a:1, b:2, a:4, b:5, :6, :19 -/
def v32 : List Nat := [0, 1, 2, 4, 5, 6, 19]
def r32 : List SRes := [.tmp 5]
def s32 : SCode :=
  .seq (
   .reg [3, 1029, 1030, 1031] [
       { k := .op (.box 70 2 (.slot 0)) }, 
       { k := .op (.box 72 4 (.slot 1)), dst := some 3 }, 
       { k := .op (.box 72 4 (.slot 2)), dst := some 4 }, 
       { k := .op (.asg (.con (.bool false))), dst := some 5 }]) (
   .seq (
    .seq (
     .reg [7, 8, 9, 10, 11, 12, 13, 14, 15, 16, 17, 18, 1040] [
         { k := .op (.faddr 3 (.slot 3)) }, 
         { k := .op (.load 1 false (.slot 7)) }, 
         { k := .op (.faddr 3 (.slot 4)) }, 
         { k := .op (.load 1 false (.slot 9)) }, 
         { k := .op (.bin .neq (.slot 8) (.slot 10)) }, 
         { k := .op (.mv (.slot 11)) }, 
         { k := .op (.faddr 2 (.slot 3)), guard := some (12, false) }, 
         { k := .op (.load 1 false (.slot 13)), guard := some (12, false) }, 
         { k := .op (.faddr 2 (.slot 4)), guard := some (12, false) }, 
         { k := .op (.load 1 false (.slot 15)), guard := some (12, false) }, 
         { k := .call 61 [(.slot 14), (.slot 16)] false, guard := some (12, false) }, 
         { k := .op (.not (.slot 17)), guard := some (12, false) }, 
         { k := .op (.pick (.slot 12) (.con (.bool true)) (.slot 18)), dst := some 6 }]) (
     .cond (.slot 6) (
      .seq (
       .reg [1028] [
           { k := .op (.asg (.con (.bool false))), dst := some 5 }]) (
       .ret)) (
      .skip))) (
    .seq (
     .reg [20, 21, 22, 23, 24, 25, 26, 27, 1036] [
         { k := .op (.faddr 3 (.slot 3)) }, 
         { k := .op (.load 1 false (.slot 7)) }, 
         { k := .op (.bin .neq (.slot 8) (.con (.int .i64 0))) }, 
         { k := .op (.mv (.slot 9)) }, 
         { k := .op (.load 4 true (.slot 3)), guard := some (10, false) }, 
         { k := .op (.load 4 true (.slot 4)), guard := some (10, false) }, 
         { k := .call 62 [(.slot 11), (.slot 12)] false, guard := some (10, false) }, 
         { k := .op (.pick (.slot 10) (.con (.bool true)) (.slot 13)) }, 
         { k := .op (.asg (.slot 14)), dst := some 5 }]) (
     .ret)))
theorem ok32 : okFn Go.Proofs.Try.prog Go.Proofs.Try.f32 v32 s32 r32 3 = true := by kernel_rfl

/- 33: loop.example/g00476/laws.eqProg. Slots: a:0, b:1, a:2, b:3, :4, :10, :16 -/
def v33 : List Nat := [0, 1, 2, 3, 4, 10, 16]
def r33 : List SRes := [.tmp 4]
def s33 : SCode :=
  .seq (
   .reg [1017, 1018, 1019] [
       { k := .op (.box 70 2 (.slot 0)), dst := some 2 }, 
       { k := .op (.box 70 2 (.slot 1)), dst := some 3 }, 
       { k := .op (.asg (.con (.bool false))), dst := some 4 }]) (
   .seq (
    .seq (
     .reg [5, 6, 7, 8, 9, 1022] [
         { k := .op (.faddr 0 (.slot 2)) }, 
         { k := .op (.load 1 false (.slot 7)) }, 
         { k := .op (.faddr 0 (.slot 3)) }, 
         { k := .op (.load 1 false (.slot 9)) }, 
         { k := .call 63 [(.slot 8), (.slot 10)] false }, 
         { k := .op (.not (.slot 11)), dst := some 5 }]) (
     .cond (.slot 5) (
      .seq (
       .reg [1017] [
           { k := .op (.asg (.con (.bool false))), dst := some 4 }]) (
       .ret)) (
      .skip))) (
    .seq (
     .seq (
      .reg [11, 12, 13, 14, 15, 1022] [
          { k := .op (.faddr 1 (.slot 2)) }, 
          { k := .op (.load 1 false (.slot 7)) }, 
          { k := .op (.faddr 1 (.slot 3)) }, 
          { k := .op (.load 1 false (.slot 9)) }, 
          { k := .call 39 [(.slot 8), (.slot 10)] false }, 
          { k := .op (.not (.slot 11)), dst := some 6 }]) (
      .cond (.slot 6) (
       .seq (
        .reg [1017] [
            { k := .op (.asg (.con (.bool false))), dst := some 4 }]) (
        .ret)) (
       .skip))) (
     .seq (
      .reg [1017] [
          { k := .op (.asg (.con (.bool true))), dst := some 4 }]) (
      .ret))))
theorem ok33 : okFn Go.Proofs.Try.prog Go.Proofs.Try.f33 v33 s33 r33 2 = true := by kernel_rfl

/- 34: loop.example/g00476/laws.eqSto. Slots: a:0, b:1, a:2, b:3, :4, :10, :16, :22, :27 -/
def v34 : List Nat := [0, 1, 2, 3, 4, 10, 16, 22, 27]
def r34 : List SRes := [.tmp 4]
def s34 : SCode :=
  .seq (
   .reg [1028, 1029, 1030] [
       { k := .op (.box 72 4 (.slot 0)), dst := some 2 }, 
       { k := .op (.box 72 4 (.slot 1)), dst := some 3 }, 
       { k := .op (.asg (.con (.bool false))), dst := some 4 }]) (
   .seq (
    .seq (
     .reg [5, 6, 7, 8, 9, 1033] [
         { k := .op (.faddr 0 (.slot 2)) }, 
         { k := .op (.load 1 false (.slot 9)) }, 
         { k := .op (.faddr 0 (.slot 3)) }, 
         { k := .op (.load 1 false (.slot 11)) }, 
         { k := .call 64 [(.slot 10), (.slot 12)] false }, 
         { k := .op (.not (.slot 13)), dst := some 5 }]) (
     .cond (.slot 5) (
      .seq (
       .reg [1028] [
           { k := .op (.asg (.con (.bool false))), dst := some 4 }]) (
       .ret)) (
      .skip))) (
    .seq (
     .seq (
      .reg [11, 12, 13, 14, 15, 1033] [
          { k := .op (.faddr 1 (.slot 2)) }, 
          { k := .op (.load 1 false (.slot 9)) }, 
          { k := .op (.faddr 1 (.slot 3)) }, 
          { k := .op (.load 1 false (.slot 11)) }, 
          { k := .call 44 [(.slot 10), (.slot 12)] false }, 
          { k := .op (.not (.slot 13)), dst := some 6 }]) (
      .cond (.slot 6) (
       .seq (
        .reg [1028] [
            { k := .op (.asg (.con (.bool false))), dst := some 4 }]) (
        .ret)) (
       .skip))) (
     .seq (
      .seq (
       .reg [17, 18, 19, 20, 21, 1033] [
           { k := .op (.faddr 2 (.slot 2)) }, 
           { k := .op (.load 1 false (.slot 9)) }, 
           { k := .op (.faddr 2 (.slot 3)) }, 
           { k := .op (.load 1 false (.slot 11)) }, 
           { k := .call 44 [(.slot 10), (.slot 12)] false }, 
           { k := .op (.not (.slot 13)), dst := some 7 }]) (
       .cond (.slot 7) (
        .seq (
         .reg [1028] [
             { k := .op (.asg (.con (.bool false))), dst := some 4 }]) (
         .ret)) (
        .skip))) (
      .seq (
       .seq (
        .reg [23, 24, 25, 26, 1032] [
            { k := .op (.faddr 3 (.slot 2)) }, 
            { k := .op (.load 1 false (.slot 9)) }, 
            { k := .op (.faddr 3 (.slot 3)) }, 
            { k := .op (.load 1 false (.slot 11)) }, 
            { k := .op (.bin .neq (.slot 10) (.slot 12)), dst := some 8 }]) (
        .cond (.slot 8) (
         .seq (
          .reg [1028] [
              { k := .op (.asg (.con (.bool false))), dst := some 4 }]) (
          .ret)) (
         .skip))) (
       .seq (
        .reg [1028] [
            { k := .op (.asg (.con (.bool true))), dst := some 4 }]) (
        .ret))))))
theorem ok34 : okFn Go.Proofs.Try.prog Go.Proofs.Try.f34 v34 s34 r34 2 = true := by kernel_rfl

/- 35: loop.example/g00476/spec.l1In. Slots: x:0, least:1, most:2, :6 -/
def v35 : List Nat := [0, 1, 2, 6]
def r35 : List SRes := [.tmp 3]
def s35 : SCode :=
  .seq (
   .reg [1015] [
       { k := .op (.asg (.con (.bool false))), dst := some 3 }]) (
   .seq (
    .reg [7, 8, 9, 10, 11, 12, 13, 14, 1023] [
        { k := .op (.mv (.slot 0)) }, 
        { k := .op (.mv (.slot 1)) }, 
        { k := .op (.bin .geq (.slot 4) (.slot 5)) }, 
        { k := .op (.mv (.slot 6)) }, 
        { k := .op (.mv (.slot 0)), guard := some (7, true) }, 
        { k := .op (.mv (.slot 2)), guard := some (7, true) }, 
        { k := .op (.bin .leq (.slot 8) (.slot 9)), guard := some (7, true) }, 
        { k := .op (.pick (.slot 7) (.slot 10) (.con (.bool false))) }, 
        { k := .op (.asg (.slot 11)), dst := some 3 }]) (
    .ret))
theorem ok35 : okFn Go.Proofs.Try.prog Go.Proofs.Try.f35 v35 s35 r35 3 = true := by kernel_rfl

/- 36: loop.example/g00476/impl.inRange. Slots: n:0, least:1, most:2, :6 -/
def v36 : List Nat := [0, 1, 2, 6]
def r36 : List SRes := [.tmp 3]
def s36 : SCode :=
  .seq (
   .reg [1015] [
       { k := .op (.asg (.con (.bool false))), dst := some 3 }]) (
   .seq (
    .reg [7, 8, 9, 10, 11, 12, 13, 14, 1023] [
        { k := .op (.mv (.slot 0)) }, 
        { k := .op (.mv (.slot 1)) }, 
        { k := .op (.bin .geq (.slot 4) (.slot 5)) }, 
        { k := .op (.mv (.slot 6)) }, 
        { k := .op (.mv (.slot 0)), guard := some (7, true) }, 
        { k := .op (.mv (.slot 2)), guard := some (7, true) }, 
        { k := .op (.bin .leq (.slot 8) (.slot 9)), guard := some (7, true) }, 
        { k := .op (.pick (.slot 7) (.slot 10) (.con (.bool false))) }, 
        { k := .op (.asg (.slot 11)), dst := some 3 }]) (
    .ret))
theorem ok36 : okFn Go.Proofs.Try.prog Go.Proofs.Try.f36 v36 s36 r36 3 = true := by kernel_rfl

/- 37: loop.example/g00476/laws.szStmtS. Slots: a:0, left:1, :4, :11, i:5, :15, :25 -/
def v37 : List Nat := [0, 1, 4, 11, 5, 15, 25]
def r37 : List SRes := [.tmp 2]
def b37_0 : SCode :=
   .seq (
    .seq (
     .reg [12, 13, 14, 1030] [
         { k := .op (.mv (.slot 4)) }, 
         { k := .op (.mv (.slot 0)) }, 
         { k := .op (.len false (.slot 8)) }, 
         { k := .op (.bin .lss (.slot 7) (.slot 9)), dst := some 5 }]) (
     .cond (.slot 5) (
      .skip) (
      .exit 0))) (
    .seq (
     .block 1 (
      .seq (
       .reg [18, 19, 20, 21, 22, 23, 1033] [
           { k := .op (.mv (.slot 0)) }, 
           { k := .op (.mv (.slot 4)) }, 
           { k := .op (.iaddr 19 (.slot 7) (.slot 8)) }, 
           { k := .op (.load 19 true (.slot 9)) }, 
           { k := .op (.mv (.slot 1)) }, 
           { k := .call 10 [(.slot 10), (.slot 11)] false }, 
           { k := .op (.asg (.slot 12)), dst := some 1 }]) (
       .seq (
        .reg [24, 1028] [
            { k := .op (.mv (.slot 1)) }, 
            { k := .op (.bin .lss (.slot 7) (.con (.int .i64 0))), dst := some 6 }]) (
        .cond (.slot 6) (
         .seq (
          .reg [1027] [
              { k := .op (.asg (.con (.int .i64 (-1)))), dst := some 2 }]) (
          .ret)) (
         .skip))))) (
     .reg [16, 17, 1029] [
         { k := .op (.mv (.slot 4)) }, 
         { k := .op (.bin .add (.slot 7) (.con (.int .i64 1))) }, 
         { k := .op (.asg (.slot 8)), dst := some 4 }]))
def l37_0 : SCode := .loop b37_0
def s37 : SCode :=
  .seq (
   .reg [1027] [
       { k := .op (.asg (.con (.int .i64 0))), dst := some 2 }]) (
   .seq (
    .reg [6, 7, 8, 9, 1031] [
        { k := .op (.mv (.slot 1)) }, 
        { k := .op (.mv (.slot 0)) }, 
        { k := .op (.len false (.slot 8)) }, 
        { k := .op (.bin .sub (.slot 7) (.slot 9)) }, 
        { k := .op (.asg (.slot 10)), dst := some 1 }]) (
    .seq (
     .seq (
      .reg [10, 1028] [
          { k := .op (.mv (.slot 1)) }, 
          { k := .op (.bin .lss (.slot 7) (.con (.int .i64 0))), dst := some 3 }]) (
      .cond (.slot 3) (
       .seq (
        .reg [1027] [
            { k := .op (.asg (.con (.int .i64 (-1)))), dst := some 2 }]) (
        .ret)) (
       .skip))) (
     .seq (
      .seq (
       .reg [1027] [
           { k := .op (.asg (.con (.int .i64 0))), dst := some 4 }]) (
       .block 0 (
        l37_0))) (
      .seq (
       .reg [26, 1028] [
           { k := .op (.mv (.slot 1)) }, 
           { k := .op (.asg (.slot 7)), dst := some 2 }]) (
       .ret)))))
theorem ok37 : okFn Go.Proofs.Try.prog Go.Proofs.Try.f37 v37 s37 r37 2 = true := by kernel_rfl

/- 38: loop.example/g00476/laws.toStmtS. Slots: a:0, :2, out:3, i:4, :11 -/
def v38 : List Nat := [0, 2, 3, 4, 11]
def r38 : List SRes := [.tmp 1]
def b38_0 : SCode :=
   .seq (
    .seq (
     .reg [8, 9, 10, 1026] [
         { k := .op (.mv (.slot 3)) }, 
         { k := .op (.mv (.slot 0)) }, 
         { k := .op (.len false (.slot 6)) }, 
         { k := .op (.bin .lss (.slot 5) (.slot 7)), dst := some 4 }]) (
     .cond (.slot 4) (
      .skip) (
      .exit 0))) (
    .seq (
     .block 1 (
      .reg [14, 15, 16, 17, 18, 19, 20, 21, 1031] [
          { k := .op (.mv (.slot 2)) }, 
          { k := .op (.mv (.slot 3)) }, 
          { k := .op (.mv (.slot 0)) }, 
          { k := .op (.mv (.slot 3)) }, 
          { k := .op (.iaddr 19 (.slot 7) (.slot 8)) }, 
          { k := .op (.load 19 true (.slot 9)) }, 
          { k := .call 12 [(.slot 10)] false }, 
          { k := .op (.iaddr 19 (.slot 5) (.slot 6)) }, 
          { k := .op (.store 19 true (.slot 12) (.slot 11)) }])) (
     .reg [12, 13, 1025] [
         { k := .op (.mv (.slot 3)) }, 
         { k := .op (.bin .add (.slot 5) (.con (.int .i64 1))) }, 
         { k := .op (.asg (.slot 6)), dst := some 3 }]))
def l38_0 : SCode := .loop b38_0
def s38 : SCode :=
  .seq (
   .reg [1023] [
       { k := .op (.asg (.con (.osl 0 37 0 []))), dst := some 1 }]) (
   .seq (
    .reg [5, 6, 7, 1026] [
        { k := .op (.mv (.slot 0)) }, 
        { k := .op (.len false (.slot 5)) }, 
        { k := .op (.mksl 37 [(.int .i64 0), (.str []), (.int .i64 0), (.int .i64 0), (.str []), (.osl 0 34 0 []), (.int .i64 0), (.int .i64 0), (.str []), (.osl 0 34 0 []), (.int .i64 0), (.int .i64 0), (.str []), (.osl 0 34 0 []), (.int .i64 0), (.int .i64 0), (.str []), (.osl 0 34 0 []), (.osl 0 37 0 [])] (.slot 6) (.slot 6)) }, 
        { k := .op (.asg (.slot 7)), dst := some 2 }]) (
    .seq (
     .seq (
      .reg [1023] [
          { k := .op (.asg (.con (.int .i64 0))), dst := some 3 }]) (
      .block 0 (
       l38_0))) (
     .seq (
      .reg [22, 1024] [
          { k := .op (.mv (.slot 2)) }, 
          { k := .op (.asg (.slot 5)), dst := some 1 }]) (
      .ret))))
theorem ok38 : okFn Go.Proofs.Try.prog Go.Proofs.Try.f38 v38 s38 r38 1 = true := by kernel_rfl

/- 39: loop.example/g00476/laws.eqStmtS. Slots: a:0, b:1, :4, :10, i:5, :14, :26 -/
def v39 : List Nat := [0, 1, 4, 10, 5, 14, 26]
def r39 : List SRes := [.tmp 2]
def b39_0 : SCode :=
   .seq (
    .seq (
     .reg [11, 12, 13, 1030] [
         { k := .op (.mv (.slot 4)) }, 
         { k := .op (.mv (.slot 0)) }, 
         { k := .op (.len false (.slot 8)) }, 
         { k := .op (.bin .lss (.slot 7) (.slot 9)), dst := some 5 }]) (
     .cond (.slot 5) (
      .skip) (
      .exit 0))) (
    .seq (
     .block 1 (
      .seq (
       .dreg [17, 18, 19, 20, 21, 22, 23, 24, 25, 1036] [
           { k := .op (.mv (.slot 0)) }, 
           { k := .op (.mv (.slot 4)) }, 
           { k := .op (.iaddr 19 (.slot 7) (.slot 8)) }, 
           { k := .op (.load 19 true (.slot 9)) }, 
           { k := .op (.mv (.slot 1)) }, 
           { k := .op (.mv (.slot 4)) }, 
           { k := .op (.iaddr 19 (.slot 11) (.slot 12)) }, 
           { k := .op (.load 19 true (.slot 13)) }, 
           { k := .call 14 [(.slot 10), (.slot 14)] false }, 
           { k := .op (.not (.slot 15)), dst := some 6 }]
         [[], [], [0, 1], [0, 1, 2], [], [], [4, 5], [4, 5, 6], [0, 1, 2, 3, 4, 5, 6, 7], [0, 1, 2, 3, 4, 5, 6, 7, 8]] 9) (
       .cond (.slot 6) (
        .seq (
         .reg [1027] [
             { k := .op (.asg (.con (.bool false))), dst := some 2 }]) (
         .ret)) (
        .skip)))) (
     .reg [15, 16, 1029] [
         { k := .op (.mv (.slot 4)) }, 
         { k := .op (.bin .add (.slot 7) (.con (.int .i64 1))) }, 
         { k := .op (.asg (.slot 8)), dst := some 4 }]))
def l39_0 : SCode := .loop b39_0
def s39 : SCode :=
  .seq (
   .reg [1027] [
       { k := .op (.asg (.con (.bool false))), dst := some 2 }]) (
   .seq (
    .seq (
     .reg [6, 7, 8, 9, 1031] [
         { k := .op (.mv (.slot 0)) }, 
         { k := .op (.len false (.slot 7)) }, 
         { k := .op (.mv (.slot 1)) }, 
         { k := .op (.len false (.slot 9)) }, 
         { k := .op (.bin .neq (.slot 8) (.slot 10)), dst := some 3 }]) (
     .cond (.slot 3) (
      .seq (
       .reg [1027] [
           { k := .op (.asg (.con (.bool false))), dst := some 2 }]) (
       .ret)) (
      .skip))) (
    .seq (
     .seq (
      .reg [1027] [
          { k := .op (.asg (.con (.int .i64 0))), dst := some 4 }]) (
      .block 0 (
       l39_0))) (
     .seq (
      .reg [1027] [
          { k := .op (.asg (.con (.bool true))), dst := some 2 }]) (
      .ret))))
theorem ok39 : okFn Go.Proofs.Try.prog Go.Proofs.Try.f39 v39 s39 r39 2 = true := by kernel_rfl

/- 40: loop.example/g00476/laws.szIntS. Slots: a:0, left:1, :4, :10 -/
def v40 : List Nat := [0, 1, 4, 10]
def r40 : List SRes := [.tmp 2]
def s40 : SCode :=
  .seq (
   .reg [1012] [
       { k := .op (.asg (.con (.int .i64 0))), dst := some 2 }]) (
   .seq (
    .reg [5, 6, 7, 8, 1016] [
        { k := .op (.mv (.slot 1)) }, 
        { k := .op (.mv (.slot 0)) }, 
        { k := .op (.len false (.slot 5)) }, 
        { k := .op (.bin .sub (.slot 4) (.slot 6)) }, 
        { k := .op (.asg (.slot 7)), dst := some 1 }]) (
    .seq (
     .seq (
      .reg [9, 1013] [
          { k := .op (.mv (.slot 1)) }, 
          { k := .op (.bin .lss (.slot 4) (.con (.int .i64 0))), dst := some 3 }]) (
      .cond (.slot 3) (
       .seq (
        .reg [1012] [
            { k := .op (.asg (.con (.int .i64 (-1)))), dst := some 2 }]) (
        .ret)) (
       .skip))) (
     .seq (
      .reg [11, 1013] [
          { k := .op (.mv (.slot 1)) }, 
          { k := .op (.asg (.slot 4)), dst := some 2 }]) (
      .ret))))
theorem ok40 : okFn Go.Proofs.Try.prog Go.Proofs.Try.f40 v40 s40 r40 2 = true := by kernel_rfl

/- 41: loop.example/g00476/laws.szHandS. Slots: a:0, left:1, :4, :11, i:5, :15, :25 -/
def v41 : List Nat := [0, 1, 4, 11, 5, 15, 25]
def r41 : List SRes := [.tmp 2]
def b41_0 : SCode :=
   .seq (
    .seq (
     .reg [12, 13, 14, 1030] [
         { k := .op (.mv (.slot 4)) }, 
         { k := .op (.mv (.slot 0)) }, 
         { k := .op (.len false (.slot 8)) }, 
         { k := .op (.bin .lss (.slot 7) (.slot 9)), dst := some 5 }]) (
     .cond (.slot 5) (
      .skip) (
      .exit 0))) (
    .seq (
     .block 1 (
      .seq (
       .reg [18, 19, 20, 21, 22, 23, 1033] [
           { k := .op (.mv (.slot 0)) }, 
           { k := .op (.mv (.slot 4)) }, 
           { k := .op (.iaddr 6 (.slot 7) (.slot 8)) }, 
           { k := .op (.load 6 true (.slot 9)) }, 
           { k := .op (.mv (.slot 1)) }, 
           { k := .call 65 [(.slot 10), (.slot 11)] false }, 
           { k := .op (.asg (.slot 12)), dst := some 1 }]) (
       .seq (
        .reg [24, 1028] [
            { k := .op (.mv (.slot 1)) }, 
            { k := .op (.bin .lss (.slot 7) (.con (.int .i64 0))), dst := some 6 }]) (
        .cond (.slot 6) (
         .seq (
          .reg [1027] [
              { k := .op (.asg (.con (.int .i64 (-1)))), dst := some 2 }]) (
          .ret)) (
         .skip))))) (
     .reg [16, 17, 1029] [
         { k := .op (.mv (.slot 4)) }, 
         { k := .op (.bin .add (.slot 7) (.con (.int .i64 1))) }, 
         { k := .op (.asg (.slot 8)), dst := some 4 }]))
def l41_0 : SCode := .loop b41_0
def s41 : SCode :=
  .seq (
   .reg [1027] [
       { k := .op (.asg (.con (.int .i64 0))), dst := some 2 }]) (
   .seq (
    .reg [6, 7, 8, 9, 1031] [
        { k := .op (.mv (.slot 1)) }, 
        { k := .op (.mv (.slot 0)) }, 
        { k := .op (.len false (.slot 8)) }, 
        { k := .op (.bin .sub (.slot 7) (.slot 9)) }, 
        { k := .op (.asg (.slot 10)), dst := some 1 }]) (
    .seq (
     .seq (
      .reg [10, 1028] [
          { k := .op (.mv (.slot 1)) }, 
          { k := .op (.bin .lss (.slot 7) (.con (.int .i64 0))), dst := some 3 }]) (
      .cond (.slot 3) (
       .seq (
        .reg [1027] [
            { k := .op (.asg (.con (.int .i64 (-1)))), dst := some 2 }]) (
        .ret)) (
       .skip))) (
     .seq (
      .seq (
       .reg [1027] [
           { k := .op (.asg (.con (.int .i64 0))), dst := some 4 }]) (
       .block 0 (
        l41_0))) (
      .seq (
       .reg [26, 1028] [
           { k := .op (.mv (.slot 1)) }, 
           { k := .op (.asg (.slot 7)), dst := some 2 }]) (
       .ret)))))
theorem ok41 : okFn Go.Proofs.Try.prog Go.Proofs.Try.f41 v41 s41 r41 2 = true := by kernel_rfl

/- 42: loop.example/g00476/laws.toIntS. Slots: a:0, :2, out:3, i:4, :11 -/
def v42 : List Nat := [0, 2, 3, 4, 11]
def r42 : List SRes := [.tmp 1]
def b42_0 : SCode :=
   .seq (
    .seq (
     .reg [8, 9, 10, 1025] [
         { k := .op (.mv (.slot 3)) }, 
         { k := .op (.mv (.slot 0)) }, 
         { k := .op (.len false (.slot 6)) }, 
         { k := .op (.bin .lss (.slot 5) (.slot 7)), dst := some 4 }]) (
     .cond (.slot 4) (
      .skip) (
      .exit 0))) (
    .seq (
     .block 1 (
      .reg [14, 15, 16, 17, 18, 19, 20, 1029] [
          { k := .op (.mv (.slot 2)) }, 
          { k := .op (.mv (.slot 3)) }, 
          { k := .op (.mv (.slot 0)) }, 
          { k := .op (.mv (.slot 3)) }, 
          { k := .op (.iaddr 1 (.slot 7) (.slot 8)) }, 
          { k := .op (.load 1 false (.slot 9)) }, 
          { k := .op (.iaddr 1 (.slot 5) (.slot 6)) }, 
          { k := .op (.store 1 false (.slot 11) (.slot 10)) }])) (
     .reg [12, 13, 1024] [
         { k := .op (.mv (.slot 3)) }, 
         { k := .op (.bin .add (.slot 5) (.con (.int .i64 1))) }, 
         { k := .op (.asg (.slot 6)), dst := some 3 }]))
def l42_0 : SCode := .loop b42_0
def s42 : SCode :=
  .seq (
   .reg [1022] [
       { k := .op (.asg (.con (.osl 0 3 0 []))), dst := some 1 }]) (
   .seq (
    .reg [5, 6, 7, 1025] [
        { k := .op (.mv (.slot 0)) }, 
        { k := .op (.len false (.slot 5)) }, 
        { k := .op (.mksl 3 [(.int .i64 0)] (.slot 6) (.slot 6)) }, 
        { k := .op (.asg (.slot 7)), dst := some 2 }]) (
    .seq (
     .seq (
      .reg [1022] [
          { k := .op (.asg (.con (.int .i64 0))), dst := some 3 }]) (
      .block 0 (
       l42_0))) (
     .seq (
      .reg [21, 1023] [
          { k := .op (.mv (.slot 2)) }, 
          { k := .op (.asg (.slot 5)), dst := some 1 }]) (
      .ret))))
theorem ok42 : okFn Go.Proofs.Try.prog Go.Proofs.Try.f42 v42 s42 r42 1 = true := by kernel_rfl

/- 43: loop.example/g00476/laws.toHandS. Slots: a:0, :2, out:3, i:4, :11 -/
def v43 : List Nat := [0, 2, 3, 4, 11]
def r43 : List SRes := [.tmp 1]
def b43_0 : SCode :=
   .seq (
    .seq (
     .reg [8, 9, 10, 1026] [
         { k := .op (.mv (.slot 3)) }, 
         { k := .op (.mv (.slot 0)) }, 
         { k := .op (.len false (.slot 6)) }, 
         { k := .op (.bin .lss (.slot 5) (.slot 7)), dst := some 4 }]) (
     .cond (.slot 4) (
      .skip) (
      .exit 0))) (
    .seq (
     .block 1 (
      .reg [14, 15, 16, 17, 18, 19, 20, 21, 1031] [
          { k := .op (.mv (.slot 2)) }, 
          { k := .op (.mv (.slot 3)) }, 
          { k := .op (.mv (.slot 0)) }, 
          { k := .op (.mv (.slot 3)) }, 
          { k := .op (.iaddr 6 (.slot 7) (.slot 8)) }, 
          { k := .op (.load 6 true (.slot 9)) }, 
          { k := .call 66 [(.slot 10)] false }, 
          { k := .op (.iaddr 6 (.slot 5) (.slot 6)) }, 
          { k := .op (.store 6 true (.slot 12) (.slot 11)) }])) (
     .reg [12, 13, 1025] [
         { k := .op (.mv (.slot 3)) }, 
         { k := .op (.bin .add (.slot 5) (.con (.int .i64 1))) }, 
         { k := .op (.asg (.slot 6)), dst := some 3 }]))
def l43_0 : SCode := .loop b43_0
def s43 : SCode :=
  .seq (
   .reg [1023] [
       { k := .op (.asg (.con (.osl 0 87 0 []))), dst := some 1 }]) (
   .seq (
    .reg [5, 6, 7, 1026] [
        { k := .op (.mv (.slot 0)) }, 
        { k := .op (.len false (.slot 5)) }, 
        { k := .op (.mksl 87 [(.int .i64 0), (.osl 0 3 0 []), (.osl 0 3 0 []), (.osl 0 124 0 []), (.bool false), (.bool false)] (.slot 6) (.slot 6)) }, 
        { k := .op (.asg (.slot 7)), dst := some 2 }]) (
    .seq (
     .seq (
      .reg [1023] [
          { k := .op (.asg (.con (.int .i64 0))), dst := some 3 }]) (
      .block 0 (
       l43_0))) (
     .seq (
      .reg [22, 1024] [
          { k := .op (.mv (.slot 2)) }, 
          { k := .op (.asg (.slot 5)), dst := some 1 }]) (
      .ret))))
theorem ok43 : okFn Go.Proofs.Try.prog Go.Proofs.Try.f43 v43 s43 r43 1 = true := by kernel_rfl

/- 44: loop.example/g00476/laws.eqIntS. Slots: a:0, b:1, :4, :10, i:5, :14, :25 -/
def v44 : List Nat := [0, 1, 4, 10, 5, 14, 25]
def r44 : List SRes := [.tmp 2]
def b44_0 : SCode :=
   .seq (
    .seq (
     .reg [11, 12, 13, 1029] [
         { k := .op (.mv (.slot 4)) }, 
         { k := .op (.mv (.slot 0)) }, 
         { k := .op (.len false (.slot 8)) }, 
         { k := .op (.bin .lss (.slot 7) (.slot 9)), dst := some 5 }]) (
     .cond (.slot 5) (
      .skip) (
      .exit 0))) (
    .seq (
     .block 1 (
      .seq (
       .dreg [17, 18, 19, 20, 21, 22, 23, 24, 1034] [
           { k := .op (.mv (.slot 0)) }, 
           { k := .op (.mv (.slot 4)) }, 
           { k := .op (.iaddr 1 (.slot 7) (.slot 8)) }, 
           { k := .op (.load 1 false (.slot 9)) }, 
           { k := .op (.mv (.slot 1)) }, 
           { k := .op (.mv (.slot 4)) }, 
           { k := .op (.iaddr 1 (.slot 11) (.slot 12)) }, 
           { k := .op (.load 1 false (.slot 13)) }, 
           { k := .op (.bin .neq (.slot 10) (.slot 14)), dst := some 6 }]
         [[], [], [0, 1], [0, 1, 2], [], [], [4, 5], [4, 5, 6], [0, 1, 2, 3, 4, 5, 6, 7]] 8) (
       .cond (.slot 6) (
        .seq (
         .reg [1026] [
             { k := .op (.asg (.con (.bool false))), dst := some 2 }]) (
         .ret)) (
        .skip)))) (
     .reg [15, 16, 1028] [
         { k := .op (.mv (.slot 4)) }, 
         { k := .op (.bin .add (.slot 7) (.con (.int .i64 1))) }, 
         { k := .op (.asg (.slot 8)), dst := some 4 }]))
def l44_0 : SCode := .loop b44_0
def s44 : SCode :=
  .seq (
   .reg [1026] [
       { k := .op (.asg (.con (.bool false))), dst := some 2 }]) (
   .seq (
    .seq (
     .reg [6, 7, 8, 9, 1030] [
         { k := .op (.mv (.slot 0)) }, 
         { k := .op (.len false (.slot 7)) }, 
         { k := .op (.mv (.slot 1)) }, 
         { k := .op (.len false (.slot 9)) }, 
         { k := .op (.bin .neq (.slot 8) (.slot 10)), dst := some 3 }]) (
     .cond (.slot 3) (
      .seq (
       .reg [1026] [
           { k := .op (.asg (.con (.bool false))), dst := some 2 }]) (
       .ret)) (
      .skip))) (
    .seq (
     .seq (
      .reg [1026] [
          { k := .op (.asg (.con (.int .i64 0))), dst := some 4 }]) (
      .block 0 (
       l44_0))) (
     .seq (
      .reg [1026] [
          { k := .op (.asg (.con (.bool true))), dst := some 2 }]) (
      .ret))))
theorem ok44 : okFn Go.Proofs.Try.prog Go.Proofs.Try.f44 v44 s44 r44 2 = true := by kernel_rfl

/- 45: loop.example/g00476/laws.eqHandS. Slots: a:0, b:1, :4, :10, i:5, :14, :26 -/
def v45 : List Nat := [0, 1, 4, 10, 5, 14, 26]
def r45 : List SRes := [.tmp 2]
def b45_0 : SCode :=
   .seq (
    .seq (
     .reg [11, 12, 13, 1030] [
         { k := .op (.mv (.slot 4)) }, 
         { k := .op (.mv (.slot 0)) }, 
         { k := .op (.len false (.slot 8)) }, 
         { k := .op (.bin .lss (.slot 7) (.slot 9)), dst := some 5 }]) (
     .cond (.slot 5) (
      .skip) (
      .exit 0))) (
    .seq (
     .block 1 (
      .seq (
       .dreg [17, 18, 19, 20, 21, 22, 23, 24, 25, 1036] [
           { k := .op (.mv (.slot 0)) }, 
           { k := .op (.mv (.slot 4)) }, 
           { k := .op (.iaddr 6 (.slot 7) (.slot 8)) }, 
           { k := .op (.load 6 true (.slot 9)) }, 
           { k := .op (.mv (.slot 1)) }, 
           { k := .op (.mv (.slot 4)) }, 
           { k := .op (.iaddr 6 (.slot 11) (.slot 12)) }, 
           { k := .op (.load 6 true (.slot 13)) }, 
           { k := .call 67 [(.slot 10), (.slot 14)] false }, 
           { k := .op (.not (.slot 15)), dst := some 6 }]
         [[], [], [0, 1], [0, 1, 2], [], [], [4, 5], [4, 5, 6], [0, 1, 2, 3, 4, 5, 6, 7], [0, 1, 2, 3, 4, 5, 6, 7, 8]] 9) (
       .cond (.slot 6) (
        .seq (
         .reg [1027] [
             { k := .op (.asg (.con (.bool false))), dst := some 2 }]) (
         .ret)) (
        .skip)))) (
     .reg [15, 16, 1029] [
         { k := .op (.mv (.slot 4)) }, 
         { k := .op (.bin .add (.slot 7) (.con (.int .i64 1))) }, 
         { k := .op (.asg (.slot 8)), dst := some 4 }]))
def l45_0 : SCode := .loop b45_0
def s45 : SCode :=
  .seq (
   .reg [1027] [
       { k := .op (.asg (.con (.bool false))), dst := some 2 }]) (
   .seq (
    .seq (
     .reg [6, 7, 8, 9, 1031] [
         { k := .op (.mv (.slot 0)) }, 
         { k := .op (.len false (.slot 7)) }, 
         { k := .op (.mv (.slot 1)) }, 
         { k := .op (.len false (.slot 9)) }, 
         { k := .op (.bin .neq (.slot 8) (.slot 10)), dst := some 3 }]) (
     .cond (.slot 3) (
      .seq (
       .reg [1027] [
           { k := .op (.asg (.con (.bool false))), dst := some 2 }]) (
       .ret)) (
      .skip))) (
    .seq (
     .seq (
      .reg [1027] [
          { k := .op (.asg (.con (.int .i64 0))), dst := some 4 }]) (
      .block 0 (
       l45_0))) (
     .seq (
      .reg [1027] [
          { k := .op (.asg (.con (.bool true))), dst := some 2 }]) (
      .ret))))
theorem ok45 : okFn Go.Proofs.Try.prog Go.Proofs.Try.f45 v45 s45 r45 2 = true := by kernel_rfl

/- 46: loop.example/g00476/laws.szExpS. Slots: a:0, left:1, :4, :11, i:5, :15, :25 -/
def v46 : List Nat := [0, 1, 4, 11, 5, 15, 25]
def r46 : List SRes := [.tmp 2]
def b46_0 : SCode :=
   .seq (
    .seq (
     .reg [12, 13, 14, 1030] [
         { k := .op (.mv (.slot 4)) }, 
         { k := .op (.mv (.slot 0)) }, 
         { k := .op (.len false (.slot 8)) }, 
         { k := .op (.bin .lss (.slot 7) (.slot 9)), dst := some 5 }]) (
     .cond (.slot 5) (
      .skip) (
      .exit 0))) (
    .seq (
     .block 1 (
      .seq (
       .reg [18, 19, 20, 21, 22, 23, 1033] [
           { k := .op (.mv (.slot 0)) }, 
           { k := .op (.mv (.slot 4)) }, 
           { k := .op (.iaddr 4 (.slot 7) (.slot 8)) }, 
           { k := .op (.load 4 true (.slot 9)) }, 
           { k := .op (.mv (.slot 1)) }, 
           { k := .call 20 [(.slot 10), (.slot 11)] false }, 
           { k := .op (.asg (.slot 12)), dst := some 1 }]) (
       .seq (
        .reg [24, 1028] [
            { k := .op (.mv (.slot 1)) }, 
            { k := .op (.bin .lss (.slot 7) (.con (.int .i64 0))), dst := some 6 }]) (
        .cond (.slot 6) (
         .seq (
          .reg [1027] [
              { k := .op (.asg (.con (.int .i64 (-1)))), dst := some 2 }]) (
          .ret)) (
         .skip))))) (
     .reg [16, 17, 1029] [
         { k := .op (.mv (.slot 4)) }, 
         { k := .op (.bin .add (.slot 7) (.con (.int .i64 1))) }, 
         { k := .op (.asg (.slot 8)), dst := some 4 }]))
def l46_0 : SCode := .loop b46_0
def s46 : SCode :=
  .seq (
   .reg [1027] [
       { k := .op (.asg (.con (.int .i64 0))), dst := some 2 }]) (
   .seq (
    .reg [6, 7, 8, 9, 1031] [
        { k := .op (.mv (.slot 1)) }, 
        { k := .op (.mv (.slot 0)) }, 
        { k := .op (.len false (.slot 8)) }, 
        { k := .op (.bin .sub (.slot 7) (.slot 9)) }, 
        { k := .op (.asg (.slot 10)), dst := some 1 }]) (
    .seq (
     .seq (
      .reg [10, 1028] [
          { k := .op (.mv (.slot 1)) }, 
          { k := .op (.bin .lss (.slot 7) (.con (.int .i64 0))), dst := some 3 }]) (
      .cond (.slot 3) (
       .seq (
        .reg [1027] [
            { k := .op (.asg (.con (.int .i64 (-1)))), dst := some 2 }]) (
        .ret)) (
       .skip))) (
     .seq (
      .seq (
       .reg [1027] [
           { k := .op (.asg (.con (.int .i64 0))), dst := some 4 }]) (
       .block 0 (
        l46_0))) (
      .seq (
       .reg [26, 1028] [
           { k := .op (.mv (.slot 1)) }, 
           { k := .op (.asg (.slot 7)), dst := some 2 }]) (
       .ret)))))
theorem ok46 : okFn Go.Proofs.Try.prog Go.Proofs.Try.f46 v46 s46 r46 2 = true := by kernel_rfl

/- 47: loop.example/g00476/spec.l7Op. Slots: k:0, a:1, b:2, :6, :7, :8, :13, :18, :23, :27, :32 -/
def v47 : List Nat := [0, 1, 2, 6, 7, 8, 13, 18, 23, 27, 32]
def r47 : List SRes := [.tmp 3]
def s47 : SCode :=
  .seq (
   .reg [1035] [
       { k := .op (.asg (.con (.int .i64 0))), dst := some 3 }]) (
   .seq (
    .seq (
     .reg [1035] [
         { k := .op (.asg (.slot 0)), dst := some 4 }]) (
     .block 0 (
      .seq (
       .reg [9, 1036] [
           { k := .op (.bin .eql (.slot 4) (.con (.int .i64 4))) }, 
           { k := .op (.asg (.slot 11)), dst := some 5 }]) (
       .cond (.slot 5) (
        .seq (
         .reg [10, 11, 12, 1038] [
             { k := .op (.mv (.slot 1)) }, 
             { k := .op (.mv (.slot 2)) }, 
             { k := .call 68 [(.slot 11), (.slot 12)] false }, 
             { k := .op (.asg (.slot 13)), dst := some 3 }]) (
         .ret)) (
        .seq (
         .reg [14, 1036] [
             { k := .op (.bin .eql (.slot 4) (.con (.int .i64 5))) }, 
             { k := .op (.asg (.slot 11)), dst := some 6 }]) (
         .cond (.slot 6) (
          .seq (
           .reg [15, 16, 17, 1038] [
               { k := .op (.mv (.slot 1)) }, 
               { k := .op (.mv (.slot 2)) }, 
               { k := .call 69 [(.slot 11), (.slot 12)] false }, 
               { k := .op (.asg (.slot 13)), dst := some 3 }]) (
           .ret)) (
          .seq (
           .reg [19, 1036] [
               { k := .op (.bin .eql (.slot 4) (.con (.int .i64 6))) }, 
               { k := .op (.asg (.slot 11)), dst := some 7 }]) (
           .cond (.slot 7) (
            .seq (
             .reg [20, 21, 22, 1038] [
                 { k := .op (.mv (.slot 1)) }, 
                 { k := .op (.mv (.slot 2)) }, 
                 { k := .call 70 [(.slot 11), (.slot 12)] false }, 
                 { k := .op (.asg (.slot 13)), dst := some 3 }]) (
             .ret)) (
            .seq (
             .reg [24, 1036] [
                 { k := .op (.bin .eql (.slot 4) (.con (.int .i64 7))) }, 
                 { k := .op (.asg (.slot 11)), dst := some 8 }]) (
             .cond (.slot 8) (
              .seq (
               .seq (
                .reg [25, 26, 1037] [
                    { k := .op (.mv (.slot 1)) }, 
                    { k := .op (.mv (.slot 2)) }, 
                    { k := .op (.bin .lss (.slot 11) (.slot 12)), dst := some 9 }]) (
                .cond (.slot 9) (
                 .seq (
                  .reg [28, 1036] [
                      { k := .op (.mv (.slot 1)) }, 
                      { k := .op (.asg (.slot 11)), dst := some 3 }]) (
                  .ret)) (
                 .skip))) (
               .seq (
                .reg [29, 1036] [
                    { k := .op (.mv (.slot 2)) }, 
                    { k := .op (.asg (.slot 11)), dst := some 3 }]) (
                .ret))) (
              .skip))))))))))) (
    .seq (
     .seq (
      .reg [30, 31, 1037] [
          { k := .op (.mv (.slot 1)) }, 
          { k := .op (.mv (.slot 2)) }, 
          { k := .op (.bin .gtr (.slot 11) (.slot 12)), dst := some 10 }]) (
      .cond (.slot 10) (
       .seq (
        .reg [33, 1036] [
            { k := .op (.mv (.slot 1)) }, 
            { k := .op (.asg (.slot 11)), dst := some 3 }]) (
        .ret)) (
       .skip))) (
     .seq (
      .reg [34, 1036] [
          { k := .op (.mv (.slot 2)) }, 
          { k := .op (.asg (.slot 11)), dst := some 3 }]) (
      .ret))))
theorem ok47 : okFn Go.Proofs.Try.prog Go.Proofs.Try.f47 v47 s47 r47 3 = true := by kernel_rfl

/- 48: loop.example/g00476/spec.l3Num. Slots: n:0, :2 -/
def v48 : List Nat := [0, 2]
def r48 : List SRes := [.cell 1 4 true]
def s48 : SCode :=
  .seq (
   .reg [1005] [
       { k := .op (.mk 34 [(.int .i64 0), (.int .i64 0), (.str []), (.osl 0 34 0 [])]), dst := some 1 }]) (
   .seq (
    .reg [3, 4, 1007] [
        { k := .op (.mv (.slot 0)) }, 
        { k := .op (.build [(.int .i64 0), (.int .i64 0), (.str []), (.osl 0 34 0 [])] [(0, 1, (.con (.int .i64 1))), (1, 1, (.slot 2))]) }, 
        { k := .op (.store 4 true (.slot 1) (.slot 3)) }]) (
    .ret))
theorem ok48 : okFn Go.Proofs.Try.prog Go.Proofs.Try.f48 v48 s48 r48 1 = true := by kernel_rfl

/- 49: loop.example/g00476/laws.toExpS. Slots: a:0, :2, out:3, i:4, :11 -/
def v49 : List Nat := [0, 2, 3, 4, 11]
def r49 : List SRes := [.tmp 1]
def b49_0 : SCode :=
   .seq (
    .seq (
     .reg [8, 9, 10, 1026] [
         { k := .op (.mv (.slot 3)) }, 
         { k := .op (.mv (.slot 0)) }, 
         { k := .op (.len false (.slot 6)) }, 
         { k := .op (.bin .lss (.slot 5) (.slot 7)), dst := some 4 }]) (
     .cond (.slot 4) (
      .skip) (
      .exit 0))) (
    .seq (
     .block 1 (
      .reg [14, 15, 16, 17, 18, 19, 20, 21, 1031] [
          { k := .op (.mv (.slot 2)) }, 
          { k := .op (.mv (.slot 3)) }, 
          { k := .op (.mv (.slot 0)) }, 
          { k := .op (.mv (.slot 3)) }, 
          { k := .op (.iaddr 4 (.slot 7) (.slot 8)) }, 
          { k := .op (.load 4 true (.slot 9)) }, 
          { k := .call 22 [(.slot 10)] false }, 
          { k := .op (.iaddr 4 (.slot 5) (.slot 6)) }, 
          { k := .op (.store 4 true (.slot 12) (.slot 11)) }])) (
     .reg [12, 13, 1025] [
         { k := .op (.mv (.slot 3)) }, 
         { k := .op (.bin .add (.slot 5) (.con (.int .i64 1))) }, 
         { k := .op (.asg (.slot 6)), dst := some 3 }]))
def l49_0 : SCode := .loop b49_0
def s49 : SCode :=
  .seq (
   .reg [1023] [
       { k := .op (.asg (.con (.osl 0 34 0 []))), dst := some 1 }]) (
   .seq (
    .reg [5, 6, 7, 1026] [
        { k := .op (.mv (.slot 0)) }, 
        { k := .op (.len false (.slot 5)) }, 
        { k := .op (.mksl 34 [(.int .i64 0), (.int .i64 0), (.str []), (.osl 0 34 0 [])] (.slot 6) (.slot 6)) }, 
        { k := .op (.asg (.slot 7)), dst := some 2 }]) (
    .seq (
     .seq (
      .reg [1023] [
          { k := .op (.asg (.con (.int .i64 0))), dst := some 3 }]) (
      .block 0 (
       l49_0))) (
     .seq (
      .reg [22, 1024] [
          { k := .op (.mv (.slot 2)) }, 
          { k := .op (.asg (.slot 5)), dst := some 1 }]) (
      .ret))))
theorem ok49 : okFn Go.Proofs.Try.prog Go.Proofs.Try.f49 v49 s49 r49 1 = true := by kernel_rfl

/- 50: loop.example/g00476/impl.isTwo. Slots: k:0, :2 -/
def v50 : List Nat := [0, 2]
def r50 : List SRes := [.tmp 1]
def s50 : SCode :=
  .seq (
   .reg [1005] [
       { k := .op (.asg (.con (.bool false))), dst := some 1 }]) (
   .seq (
    .reg [3, 4, 1007] [
        { k := .op (.mv (.slot 0)) }, 
        { k := .call 36 [(.slot 2), (.con (.int .i64 4)), (.con (.int .i64 8))] false }, 
        { k := .op (.asg (.slot 3)), dst := some 1 }]) (
    .ret))
theorem ok50 : okFn Go.Proofs.Try.prog Go.Proofs.Try.f50 v50 s50 r50 1 = true := by kernel_rfl

/- 51: loop.example/g00476/impl.operate. Slots: k:0, a:1, b:2, :6, :7, :8, :13, :18, :23 -/
def v51 : List Nat := [0, 1, 2, 6, 7, 8, 13, 18, 23]
def r51 : List SRes := [.tmp 3]
def s51 : SCode :=
  .seq (
   .reg [1031] [
       { k := .op (.asg (.con (.int .i64 0))), dst := some 3 }]) (
   .seq (
    .seq (
     .reg [1031] [
         { k := .op (.asg (.slot 0)), dst := some 4 }]) (
     .block 0 (
      .seq (
       .reg [9, 1032] [
           { k := .op (.bin .eql (.slot 4) (.con (.int .i64 4))) }, 
           { k := .op (.asg (.slot 9)), dst := some 5 }]) (
       .cond (.slot 5) (
        .seq (
         .reg [10, 11, 12, 1034] [
             { k := .op (.mv (.slot 1)) }, 
             { k := .op (.mv (.slot 2)) }, 
             { k := .call 71 [(.slot 9), (.slot 10)] false }, 
             { k := .op (.asg (.slot 11)), dst := some 3 }]) (
         .ret)) (
        .seq (
         .reg [14, 1032] [
             { k := .op (.bin .eql (.slot 4) (.con (.int .i64 5))) }, 
             { k := .op (.asg (.slot 9)), dst := some 6 }]) (
         .cond (.slot 6) (
          .seq (
           .reg [15, 16, 17, 1034] [
               { k := .op (.mv (.slot 1)) }, 
               { k := .op (.mv (.slot 2)) }, 
               { k := .call 72 [(.slot 9), (.slot 10)] false }, 
               { k := .op (.asg (.slot 11)), dst := some 3 }]) (
           .ret)) (
          .seq (
           .reg [19, 1032] [
               { k := .op (.bin .eql (.slot 4) (.con (.int .i64 6))) }, 
               { k := .op (.asg (.slot 9)), dst := some 7 }]) (
           .cond (.slot 7) (
            .seq (
             .reg [20, 21, 22, 1034] [
                 { k := .op (.mv (.slot 1)) }, 
                 { k := .op (.mv (.slot 2)) }, 
                 { k := .call 73 [(.slot 9), (.slot 10)] false }, 
                 { k := .op (.asg (.slot 11)), dst := some 3 }]) (
             .ret)) (
            .seq (
             .reg [24, 1032] [
                 { k := .op (.bin .eql (.slot 4) (.con (.int .i64 7))) }, 
                 { k := .op (.asg (.slot 9)), dst := some 8 }]) (
             .cond (.slot 8) (
              .seq (
               .reg [25, 26, 27, 1034] [
                   { k := .op (.mv (.slot 1)) }, 
                   { k := .op (.mv (.slot 2)) }, 
                   { k := .op (.minmax false (.slot 9) (.slot 10)) }, 
                   { k := .op (.asg (.slot 11)), dst := some 3 }]) (
               .ret)) (
              .skip))))))))))) (
    .seq (
     .reg [28, 29, 30, 1034] [
         { k := .op (.mv (.slot 1)) }, 
         { k := .op (.mv (.slot 2)) }, 
         { k := .op (.minmax true (.slot 9) (.slot 10)) }, 
         { k := .op (.asg (.slot 11)), dst := some 3 }]) (
     .ret)))
theorem ok51 : okFn Go.Proofs.Try.prog Go.Proofs.Try.f51 v51 s51 r51 3 = true := by kernel_rfl

/- 52: loop.example/g00476/laws.eqExpS. Slots: a:0, b:1, :4, :10, i:5, :14, :26 -/
def v52 : List Nat := [0, 1, 4, 10, 5, 14, 26]
def r52 : List SRes := [.tmp 2]
def b52_0 : SCode :=
   .seq (
    .seq (
     .reg [11, 12, 13, 1030] [
         { k := .op (.mv (.slot 4)) }, 
         { k := .op (.mv (.slot 0)) }, 
         { k := .op (.len false (.slot 8)) }, 
         { k := .op (.bin .lss (.slot 7) (.slot 9)), dst := some 5 }]) (
     .cond (.slot 5) (
      .skip) (
      .exit 0))) (
    .seq (
     .block 1 (
      .seq (
       .dreg [17, 18, 19, 20, 21, 22, 23, 24, 25, 1036] [
           { k := .op (.mv (.slot 0)) }, 
           { k := .op (.mv (.slot 4)) }, 
           { k := .op (.iaddr 4 (.slot 7) (.slot 8)) }, 
           { k := .op (.load 4 true (.slot 9)) }, 
           { k := .op (.mv (.slot 1)) }, 
           { k := .op (.mv (.slot 4)) }, 
           { k := .op (.iaddr 4 (.slot 11) (.slot 12)) }, 
           { k := .op (.load 4 true (.slot 13)) }, 
           { k := .call 24 [(.slot 10), (.slot 14)] false }, 
           { k := .op (.not (.slot 15)), dst := some 6 }]
         [[], [], [0, 1], [0, 1, 2], [], [], [4, 5], [4, 5, 6], [0, 1, 2, 3, 4, 5, 6, 7], [0, 1, 2, 3, 4, 5, 6, 7, 8]] 9) (
       .cond (.slot 6) (
        .seq (
         .reg [1027] [
             { k := .op (.asg (.con (.bool false))), dst := some 2 }]) (
         .ret)) (
        .skip)))) (
     .reg [15, 16, 1029] [
         { k := .op (.mv (.slot 4)) }, 
         { k := .op (.bin .add (.slot 7) (.con (.int .i64 1))) }, 
         { k := .op (.asg (.slot 8)), dst := some 4 }]))
def l52_0 : SCode := .loop b52_0
def s52 : SCode :=
  .seq (
   .reg [1027] [
       { k := .op (.asg (.con (.bool false))), dst := some 2 }]) (
   .seq (
    .seq (
     .reg [6, 7, 8, 9, 1031] [
         { k := .op (.mv (.slot 0)) }, 
         { k := .op (.len false (.slot 7)) }, 
         { k := .op (.mv (.slot 1)) }, 
         { k := .op (.len false (.slot 9)) }, 
         { k := .op (.bin .neq (.slot 8) (.slot 10)), dst := some 3 }]) (
     .cond (.slot 3) (
      .seq (
       .reg [1027] [
           { k := .op (.asg (.con (.bool false))), dst := some 2 }]) (
       .ret)) (
      .skip))) (
    .seq (
     .seq (
      .reg [1027] [
          { k := .op (.asg (.con (.int .i64 0))), dst := some 4 }]) (
      .block 0 (
       l52_0))) (
     .seq (
      .reg [1027] [
          { k := .op (.asg (.con (.bool true))), dst := some 2 }]) (
      .ret))))
theorem ok52 : okFn Go.Proofs.Try.prog Go.Proofs.Try.f52 v52 s52 r52 2 = true := by kernel_rfl

/- 53: loop.example/g00476/laws.markExpS. Slots: a:0, k:1, :4, i:5, :9 -/
def v53 : List Nat := [0, 1, 4, 5, 9]
def r53 : List SRes := [.tmp 2]
def b53_0 : SCode :=
   .seq (
    .seq (
     .reg [6, 7, 8, 1045] [
         { k := .op (.mv (.slot 3)) }, 
         { k := .op (.mv (.slot 0)) }, 
         { k := .op (.len false (.slot 6)) }, 
         { k := .op (.bin .lss (.slot 5) (.slot 7)), dst := some 4 }]) (
     .cond (.slot 4) (
      .skip) (
      .exit 0))) (
    .seq (
     .block 1 (
      .seq (
       .reg [12, 13, 14, 15, 16, 1047] [
           { k := .op (.mv (.slot 0)) }, 
           { k := .op (.mv (.slot 3)) }, 
           { k := .op (.mv (.slot 1)) }, 
           { k := .op (.iaddr 4 (.slot 5) (.slot 6)) }, 
           { k := .op (.faddr 0 (.slot 8)) }, 
           { k := .op (.store 1 false (.slot 9) (.slot 7)) }]) (
       .seq (
        .reg [17, 18, 1044] [
            { k := .op (.mv (.slot 1)) }, 
            { k := .op (.bin .add (.slot 5) (.con (.int .i64 1))) }, 
            { k := .op (.asg (.slot 6)), dst := some 1 }]) (
        .seq (
         .reg [19, 20, 21, 22, 23, 1047] [
             { k := .op (.mv (.slot 0)) }, 
             { k := .op (.mv (.slot 3)) }, 
             { k := .op (.mv (.slot 1)) }, 
             { k := .op (.iaddr 4 (.slot 5) (.slot 6)) }, 
             { k := .op (.faddr 1 (.slot 8)) }, 
             { k := .op (.store 1 false (.slot 9) (.slot 7)) }]) (
         .seq (
          .reg [24, 25, 1044] [
              { k := .op (.mv (.slot 1)) }, 
              { k := .op (.bin .add (.slot 5) (.con (.int .i64 1))) }, 
              { k := .op (.asg (.slot 6)), dst := some 1 }]) (
          .seq (
           .reg [26, 27, 28, 29, 30, 31, 1048] [
               { k := .op (.mv (.slot 0)) }, 
               { k := .op (.mv (.slot 3)) }, 
               { k := .op (.mv (.slot 1)) }, 
               { k := .call 74 [(.slot 7)] false }, 
               { k := .op (.iaddr 4 (.slot 5) (.slot 6)) }, 
               { k := .op (.faddr 2 (.slot 9)) }, 
               { k := .op (.store 1 false (.slot 10) (.slot 8)) }]) (
           .seq (
            .reg [32, 33, 1044] [
                { k := .op (.mv (.slot 1)) }, 
                { k := .op (.bin .add (.slot 5) (.con (.int .i64 1))) }, 
                { k := .op (.asg (.slot 6)), dst := some 1 }]) (
            .reg [34, 35, 36, 37, 38, 39, 40, 1049] [
                { k := .op (.mv (.slot 0)) }, 
                { k := .op (.mv (.slot 3)) }, 
                { k := .op (.iaddr 4 (.slot 5) (.slot 6)) }, 
                { k := .op (.faddr 3 (.slot 7)) }, 
                { k := .op (.load 1 false (.slot 8)) }, 
                { k := .op (.mv (.slot 1)) }, 
                { k := .call 53 [(.slot 9), (.slot 10)] false }, 
                { k := .op (.asg (.slot 11)), dst := some 1 }])))))))) (
     .reg [10, 11, 1044] [
         { k := .op (.mv (.slot 3)) }, 
         { k := .op (.bin .add (.slot 5) (.con (.int .i64 1))) }, 
         { k := .op (.asg (.slot 6)), dst := some 3 }]))
def l53_0 : SCode := .loop b53_0
def s53 : SCode :=
  .seq (
   .reg [1042] [
       { k := .op (.asg (.con (.int .i64 0))), dst := some 2 }]) (
   .seq (
    .seq (
     .reg [1042] [
         { k := .op (.asg (.con (.int .i64 0))), dst := some 3 }]) (
     .block 0 (
      l53_0))) (
    .seq (
     .reg [41, 1043] [
         { k := .op (.mv (.slot 1)) }, 
         { k := .op (.asg (.slot 5)), dst := some 2 }]) (
     .ret)))
theorem ok53 : okFn Go.Proofs.Try.prog Go.Proofs.Try.f53 v53 s53 r53 2 = true := by kernel_rfl

/- 54: loop.example/g00476/laws.heldExpS. Slots: a:0, k:1, :4, i:5, :9, :18, :27, :37, :48 -/
def v54 : List Nat := [0, 1, 4, 5, 9, 18, 27, 37, 48]
def r54 : List SRes := [.tmp 2]
def b54_0 : SCode :=
   .seq (
    .seq (
     .reg [6, 7, 8, 1053] [
         { k := .op (.mv (.slot 3)) }, 
         { k := .op (.mv (.slot 0)) }, 
         { k := .op (.len false (.slot 10)) }, 
         { k := .op (.bin .lss (.slot 9) (.slot 11)), dst := some 4 }]) (
     .cond (.slot 4) (
      .skip) (
      .exit 0))) (
    .seq (
     .block 1 (
      .seq (
       .seq (
        .reg [12, 13, 14, 15, 16, 17, 1056] [
            { k := .op (.mv (.slot 0)) }, 
            { k := .op (.mv (.slot 3)) }, 
            { k := .op (.iaddr 4 (.slot 9) (.slot 10)) }, 
            { k := .op (.faddr 0 (.slot 11)) }, 
            { k := .op (.load 1 false (.slot 12)) }, 
            { k := .op (.mv (.slot 1)) }, 
            { k := .op (.bin .neq (.slot 13) (.slot 14)), dst := some 5 }]) (
        .cond (.slot 5) (
         .seq (
          .reg [1050] [
              { k := .op (.asg (.con (.int .i64 (-1)))), dst := some 2 }]) (
          .ret)) (
         .skip))) (
       .seq (
        .reg [19, 20, 1052] [
            { k := .op (.mv (.slot 1)) }, 
            { k := .op (.bin .add (.slot 9) (.con (.int .i64 1))) }, 
            { k := .op (.asg (.slot 10)), dst := some 1 }]) (
        .seq (
         .seq (
          .reg [21, 22, 23, 24, 25, 26, 1056] [
              { k := .op (.mv (.slot 0)) }, 
              { k := .op (.mv (.slot 3)) }, 
              { k := .op (.iaddr 4 (.slot 9) (.slot 10)) }, 
              { k := .op (.faddr 1 (.slot 11)) }, 
              { k := .op (.load 1 false (.slot 12)) }, 
              { k := .op (.mv (.slot 1)) }, 
              { k := .op (.bin .neq (.slot 13) (.slot 14)), dst := some 6 }]) (
          .cond (.slot 6) (
           .seq (
            .reg [1050] [
                { k := .op (.asg (.con (.int .i64 (-1)))), dst := some 2 }]) (
            .ret)) (
           .skip))) (
         .seq (
          .reg [28, 29, 1052] [
              { k := .op (.mv (.slot 1)) }, 
              { k := .op (.bin .add (.slot 9) (.con (.int .i64 1))) }, 
              { k := .op (.asg (.slot 10)), dst := some 1 }]) (
          .seq (
           .seq (
            .dreg [30, 31, 32, 33, 34, 35, 36, 1057] [
                { k := .op (.mv (.slot 0)) }, 
                { k := .op (.mv (.slot 3)) }, 
                { k := .op (.iaddr 4 (.slot 9) (.slot 10)) }, 
                { k := .op (.faddr 2 (.slot 11)) }, 
                { k := .op (.load 1 false (.slot 12)) }, 
                { k := .op (.mv (.slot 1)) }, 
                { k := .call 74 [(.slot 14)] false }, 
                { k := .op (.bin .neq (.slot 13) (.slot 15)), dst := some 7 }]
              [[], [], [0, 1], [0, 1, 2], [0, 1, 2, 3], [], [5], [0, 1, 2, 3, 4, 5, 6]] 7) (
            .cond (.slot 7) (
             .seq (
              .reg [1050] [
                  { k := .op (.asg (.con (.int .i64 (-1)))), dst := some 2 }]) (
              .ret)) (
             .skip))) (
           .seq (
            .reg [38, 39, 1052] [
                { k := .op (.mv (.slot 1)) }, 
                { k := .op (.bin .add (.slot 9) (.con (.int .i64 1))) }, 
                { k := .op (.asg (.slot 10)), dst := some 1 }]) (
            .seq (
             .reg [40, 41, 42, 43, 44, 45, 46, 1057] [
                 { k := .op (.mv (.slot 0)) }, 
                 { k := .op (.mv (.slot 3)) }, 
                 { k := .op (.iaddr 4 (.slot 9) (.slot 10)) }, 
                 { k := .op (.faddr 3 (.slot 11)) }, 
                 { k := .op (.load 1 false (.slot 12)) }, 
                 { k := .op (.mv (.slot 1)) }, 
                 { k := .call 54 [(.slot 13), (.slot 14)] false }, 
                 { k := .op (.asg (.slot 15)), dst := some 1 }]) (
             .seq (
              .reg [47, 1051] [
                  { k := .op (.mv (.slot 1)) }, 
                  { k := .op (.bin .lss (.slot 9) (.con (.int .i64 0))), dst := some 8 }]) (
              .cond (.slot 8) (
               .seq (
                .reg [1050] [
                    { k := .op (.asg (.con (.int .i64 (-1)))), dst := some 2 }]) (
                .ret)) (
               .skip))))))))))) (
     .reg [10, 11, 1052] [
         { k := .op (.mv (.slot 3)) }, 
         { k := .op (.bin .add (.slot 9) (.con (.int .i64 1))) }, 
         { k := .op (.asg (.slot 10)), dst := some 3 }]))
def l54_0 : SCode := .loop b54_0
def s54 : SCode :=
  .seq (
   .reg [1050] [
       { k := .op (.asg (.con (.int .i64 0))), dst := some 2 }]) (
   .seq (
    .seq (
     .reg [1050] [
         { k := .op (.asg (.con (.int .i64 0))), dst := some 3 }]) (
     .block 0 (
      l54_0))) (
    .seq (
     .reg [49, 1051] [
         { k := .op (.mv (.slot 1)) }, 
         { k := .op (.asg (.slot 9)), dst := some 2 }]) (
     .ret)))
theorem ok54 : okFn Go.Proofs.Try.prog Go.Proofs.Try.f54 v54 s54 r54 2 = true := by kernel_rfl

/- 55: loop.example/g00476/laws.szArrS. Slots: a:0, left:1, :4, :11, i:5, :15, :25 -/
def v55 : List Nat := [0, 1, 4, 11, 5, 15, 25]
def r55 : List SRes := [.tmp 2]
def b55_0 : SCode :=
   .seq (
    .seq (
     .reg [12, 13, 14, 1030] [
         { k := .op (.mv (.slot 4)) }, 
         { k := .op (.mv (.slot 0)) }, 
         { k := .op (.len false (.slot 8)) }, 
         { k := .op (.bin .lss (.slot 7) (.slot 9)), dst := some 5 }]) (
     .cond (.slot 5) (
      .skip) (
      .exit 0))) (
    .seq (
     .block 1 (
      .seq (
       .reg [18, 19, 20, 21, 22, 23, 1033] [
           { k := .op (.mv (.slot 0)) }, 
           { k := .op (.mv (.slot 4)) }, 
           { k := .op (.iaddr 2 (.slot 7) (.slot 8)) }, 
           { k := .op (.load 2 true (.slot 9)) }, 
           { k := .op (.mv (.slot 1)) }, 
           { k := .call 75 [(.slot 10), (.slot 11)] false }, 
           { k := .op (.asg (.slot 12)), dst := some 1 }]) (
       .seq (
        .reg [24, 1028] [
            { k := .op (.mv (.slot 1)) }, 
            { k := .op (.bin .lss (.slot 7) (.con (.int .i64 0))), dst := some 6 }]) (
        .cond (.slot 6) (
         .seq (
          .reg [1027] [
              { k := .op (.asg (.con (.int .i64 (-1)))), dst := some 2 }]) (
          .ret)) (
         .skip))))) (
     .reg [16, 17, 1029] [
         { k := .op (.mv (.slot 4)) }, 
         { k := .op (.bin .add (.slot 7) (.con (.int .i64 1))) }, 
         { k := .op (.asg (.slot 8)), dst := some 4 }]))
def l55_0 : SCode := .loop b55_0
def s55 : SCode :=
  .seq (
   .reg [1027] [
       { k := .op (.asg (.con (.int .i64 0))), dst := some 2 }]) (
   .seq (
    .reg [6, 7, 8, 9, 1031] [
        { k := .op (.mv (.slot 1)) }, 
        { k := .op (.mv (.slot 0)) }, 
        { k := .op (.len false (.slot 8)) }, 
        { k := .op (.bin .sub (.slot 7) (.slot 9)) }, 
        { k := .op (.asg (.slot 10)), dst := some 1 }]) (
    .seq (
     .seq (
      .reg [10, 1028] [
          { k := .op (.mv (.slot 1)) }, 
          { k := .op (.bin .lss (.slot 7) (.con (.int .i64 0))), dst := some 3 }]) (
      .cond (.slot 3) (
       .seq (
        .reg [1027] [
            { k := .op (.asg (.con (.int .i64 (-1)))), dst := some 2 }]) (
        .ret)) (
       .skip))) (
     .seq (
      .seq (
       .reg [1027] [
           { k := .op (.asg (.con (.int .i64 0))), dst := some 4 }]) (
       .block 0 (
        l55_0))) (
      .seq (
       .reg [26, 1028] [
           { k := .op (.mv (.slot 1)) }, 
           { k := .op (.asg (.slot 7)), dst := some 2 }]) (
       .ret)))))
theorem ok55 : okFn Go.Proofs.Try.prog Go.Proofs.Try.f55 v55 s55 r55 2 = true := by kernel_rfl

/- 56: loop.example/g00476/laws.szIntSS. Slots: a:0, left:1, :4, :11, i:5, :15, :25 -/
def v56 : List Nat := [0, 1, 4, 11, 5, 15, 25]
def r56 : List SRes := [.tmp 2]
def b56_0 : SCode :=
   .seq (
    .seq (
     .reg [12, 13, 14, 1030] [
         { k := .op (.mv (.slot 4)) }, 
         { k := .op (.mv (.slot 0)) }, 
         { k := .op (.len false (.slot 8)) }, 
         { k := .op (.bin .lss (.slot 7) (.slot 9)), dst := some 5 }]) (
     .cond (.slot 5) (
      .skip) (
      .exit 0))) (
    .seq (
     .block 1 (
      .seq (
       .reg [18, 19, 20, 21, 22, 23, 1033] [
           { k := .op (.mv (.slot 0)) }, 
           { k := .op (.mv (.slot 4)) }, 
           { k := .op (.iaddr 1 (.slot 7) (.slot 8)) }, 
           { k := .op (.load 1 false (.slot 9)) }, 
           { k := .op (.mv (.slot 1)) }, 
           { k := .call 40 [(.slot 10), (.slot 11)] false }, 
           { k := .op (.asg (.slot 12)), dst := some 1 }]) (
       .seq (
        .reg [24, 1028] [
            { k := .op (.mv (.slot 1)) }, 
            { k := .op (.bin .lss (.slot 7) (.con (.int .i64 0))), dst := some 6 }]) (
        .cond (.slot 6) (
         .seq (
          .reg [1027] [
              { k := .op (.asg (.con (.int .i64 (-1)))), dst := some 2 }]) (
          .ret)) (
         .skip))))) (
     .reg [16, 17, 1029] [
         { k := .op (.mv (.slot 4)) }, 
         { k := .op (.bin .add (.slot 7) (.con (.int .i64 1))) }, 
         { k := .op (.asg (.slot 8)), dst := some 4 }]))
def l56_0 : SCode := .loop b56_0
def s56 : SCode :=
  .seq (
   .reg [1027] [
       { k := .op (.asg (.con (.int .i64 0))), dst := some 2 }]) (
   .seq (
    .reg [6, 7, 8, 9, 1031] [
        { k := .op (.mv (.slot 1)) }, 
        { k := .op (.mv (.slot 0)) }, 
        { k := .op (.len false (.slot 8)) }, 
        { k := .op (.bin .sub (.slot 7) (.slot 9)) }, 
        { k := .op (.asg (.slot 10)), dst := some 1 }]) (
    .seq (
     .seq (
      .reg [10, 1028] [
          { k := .op (.mv (.slot 1)) }, 
          { k := .op (.bin .lss (.slot 7) (.con (.int .i64 0))), dst := some 3 }]) (
      .cond (.slot 3) (
       .seq (
        .reg [1027] [
            { k := .op (.asg (.con (.int .i64 (-1)))), dst := some 2 }]) (
        .ret)) (
       .skip))) (
     .seq (
      .seq (
       .reg [1027] [
           { k := .op (.asg (.con (.int .i64 0))), dst := some 4 }]) (
       .block 0 (
        l56_0))) (
      .seq (
       .reg [26, 1028] [
           { k := .op (.mv (.slot 1)) }, 
           { k := .op (.asg (.slot 7)), dst := some 2 }]) (
       .ret)))))
theorem ok56 : okFn Go.Proofs.Try.prog Go.Proofs.Try.f56 v56 s56 r56 2 = true := by kernel_rfl

/- 57: loop.example/g00476/spec.l7SameInts. Slots: a:0, b:1, :4, :10, i:5, :14, :25 -/
def v57 : List Nat := [0, 1, 4, 10, 5, 14, 25]
def r57 : List SRes := [.tmp 2]
def b57_0 : SCode :=
   .seq (
    .seq (
     .reg [11, 12, 13, 1029] [
         { k := .op (.mv (.slot 4)) }, 
         { k := .op (.mv (.slot 0)) }, 
         { k := .op (.len false (.slot 8)) }, 
         { k := .op (.bin .lss (.slot 7) (.slot 9)), dst := some 5 }]) (
     .cond (.slot 5) (
      .skip) (
      .exit 0))) (
    .seq (
     .block 1 (
      .seq (
       .dreg [17, 18, 19, 20, 21, 22, 23, 24, 1034] [
           { k := .op (.mv (.slot 0)) }, 
           { k := .op (.mv (.slot 4)) }, 
           { k := .op (.iaddr 1 (.slot 7) (.slot 8)) }, 
           { k := .op (.load 1 false (.slot 9)) }, 
           { k := .op (.mv (.slot 1)) }, 
           { k := .op (.mv (.slot 4)) }, 
           { k := .op (.iaddr 1 (.slot 11) (.slot 12)) }, 
           { k := .op (.load 1 false (.slot 13)) }, 
           { k := .op (.bin .neq (.slot 10) (.slot 14)), dst := some 6 }]
         [[], [], [0, 1], [0, 1, 2], [], [], [4, 5], [4, 5, 6], [0, 1, 2, 3, 4, 5, 6, 7]] 8) (
       .cond (.slot 6) (
        .seq (
         .reg [1026] [
             { k := .op (.asg (.con (.bool false))), dst := some 2 }]) (
         .ret)) (
        .skip)))) (
     .reg [15, 16, 1028] [
         { k := .op (.mv (.slot 4)) }, 
         { k := .op (.bin .add (.slot 7) (.con (.int .i64 1))) }, 
         { k := .op (.asg (.slot 8)), dst := some 4 }]))
def l57_0 : SCode := .loop b57_0
def s57 : SCode :=
  .seq (
   .reg [1026] [
       { k := .op (.asg (.con (.bool false))), dst := some 2 }]) (
   .seq (
    .seq (
     .reg [6, 7, 8, 9, 1030] [
         { k := .op (.mv (.slot 0)) }, 
         { k := .op (.len false (.slot 7)) }, 
         { k := .op (.mv (.slot 1)) }, 
         { k := .op (.len false (.slot 9)) }, 
         { k := .op (.bin .neq (.slot 8) (.slot 10)), dst := some 3 }]) (
     .cond (.slot 3) (
      .seq (
       .reg [1026] [
           { k := .op (.asg (.con (.bool false))), dst := some 2 }]) (
       .ret)) (
      .skip))) (
    .seq (
     .seq (
      .reg [1026] [
          { k := .op (.asg (.con (.int .i64 0))), dst := some 4 }]) (
      .block 0 (
       l57_0))) (
     .seq (
      .reg [1026] [
          { k := .op (.asg (.con (.bool true))), dst := some 2 }]) (
      .ret))))
theorem ok57 : okFn Go.Proofs.Try.prog Go.Proofs.Try.f57 v57 s57 r57 2 = true := by kernel_rfl

/- 58: loop.example/g00476/spec.SameSto. Slots: a:0, b:1, a:2, b:3, :4, :35, i:5, :40, :54 -/
def v58 : List Nat := [0, 1, 2, 3, 4, 35, 5, 40, 54]
def r58 : List SRes := [.tmp 4]
def b58_0 : SCode :=
   .seq (
    .seq (
     .reg [36, 37, 38, 39, 1059] [
         { k := .op (.mv (.slot 6)) }, 
         { k := .op (.faddr 0 (.slot 2)) }, 
         { k := .op (.load 1 false (.slot 10)) }, 
         { k := .op (.len false (.slot 11)) }, 
         { k := .op (.bin .lss (.slot 9) (.slot 12)), dst := some 7 }]) (
     .cond (.slot 7) (
      .skip) (
      .exit 0))) (
    .seq (
     .block 1 (
      .seq (
       .dreg [43, 44, 45, 46, 47, 48, 49, 50, 51, 52, 53, 1066] [
           { k := .op (.faddr 0 (.slot 2)) }, 
           { k := .op (.load 1 false (.slot 9)) }, 
           { k := .op (.mv (.slot 6)) }, 
           { k := .op (.iaddr 1 (.slot 10) (.slot 11)) }, 
           { k := .op (.load 1 false (.slot 12)) }, 
           { k := .op (.faddr 0 (.slot 3)) }, 
           { k := .op (.load 1 false (.slot 14)) }, 
           { k := .op (.mv (.slot 6)) }, 
           { k := .op (.iaddr 1 (.slot 15) (.slot 16)) }, 
           { k := .op (.load 1 false (.slot 17)) }, 
           { k := .call 57 [(.slot 13), (.slot 18)] false }, 
           { k := .op (.not (.slot 19)), dst := some 8 }]
         [[], [0], [], [0, 1, 2], [0, 1, 2, 3], [], [5], [], [5, 6, 7], [5, 6, 7, 8], [0, 1, 2, 3, 4, 5, 6, 7, 8, 9], [0, 1, 2, 3, 4, 5, 6, 7, 8, 9, 10]] 11) (
       .cond (.slot 8) (
        .seq (
         .reg [1055] [
             { k := .op (.asg (.con (.bool false))), dst := some 4 }]) (
         .ret)) (
        .skip)))) (
     .reg [41, 42, 1057] [
         { k := .op (.mv (.slot 6)) }, 
         { k := .op (.bin .add (.slot 9) (.con (.int .i64 1))) }, 
         { k := .op (.asg (.slot 10)), dst := some 6 }]))
def l58_0 : SCode := .loop b58_0
def s58 : SCode :=
  .seq (
   .reg [1055, 1056, 1057] [
       { k := .op (.box 72 4 (.slot 0)), dst := some 2 }, 
       { k := .op (.box 72 4 (.slot 1)), dst := some 3 }, 
       { k := .op (.asg (.con (.bool false))), dst := some 4 }]) (
   .seq (
    .seq (
     .reg [6, 7, 8, 9, 10, 11, 12, 13, 14, 15, 16, 17, 18, 19, 20, 21, 22, 23, 24, 25, 26, 27, 28, 29, 30, 31, 32, 33, 34, 1084] [
         { k := .op (.faddr 0 (.slot 2)) }, 
         { k := .op (.load 1 false (.slot 9)) }, 
         { k := .op (.len false (.slot 10)) }, 
         { k := .op (.faddr 0 (.slot 3)) }, 
         { k := .op (.load 1 false (.slot 12)) }, 
         { k := .op (.len false (.slot 13)) }, 
         { k := .op (.bin .neq (.slot 11) (.slot 14)) }, 
         { k := .op (.mv (.slot 15)) }, 
         { k := .op (.faddr 1 (.slot 2)), guard := some (16, false) }, 
         { k := .op (.load 1 false (.slot 17)), guard := some (16, false) }, 
         { k := .op (.faddr 1 (.slot 3)), guard := some (16, false) }, 
         { k := .op (.load 1 false (.slot 19)), guard := some (16, false) }, 
         { k := .call 57 [(.slot 18), (.slot 20)] false, guard := some (16, false) }, 
         { k := .op (.not (.slot 21)), guard := some (16, false) }, 
         { k := .op (.pick (.slot 16) (.con (.bool true)) (.slot 22)) }, 
         { k := .op (.mv (.slot 23)) }, 
         { k := .op (.faddr 2 (.slot 2)), guard := some (24, false) }, 
         { k := .op (.load 1 false (.slot 25)), guard := some (24, false) }, 
         { k := .op (.faddr 2 (.slot 3)), guard := some (24, false) }, 
         { k := .op (.load 1 false (.slot 27)), guard := some (24, false) }, 
         { k := .call 57 [(.slot 26), (.slot 28)] false, guard := some (24, false) }, 
         { k := .op (.not (.slot 29)), guard := some (24, false) }, 
         { k := .op (.pick (.slot 24) (.con (.bool true)) (.slot 30)) }, 
         { k := .op (.mv (.slot 31)) }, 
         { k := .op (.faddr 3 (.slot 2)), guard := some (32, false) }, 
         { k := .op (.load 1 false (.slot 33)), guard := some (32, false) }, 
         { k := .op (.faddr 3 (.slot 3)), guard := some (32, false) }, 
         { k := .op (.load 1 false (.slot 35)), guard := some (32, false) }, 
         { k := .op (.bin .neq (.slot 34) (.slot 36)), guard := some (32, false) }, 
         { k := .op (.pick (.slot 32) (.con (.bool true)) (.slot 37)), dst := some 5 }]) (
     .cond (.slot 5) (
      .seq (
       .reg [1055] [
           { k := .op (.asg (.con (.bool false))), dst := some 4 }]) (
       .ret)) (
      .skip))) (
    .seq (
     .seq (
      .reg [1055] [
          { k := .op (.asg (.con (.int .i64 0))), dst := some 6 }]) (
      .block 0 (
       l58_0))) (
     .seq (
      .reg [1055] [
          { k := .op (.asg (.con (.bool true))), dst := some 4 }]) (
      .ret))))
theorem ok58 : okFn Go.Proofs.Try.prog Go.Proofs.Try.f58 v58 s58 r58 2 = true := by kernel_rfl

/- 59: loop.example/g00476/laws.toArrS. Slots: a:0, :2, out:3, i:4, :11 -/
def v59 : List Nat := [0, 2, 3, 4, 11]
def r59 : List SRes := [.tmp 1]
def b59_0 : SCode :=
   .seq (
    .seq (
     .reg [8, 9, 10, 1026] [
         { k := .op (.mv (.slot 3)) }, 
         { k := .op (.mv (.slot 0)) }, 
         { k := .op (.len false (.slot 6)) }, 
         { k := .op (.bin .lss (.slot 5) (.slot 7)), dst := some 4 }]) (
     .cond (.slot 4) (
      .skip) (
      .exit 0))) (
    .seq (
     .block 1 (
      .reg [14, 15, 16, 17, 18, 19, 20, 21, 1031] [
          { k := .op (.mv (.slot 2)) }, 
          { k := .op (.mv (.slot 3)) }, 
          { k := .op (.mv (.slot 0)) }, 
          { k := .op (.mv (.slot 3)) }, 
          { k := .op (.iaddr 2 (.slot 7) (.slot 8)) }, 
          { k := .op (.load 2 true (.slot 9)) }, 
          { k := .call 76 [(.slot 10)] false }, 
          { k := .op (.iaddr 2 (.slot 5) (.slot 6)) }, 
          { k := .op (.store 2 false (.slot 12) (.slot 11)) }])) (
     .reg [12, 13, 1025] [
         { k := .op (.mv (.slot 3)) }, 
         { k := .op (.bin .add (.slot 5) (.con (.int .i64 1))) }, 
         { k := .op (.asg (.slot 6)), dst := some 3 }]))
def l59_0 : SCode := .loop b59_0
def s59 : SCode :=
  .seq (
   .reg [1023] [
       { k := .op (.asg (.con (.osl 0 114 0 []))), dst := some 1 }]) (
   .seq (
    .reg [5, 6, 7, 1026] [
        { k := .op (.mv (.slot 0)) }, 
        { k := .op (.len false (.slot 5)) }, 
        { k := .op (.mksl 114 [(.str []), (.int .i64 0)] (.slot 6) (.slot 6)) }, 
        { k := .op (.asg (.slot 7)), dst := some 2 }]) (
    .seq (
     .seq (
      .reg [1023] [
          { k := .op (.asg (.con (.int .i64 0))), dst := some 3 }]) (
      .block 0 (
       l59_0))) (
     .seq (
      .reg [22, 1024] [
          { k := .op (.mv (.slot 2)) }, 
          { k := .op (.asg (.slot 5)), dst := some 1 }]) (
      .ret))))
theorem ok59 : okFn Go.Proofs.Try.prog Go.Proofs.Try.f59 v59 s59 r59 1 = true := by kernel_rfl

/- 60: loop.example/g00476/laws.toIntSS. Slots: a:0, :2, out:3, i:4, :11 -/
def v60 : List Nat := [0, 2, 3, 4, 11]
def r60 : List SRes := [.tmp 1]
def b60_0 : SCode :=
   .seq (
    .seq (
     .reg [8, 9, 10, 1026] [
         { k := .op (.mv (.slot 3)) }, 
         { k := .op (.mv (.slot 0)) }, 
         { k := .op (.len false (.slot 6)) }, 
         { k := .op (.bin .lss (.slot 5) (.slot 7)), dst := some 4 }]) (
     .cond (.slot 4) (
      .skip) (
      .exit 0))) (
    .seq (
     .block 1 (
      .reg [14, 15, 16, 17, 18, 19, 20, 21, 1031] [
          { k := .op (.mv (.slot 2)) }, 
          { k := .op (.mv (.slot 3)) }, 
          { k := .op (.mv (.slot 0)) }, 
          { k := .op (.mv (.slot 3)) }, 
          { k := .op (.iaddr 1 (.slot 7) (.slot 8)) }, 
          { k := .op (.load 1 false (.slot 9)) }, 
          { k := .call 42 [(.slot 10)] false }, 
          { k := .op (.iaddr 1 (.slot 5) (.slot 6)) }, 
          { k := .op (.store 1 true (.slot 12) (.slot 11)) }])) (
     .reg [12, 13, 1025] [
         { k := .op (.mv (.slot 3)) }, 
         { k := .op (.bin .add (.slot 5) (.con (.int .i64 1))) }, 
         { k := .op (.asg (.slot 6)), dst := some 3 }]))
def l60_0 : SCode := .loop b60_0
def s60 : SCode :=
  .seq (
   .reg [1023] [
       { k := .op (.asg (.con (.osl 0 41 0 []))), dst := some 1 }]) (
   .seq (
    .reg [5, 6, 7, 1026] [
        { k := .op (.mv (.slot 0)) }, 
        { k := .op (.len false (.slot 5)) }, 
        { k := .op (.mksl 41 [(.osl 0 3 0 [])] (.slot 6) (.slot 6)) }, 
        { k := .op (.asg (.slot 7)), dst := some 2 }]) (
    .seq (
     .seq (
      .reg [1023] [
          { k := .op (.asg (.con (.int .i64 0))), dst := some 3 }]) (
      .block 0 (
       l60_0))) (
     .seq (
      .reg [22, 1024] [
          { k := .op (.mv (.slot 2)) }, 
          { k := .op (.asg (.slot 5)), dst := some 1 }]) (
      .ret))))
theorem ok60 : okFn Go.Proofs.Try.prog Go.Proofs.Try.f60 v60 s60 r60 1 = true := by kernel_rfl

/- 61: slices.Equal[[]int,int]. Slots: s1:0, s2:1, :4, :10, :12, :13, :14, i:5, :24 -/
def v61 : List Nat := [0, 1, 4, 10, 12, 13, 14, 5, 24]
def r61 : List SRes := [.tmp 2]
def b61_0 : SCode :=
   .seq (
    .reg [1026] [
        { k := .op (.bin .lss (.slot 5) (.slot 4)), dst := some 6 }]) (
    .seq (
     .cond (.slot 6) (
      .skip) (
      .exit 0)) (
     .seq (
      .block 1 (
       .seq (
        .reg [15, 1027] [
            { k := .op (.mv (.slot 5)) }, 
            { k := .op (.asg (.slot 9)), dst := some 7 }]) (
        .seq (
         .dreg [16, 17, 18, 19, 20, 21, 22, 23, 1034] [
             { k := .op (.mv (.slot 0)) }, 
             { k := .op (.mv (.slot 7)) }, 
             { k := .op (.iaddr 1 (.slot 9) (.slot 10)) }, 
             { k := .op (.load 1 false (.slot 11)) }, 
             { k := .op (.mv (.slot 1)) }, 
             { k := .op (.mv (.slot 7)) }, 
             { k := .op (.iaddr 1 (.slot 13) (.slot 14)) }, 
             { k := .op (.load 1 false (.slot 15)) }, 
             { k := .op (.bin .neq (.slot 12) (.slot 16)), dst := some 8 }]
           [[], [], [0, 1], [0, 1, 2], [], [], [4, 5], [4, 5, 6], [0, 1, 2, 3, 4, 5, 6, 7]] 8) (
         .cond (.slot 8) (
          .seq (
           .reg [1026] [
               { k := .op (.asg (.con (.bool false))), dst := some 2 }]) (
           .ret)) (
          .skip))))) (
      .reg [25, 1027] [
          { k := .op (.bin .add (.slot 5) (.con (.int .i64 1))) }, 
          { k := .op (.asg (.slot 9)), dst := some 5 }])))
def l61_0 : SCode := .loop b61_0
def s61 : SCode :=
  .seq (
   .reg [1026] [
       { k := .op (.asg (.con (.bool false))), dst := some 2 }]) (
   .seq (
    .seq (
     .reg [6, 7, 8, 9, 1030] [
         { k := .op (.mv (.slot 0)) }, 
         { k := .op (.len false (.slot 9)) }, 
         { k := .op (.mv (.slot 1)) }, 
         { k := .op (.len false (.slot 11)) }, 
         { k := .op (.bin .neq (.slot 10) (.slot 12)), dst := some 3 }]) (
     .cond (.slot 3) (
      .seq (
       .reg [1026] [
           { k := .op (.asg (.con (.bool false))), dst := some 2 }]) (
       .ret)) (
      .skip))) (
    .seq (
     .seq (
      .reg [11, 1027, 1028] [
          { k := .op (.mv (.slot 0)) }, 
          { k := .op (.len false (.slot 9)), dst := some 4 }, 
          { k := .op (.asg (.con (.int .i64 0))), dst := some 5 }]) (
      .block 0 (
       l61_0))) (
     .seq (
      .reg [1026] [
          { k := .op (.asg (.con (.bool true))), dst := some 2 }]) (
      .ret))))
theorem ok61 : okFn Go.Proofs.Try.prog Go.Proofs.Try.f61 v61 s61 r61 2 = true := by kernel_rfl

/- 62: loop.example/g00476/impl.SameSto. Slots: a:0, b:1, a:2, b:3, :4, :25 -/
def v62 : List Nat := [0, 1, 2, 3, 4, 25]
def r62 : List SRes := [.tmp 4]
def s62 : SCode :=
  .seq (
   .reg [1031, 1032, 1033] [
       { k := .op (.box 72 4 (.slot 0)), dst := some 2 }, 
       { k := .op (.box 72 4 (.slot 1)), dst := some 3 }, 
       { k := .op (.asg (.con (.bool false))), dst := some 4 }]) (
   .seq (
    .seq (
     .reg [5, 6, 7, 8, 9, 10, 11, 12, 13, 14, 15, 16, 17, 18, 19, 20, 21, 22, 23, 24, 1051] [
         { k := .op (.faddr 3 (.slot 2)) }, 
         { k := .op (.load 1 false (.slot 6)) }, 
         { k := .op (.faddr 3 (.slot 3)) }, 
         { k := .op (.load 1 false (.slot 8)) }, 
         { k := .op (.bin .neq (.slot 7) (.slot 9)) }, 
         { k := .op (.mv (.slot 10)) }, 
         { k := .op (.faddr 1 (.slot 2)), guard := some (11, false) }, 
         { k := .op (.load 1 false (.slot 12)), guard := some (11, false) }, 
         { k := .op (.faddr 1 (.slot 3)), guard := some (11, false) }, 
         { k := .op (.load 1 false (.slot 14)), guard := some (11, false) }, 
         { k := .call 61 [(.slot 13), (.slot 15)] false, guard := some (11, false) }, 
         { k := .op (.not (.slot 16)), guard := some (11, false) }, 
         { k := .op (.pick (.slot 11) (.con (.bool true)) (.slot 17)) }, 
         { k := .op (.mv (.slot 18)) }, 
         { k := .op (.faddr 2 (.slot 2)), guard := some (19, false) }, 
         { k := .op (.load 1 false (.slot 20)), guard := some (19, false) }, 
         { k := .op (.faddr 2 (.slot 3)), guard := some (19, false) }, 
         { k := .op (.load 1 false (.slot 22)), guard := some (19, false) }, 
         { k := .call 61 [(.slot 21), (.slot 23)] false, guard := some (19, false) }, 
         { k := .op (.not (.slot 24)), guard := some (19, false) }, 
         { k := .op (.pick (.slot 19) (.con (.bool true)) (.slot 25)), dst := some 5 }]) (
     .cond (.slot 5) (
      .seq (
       .reg [1031] [
           { k := .op (.asg (.con (.bool false))), dst := some 4 }]) (
       .ret)) (
      .skip))) (
    .seq (
     .reg [26, 27, 28, 29, 30, 1036] [
         { k := .op (.faddr 0 (.slot 2)) }, 
         { k := .op (.load 1 false (.slot 6)) }, 
         { k := .op (.faddr 0 (.slot 3)) }, 
         { k := .op (.load 1 false (.slot 8)) }, 
         { k := .call 77 [(.slot 7), (.slot 9), (.con (.fn 61 []))] false }, 
         { k := .op (.asg (.slot 10)), dst := some 4 }]) (
     .ret)))
theorem ok62 : okFn Go.Proofs.Try.prog Go.Proofs.Try.f62 v62 s62 r62 2 = true := by kernel_rfl

/- 63: loop.example/g00476/laws.eqArrS. Slots: a:0, b:1, :4, :10, i:5, :14, :26 -/
def v63 : List Nat := [0, 1, 4, 10, 5, 14, 26]
def r63 : List SRes := [.tmp 2]
def b63_0 : SCode :=
   .seq (
    .seq (
     .reg [11, 12, 13, 1030] [
         { k := .op (.mv (.slot 4)) }, 
         { k := .op (.mv (.slot 0)) }, 
         { k := .op (.len false (.slot 8)) }, 
         { k := .op (.bin .lss (.slot 7) (.slot 9)), dst := some 5 }]) (
     .cond (.slot 5) (
      .skip) (
      .exit 0))) (
    .seq (
     .block 1 (
      .seq (
       .dreg [17, 18, 19, 20, 21, 22, 23, 24, 25, 1036] [
           { k := .op (.mv (.slot 0)) }, 
           { k := .op (.mv (.slot 4)) }, 
           { k := .op (.iaddr 2 (.slot 7) (.slot 8)) }, 
           { k := .op (.load 2 true (.slot 9)) }, 
           { k := .op (.mv (.slot 1)) }, 
           { k := .op (.mv (.slot 4)) }, 
           { k := .op (.iaddr 2 (.slot 11) (.slot 12)) }, 
           { k := .op (.load 2 true (.slot 13)) }, 
           { k := .call 78 [(.slot 10), (.slot 14)] false }, 
           { k := .op (.not (.slot 15)), dst := some 6 }]
         [[], [], [0, 1], [0, 1, 2], [], [], [4, 5], [4, 5, 6], [0, 1, 2, 3, 4, 5, 6, 7], [0, 1, 2, 3, 4, 5, 6, 7, 8]] 9) (
       .cond (.slot 6) (
        .seq (
         .reg [1027] [
             { k := .op (.asg (.con (.bool false))), dst := some 2 }]) (
         .ret)) (
        .skip)))) (
     .reg [15, 16, 1029] [
         { k := .op (.mv (.slot 4)) }, 
         { k := .op (.bin .add (.slot 7) (.con (.int .i64 1))) }, 
         { k := .op (.asg (.slot 8)), dst := some 4 }]))
def l63_0 : SCode := .loop b63_0
def s63 : SCode :=
  .seq (
   .reg [1027] [
       { k := .op (.asg (.con (.bool false))), dst := some 2 }]) (
   .seq (
    .seq (
     .reg [6, 7, 8, 9, 1031] [
         { k := .op (.mv (.slot 0)) }, 
         { k := .op (.len false (.slot 7)) }, 
         { k := .op (.mv (.slot 1)) }, 
         { k := .op (.len false (.slot 9)) }, 
         { k := .op (.bin .neq (.slot 8) (.slot 10)), dst := some 3 }]) (
     .cond (.slot 3) (
      .seq (
       .reg [1027] [
           { k := .op (.asg (.con (.bool false))), dst := some 2 }]) (
       .ret)) (
      .skip))) (
    .seq (
     .seq (
      .reg [1027] [
          { k := .op (.asg (.con (.int .i64 0))), dst := some 4 }]) (
      .block 0 (
       l63_0))) (
     .seq (
      .reg [1027] [
          { k := .op (.asg (.con (.bool true))), dst := some 2 }]) (
      .ret))))
theorem ok63 : okFn Go.Proofs.Try.prog Go.Proofs.Try.f63 v63 s63 r63 2 = true := by kernel_rfl

/- 64: loop.example/g00476/laws.eqIntSS. Slots: a:0, b:1, :4, :10, i:5, :14, :26 -/
def v64 : List Nat := [0, 1, 4, 10, 5, 14, 26]
def r64 : List SRes := [.tmp 2]
def b64_0 : SCode :=
   .seq (
    .seq (
     .reg [11, 12, 13, 1030] [
         { k := .op (.mv (.slot 4)) }, 
         { k := .op (.mv (.slot 0)) }, 
         { k := .op (.len false (.slot 8)) }, 
         { k := .op (.bin .lss (.slot 7) (.slot 9)), dst := some 5 }]) (
     .cond (.slot 5) (
      .skip) (
      .exit 0))) (
    .seq (
     .block 1 (
      .seq (
       .dreg [17, 18, 19, 20, 21, 22, 23, 24, 25, 1036] [
           { k := .op (.mv (.slot 0)) }, 
           { k := .op (.mv (.slot 4)) }, 
           { k := .op (.iaddr 1 (.slot 7) (.slot 8)) }, 
           { k := .op (.load 1 false (.slot 9)) }, 
           { k := .op (.mv (.slot 1)) }, 
           { k := .op (.mv (.slot 4)) }, 
           { k := .op (.iaddr 1 (.slot 11) (.slot 12)) }, 
           { k := .op (.load 1 false (.slot 13)) }, 
           { k := .call 44 [(.slot 10), (.slot 14)] false }, 
           { k := .op (.not (.slot 15)), dst := some 6 }]
         [[], [], [0, 1], [0, 1, 2], [], [], [4, 5], [4, 5, 6], [0, 1, 2, 3, 4, 5, 6, 7], [0, 1, 2, 3, 4, 5, 6, 7, 8]] 9) (
       .cond (.slot 6) (
        .seq (
         .reg [1027] [
             { k := .op (.asg (.con (.bool false))), dst := some 2 }]) (
         .ret)) (
        .skip)))) (
     .reg [15, 16, 1029] [
         { k := .op (.mv (.slot 4)) }, 
         { k := .op (.bin .add (.slot 7) (.con (.int .i64 1))) }, 
         { k := .op (.asg (.slot 8)), dst := some 4 }]))
def l64_0 : SCode := .loop b64_0
def s64 : SCode :=
  .seq (
   .reg [1027] [
       { k := .op (.asg (.con (.bool false))), dst := some 2 }]) (
   .seq (
    .seq (
     .reg [6, 7, 8, 9, 1031] [
         { k := .op (.mv (.slot 0)) }, 
         { k := .op (.len false (.slot 7)) }, 
         { k := .op (.mv (.slot 1)) }, 
         { k := .op (.len false (.slot 9)) }, 
         { k := .op (.bin .neq (.slot 8) (.slot 10)), dst := some 3 }]) (
     .cond (.slot 3) (
      .seq (
       .reg [1027] [
           { k := .op (.asg (.con (.bool false))), dst := some 2 }]) (
       .ret)) (
      .skip))) (
    .seq (
     .seq (
      .reg [1027] [
          { k := .op (.asg (.con (.int .i64 0))), dst := some 4 }]) (
      .block 0 (
       l64_0))) (
     .seq (
      .reg [1027] [
          { k := .op (.asg (.con (.bool true))), dst := some 2 }]) (
      .ret))))
theorem ok64 : okFn Go.Proofs.Try.prog Go.Proofs.Try.f64 v64 s64 r64 2 = true := by kernel_rfl

/- 65: loop.example/g00476/laws.szHand. Slots: a:0, left:1, a:2, :4, :10, :16, :22 -/
def v65 : List Nat := [0, 1, 2, 4, 10, 16, 22]
def r65 : List SRes := [.tmp 3]
def s65 : SCode :=
  .seq (
   .reg [1024, 1025] [
       { k := .op (.box 107 6 (.slot 0)), dst := some 2 }, 
       { k := .op (.asg (.con (.int .i64 0))), dst := some 3 }]) (
   .seq (
    .reg [5, 6, 7, 8, 1028] [
        { k := .op (.faddr 1 (.slot 2)) }, 
        { k := .op (.load 1 false (.slot 7)) }, 
        { k := .op (.mv (.slot 1)) }, 
        { k := .call 40 [(.slot 8), (.slot 9)] false }, 
        { k := .op (.asg (.slot 10)), dst := some 1 }]) (
    .seq (
     .seq (
      .reg [9, 1025] [
          { k := .op (.mv (.slot 1)) }, 
          { k := .op (.bin .lss (.slot 7) (.con (.int .i64 0))), dst := some 4 }]) (
      .cond (.slot 4) (
       .seq (
        .reg [1024] [
            { k := .op (.asg (.con (.int .i64 (-1)))), dst := some 3 }]) (
        .ret)) (
       .skip))) (
     .seq (
      .reg [11, 12, 13, 14, 1028] [
          { k := .op (.faddr 2 (.slot 2)) }, 
          { k := .op (.load 1 false (.slot 7)) }, 
          { k := .op (.mv (.slot 1)) }, 
          { k := .call 40 [(.slot 8), (.slot 9)] false }, 
          { k := .op (.asg (.slot 10)), dst := some 1 }]) (
      .seq (
       .seq (
        .reg [15, 1025] [
            { k := .op (.mv (.slot 1)) }, 
            { k := .op (.bin .lss (.slot 7) (.con (.int .i64 0))), dst := some 5 }]) (
        .cond (.slot 5) (
         .seq (
          .reg [1024] [
              { k := .op (.asg (.con (.int .i64 (-1)))), dst := some 3 }]) (
          .ret)) (
         .skip))) (
       .seq (
        .reg [17, 18, 19, 20, 1028] [
            { k := .op (.faddr 3 (.slot 2)) }, 
            { k := .op (.load 1 false (.slot 7)) }, 
            { k := .op (.mv (.slot 1)) }, 
            { k := .call 79 [(.slot 8), (.slot 9)] false }, 
            { k := .op (.asg (.slot 10)), dst := some 1 }]) (
        .seq (
         .seq (
          .reg [21, 1025] [
              { k := .op (.mv (.slot 1)) }, 
              { k := .op (.bin .lss (.slot 7) (.con (.int .i64 0))), dst := some 6 }]) (
          .cond (.slot 6) (
           .seq (
            .reg [1024] [
                { k := .op (.asg (.con (.int .i64 (-1)))), dst := some 3 }]) (
            .ret)) (
           .skip))) (
         .seq (
          .reg [23, 1025] [
              { k := .op (.mv (.slot 1)) }, 
              { k := .op (.asg (.slot 7)), dst := some 3 }]) (
          .ret))))))))
theorem ok65 : okFn Go.Proofs.Try.prog Go.Proofs.Try.f65 v65 s65 r65 2 = true := by kernel_rfl

/- 66: loop.example/g00476/laws.toHand. Slots: a:0, a:1, :2, out:3 -/
def v66 : List Nat := [0, 1, 2, 3]
def r66 : List SRes := [.cell 2 6 true]
def s66 : SCode :=
  .seq (
   .reg [1026, 1027] [
       { k := .op (.box 107 6 (.slot 0)), dst := some 1 }, 
       { k := .op (.mk 87 [(.int .i64 0), (.osl 0 3 0 []), (.osl 0 3 0 []), (.osl 0 124 0 []), (.bool false), (.bool false)]), dst := some 2 }]) (
   .seq (
    .reg [1026] [
        { k := .op (.mk 87 [(.int .i64 0), (.osl 0 3 0 []), (.osl 0 3 0 []), (.osl 0 124 0 []), (.bool false), (.bool false)]), dst := some 3 }]) (
    .seq (
     .reg [4, 5, 6, 1029] [
         { k := .op (.faddr 0 (.slot 1)) }, 
         { k := .op (.load 1 false (.slot 4)) }, 
         { k := .op (.faddr 0 (.slot 3)) }, 
         { k := .op (.store 1 false (.slot 6) (.slot 5)) }]) (
     .seq (
      .reg [7, 8, 9, 10, 1030] [
          { k := .op (.faddr 1 (.slot 1)) }, 
          { k := .op (.load 1 false (.slot 4)) }, 
          { k := .call 42 [(.slot 5)] false }, 
          { k := .op (.faddr 1 (.slot 3)) }, 
          { k := .op (.store 1 true (.slot 7) (.slot 6)) }]) (
      .seq (
       .reg [11, 12, 13, 14, 1030] [
           { k := .op (.faddr 2 (.slot 1)) }, 
           { k := .op (.load 1 false (.slot 4)) }, 
           { k := .call 42 [(.slot 5)] false }, 
           { k := .op (.faddr 2 (.slot 3)) }, 
           { k := .op (.store 1 true (.slot 7) (.slot 6)) }]) (
       .seq (
        .reg [15, 16, 17, 18, 1030] [
            { k := .op (.faddr 3 (.slot 1)) }, 
            { k := .op (.load 1 false (.slot 4)) }, 
            { k := .call 80 [(.slot 5)] false }, 
            { k := .op (.faddr 3 (.slot 3)) }, 
            { k := .op (.store 1 true (.slot 7) (.slot 6)) }]) (
        .seq (
         .reg [19, 20, 21, 1029] [
             { k := .op (.faddr 4 (.slot 1)) }, 
             { k := .op (.load 1 false (.slot 4)) }, 
             { k := .op (.faddr 4 (.slot 3)) }, 
             { k := .op (.store 1 false (.slot 6) (.slot 5)) }]) (
         .seq (
          .reg [22, 23, 24, 1029] [
              { k := .op (.faddr 5 (.slot 1)) }, 
              { k := .op (.load 1 false (.slot 4)) }, 
              { k := .op (.faddr 5 (.slot 3)) }, 
              { k := .op (.store 1 false (.slot 6) (.slot 5)) }]) (
          .seq (
           .reg [25, 1027] [
               { k := .op (.load 6 true (.slot 3)) }, 
               { k := .op (.store 6 true (.slot 2) (.slot 4)) }]) (
           .ret)))))))))
theorem ok66 : okFn Go.Proofs.Try.prog Go.Proofs.Try.f66 v66 s66 r66 1 = true := by kernel_rfl

/- 67: loop.example/g00476/laws.eqHand. Slots: a:0, b:1, a:2, b:3, :4, :9, :15, :21, :27, :32, :37 -/
def v67 : List Nat := [0, 1, 2, 3, 4, 9, 15, 21, 27, 32, 37]
def r67 : List SRes := [.tmp 4]
def s67 : SCode :=
  .seq (
   .reg [1038, 1039, 1040] [
       { k := .op (.box 87 6 (.slot 0)), dst := some 2 }, 
       { k := .op (.box 87 6 (.slot 1)), dst := some 3 }, 
       { k := .op (.asg (.con (.bool false))), dst := some 4 }]) (
   .seq (
    .seq (
     .reg [5, 6, 7, 8, 1042] [
         { k := .op (.faddr 0 (.slot 2)) }, 
         { k := .op (.load 1 false (.slot 11)) }, 
         { k := .op (.faddr 0 (.slot 3)) }, 
         { k := .op (.load 1 false (.slot 13)) }, 
         { k := .op (.bin .neq (.slot 12) (.slot 14)), dst := some 5 }]) (
     .cond (.slot 5) (
      .seq (
       .reg [1038] [
           { k := .op (.asg (.con (.bool false))), dst := some 4 }]) (
       .ret)) (
      .skip))) (
    .seq (
     .seq (
      .reg [10, 11, 12, 13, 14, 1043] [
          { k := .op (.faddr 1 (.slot 2)) }, 
          { k := .op (.load 1 false (.slot 11)) }, 
          { k := .op (.faddr 1 (.slot 3)) }, 
          { k := .op (.load 1 false (.slot 13)) }, 
          { k := .call 44 [(.slot 12), (.slot 14)] false }, 
          { k := .op (.not (.slot 15)), dst := some 6 }]) (
      .cond (.slot 6) (
       .seq (
        .reg [1038] [
            { k := .op (.asg (.con (.bool false))), dst := some 4 }]) (
        .ret)) (
       .skip))) (
     .seq (
      .seq (
       .reg [16, 17, 18, 19, 20, 1043] [
           { k := .op (.faddr 2 (.slot 2)) }, 
           { k := .op (.load 1 false (.slot 11)) }, 
           { k := .op (.faddr 2 (.slot 3)) }, 
           { k := .op (.load 1 false (.slot 13)) }, 
           { k := .call 44 [(.slot 12), (.slot 14)] false }, 
           { k := .op (.not (.slot 15)), dst := some 7 }]) (
       .cond (.slot 7) (
        .seq (
         .reg [1038] [
             { k := .op (.asg (.con (.bool false))), dst := some 4 }]) (
         .ret)) (
        .skip))) (
      .seq (
       .seq (
        .reg [22, 23, 24, 25, 26, 1043] [
            { k := .op (.faddr 3 (.slot 2)) }, 
            { k := .op (.load 1 false (.slot 11)) }, 
            { k := .op (.faddr 3 (.slot 3)) }, 
            { k := .op (.load 1 false (.slot 13)) }, 
            { k := .call 81 [(.slot 12), (.slot 14)] false }, 
            { k := .op (.not (.slot 15)), dst := some 8 }]) (
        .cond (.slot 8) (
         .seq (
          .reg [1038] [
              { k := .op (.asg (.con (.bool false))), dst := some 4 }]) (
          .ret)) (
         .skip))) (
       .seq (
        .seq (
         .reg [28, 29, 30, 31, 1042] [
             { k := .op (.faddr 4 (.slot 2)) }, 
             { k := .op (.load 1 false (.slot 11)) }, 
             { k := .op (.faddr 4 (.slot 3)) }, 
             { k := .op (.load 1 false (.slot 13)) }, 
             { k := .op (.beq true (.slot 12) (.slot 14)), dst := some 9 }]) (
         .cond (.slot 9) (
          .seq (
           .reg [1038] [
               { k := .op (.asg (.con (.bool false))), dst := some 4 }]) (
           .ret)) (
          .skip))) (
        .seq (
         .seq (
          .reg [33, 34, 35, 36, 1042] [
              { k := .op (.faddr 5 (.slot 2)) }, 
              { k := .op (.load 1 false (.slot 11)) }, 
              { k := .op (.faddr 5 (.slot 3)) }, 
              { k := .op (.load 1 false (.slot 13)) }, 
              { k := .op (.beq true (.slot 12) (.slot 14)), dst := some 10 }]) (
          .cond (.slot 10) (
           .seq (
            .reg [1038] [
                { k := .op (.asg (.con (.bool false))), dst := some 4 }]) (
            .ret)) (
           .skip))) (
         .seq (
          .reg [1038] [
              { k := .op (.asg (.con (.bool true))), dst := some 4 }]) (
          .ret))))))))
theorem ok67 : okFn Go.Proofs.Try.prog Go.Proofs.Try.f67 v67 s67 r67 2 = true := by kernel_rfl

/- 68: loop.example/g00476/spec.AddW. Slots: a:0, b:1, :4 -/
def v68 : List Nat := [0, 1, 4]
def r68 : List SRes := [.tmp 2]
def s68 : SCode :=
  .seq (
   .reg [1011] [
       { k := .op (.asg (.con (.int .i64 0))), dst := some 2 }]) (
   .seq (
    .reg [5, 6, 7, 8, 9, 10, 1017] [
        { k := .op (.mv (.slot 0)) }, 
        { k := .call 82 [(.slot 3)] false }, 
        { k := .op (.mv (.slot 1)) }, 
        { k := .call 82 [(.slot 5)] false }, 
        { k := .op (.bin .add (.slot 4) (.slot 6)) }, 
        { k := .call 82 [(.slot 7)] false }, 
        { k := .op (.asg (.slot 8)), dst := some 2 }]) (
    .ret))
theorem ok68 : okFn Go.Proofs.Try.prog Go.Proofs.Try.f68 v68 s68 r68 2 = true := by kernel_rfl

/- 69: loop.example/g00476/spec.SubW. Slots: a:0, b:1, :4 -/
def v69 : List Nat := [0, 1, 4]
def r69 : List SRes := [.tmp 2]
def s69 : SCode :=
  .seq (
   .reg [1011] [
       { k := .op (.asg (.con (.int .i64 0))), dst := some 2 }]) (
   .seq (
    .reg [5, 6, 7, 8, 9, 10, 1017] [
        { k := .op (.mv (.slot 0)) }, 
        { k := .call 82 [(.slot 3)] false }, 
        { k := .op (.mv (.slot 1)) }, 
        { k := .call 82 [(.slot 5)] false }, 
        { k := .op (.bin .sub (.slot 4) (.slot 6)) }, 
        { k := .call 82 [(.slot 7)] false }, 
        { k := .op (.asg (.slot 8)), dst := some 2 }]) (
    .ret))
theorem ok69 : okFn Go.Proofs.Try.prog Go.Proofs.Try.f69 v69 s69 r69 2 = true := by kernel_rfl

/- 70: loop.example/g00476/spec.MulW. Slots: a:0, b:1, :4 -/
def v70 : List Nat := [0, 1, 4]
def r70 : List SRes := [.tmp 2]
def s70 : SCode :=
  .seq (
   .reg [1011] [
       { k := .op (.asg (.con (.int .i64 0))), dst := some 2 }]) (
   .seq (
    .reg [5, 6, 7, 8, 9, 10, 1017] [
        { k := .op (.mv (.slot 0)) }, 
        { k := .call 82 [(.slot 3)] false }, 
        { k := .op (.mv (.slot 1)) }, 
        { k := .call 82 [(.slot 5)] false }, 
        { k := .op (.bin .mul (.slot 4) (.slot 6)) }, 
        { k := .call 82 [(.slot 7)] false }, 
        { k := .op (.asg (.slot 8)), dst := some 2 }]) (
    .ret))
theorem ok70 : okFn Go.Proofs.Try.prog Go.Proofs.Try.f70 v70 s70 r70 2 = true := by kernel_rfl

/- 71: loop.example/g00476/impl.AddW. Slots: a:0, b:1, :4 -/
def v71 : List Nat := [0, 1, 4]
def r71 : List SRes := [.tmp 2]
def s71 : SCode :=
  .seq (
   .reg [1011] [
       { k := .op (.asg (.con (.int .i64 0))), dst := some 2 }]) (
   .seq (
    .reg [5, 6, 7, 8, 9, 10, 1017] [
        { k := .op (.mv (.slot 0)) }, 
        { k := .call 83 [(.slot 3)] false }, 
        { k := .op (.mv (.slot 1)) }, 
        { k := .call 83 [(.slot 5)] false }, 
        { k := .op (.bin .add (.slot 4) (.slot 6)) }, 
        { k := .call 83 [(.slot 7)] false }, 
        { k := .op (.asg (.slot 8)), dst := some 2 }]) (
    .ret))
theorem ok71 : okFn Go.Proofs.Try.prog Go.Proofs.Try.f71 v71 s71 r71 2 = true := by kernel_rfl

/- 72: loop.example/g00476/impl.SubW. Slots: a:0, b:1, :4 -/
def v72 : List Nat := [0, 1, 4]
def r72 : List SRes := [.tmp 2]
def s72 : SCode :=
  .seq (
   .reg [1011] [
       { k := .op (.asg (.con (.int .i64 0))), dst := some 2 }]) (
   .seq (
    .reg [5, 6, 7, 8, 9, 10, 1017] [
        { k := .op (.mv (.slot 0)) }, 
        { k := .call 83 [(.slot 3)] false }, 
        { k := .op (.mv (.slot 1)) }, 
        { k := .call 83 [(.slot 5)] false }, 
        { k := .op (.bin .sub (.slot 4) (.slot 6)) }, 
        { k := .call 83 [(.slot 7)] false }, 
        { k := .op (.asg (.slot 8)), dst := some 2 }]) (
    .ret))
theorem ok72 : okFn Go.Proofs.Try.prog Go.Proofs.Try.f72 v72 s72 r72 2 = true := by kernel_rfl

/- 73: loop.example/g00476/impl.MulW. Slots: a:0, b:1, :4 -/
def v73 : List Nat := [0, 1, 4]
def r73 : List SRes := [.tmp 2]
def s73 : SCode :=
  .seq (
   .reg [1011] [
       { k := .op (.asg (.con (.int .i64 0))), dst := some 2 }]) (
   .seq (
    .reg [5, 6, 7, 8, 9, 10, 1017] [
        { k := .op (.mv (.slot 0)) }, 
        { k := .call 83 [(.slot 3)] false }, 
        { k := .op (.mv (.slot 1)) }, 
        { k := .call 83 [(.slot 5)] false }, 
        { k := .op (.bin .mul (.slot 4) (.slot 6)) }, 
        { k := .call 83 [(.slot 7)] false }, 
        { k := .op (.asg (.slot 8)), dst := some 2 }]) (
    .ret))
theorem ok73 : okFn Go.Proofs.Try.prog Go.Proofs.Try.f73 v73 s73 r73 2 = true := by kernel_rfl

-- 74: loop.example/g00476/laws.markText: NOT COVERED: convert (op 5 at exact.go:124)

/- 75: loop.example/g00476/laws.szArr. Slots: a:0, left:1, a:2, :4, :11 -/
def v75 : List Nat := [0, 1, 2, 4, 11]
def r75 : List SRes := [.tmp 3]
def s75 : SCode :=
  .seq (
   .reg [1013, 1014] [
       { k := .op (.box 113 2 (.slot 0)), dst := some 2 }, 
       { k := .op (.asg (.con (.int .i64 0))), dst := some 3 }]) (
   .seq (
    .reg [5, 6, 7, 8, 9, 1018] [
        { k := .op (.mv (.slot 1)) }, 
        { k := .op (.faddr 0 (.slot 2)) }, 
        { k := .op (.load 1 false (.slot 6)) }, 
        { k := .op (.len true (.slot 7)) }, 
        { k := .op (.bin .sub (.slot 5) (.slot 8)) }, 
        { k := .op (.asg (.slot 9)), dst := some 1 }]) (
    .seq (
     .seq (
      .reg [10, 1014] [
          { k := .op (.mv (.slot 1)) }, 
          { k := .op (.bin .lss (.slot 5) (.con (.int .i64 0))), dst := some 4 }]) (
      .cond (.slot 4) (
       .seq (
        .reg [1013] [
            { k := .op (.asg (.con (.int .i64 (-1)))), dst := some 3 }]) (
        .ret)) (
       .skip))) (
     .seq (
      .reg [12, 1014] [
          { k := .op (.mv (.slot 1)) }, 
          { k := .op (.asg (.slot 5)), dst := some 3 }]) (
      .ret))))
theorem ok75 : okFn Go.Proofs.Try.prog Go.Proofs.Try.f75 v75 s75 r75 2 = true := by kernel_rfl

/- 76: loop.example/g00476/laws.toArr. Slots: a:0, a:1, :2, out:3 -/
def v76 : List Nat := [0, 1, 2, 3]
def r76 : List SRes := [.cell 2 2 true]
def s76 : SCode :=
  .seq (
   .reg [1011, 1012] [
       { k := .op (.box 113 2 (.slot 0)), dst := some 1 }, 
       { k := .op (.mk 114 [(.str []), (.int .i64 0)]), dst := some 2 }]) (
   .seq (
    .reg [1011] [
        { k := .op (.mk 114 [(.str []), (.int .i64 0)]), dst := some 3 }]) (
    .seq (
     .reg [4, 5, 6, 1014] [
         { k := .op (.faddr 0 (.slot 1)) }, 
         { k := .op (.load 1 false (.slot 4)) }, 
         { k := .op (.faddr 0 (.slot 3)) }, 
         { k := .op (.store 1 false (.slot 6) (.slot 5)) }]) (
     .seq (
      .reg [7, 8, 9, 1014] [
          { k := .op (.faddr 1 (.slot 1)) }, 
          { k := .op (.load 1 false (.slot 4)) }, 
          { k := .op (.faddr 1 (.slot 3)) }, 
          { k := .op (.store 1 false (.slot 6) (.slot 5)) }]) (
      .seq (
       .reg [10, 1012] [
           { k := .op (.load 2 true (.slot 3)) }, 
           { k := .op (.store 2 false (.slot 2) (.slot 4)) }]) (
       .ret)))))
theorem ok76 : okFn Go.Proofs.Try.prog Go.Proofs.Try.f76 v76 s76 r76 1 = true := by kernel_rfl

-- 77: slices.EqualFunc[[][]int,[][]int,[]int,[]int]: NOT COVERED: call of a value (op 3 at slices.go:43)

/- 78: loop.example/g00476/laws.eqArr. Slots: a:0, b:1, a:2, b:3, :4, :9, :14 -/
def v78 : List Nat := [0, 1, 2, 3, 4, 9, 14]
def r78 : List SRes := [.tmp 4]
def s78 : SCode :=
  .seq (
   .reg [1015, 1016, 1017] [
       { k := .op (.box 114 2 (.slot 0)), dst := some 2 }, 
       { k := .op (.box 114 2 (.slot 1)), dst := some 3 }, 
       { k := .op (.asg (.con (.bool false))), dst := some 4 }]) (
   .seq (
    .seq (
     .reg [5, 6, 7, 8, 1019] [
         { k := .op (.faddr 0 (.slot 2)) }, 
         { k := .op (.load 1 false (.slot 7)) }, 
         { k := .op (.faddr 0 (.slot 3)) }, 
         { k := .op (.load 1 false (.slot 9)) }, 
         { k := .op (.bin .neq (.slot 8) (.slot 10)), dst := some 5 }]) (
     .cond (.slot 5) (
      .seq (
       .reg [1015] [
           { k := .op (.asg (.con (.bool false))), dst := some 4 }]) (
       .ret)) (
      .skip))) (
    .seq (
     .seq (
      .reg [10, 11, 12, 13, 1019] [
          { k := .op (.faddr 1 (.slot 2)) }, 
          { k := .op (.load 1 false (.slot 7)) }, 
          { k := .op (.faddr 1 (.slot 3)) }, 
          { k := .op (.load 1 false (.slot 9)) }, 
          { k := .op (.bin .neq (.slot 8) (.slot 10)), dst := some 6 }]) (
      .cond (.slot 6) (
       .seq (
        .reg [1015] [
            { k := .op (.asg (.con (.bool false))), dst := some 4 }]) (
        .ret)) (
       .skip))) (
     .seq (
      .reg [1015] [
          { k := .op (.asg (.con (.bool true))), dst := some 4 }]) (
      .ret))))
theorem ok78 : okFn Go.Proofs.Try.prog Go.Proofs.Try.f78 v78 s78 r78 2 = true := by kernel_rfl

/- 79: loop.example/g00476/laws.szPutS. Slots: a:0, left:1, :4, :10 -/
def v79 : List Nat := [0, 1, 4, 10]
def r79 : List SRes := [.tmp 2]
def s79 : SCode :=
  .seq (
   .reg [1012] [
       { k := .op (.asg (.con (.int .i64 0))), dst := some 2 }]) (
   .seq (
    .reg [5, 6, 7, 8, 1016] [
        { k := .op (.mv (.slot 1)) }, 
        { k := .op (.mv (.slot 0)) }, 
        { k := .op (.len false (.slot 5)) }, 
        { k := .op (.bin .sub (.slot 4) (.slot 6)) }, 
        { k := .op (.asg (.slot 7)), dst := some 1 }]) (
    .seq (
     .seq (
      .reg [9, 1013] [
          { k := .op (.mv (.slot 1)) }, 
          { k := .op (.bin .lss (.slot 4) (.con (.int .i64 0))), dst := some 3 }]) (
      .cond (.slot 3) (
       .seq (
        .reg [1012] [
            { k := .op (.asg (.con (.int .i64 (-1)))), dst := some 2 }]) (
        .ret)) (
       .skip))) (
     .seq (
      .reg [11, 1013] [
          { k := .op (.mv (.slot 1)) }, 
          { k := .op (.asg (.slot 4)), dst := some 2 }]) (
      .ret))))
theorem ok79 : okFn Go.Proofs.Try.prog Go.Proofs.Try.f79 v79 s79 r79 2 = true := by kernel_rfl

/- 80: loop.example/g00476/laws.toPutS. Slots: a:0, :2, out:3, i:4, :11 -/
def v80 : List Nat := [0, 2, 3, 4, 11]
def r80 : List SRes := [.tmp 1]
def b80_0 : SCode :=
   .seq (
    .seq (
     .reg [8, 9, 10, 1026] [
         { k := .op (.mv (.slot 3)) }, 
         { k := .op (.mv (.slot 0)) }, 
         { k := .op (.len false (.slot 6)) }, 
         { k := .op (.bin .lss (.slot 5) (.slot 7)), dst := some 4 }]) (
     .cond (.slot 4) (
      .skip) (
      .exit 0))) (
    .seq (
     .block 1 (
      .reg [14, 15, 16, 17, 18, 19, 20, 21, 1031] [
          { k := .op (.mv (.slot 2)) }, 
          { k := .op (.mv (.slot 3)) }, 
          { k := .op (.mv (.slot 0)) }, 
          { k := .op (.mv (.slot 3)) }, 
          { k := .op (.iaddr 2 (.slot 7) (.slot 8)) }, 
          { k := .op (.load 2 true (.slot 9)) }, 
          { k := .call 84 [(.slot 10)] false }, 
          { k := .op (.iaddr 2 (.slot 5) (.slot 6)) }, 
          { k := .op (.store 2 false (.slot 12) (.slot 11)) }])) (
     .reg [12, 13, 1025] [
         { k := .op (.mv (.slot 3)) }, 
         { k := .op (.bin .add (.slot 5) (.con (.int .i64 1))) }, 
         { k := .op (.asg (.slot 6)), dst := some 3 }]))
def l80_0 : SCode := .loop b80_0
def s80 : SCode :=
  .seq (
   .reg [1023] [
       { k := .op (.asg (.con (.osl 0 124 0 []))), dst := some 1 }]) (
   .seq (
    .reg [5, 6, 7, 1026] [
        { k := .op (.mv (.slot 0)) }, 
        { k := .op (.len false (.slot 5)) }, 
        { k := .op (.mksl 124 [(.int .i64 0), (.int .i64 0)] (.slot 6) (.slot 6)) }, 
        { k := .op (.asg (.slot 7)), dst := some 2 }]) (
    .seq (
     .seq (
      .reg [1023] [
          { k := .op (.asg (.con (.int .i64 0))), dst := some 3 }]) (
      .block 0 (
       l80_0))) (
     .seq (
      .reg [22, 1024] [
          { k := .op (.mv (.slot 2)) }, 
          { k := .op (.asg (.slot 5)), dst := some 1 }]) (
      .ret))))
theorem ok80 : okFn Go.Proofs.Try.prog Go.Proofs.Try.f80 v80 s80 r80 1 = true := by kernel_rfl

/- 81: loop.example/g00476/laws.eqPutS. Slots: a:0, b:1, :4, :10, i:5, :14, :26 -/
def v81 : List Nat := [0, 1, 4, 10, 5, 14, 26]
def r81 : List SRes := [.tmp 2]
def b81_0 : SCode :=
   .seq (
    .seq (
     .reg [11, 12, 13, 1030] [
         { k := .op (.mv (.slot 4)) }, 
         { k := .op (.mv (.slot 0)) }, 
         { k := .op (.len false (.slot 8)) }, 
         { k := .op (.bin .lss (.slot 7) (.slot 9)), dst := some 5 }]) (
     .cond (.slot 5) (
      .skip) (
      .exit 0))) (
    .seq (
     .block 1 (
      .seq (
       .dreg [17, 18, 19, 20, 21, 22, 23, 24, 25, 1036] [
           { k := .op (.mv (.slot 0)) }, 
           { k := .op (.mv (.slot 4)) }, 
           { k := .op (.iaddr 2 (.slot 7) (.slot 8)) }, 
           { k := .op (.load 2 true (.slot 9)) }, 
           { k := .op (.mv (.slot 1)) }, 
           { k := .op (.mv (.slot 4)) }, 
           { k := .op (.iaddr 2 (.slot 11) (.slot 12)) }, 
           { k := .op (.load 2 true (.slot 13)) }, 
           { k := .call 85 [(.slot 10), (.slot 14)] false }, 
           { k := .op (.not (.slot 15)), dst := some 6 }]
         [[], [], [0, 1], [0, 1, 2], [], [], [4, 5], [4, 5, 6], [0, 1, 2, 3, 4, 5, 6, 7], [0, 1, 2, 3, 4, 5, 6, 7, 8]] 9) (
       .cond (.slot 6) (
        .seq (
         .reg [1027] [
             { k := .op (.asg (.con (.bool false))), dst := some 2 }]) (
         .ret)) (
        .skip)))) (
     .reg [15, 16, 1029] [
         { k := .op (.mv (.slot 4)) }, 
         { k := .op (.bin .add (.slot 7) (.con (.int .i64 1))) }, 
         { k := .op (.asg (.slot 8)), dst := some 4 }]))
def l81_0 : SCode := .loop b81_0
def s81 : SCode :=
  .seq (
   .reg [1027] [
       { k := .op (.asg (.con (.bool false))), dst := some 2 }]) (
   .seq (
    .seq (
     .reg [6, 7, 8, 9, 1031] [
         { k := .op (.mv (.slot 0)) }, 
         { k := .op (.len false (.slot 7)) }, 
         { k := .op (.mv (.slot 1)) }, 
         { k := .op (.len false (.slot 9)) }, 
         { k := .op (.bin .neq (.slot 8) (.slot 10)), dst := some 3 }]) (
     .cond (.slot 3) (
      .seq (
       .reg [1027] [
           { k := .op (.asg (.con (.bool false))), dst := some 2 }]) (
       .ret)) (
      .skip))) (
    .seq (
     .seq (
      .reg [1027] [
          { k := .op (.asg (.con (.int .i64 0))), dst := some 4 }]) (
      .block 0 (
       l81_0))) (
     .seq (
      .reg [1027] [
          { k := .op (.asg (.con (.bool true))), dst := some 2 }]) (
      .ret))))
theorem ok81 : okFn Go.Proofs.Try.prog Go.Proofs.Try.f81 v81 s81 r81 2 = true := by kernel_rfl

-- 82: loop.example/g00476/spec.Wrap: NOT COVERED: binop (op 1 at l01_num.go:4)

/- 83: loop.example/g00476/impl.Wrap. Slots: n:0, :2 -/
def v83 : List Nat := [0, 2]
def r83 : List SRes := [.tmp 1]
def s83 : SCode :=
  .seq (
   .reg [1006] [
       { k := .op (.asg (.con (.int .i64 0))), dst := some 1 }]) (
   .seq (
    .reg [3, 4, 5, 1009] [
        { k := .op (.mv (.slot 0)) }, 
        { k := .op (.conv .i32 (.slot 2)) }, 
        { k := .op (.conv .i64 (.slot 3)) }, 
        { k := .op (.asg (.slot 4)), dst := some 1 }]) (
    .ret))
theorem ok83 : okFn Go.Proofs.Try.prog Go.Proofs.Try.f83 v83 s83 r83 1 = true := by kernel_rfl

/- 84: loop.example/g00476/laws.toPut. Slots: a:0, a:1, :2, out:3 -/
def v84 : List Nat := [0, 1, 2, 3]
def r84 : List SRes := [.cell 2 2 true]
def s84 : SCode :=
  .seq (
   .reg [1011, 1012] [
       { k := .op (.box 126 2 (.slot 0)), dst := some 1 }, 
       { k := .op (.mk 124 [(.int .i64 0), (.int .i64 0)]), dst := some 2 }]) (
   .seq (
    .reg [1011] [
        { k := .op (.mk 124 [(.int .i64 0), (.int .i64 0)]), dst := some 3 }]) (
    .seq (
     .reg [4, 5, 6, 1014] [
         { k := .op (.faddr 0 (.slot 1)) }, 
         { k := .op (.load 1 false (.slot 4)) }, 
         { k := .op (.faddr 0 (.slot 3)) }, 
         { k := .op (.store 1 false (.slot 6) (.slot 5)) }]) (
     .seq (
      .reg [7, 8, 9, 1014] [
          { k := .op (.faddr 1 (.slot 1)) }, 
          { k := .op (.load 1 false (.slot 4)) }, 
          { k := .op (.faddr 1 (.slot 3)) }, 
          { k := .op (.store 1 false (.slot 6) (.slot 5)) }]) (
      .seq (
       .reg [10, 1012] [
           { k := .op (.load 2 true (.slot 3)) }, 
           { k := .op (.store 2 false (.slot 2) (.slot 4)) }]) (
       .ret)))))
theorem ok84 : okFn Go.Proofs.Try.prog Go.Proofs.Try.f84 v84 s84 r84 1 = true := by kernel_rfl

/- 85: loop.example/g00476/laws.eqPut. Slots: a:0, b:1, a:2, b:3, :4, :9, :14 -/
def v85 : List Nat := [0, 1, 2, 3, 4, 9, 14]
def r85 : List SRes := [.tmp 4]
def s85 : SCode :=
  .seq (
   .reg [1015, 1016, 1017] [
       { k := .op (.box 124 2 (.slot 0)), dst := some 2 }, 
       { k := .op (.box 124 2 (.slot 1)), dst := some 3 }, 
       { k := .op (.asg (.con (.bool false))), dst := some 4 }]) (
   .seq (
    .seq (
     .reg [5, 6, 7, 8, 1019] [
         { k := .op (.faddr 0 (.slot 2)) }, 
         { k := .op (.load 1 false (.slot 7)) }, 
         { k := .op (.faddr 0 (.slot 3)) }, 
         { k := .op (.load 1 false (.slot 9)) }, 
         { k := .op (.bin .neq (.slot 8) (.slot 10)), dst := some 5 }]) (
     .cond (.slot 5) (
      .seq (
       .reg [1015] [
           { k := .op (.asg (.con (.bool false))), dst := some 4 }]) (
       .ret)) (
      .skip))) (
    .seq (
     .seq (
      .reg [10, 11, 12, 13, 1019] [
          { k := .op (.faddr 1 (.slot 2)) }, 
          { k := .op (.load 1 false (.slot 7)) }, 
          { k := .op (.faddr 1 (.slot 3)) }, 
          { k := .op (.load 1 false (.slot 9)) }, 
          { k := .op (.bin .neq (.slot 8) (.slot 10)), dst := some 6 }]) (
      .cond (.slot 6) (
       .seq (
        .reg [1015] [
            { k := .op (.asg (.con (.bool false))), dst := some 4 }]) (
        .ret)) (
       .skip))) (
     .seq (
      .reg [1015] [
          { k := .op (.asg (.con (.bool true))), dst := some 4 }]) (
      .ret))))
theorem ok85 : okFn Go.Proofs.Try.prog Go.Proofs.Try.f85 v85 s85 r85 2 = true := by kernel_rfl

-- 86: (runtime.boundsError).Error: NOT COVERED: no body

-- 87: (runtime.boundsError).RuntimeError: NOT COVERED: no body

-- 88: (runtime.errorString).Error: NOT COVERED: no body

-- 89: (runtime.errorString).RuntimeError: NOT COVERED: no body

-- 90: (runtime.plainError).Error: NOT COVERED: no body

-- 91: (runtime.plainError).RuntimeError: NOT COVERED: no body

-- 92: (runtime.errorAddressString).Error: NOT COVERED: no body

-- 93: (runtime.errorAddressString).RuntimeError: NOT COVERED: no body

-- 94: (*runtime.TypeAssertionError).Error: NOT COVERED: no body

-- 95: (*runtime.TypeAssertionError).RuntimeError: NOT COVERED: no body

-- 96: (*runtime.PanicNilError).Error: NOT COVERED: no body

-- 97: (*runtime.PanicNilError).RuntimeError: NOT COVERED: no body

-- 98: (*internal/abi.Type).Align: NOT COVERED: no body

-- 99: (internal/runtime/maps.unhashableTypeError).Error: NOT COVERED: no body

-- 100: (internal/runtime/maps.unhashableTypeError).RuntimeError: NOT COVERED: no body

-- 101: (loop.example/g00476/impl.Exp).isZero: NOT COVERED: no body

-- 102: (loop.example/g00476/impl.Stmt).isRight: NOT COVERED: no body

-- 103: (internal/abi.Kind).String: NOT COVERED: no body

end Go.AmC

