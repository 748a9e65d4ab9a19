/- The compact code of the functions, second half. No condition. -/
import Derived.Test.YtbempckmbfbjgaaBc
import Derived.Test.YtbempckmbfbjgaaChecked
import Derived.KernelRfl
import Derived.Test.YtbempckmbfbjgaaBe
set_option linter.unusedVariables false
set_option linter.unusedSimpArgs false
set_option linter.constructorNameAsVariable false
set_option linter.unnecessarySimpa false
namespace Go.Proofs.Ytbempckmbfbjgaa.Code
open Go.Ev
set_option maxRecDepth 100000

/-- posthouse/posthouseref8.MessageBytes -/
def c41 : FnC := ⟨1, 5, [.tmp 2],
  .seq (.region [p (.box 1 2 (.t 0)), p (.mv 2 (.nil 1))] none) <|
  .seq (.region [p (.load 3 true 2 (.t 1)), p (.call 4 76 [(.t 3)]), p (.mv 2 (.t 4))] none) <|
  .ret⟩
theorem ok41 : compF Try.prog 41 = some c41.strip := by kernel_rfl

/-- posthouse/posthouselaw8.letter -/
def c42 : FnC := ⟨1, 9, [.cell 2 true 2],
  .seq (.region [p (.alloc 2 [.nilsl 2, .nilsl 1])] none) <|
  .seq (.region [p (.mv 3 (.t 0)), p (.build 4 [.t (.str []), .t (.str [])] [(0, 1, (.s [83, 117, 98, 106, 101, 99, 116])), (1, 1, (.t 3))]), p (.bsl 5 2 1 [(.str []), (.str [])] [(0, (.t 4))]), p (.bsl 6 1 3 [(.int .u8 0)] [(0, (.i .u8 120)), (1, (.i .u8 13)), (2, (.i .u8 10))]), p (.conv 7 .same (.t 6)), p (.build 8 [.nilsl 2, .nilsl 1] [(0, 1, (.t 5)), (1, 1, (.t 7))]), p (.store 2 (.t 2) (.t 8))] none) <|
  .ret⟩
theorem ok42 : compF Try.prog 42 = some c42.strip := by kernel_rfl

/-- posthouse/posthouselaw8.three -/
def c43 : FnC := ⟨0, 7, [.cell 0 true 5],
  .seq (.region [p (.alloc 0 [.t (.int .i64 0), .t (.int .i64 0), .t (.int .i64 0), .nilsl 6, .nilsl 2])] none) <|
  .seq (.region [p (.call 1 42 [(.s [98])]), p (.build 2 [.t (.int .i64 0), .t (.int .i64 0), .t (.int .i64 0), .t (.int .i64 0), .nilsl 2, .nilsl 1] [(0, 1, (.i .i64 2)), (1, 1, (.i .i64 3)), (2, 1, (.i .i64 1)), (3, 1, (.i .i64 9)), (4, 2, (.t 1))]), p (.bsl 3 6 1 [(.int .i64 0), (.int .i64 0), (.int .i64 0), (.int .i64 0), (.sl 2 []), (.sl 1 [])] [(0, (.t 2))]), p (.build 4 [.t (.int .i64 0), .t (.int .i64 0)] [(0, 1, (.i .i64 1)), (1, 1, (.i .i64 4))]), p (.bsl 5 2 1 [(.int .i64 0), (.int .i64 0)] [(0, (.t 4))]), p (.build 6 [.t (.int .i64 0), .t (.int .i64 0), .t (.int .i64 0), .nilsl 6, .nilsl 2] [(0, 1, (.i .i64 3)), (1, 1, (.i .i64 5)), (3, 1, (.t 3)), (4, 1, (.t 5))]), p (.store 5 (.t 0) (.t 6))] none) <|
  .ret⟩
theorem ok43 : compF Try.prog 43 = some c43.strip := by kernel_rfl

/-- posthouse/quota.list -/
def c44l0 : AC :=
  .seq (.region [p (.bin 13 .lss .int (.t 12) (.t 11))] none) <|
  .seq (.cond (.t 13) (.skip) <|
  .filt [0, 2] <|
  .exit 0) <|
  .seq (.block 1 <|
   .seq (.region [p (.mv 14 (.t 12)), p (.iaddr 15 5 (.t 10) (.t 12)), p (.load 16 true 5 (.t 15)), p (.alloc 4 [.t (.int .i64 0), .t (.int .i64 0), .t (.int .i64 0), .nilsl 6, .nilsl 2]), p (.mv 3 (.t 14)), p (.store 5 (.t 4) (.t 16))] none) <|
   .seq (.region [p (.load 17 true 5 (.t 4)), p (.call 18 54 [(.t 17)]), p (.alloc 5 [.t (.int .i64 0), .t (.int .i64 0)]), p (.store 2 (.t 5) (.t 18))] none) <|
   .seq (.region [p (.load 19 true 2 (.t 5)), p (.call 20 45 [(.t 19)])] none) <|
   .cond (.t 20) (.seq (.region [p (.faddr 21 0 (.t 5)), p (.load 22 false 1 (.t 21)), p (.mv 23 (.t 3)), p (.call 24 48 [(.t 22), (.t 23)]), p (.store 2 (.t 2) (.t 24))] none) <|
     .filt [0, 2] <|
     .ret) <|
   .skip) <|
  .region [p (.bin 25 .add .int (.t 12) (.i .i64 1)), p (.mv 12 (.t 25))] none
def c44 : FnC := ⟨1, 27, [.cell 2 true 2],
  .seq (.region [p (.alloc 2 [.t (.int .i64 0), .t (.int .i64 0)])] none) <|
  .seq (.seq (.region [p (.mv 6 (.t 0)), p (.len 7 false (.t 6)), p (.bin 8 .gtr .int (.t 7) (.i .i64 20))] none) <|
  .cond (.t 8) (.seq (.region [p (.call 9 48 [(.i .i64 2), (.i .i64 (-1))]), p (.store 2 (.t 2) (.t 9))] none) <|
    .ret) <|
  .skip) <|
  .seq (.seq (.region [p (.mv 10 (.t 0)), p (.len 11 false (.t 10)), p (.mv 12 (.i .i64 0))] none) <|
  .block 0 <|
   .loop (.filt [0, 2, 10, 11, 12] c44l0)) <|
  .seq (.region [p (.call 26 53 []), p (.store 2 (.t 2) (.t 26))] none) <|
  .ret⟩
theorem ok44 : compF Try.prog 44 = some c44.strip := by kernel_rfl

/-- posthouse/basic.Failed -/
def c45 : FnC := ⟨1, 6, [.tmp 2],
  .seq (.region [p (.box 1 2 (.t 0)), p (.mv 2 (.b false))] none) <|
  .seq (.region [p (.faddr 3 0 (.t 1)), p (.load 4 false 1 (.t 3)), p (.bin 5 .neq .int (.t 4) (.i .i64 0)), p (.mv 2 (.t 5))] none) <|
  .ret⟩
theorem ok45 : compF Try.prog 45 = some c45.strip := by kernel_rfl

/-- posthouse/quota.limit -/
def c46 : FnC := ⟨1, 23, [.cell 2 true 2],
  .seq (.region [p (.box 1 2 (.t 0)), p (.alloc 2 [.t (.int .i64 0), .t (.int .i64 0)])] none) <|
  .seq (.seq (.region [p (.faddr 3 0 (.t 1)), p (.load 4 false 1 (.t 3)), p (.bin 5 .lss .int (.t 4) (.i .i64 0)), p (.mv 6 (.t 5)), q 6 false (.faddr 7 0 (.t 1)), q 6 false (.load 8 false 1 (.t 7)), q 6 false (.bin 9 .gtr .int (.t 8) (.i .i64 1099511627776)), p (.pick 10 (.t 6) (.b true) (.t 9)), p (.mv 11 (.t 10)), q 11 false (.faddr 12 1 (.t 1)), q 11 false (.load 13 false 1 (.t 12)), q 11 false (.bin 14 .lss .int (.t 13) (.i .i64 0)), p (.pick 15 (.t 11) (.b true) (.t 14)), p (.mv 16 (.t 15)), q 16 false (.faddr 17 1 (.t 1)), q 16 false (.load 18 false 1 (.t 17)), q 16 false (.bin 19 .gtr .int (.t 18) (.i .i64 1000000)), p (.pick 20 (.t 16) (.b true) (.t 19))] none) <|
  .cond (.t 20) (.seq (.region [p (.call 21 48 [(.i .i64 3), (.i .i64 (-2))]), p (.store 2 (.t 2) (.t 21))] none) <|
    .ret) <|
  .skip) <|
  .seq (.region [p (.call 22 53 []), p (.store 2 (.t 2) (.t 22))] none) <|
  .ret⟩
theorem ok46 : compF Try.prog 46 = some c46.strip := by kernel_rfl

/-- posthouse/message.Validate -/
def c47 : FnC := ⟨1, 18, [.cell 2 true 2],
  .seq (.region [p (.box 1 2 (.t 0)), p (.alloc 2 [.t (.int .i64 0), .t (.int .i64 0)])] none) <|
  .seq (.seq (.region [p (.faddr 4 0 (.t 1)), p (.load 5 false 1 (.t 4)), p (.call 6 77 [(.t 5)]), p (.alloc 3 [.t (.int .i64 0), .t (.int .i64 0)]), p (.store 2 (.t 3) (.t 6))] none) <|
  .seq (.region [p (.load 7 true 2 (.t 3)), p (.call 8 45 [(.t 7)])] none) <|
  .cond (.t 8) (.seq (.region [p (.load 9 true 2 (.t 3)), p (.store 2 (.t 2) (.t 9))] none) <|
    .ret) <|
  .skip) <|
  .seq (.seq (.region [p (.load 10 true 2 (.t 1)), p (.call 11 56 [(.t 10)]), p (.len 12 false (.t 11)), p (.bin 13 .gtr .int (.t 12) (.i .i64 12000))] none) <|
  .cond (.t 13) (.seq (.region [p (.call 14 48 [(.i .i64 1), (.i .i64 (-4))]), p (.store 2 (.t 2) (.t 14))] none) <|
    .ret) <|
  .skip) <|
  .seq (.region [p (.faddr 15 1 (.t 1)), p (.load 16 false 1 (.t 15)), p (.call 17 78 [(.t 16)]), p (.store 2 (.t 2) (.t 17))] none) <|
  .ret⟩
theorem ok47 : compF Try.prog 47 = some c47.strip := by kernel_rfl

/-- posthouse/basic.Fault -/
def c48 : FnC := ⟨2, 8, [.cell 4 true 2],
  .seq (.region [p (.alloc 4 [.t (.int .i64 0), .t (.int .i64 0)])] none) <|
  .seq (.region [p (.mv 5 (.t 0)), p (.mv 6 (.t 1)), p (.build 7 [.t (.int .i64 0), .t (.int .i64 0)] [(0, 1, (.t 5)), (1, 1, (.t 6))]), p (.store 2 (.t 4) (.t 7))] none) <|
  .ret⟩
theorem ok48 : compF Try.prog 48 = some c48.strip := by kernel_rfl

/-- posthouse/quota.within -/
def c49 : FnC := ⟨2, 18, [.tmp 4],
  .seq (.region [p (.box 2 2 (.t 0)), p (.box 3 2 (.t 1)), p (.mv 4 (.b false))] none) <|
  .seq (.region [p (.faddr 5 0 (.t 2)), p (.load 6 false 1 (.t 5)), p (.faddr 7 0 (.t 3)), p (.load 8 false 1 (.t 7)), p (.mxn 9 true [(.t 6), (.t 8)]), p (.faddr 10 1 (.t 2)), p (.load 11 false 1 (.t 10)), p (.faddr 12 1 (.t 3)), p (.load 13 false 1 (.t 12)), p (.mxn 14 true [(.t 11), (.t 13)]), p (.build 15 [.t (.int .i64 0), .t (.int .i64 0)] [(0, 1, (.t 9)), (1, 1, (.t 14))]), p (.load 16 true 2 (.t 3)), p (.bin 17 .eql (.agg [.i, .i]) (.t 15) (.t 16)), p (.mv 4 (.t 17))] none) <|
  .ret⟩
theorem ok49 : compF Try.prog 49 = some c49.strip := by kernel_rfl

/-- posthouse/quota.plus -/
def c50 : FnC := ⟨2, 16, [.cell 4 true 2],
  .seq (.region [p (.box 2 2 (.t 0)), p (.box 3 2 (.t 1)), p (.alloc 4 [.t (.int .i64 0), .t (.int .i64 0)])] none) <|
  .seq (.region [p (.faddr 5 0 (.t 2)), p (.load 6 false 1 (.t 5)), p (.faddr 7 0 (.t 3)), p (.load 8 false 1 (.t 7)), p (.bin 9 .add .int (.t 6) (.t 8)), p (.faddr 10 1 (.t 2)), p (.load 11 false 1 (.t 10)), p (.faddr 12 1 (.t 3)), p (.load 13 false 1 (.t 12)), p (.bin 14 .add .int (.t 11) (.t 13)), p (.build 15 [.t (.int .i64 0), .t (.int .i64 0)] [(0, 1, (.t 9)), (1, 1, (.t 14))]), p (.store 2 (.t 4) (.t 15))] none) <|
  .ret⟩
theorem ok50 : compF Try.prog 50 = some c50.strip := by kernel_rfl

/-- posthouse/quota.used -/
def c51l0 : AC :=
  .seq (.region [p (.bin 18 .lss .int (.t 17) (.t 16))] none) <|
  .seq (.cond (.t 18) (.skip) <|
  .filt [2, 3, 8, 9, 10] <|
  .exit 2) <|
  .seq (.block 3 <|
   .seq (.region [p (.iaddr 19 6 (.t 15) (.t 17)), p (.load 20 true 6 (.t 19)), p (.alloc 7 [.t (.int .i64 0), .t (.int .i64 0), .t (.int .i64 0), .t (.int .i64 0), .nilsl 2, .nilsl 1]), p (.store 6 (.t 7) (.t 20))] none) <|
   .region [p (.load 21 true 2 (.t 3)), p (.faddr 22 4 (.t 7)), p (.load 23 true 2 (.t 22)), p (.call 24 52 [(.t 23)]), p (.call 25 50 [(.t 21), (.t 24)]), p (.store 2 (.t 3) (.t 25))] (some [0, 0, 2, 6, 15, 31])) <|
  .region [p (.bin 26 .add .int (.t 17) (.i .i64 1)), p (.mv 17 (.t 26))] none
def c51l1 : AC :=
  .seq (.region [p (.bin 11 .lss .int (.t 10) (.t 9))] none) <|
  .seq (.cond (.t 11) (.skip) <|
  .filt [2, 3] <|
  .exit 0) <|
  .seq (.block 1 <|
   .seq (.region [p (.iaddr 12 5 (.t 8) (.t 10)), p (.load 13 true 5 (.t 12)), p (.alloc 5 [.t (.int .i64 0), .t (.int .i64 0), .t (.int .i64 0), .nilsl 6, .nilsl 2]), p (.store 5 (.t 5) (.t 13))] none) <|
   .seq (.region [p (.faddr 14 3 (.t 5)), p (.load 15 false 1 (.t 14)), p (.len 16 false (.t 15)), p (.mv 17 (.i .i64 0))] none) <|
   .block 2 <|
    .loop (.filt [2, 3, 8, 9, 10, 15, 16, 17] c51l0)) <|
  .region [p (.bin 27 .add .int (.t 10) (.i .i64 1)), p (.mv 10 (.t 27))] none
def c51 : FnC := ⟨1, 29, [.cell 2 true 2],
  .seq (.region [p (.alloc 2 [.t (.int .i64 0), .t (.int .i64 0)])] none) <|
  .seq (.region [p (.alloc 3 [.t (.int .i64 0), .t (.int .i64 0)])] none) <|
  .seq (.seq (.region [p (.mv 8 (.t 0)), p (.len 9 false (.t 8)), p (.mv 10 (.i .i64 0))] none) <|
  .block 0 <|
   .loop (.filt [2, 3, 8, 9, 10] c51l1)) <|
  .seq (.region [p (.load 28 true 2 (.t 3)), p (.store 2 (.t 2) (.t 28))] none) <|
  .ret⟩
theorem ok51 : compF Try.prog 51 = some c51.strip := by kernel_rfl

/-- posthouse/quota.Of -/
def c52 : FnC := ⟨1, 13, [.cell 2 true 2],
  .seq (.region [p (.box 1 2 (.t 0)), p (.alloc 2 [.t (.int .i64 0), .t (.int .i64 0)])] none) <|
  .seq (.region [p (.load 6 true 2 (.t 1)), p (.call 7 18 [(.t 6)]), p (.mv 5 (.t 7)), p (.ext 8 (.t 5) 0), p (.ext 9 (.t 5) 1), p (.alloc 4 [.t (.int .i64 0), .t (.int .i64 0)]), p (.mv 3 (.t 8)), p (.store 2 (.t 4) (.t 9))] none) <|
  .seq (.region [p (.mv 10 (.t 3)), p (.len 11 false (.t 10)), p (.build 12 [.t (.int .i64 0), .t (.int .i64 0)] [(0, 1, (.t 11)), (1, 1, (.i .i64 1))]), p (.store 2 (.t 2) (.t 12))] none) <|
  .ret⟩
theorem ok52 : compF Try.prog 52 = some c52.strip := by kernel_rfl

/-- posthouse/basic.None -/
def c53 : FnC := ⟨0, 2, [.cell 0 true 2],
  .seq (.region [p (.alloc 0 [.t (.int .i64 0), .t (.int .i64 0)])] none) <|
  .seq (.region [p (.build 1 [.t (.int .i64 0), .t (.int .i64 0)] []), p (.store 2 (.t 0) (.t 1))] none) <|
  .ret⟩
theorem ok53 : compF Try.prog 53 = some c53.strip := by kernel_rfl

/-- posthouse/mailbox.Validate -/
def c54l0 : AC :=
  .seq (.region [p (.bin 45 .lss .int (.t 44) (.t 43))] none) <|
  .seq (.cond (.t 45) (.skip) <|
  .filt [1, 2] <|
  .exit 1) <|
  .seq (.block 2 <|
   .seq (.region [p (.mv 46 (.t 44)), p (.iaddr 47 6 (.t 42) (.t 44)), p (.load 48 true 6 (.t 47)), p (.alloc 4 [.t (.int .i64 0), .t (.int .i64 0), .t (.int .i64 0), .t (.int .i64 0), .nilsl 2, .nilsl 1]), p (.mv 3 (.t 46)), p (.store 6 (.t 4) (.t 48))] none) <|
   .seq (.block 3 <|
    .seq (.region [p (.faddr 50 0 (.t 4)), p (.load 51 false 1 (.t 50)), p (.faddr 52 0 (.t 1)), p (.load 53 false 1 (.t 52)), p (.bin 54 .sub .int (.t 53) (.i .i64 1)), p (.call 55 79 [(.t 51), (.i .i64 1), (.t 54)]), p (.un 56 .not (.t 55)), p (.mv 57 (.t 56)), q 57 false (.faddr 58 1 (.t 4)), q 57 false (.load 59 false 1 (.t 58)), q 57 false (.faddr 60 1 (.t 1)), q 57 false (.load 61 false 1 (.t 60)), q 57 false (.bin 62 .sub .int (.t 61) (.i .i64 1)), q 57 false (.call 63 79 [(.t 59), (.i .i64 1), (.t 62)]), q 57 false (.un 64 .not (.t 63)), p (.pick 65 (.t 57) (.b true) (.t 64)), p (.mv 66 (.t 65)), q 66 false (.faddr 67 2 (.t 4)), q 66 false (.load 68 false 1 (.t 67)), q 66 false (.call 69 79 [(.t 68), (.i .i64 0), (.i .i64 63)]), q 66 false (.un 70 .not (.t 69)), p (.pick 71 (.t 66) (.b true) (.t 70)), p (.mv 72 (.t 71)), q 72 false (.faddr 73 3 (.t 4)), q 72 false (.load 74 false 1 (.t 73)), q 72 false (.call 75 80 [(.t 74)]), q 72 false (.un 76 .not (.t 75)), p (.pick 77 (.t 72) (.b true) (.t 76)), p (.mv 49 (.t 77))] none) <|
    .cond (.t 49) (.seq (.region [p (.mv 78 (.t 3)), p (.call 79 48 [(.i .i64 3), (.t 78)]), p (.store 2 (.t 2) (.t 79))] none) <|
      .filt [2] <|
      .ret) <|
    .seq (.region [p (.mv 81 (.t 3)), p (.bin 82 .gtr .int (.t 81) (.i .i64 0)), p (.mv 83 (.t 82)), q 83 true (.faddr 84 0 (.t 4)), q 83 true (.load 85 false 1 (.t 84)), q 83 true (.faddr 86 3 (.t 1)), q 83 true (.load 87 false 1 (.t 86)), q 83 true (.mv 88 (.t 3)), q 83 true (.bin 89 .sub .int (.t 88) (.i .i64 1)), q 83 true (.iaddr 90 6 (.t 87) (.t 89)), q 83 true (.faddr 91 0 (.t 90)), q 83 true (.load 92 false 1 (.t 91)), q 83 true (.bin 93 .leq .int (.t 85) (.t 92)), p (.pick 94 (.t 83) (.t 93) (.b false)), p (.mv 80 (.t 94))] (some [0, 1, 3, 7, 15, 7, 39, 7, 135, 487, 999, 2023, 4095, 8191, 16383])) <|
    .cond (.t 80) (.seq (.region [p (.mv 95 (.t 3)), p (.call 96 48 [(.i .i64 19), (.t 95)]), p (.store 2 (.t 2) (.t 96))] none) <|
      .filt [2] <|
      .ret) <|
    .skip) <|
   .seq (.region [p (.faddr 97 4 (.t 4)), p (.load 98 true 2 (.t 97)), p (.call 99 47 [(.t 98)]), p (.alloc 5 [.t (.int .i64 0), .t (.int .i64 0)]), p (.store 2 (.t 5) (.t 99))] none) <|
   .seq (.region [p (.load 100 true 2 (.t 5)), p (.call 101 45 [(.t 100)])] none) <|
   .cond (.t 101) (.seq (.region [p (.faddr 102 0 (.t 5)), p (.load 103 false 1 (.t 102)), p (.mv 104 (.t 3)), p (.call 105 48 [(.t 103), (.t 104)]), p (.store 2 (.t 2) (.t 105))] none) <|
     .filt [2] <|
     .ret) <|
   .skip) <|
  .region [p (.bin 106 .add .int (.t 44) (.i .i64 1)), p (.mv 44 (.t 106))] none
def c54l1 : AC :=
  .seq (.region [p (.bin 111 .lss .int (.t 110) (.t 109))] none) <|
  .seq (.cond (.t 111) (.skip) <|
  .filt [2] <|
  .exit 4) <|
  .seq (.block 5 <|
   .seq (.region [p (.mv 112 (.t 110)), p (.mv 6 (.t 112))] none) <|
   .seq (.region [p (.load 113 true 5 (.t 1)), p (.mv 114 (.t 6)), p (.call 115 81 [(.t 113), (.t 114)]), p (.mv 7 (.t 115))] none) <|
   .seq (.region [p (.mv 116 (.t 7)), p (.bin 117 .neq .int (.t 116) (.i .i64 0))] none) <|
   .cond (.t 117) (.seq (.region [p (.mv 118 (.t 7)), p (.mv 119 (.t 6)), p (.bin 120 .add .int (.i .i64 1000) (.t 119)), p (.call 121 48 [(.t 118), (.t 120)]), p (.store 2 (.t 2) (.t 121))] none) <|
     .filt [2] <|
     .ret) <|
   .skip) <|
  .region [p (.bin 122 .add .int (.t 110) (.i .i64 1)), p (.mv 110 (.t 122))] none
def c54 : FnC := ⟨1, 124, [.cell 2 true 2],
  .seq (.region [p (.box 1 5 (.t 0)), p (.alloc 2 [.t (.int .i64 0), .t (.int .i64 0)])] none) <|
  .seq (.block 0 <|
   .seq (.region [p (.faddr 9 3 (.t 1)), p (.load 10 false 1 (.t 9)), p (.len 11 false (.t 10)), p (.bin 12 .gtr .int (.t 11) (.i .i64 200)), p (.mv 8 (.t 12))] none) <|
   .cond (.t 8) (.seq (.region [p (.call 13 48 [(.i .i64 2), (.i .i64 (-1))]), p (.store 2 (.t 2) (.t 13))] none) <|
     .ret) <|
   .seq (.region [p (.faddr 15 4 (.t 1)), p (.load 16 false 1 (.t 15)), p (.len 17 false (.t 16)), p (.bin 18 .gtr .int (.t 17) (.i .i64 400)), p (.mv 14 (.t 18))] none) <|
   .cond (.t 14) (.seq (.region [p (.call 19 48 [(.i .i64 2), (.i .i64 (-2))]), p (.store 2 (.t 2) (.t 19))] none) <|
     .ret) <|
   .seq (.region [p (.faddr 21 0 (.t 1)), p (.load 22 false 1 (.t 21)), p (.call 23 79 [(.t 22), (.i .i64 1), (.i .i64 1000000)]), p (.un 24 .not (.t 23)), p (.mv 25 (.t 24)), q 25 false (.faddr 26 1 (.t 1)), q 25 false (.load 27 false 1 (.t 26)), q 25 false (.call 28 79 [(.t 27), (.i .i64 1), (.i .i64 1000000)]), q 25 false (.un 29 .not (.t 28)), p (.pick 30 (.t 25) (.b true) (.t 29)), p (.mv 31 (.t 30)), q 31 false (.faddr 32 2 (.t 1)), q 31 false (.load 33 false 1 (.t 32)), q 31 false (.faddr 34 1 (.t 1)), q 31 false (.load 35 false 1 (.t 34)), q 31 false (.bin 36 .sub .int (.t 35) (.i .i64 1)), q 31 false (.call 37 79 [(.t 33), (.i .i64 0), (.t 36)]), q 31 false (.un 38 .not (.t 37)), p (.pick 39 (.t 31) (.b true) (.t 38)), p (.mv 20 (.t 39))] none) <|
   .cond (.t 20) (.seq (.region [p (.call 40 48 [(.i .i64 3), (.i .i64 (-3))]), p (.store 2 (.t 2) (.t 40))] none) <|
     .ret) <|
   .skip) <|
  .seq (.seq (.region [p (.faddr 41 3 (.t 1)), p (.load 42 false 1 (.t 41)), p (.len 43 false (.t 42)), p (.mv 44 (.i .i64 0))] none) <|
  .block 1 <|
   .loop (.filt [1, 2, 42, 43, 44] c54l0)) <|
  .seq (.seq (.region [p (.faddr 107 4 (.t 1)), p (.load 108 false 1 (.t 107)), p (.len 109 false (.t 108)), p (.mv 110 (.i .i64 0))] none) <|
  .block 4 <|
   .loop (.filt [1, 2, 109, 110] c54l1)) <|
  .seq (.region [p (.call 123 53 []), p (.store 2 (.t 2) (.t 123))] none) <|
  .ret⟩
theorem ok54 : compF Try.prog 54 = some c54.strip := by kernel_rfl

/-- posthouse/mailbox.apply -/
def c55 : FnC := ⟨2, 155, [.cell 4 true 5, .cell 5 true 2],
  .seq (.region [p (.box 2 5 (.t 0)), p (.box 3 7 (.t 1)), p (.alloc 4 [.t (.int .i64 0), .t (.int .i64 0), .t (.int .i64 0), .nilsl 6, .nilsl 2]), p (.alloc 5 [.t (.int .i64 0), .t (.int .i64 0)])] none) <|
  .seq (.seq (.region [p (.load 11 true 7 (.t 3)), p (.call 12 82 [(.t 11)]), p (.alloc 6 [.t (.int .i64 0), .t (.int .i64 0)]), p (.store 2 (.t 6) (.t 12))] none) <|
  .seq (.region [p (.load 13 true 2 (.t 6)), p (.call 14 45 [(.t 13)])] none) <|
  .cond (.t 14) (.seq (.region [p (.build 15 [.t (.int .i64 0), .t (.int .i64 0), .t (.int .i64 0), .nilsl 6, .nilsl 2] []), p (.load 16 true 2 (.t 6)), p (.store 5 (.t 4) (.t 15)), p (.store 2 (.t 5) (.t 16))] (some [0, 0, 1, 7])) <|
    .ret) <|
  .skip) <|
  .seq (.region [p (.faddr 17 0 (.t 3)), p (.load 18 false 1 (.t 17)), p (.bin 19 .eql .int (.t 18) (.i .i64 1)), p (.mv 7 (.t 19))] none) <|
  .seq (.region [p (.load 20 true 5 (.t 2)), p (.faddr 21 1 (.t 3)), p (.load 22 false 1 (.t 21)), p (.call 23 83 [(.t 20), (.t 22)]), p (.mv 8 (.t 23))] none) <|
  .seq (.block 0 <|
   .seq (.region [p (.faddr 25 1 (.t 2)), p (.load 26 false 1 (.t 25)), p (.bin 27 .eql .int (.t 26) (.i .i64 1000000)), p (.mv 28 (.t 27)), q 28 false (.mv 29 (.t 7)), q 28 false (.mv 30 (.t 29)), q 30 true (.faddr 31 0 (.t 2)), q 30 true (.load 32 false 1 (.t 31)), q 30 true (.bin 33 .eql .int (.t 32) (.i .i64 1000000)), q 28 false (.pick 34 (.t 30) (.t 33) (.b false)), p (.pick 35 (.t 28) (.b true) (.t 34)), p (.mv 24 (.t 35))] none) <|
   .cond (.t 24) (.seq (.region [p (.build 36 [.t (.int .i64 0), .t (.int .i64 0), .t (.int .i64 0), .nilsl 6, .nilsl 2] []), p (.call 37 48 [(.i .i64 1), (.i .i64 (-3))]), p (.store 5 (.t 4) (.t 36)), p (.store 2 (.t 5) (.t 37))] none) <|
     .ret) <|
   .seq (.region [p (.mv 39 (.t 7)), p (.mv 40 (.t 39)), q 40 true (.faddr 41 3 (.t 2)), q 40 true (.load 42 false 1 (.t 41)), q 40 true (.len 43 false (.t 42)), q 40 true (.bin 44 .eql .int (.t 43) (.i .i64 200)), p (.pick 45 (.t 40) (.t 44) (.b false)), p (.mv 38 (.t 45))] none) <|
   .cond (.t 38) (.seq (.region [p (.build 46 [.t (.int .i64 0), .t (.int .i64 0), .t (.int .i64 0), .nilsl 6, .nilsl 2] []), p (.call 47 48 [(.i .i64 2), (.i .i64 (-1))]), p (.store 5 (.t 4) (.t 46)), p (.store 2 (.t 5) (.t 47))] none) <|
     .ret) <|
   .seq (.region [p (.mv 49 (.t 7)), p (.un 50 .not (.t 49)), p (.mv 51 (.t 50)), q 51 true (.mv 52 (.t 8)), q 51 true (.bin 53 .lss .int (.t 52) (.i .i64 0)), p (.pick 54 (.t 51) (.t 53) (.b false)), p (.mv 48 (.t 54))] none) <|
   .cond (.t 48) (.seq (.region [p (.build 55 [.t (.int .i64 0), .t (.int .i64 0), .t (.int .i64 0), .nilsl 6, .nilsl 2] []), p (.call 56 48 [(.i .i64 6), (.i .i64 (-9))]), p (.store 5 (.t 4) (.t 55)), p (.store 2 (.t 5) (.t 56))] none) <|
     .ret) <|
   .skip) <|
  .seq (.region [p (.load 57 true 5 (.t 2)), p (.call 58 71 [(.t 57)]), p (.build 59 [.t (.int .i64 0), .t (.int .i64 0), .t (.int .i64 0), .nilsl 6, .nilsl 2] [(0, 5, (.t 58))]), p (.box 60 5 (.t 59)), p (.mv 9 (.t 60))] none) <|
  .seq (.seq (.region [p (.faddr 61 0 (.t 3)), p (.load 62 false 1 (.t 61))] none) <|
  .block 1 <|
   .seq (.region [p (.bin 67 .eql .int (.t 62) (.i .i64 1)), p (.mv 66 (.t 67))] none) <|
   .cond (.t 66) (.seq (.region [p (.mv 68 (.t 9)), p (.mv 69 (.t 9)), p (.nilchk 70 (.t 69)), p (.faddr 71 0 (.t 70)), p (.faddr 72 3 (.t 71)), p (.load 73 false 1 (.t 72)), p (.mv 74 (.t 9)), p (.nilchk 75 (.t 74)), p (.faddr 76 0 (.t 75)), p (.faddr 77 0 (.t 76)), p (.load 78 false 1 (.t 77)), p (.mv 79 (.t 9)), p (.call 80 84 [(.t 79)]), p (.faddr 81 2 (.t 3)), p (.load 82 false 1 (.t 81)), p (.faddr 83 4 (.t 3)), p (.load 84 false 1 (.t 83)), p (.faddr 85 5 (.t 3)), p (.load 86 true 2 (.t 85)), p (.call 87 85 [(.t 86)]), p (.build 88 [.t (.int .i64 0), .t (.int .i64 0), .t (.int .i64 0), .t (.int .i64 0), .nilsl 2, .nilsl 1] [(0, 1, (.t 78)), (1, 1, (.t 80)), (2, 1, (.t 82)), (3, 1, (.t 84)), (4, 2, (.t 87))]), p (.bsl 89 6 1 [(.int .i64 0), (.int .i64 0), (.int .i64 0), (.int .i64 0), (.sl 2 []), (.sl 1 [])] [(0, (.t 88))]), p (.app 90 6 80 (.t 73) (.t 89)), p (.nilchk 91 (.t 68)), p (.faddr 92 0 (.t 91)), p (.faddr 93 3 (.t 92)), p (.store 1 (.t 93) (.t 90))] (some [0, 0, 2, 6, 14, 30, 0, 64, 192, 448, 960, 0, 2048, 0, 8192, 0, 32768, 0, 131072, 399360, 1048512, 2097088, 4194302, 8388607, 16777215, 33554431, 67108863])) <|
     .region [p (.mv 94 (.t 9)), p (.nilchk 95 (.t 94)), p (.faddr 96 0 (.t 95)), p (.faddr 97 0 (.t 96)), p (.load 98 false 1 (.t 97)), p (.bin 99 .add .int (.t 98) (.i .i64 1)), p (.nilchk 100 (.t 94)), p (.faddr 101 0 (.t 100)), p (.faddr 102 0 (.t 101)), p (.store 1 (.t 102) (.t 99))] none) <|
   .seq (.region [p (.bin 104 .eql .int (.t 62) (.i .i64 2)), p (.mv 103 (.t 104))] none) <|
   .cond (.t 103) (.seq (.region [p (.mv 105 (.t 9)), p (.nilchk 106 (.t 105)), p (.faddr 107 0 (.t 106)), p (.faddr 108 3 (.t 107)), p (.load 109 false 1 (.t 108)), p (.mv 110 (.t 8)), p (.iaddr 111 6 (.t 109) (.t 110)), p (.faddr 112 2 (.t 111)), p (.load 113 false 1 (.t 112)), p (.faddr 114 3 (.t 3)), p (.load 115 false 1 (.t 114)), p (.bin 116 .andNot .int (.t 113) (.t 115)), p (.faddr 117 2 (.t 3)), p (.load 118 false 1 (.t 117)), p (.bin 119 .or .int (.t 116) (.t 118)), p (.mv 10 (.t 119))] (some [0, 1, 3, 7, 15, 0, 63, 127, 255, 0, 512, 2047, 0, 4096, 16383, 32767])) <|
     .seq (.region [p (.mv 120 (.t 10)), p (.mv 121 (.t 9)), p (.nilchk 122 (.t 121)), p (.faddr 123 0 (.t 122)), p (.faddr 124 3 (.t 123)), p (.load 125 false 1 (.t 124)), p (.mv 126 (.t 8)), p (.iaddr 127 6 (.t 125) (.t 126)), p (.faddr 128 2 (.t 127)), p (.load 129 false 1 (.t 128)), p (.bin 130 .neq .int (.t 120) (.t 129))] none) <|
     .cond (.t 130) (.region [p (.mv 131 (.t 9)), p (.nilchk 132 (.t 131)), p (.faddr 133 0 (.t 132)), p (.faddr 134 3 (.t 133)), p (.load 135 false 1 (.t 134)), p (.mv 136 (.t 8)), p (.mv 137 (.t 9)), p (.nilchk 138 (.t 137)), p (.faddr 139 0 (.t 138)), p (.faddr 140 3 (.t 139)), p (.load 141 false 1 (.t 140)), p (.mv 142 (.t 8)), p (.mv 143 (.t 10)), p (.mv 144 (.t 9)), p (.call 145 84 [(.t 144)]), p (.iaddr 146 6 (.t 135) (.t 136)), p (.faddr 147 2 (.t 146)), p (.store 1 (.t 147) (.t 143)), p (.iaddr 148 6 (.t 141) (.t 142)), p (.faddr 149 1 (.t 148)), p (.store 1 (.t 149) (.t 145))] (some [0, 1, 3, 7, 15, 0, 0, 64, 192, 448, 960, 0, 0, 0, 8192, 30719, 63487, 129023, 262143, 524287, 1048575])) <|
     .skip) <|
   .region [p (.mv 63 (.t 9)), p (.mv 64 (.t 8)), p (.call 65 86 [(.t 63), (.t 64)])] none) <|
  .seq (.region [p (.mv 150 (.t 9)), p (.nilchk 151 (.t 150)), p (.faddr 152 0 (.t 151)), p (.load 153 true 5 (.t 152)), p (.call 154 53 []), p (.store 5 (.t 4) (.t 153)), p (.store 2 (.t 5) (.t 154))] (some [0, 1, 3, 7, 0, 31, 63])) <|
  .ret⟩
theorem ok55 : compF Try.prog 55 = some c55.strip := by kernel_rfl

/-- posthouse/message.write -/
def c56l0 : AC :=
  .own 3 1 300 <|
  .seq (.region [p (.bin 28 .lss .int (.t 27) (.t 26))] none) <|
  .seq (.cond (.t 28) (.skip) <|
  .filt [1, 3, 11, 12, 13] <|
  .exit 2) <|
  .seq (.block 3 <|
   .seq (.region [p (.iaddr 29 1 (.t 25) (.t 27)), p (.load 30 false 1 (.t 29)), p (.mv 9 (.t 30))] none) <|
   .region [p (.mv 31 (.t 3)), p (.mv 32 (.t 9)), p (.app 33 1 1 (.t 31) (.t 32)), p (.bsl 34 1 2 [(.int .u8 0)] [(0, (.i .u8 13)), (1, (.i .u8 10))]), p (.app 35 1 1 (.t 33) (.t 34)), p (.mv 3 (.t 35))] none) <|
  .region [p (.bin 36 .add .int (.t 27) (.i .i64 1)), p (.mv 27 (.t 36))] none
def c56l1 : AC :=
  .own 3 1 300 <|
  .seq (.region [p (.bin 14 .lss .int (.t 13) (.t 12))] none) <|
  .seq (.cond (.t 14) (.skip) <|
  .filt [1, 3] <|
  .exit 0) <|
  .seq (.block 1 <|
   .seq (.region [p (.iaddr 15 2 (.t 11) (.t 13)), p (.load 16 true 2 (.t 15)), p (.alloc 5 [.t (.str []), .t (.str [])]), p (.store 2 (.t 5) (.t 16))] none) <|
   .seq (.region [p (.faddr 18 0 (.t 5)), p (.load 19 false 1 (.t 18)), p (.faddr 20 1 (.t 5)), p (.load 21 false 1 (.t 20)), p (.call 22 87 [(.t 19), (.t 21)]), p (.mv 17 (.t 22)), p (.ext 23 (.t 17) 0), p (.ext 24 (.t 17) 1), p (.alloc 7 [.t (.int .i64 0), .t (.int .i64 0)]), p (.mv 6 (.t 23)), p (.store 2 (.t 7) (.t 24))] none) <|
   .seq (.region [p (.mv 25 (.t 6)), p (.len 26 false (.t 25)), p (.mv 27 (.i .i64 0))] none) <|
   .block 2 <|
    .loop (.filt [1, 3, 11, 12, 13, 25, 26, 27] c56l0)) <|
  .region [p (.bin 37 .add .int (.t 13) (.i .i64 1)), p (.mv 13 (.t 37))] none
def c56 : FnC := ⟨1, 44, [.tmp 2],
  .seq (.region [p (.box 1 2 (.t 0)), p (.mv 2 (.nil 1))] none) <|
  .seq (.region [p (.mv 3 (.nil 1))] none) <|
  .seq (.seq (.region [p (.faddr 10 0 (.t 1)), p (.load 11 false 1 (.t 10)), p (.len 12 false (.t 11)), p (.mv 13 (.i .i64 0))] none) <|
  .block 0 <|
   .loop (.filt [1, 3, 11, 12, 13] c56l1)) <|
  .seq (.region [p (.mv 38 (.t 3)), p (.bsl 39 1 2 [(.int .u8 0)] [(0, (.i .u8 13)), (1, (.i .u8 10))]), p (.app 40 1 1 (.t 38) (.t 39)), p (.faddr 41 1 (.t 1)), p (.load 42 false 1 (.t 41)), p (.app 43 1 1 (.t 40) (.t 42)), p (.mv 2 (.t 43))] (some [0, 0, 3, 0, 8, 31, 63])) <|
  .ret⟩
theorem ok56 : compF Try.prog 56 = some c56.strip := by kernel_rfl

/-- posthouse/views.all -/
def c57l0 : AC :=
  .own 3 2 300 <|
  .seq (.region [p (.bin 10 .lss .int (.t 9) (.t 8))] none) <|
  .seq (.cond (.t 10) (.skip) <|
  .filt [3] <|
  .exit 0) <|
  .seq (.block 1 <|
   .seq (.region [p (.iaddr 11 6 (.t 7) (.t 9)), p (.load 12 true 6 (.t 11)), p (.alloc 5 [.t (.int .i64 0), .t (.int .i64 0), .t (.int .i64 0), .t (.int .i64 0), .nilsl 2, .nilsl 1]), p (.store 6 (.t 5) (.t 12))] none) <|
   .region [p (.mv 13 (.t 3)), p (.faddr 14 0 (.t 5)), p (.load 15 false 1 (.t 14)), p (.faddr 16 2 (.t 5)), p (.load 17 false 1 (.t 16)), p (.build 18 [.t (.int .i64 0), .t (.int .i64 0)] [(0, 1, (.t 15)), (1, 1, (.t 17))]), p (.bsl 19 2 1 [(.int .i64 0), (.int .i64 0)] [(0, (.t 18))]), p (.app 20 2 16 (.t 13) (.t 19)), p (.mv 3 (.t 20))] none) <|
  .region [p (.bin 21 .add .int (.t 9) (.i .i64 1)), p (.mv 9 (.t 21))] none
def c57 : FnC := ⟨1, 23, [.tmp 2],
  .seq (.region [p (.box 1 5 (.t 0)), p (.mv 2 (.nil 2))] none) <|
  .seq (.region [p (.mv 3 (.nil 2))] none) <|
  .seq (.seq (.region [p (.faddr 6 3 (.t 1)), p (.load 7 false 1 (.t 6)), p (.len 8 false (.t 7)), p (.mv 9 (.i .i64 0))] none) <|
  .block 0 <|
   .loop (.filt [3, 7, 8, 9] c57l0)) <|
  .seq (.region [p (.mv 22 (.t 3)), p (.mv 2 (.t 22))] none) <|
  .ret⟩
theorem ok57 : compF Try.prog 57 = some c57.strip := by kernel_rfl

/-- posthouse/views.known -/
def c58 : FnC := ⟨1, 21, [.tmp 2],
  .seq (.region [p (.box 1 2 (.t 0)), p (.mv 2 (.b false))] none) <|
  .seq (.region [p (.faddr 3 0 (.t 1)), p (.load 4 false 1 (.t 3)), p (.bin 5 .geq .int (.t 4) (.i .i64 1)), p (.mv 6 (.t 5)), q 6 true (.faddr 7 0 (.t 1)), q 6 true (.load 8 false 1 (.t 7)), q 6 true (.bin 9 .leq .int (.t 8) (.i .i64 1000000)), p (.pick 10 (.t 6) (.t 9) (.b false)), p (.mv 11 (.t 10)), q 11 true (.faddr 12 1 (.t 1)), q 11 true (.load 13 false 1 (.t 12)), q 11 true (.bin 14 .geq .int (.t 13) (.i .i64 0)), p (.pick 15 (.t 11) (.t 14) (.b false)), p (.mv 16 (.t 15)), q 16 true (.faddr 17 1 (.t 1)), q 16 true (.load 18 false 1 (.t 17)), q 16 true (.bin 19 .leq .int (.t 18) (.i .i64 63)), p (.pick 20 (.t 16) (.t 19) (.b false)), p (.mv 2 (.t 20))] none) <|
  .ret⟩
theorem ok58 : compF Try.prog 58 = some c58.strip := by kernel_rfl

/-- slices.BinarySearchFunc[[]posthouse/api.Seen,posthouse/api.Seen,posthouse/api.Seen] -/
def c60l0 : AC :=
  .seq (.seq (.region [p (.mv 15 (.t 9)), p (.mv 16 (.t 10)), p (.bin 17 .lss .int (.t 15) (.t 16))] none) <|
  .cond (.t 17) (.skip) <|
  .filt [0, 2, 4, 8, 9] <|
  .exit 0) <|
  .block 1 <|
   .seq (.region [p (.mv 18 (.t 9)), p (.mv 19 (.t 10)), p (.bin 20 .add .int (.t 18) (.t 19)), p (.conv 21 (.int .u64) (.t 20)), p (.bin 22 .shr .int (.t 21) (.i .u64 1)), p (.conv 23 (.int .i64) (.t 22)), p (.mv 11 (.t 23))] none) <|
   .seq (.region [p (.mv 24 (.t 2)), p (.mv 25 (.t 0)), p (.mv 26 (.t 11)), p (.iaddr 27 2 (.t 25) (.t 26)), p (.load 28 true 2 (.t 27)), p (.load 29 true 2 (.t 4)), p (.callv 30 (.t 24) [(.t 28), (.t 29)]), p (.bin 31 .lss .int (.t 30) (.i .i64 0))] (some [0, 0, 0, 6, 14, 0, 63, 127])) <|
   .cond (.t 31) (.region [p (.mv 32 (.t 11)), p (.bin 33 .add .int (.t 32) (.i .i64 1)), p (.mv 9 (.t 33))] none) <|
   .region [p (.mv 34 (.t 11)), p (.mv 10 (.t 34))] none
def c60 : FnC := ⟨3, 49, [.tmp 6, .tmp 7],
  .seq (.region [p (.box 4 2 (.t 1)), p (.mv 6 (.i .i64 0)), p (.mv 7 (.b false))] none) <|
  .seq (.region [p (.mv 12 (.t 0)), p (.len 13 false (.t 12)), p (.mv 8 (.t 13))] none) <|
  .seq (.region [p (.mv 14 (.t 8)), p (.mv 9 (.i .i64 0)), p (.mv 10 (.t 14))] none) <|
  .seq (.block 0 <|
   .loop (.filt [0, 2, 4, 8, 9, 10] c60l0)) <|
  .seq (.region [p (.mv 35 (.t 9)), p (.mv 36 (.t 9)), p (.mv 37 (.t 8)), p (.bin 38 .lss .int (.t 36) (.t 37)), p (.mv 39 (.t 38)), q 39 true (.mv 40 (.t 2)), q 39 true (.mv 41 (.t 0)), q 39 true (.mv 42 (.t 9)), q 39 true (.iaddr 43 2 (.t 41) (.t 42)), q 39 true (.load 44 true 2 (.t 43)), q 39 true (.load 45 true 2 (.t 4)), q 39 true (.callv 46 (.t 40) [(.t 44), (.t 45)]), q 39 true (.bin 47 .eql .int (.t 46) (.i .i64 0)), p (.pick 48 (.t 39) (.t 47) (.b false)), p (.mv 6 (.t 35)), p (.mv 7 (.t 48))] (some [0, 0, 0, 6, 14, 30, 30, 30, 222, 478, 30, 2046, 4094, 8190, 4095, 32767])) <|
  .ret⟩
theorem ok60 : compF Try.prog 60 = some c60.strip := by kernel_rfl

/-- posthouse/views.Update$1 -/
def c61 : FnC := ⟨2, 10, [.tmp 4],
  .seq (.region [p (.box 2 2 (.t 0)), p (.box 3 2 (.t 1)), p (.mv 4 (.i .i64 0))] none) <|
  .seq (.region [p (.faddr 5 0 (.t 2)), p (.load 6 false 1 (.t 5)), p (.faddr 7 0 (.t 3)), p (.load 8 false 1 (.t 7)), p (.bin 9 .sub .int (.t 6) (.t 8)), p (.mv 4 (.t 9))] none) <|
  .ret⟩
theorem ok61 : compF Try.prog 61 = some c61.strip := by kernel_rfl

/-- slices.DeleteFunc[[]posthouse/api.Seen,posthouse/api.Seen] -/
def c63l0 : AC :=
  .seq (.seq (.region [p (.mv 16 (.t 6)), p (.mv 17 (.t 0)), p (.len 18 false (.t 17)), p (.bin 19 .lss .int (.t 16) (.t 18))] none) <|
  .cond (.t 19) (.skip) <|
  .filt [0, 1, 5] <|
  .exit 0) <|
  .seq (.block 1 <|
   .seq (.region [p (.mv 22 (.t 0)), p (.mv 23 (.t 6)), p (.iaddr 24 2 (.t 22) (.t 23)), p (.load 25 true 2 (.t 24)), p (.alloc 7 [.t (.int .i64 0), .t (.int .i64 0)]), p (.store 2 (.t 7) (.t 25))] none) <|
   .seq (.region [p (.mv 26 (.t 1)), p (.load 27 true 2 (.t 7)), p (.callv 28 (.t 26) [(.t 27)]), p (.un 29 .not (.t 28))] none) <|
   .cond (.t 29) (.seq (.region [p (.mv 30 (.t 0)), p (.mv 31 (.t 5)), p (.load 32 true 2 (.t 7)), p (.iaddr 33 2 (.t 30) (.t 31)), p (.store 2 (.t 33) (.t 32))] none) <|
     .region [p (.mv 34 (.t 5)), p (.bin 35 .add .int (.t 34) (.i .i64 1)), p (.mv 5 (.t 35))] none) <|
   .skip) <|
  .region [p (.mv 20 (.t 6)), p (.bin 21 .add .int (.t 20) (.i .i64 1)), p (.mv 6 (.t 21))] none
def c63 : FnC := ⟨2, 42, [.tmp 4],
  .seq (.region [p (.mv 4 (.nil 2))] none) <|
  .seq (.region [p (.mv 8 (.t 0)), p (.mv 9 (.t 1)), p (.call 10 90 [(.t 8), (.t 9)]), p (.mv 5 (.t 10))] none) <|
  .seq (.seq (.region [p (.mv 11 (.t 5)), p (.bin 12 .eql .int (.t 11) (.i .i64 (-1)))] none) <|
  .cond (.t 12) (.seq (.region [p (.mv 13 (.t 0)), p (.mv 4 (.t 13))] none) <|
    .ret) <|
  .skip) <|
  .seq (.seq (.region [p (.mv 14 (.t 5)), p (.bin 15 .add .int (.t 14) (.i .i64 1)), p (.mv 6 (.t 15))] none) <|
  .block 0 <|
   .loop (.filt [0, 1, 5, 6] c63l0)) <|
  .seq (.region [p (.mv 36 (.t 0)), p (.mv 37 (.t 5)), p (.slc 38 false 2 (.t 36) (some (.t 37)) none none), p (.clr none 2 [(.int .i64 0), (.int .i64 0)] (.t 38))] none) <|
  .seq (.region [p (.mv 39 (.t 0)), p (.mv 40 (.t 5)), p (.slc 41 false 2 (.t 39) none (some (.t 40)) none), p (.mv 4 (.t 41))] none) <|
  .ret⟩
theorem ok63 : compF Try.prog 63 = some c63.strip := by kernel_rfl

/-- posthouse/views.Update$2 -/
def c64 : FnC := ⟨2, 8, [.tmp 3],
  .seq (.region [p (.box 2 2 (.t 0)), p (.mv 3 (.b false))] none) <|
  .seq (.region [p (.load 4 false 1 (.t 1)), p (.faddr 5 0 (.t 2)), p (.load 6 false 1 (.t 5)), p (.call 7 65 [(.t 4), (.t 6)]), p (.mv 3 (.t 7))] none) <|
  .ret⟩
theorem ok64 : compF Try.prog 64 = some c64.strip := by kernel_rfl

/-- slices.Contains[[]int,int] -/
def c65 : FnC := ⟨2, 9, [.tmp 4],
  .seq (.region [p (.mv 4 (.b false))] none) <|
  .seq (.region [p (.mv 5 (.t 0)), p (.mv 6 (.t 1)), p (.call 7 91 [(.t 5), (.t 6)]), p (.bin 8 .geq .int (.t 7) (.i .i64 0)), p (.mv 4 (.t 8))] none) <|
  .ret⟩
theorem ok65 : compF Try.prog 65 = some c65.strip := by kernel_rfl

/-- slices.Equal[[]posthouse/api.Seen,posthouse/api.Seen] -/
def c66l0 : AC :=
  .seq (.region [p (.bin 14 .lss .int (.t 13) (.t 12))] none) <|
  .seq (.cond (.t 14) (.skip) <|
  .filt [0, 1] <|
  .exit 0) <|
  .seq (.block 1 <|
   .seq (.region [p (.mv 15 (.t 13)), p (.mv 5 (.t 15))] none) <|
   .seq (.region [p (.mv 16 (.t 0)), p (.mv 17 (.t 5)), p (.iaddr 18 2 (.t 16) (.t 17)), p (.load 19 true 2 (.t 18)), p (.mv 20 (.t 1)), p (.mv 21 (.t 5)), p (.iaddr 22 2 (.t 20) (.t 21)), p (.load 23 true 2 (.t 22)), p (.bin 24 .neq (.agg [.i, .i]) (.t 19) (.t 23))] (some [0, 0, 3, 7, 0, 0, 48, 112, 255])) <|
   .cond (.t 24) (.seq (.region [p (.mv 4 (.b false))] none) <|
     .filt [0, 1, 4] <|
     .ret) <|
   .skip) <|
  .region [p (.bin 25 .add .int (.t 13) (.i .i64 1)), p (.mv 13 (.t 25))] none
def c66 : FnC := ⟨2, 26, [.tmp 4],
  .seq (.region [p (.mv 4 (.b false))] none) <|
  .seq (.seq (.region [p (.mv 6 (.t 0)), p (.len 7 false (.t 6)), p (.mv 8 (.t 1)), p (.len 9 false (.t 8)), p (.bin 10 .neq .int (.t 7) (.t 9))] none) <|
  .cond (.t 10) (.seq (.region [p (.mv 4 (.b false))] none) <|
    .ret) <|
  .skip) <|
  .seq (.seq (.region [p (.mv 11 (.t 0)), p (.len 12 false (.t 11)), p (.mv 13 (.i .i64 0))] none) <|
  .block 0 <|
   .loop (.filt [0, 1, 12, 13] c66l0)) <|
  .seq (.region [p (.mv 4 (.b true))] none) <|
  .ret⟩
theorem ok66 : compF Try.prog 66 = some c66.strip := by kernel_rfl

/-- posthouse/posthouseref8.at -/
def c67 : FnC := ⟨2, 8, [.cell 4 true 2],
  .seq (.region [p (.alloc 4 [.t (.int .i64 0), .t (.int .i64 0)])] none) <|
  .seq (.region [p (.mv 5 (.t 0)), p (.mv 6 (.t 1)), p (.build 7 [.t (.int .i64 0), .t (.int .i64 0)] [(0, 1, (.t 5)), (1, 1, (.t 6))]), p (.store 2 (.t 4) (.t 7))] none) <|
  .ret⟩
theorem ok67 : compF Try.prog 67 = some c67.strip := by kernel_rfl

/-- posthouse/posthouseref8.MessageFault -/
def c68 : FnC := ⟨1, 5, [.cell 2 true 2],
  .seq (.region [p (.box 1 2 (.t 0)), p (.alloc 2 [.t (.int .i64 0), .t (.int .i64 0)])] none) <|
  .seq (.region [p (.load 3 true 2 (.t 1)), p (.call 4 92 [(.t 3)]), p (.store 2 (.t 2) (.t 4))] none) <|
  .ret⟩
theorem ok68 : compF Try.prog 68 = some c68.strip := by kernel_rfl

/-- posthouse/posthouseref8.Place -/
def c69l0 : AC :=
  .seq (.seq (.region [p (.mv 6 (.t 5)), p (.faddr 7 3 (.t 2)), p (.load 8 false 1 (.t 7)), p (.len 9 false (.t 8)), p (.bin 10 .lss .int (.t 6) (.t 9))] none) <|
  .cond (.t 10) (.skip) <|
  .filt [] <|
  .exit 0) <|
  .seq (.block 1 <|
   .seq (.region [p (.faddr 13 3 (.t 2)), p (.load 14 false 1 (.t 13)), p (.mv 15 (.t 5)), p (.iaddr 16 6 (.t 14) (.t 15)), p (.faddr 17 0 (.t 16)), p (.load 18 false 1 (.t 17)), p (.mv 19 (.t 1)), p (.bin 20 .eql .int (.t 18) (.t 19))] none) <|
   .cond (.t 20) (.seq (.region [p (.mv 21 (.t 5)), p (.mv 4 (.t 21))] none) <|
     .filt [4] <|
     .ret) <|
   .skip) <|
  .region [p (.mv 11 (.t 5)), p (.bin 12 .add .int (.t 11) (.i .i64 1)), p (.mv 5 (.t 12))] none
def c69 : FnC := ⟨2, 22, [.tmp 4],
  .seq (.region [p (.box 2 5 (.t 0)), p (.mv 4 (.i .i64 0))] none) <|
  .seq (.seq (.region [p (.mv 5 (.i .i64 0))] none) <|
  .block 0 <|
   .loop (.filt [1, 2, 5] c69l0)) <|
  .seq (.region [p (.mv 4 (.i .i64 (-1)))] none) <|
  .ret⟩
theorem ok69 : compF Try.prog 69 = some c69.strip := by kernel_rfl

/-- posthouse/resync.since -/
def c70l0 : AC :=
  .own 4 2 400 <|
  .seq (.region [p (.bin 14 .lss .int (.t 13) (.t 12))] none) <|
  .seq (.cond (.t 14) (.skip) <|
  .filt [1, 2, 4, 5] <|
  .exit 0) <|
  .seq (.block 1 <|
   .seq (.region [p (.iaddr 15 6 (.t 11) (.t 13)), p (.load 16 true 6 (.t 15)), p (.alloc 7 [.t (.int .i64 0), .t (.int .i64 0), .t (.int .i64 0), .t (.int .i64 0), .nilsl 2, .nilsl 1]), p (.store 6 (.t 7) (.t 16))] none) <|
   .seq (.region [p (.faddr 17 1 (.t 7)), p (.load 18 false 1 (.t 17)), p (.mv 19 (.t 1)), p (.bin 20 .geq .int (.t 18) (.t 19))] none) <|
   .cond (.t 20) (.region [p (.mv 21 (.t 4)), p (.faddr 22 0 (.t 7)), p (.load 23 false 1 (.t 22)), p (.faddr 24 2 (.t 7)), p (.load 25 false 1 (.t 24)), p (.build 26 [.t (.int .i64 0), .t (.int .i64 0)] [(0, 1, (.t 23)), (1, 1, (.t 25))]), p (.bsl 27 2 1 [(.int .i64 0), (.int .i64 0)] [(0, (.t 26))]), p (.app 28 2 16 (.t 21) (.t 27)), p (.mv 4 (.t 28))] none) <|
   .skip) <|
  .region [p (.bin 29 .add .int (.t 13) (.i .i64 1)), p (.mv 13 (.t 29))] none
def c70l1 : AC :=
  .own 5 1 500 <|
  .seq (.region [p (.bin 34 .lss .int (.t 33) (.t 32))] none) <|
  .seq (.cond (.t 34) (.skip) <|
  .filt [4, 5] <|
  .exit 2) <|
  .seq (.block 3 <|
   .seq (.region [p (.iaddr 35 2 (.t 31) (.t 33)), p (.load 36 true 2 (.t 35)), p (.alloc 9 [.t (.int .i64 0), .t (.int .i64 0)]), p (.store 2 (.t 9) (.t 36))] none) <|
   .seq (.region [p (.faddr 37 1 (.t 9)), p (.load 38 false 1 (.t 37)), p (.mv 39 (.t 1)), p (.bin 40 .geq .int (.t 38) (.t 39))] none) <|
   .cond (.t 40) (.region [p (.mv 41 (.t 5)), p (.faddr 42 0 (.t 9)), p (.load 43 false 1 (.t 42)), p (.bsl 44 1 1 [(.int .i64 0)] [(0, (.t 43))]), p (.app 45 1 8 (.t 41) (.t 44)), p (.mv 5 (.t 45))] none) <|
   .skip) <|
  .region [p (.bin 46 .add .int (.t 33) (.i .i64 1)), p (.mv 33 (.t 46))] none
def c70 : FnC := ⟨2, 49, [.tmp 4, .tmp 5],
  .seq (.region [p (.box 2 5 (.t 0)), p (.mv 4 (.nil 2)), p (.mv 5 (.nil 1))] none) <|
  .seq (.seq (.region [p (.faddr 10 3 (.t 2)), p (.load 11 false 1 (.t 10)), p (.len 12 false (.t 11)), p (.mv 13 (.i .i64 0))] none) <|
  .block 0 <|
   .loop (.filt [1, 2, 4, 5, 11, 12, 13] c70l0)) <|
  .seq (.seq (.region [p (.faddr 30 4 (.t 2)), p (.load 31 false 1 (.t 30)), p (.len 32 false (.t 31)), p (.mv 33 (.i .i64 0))] none) <|
  .block 2 <|
   .loop (.filt [1, 4, 5, 31, 32, 33] c70l1)) <|
  .seq (.region [p (.mv 47 (.t 4)), p (.mv 48 (.t 5)), p (.mv 4 (.t 47)), p (.mv 5 (.t 48))] none) <|
  .ret⟩
theorem ok70 : compF Try.prog 70 = some c70.strip := by kernel_rfl

/-- posthouse/mailbox.Copy -/
def c71l0 : AC :=
  .seq (.region [p (.bin 16 .lss .int (.t 15) (.t 14))] none) <|
  .seq (.cond (.t 16) (.skip) <|
  .filt [1, 2] <|
  .exit 0) <|
  .seq (.block 1 <|
   .seq (.region [p (.mv 17 (.t 15)), p (.mv 3 (.t 17))] none) <|
   .region [p (.faddr 18 3 (.t 1)), p (.load 19 false 1 (.t 18)), p (.mv 20 (.t 3)), p (.faddr 21 3 (.t 1)), p (.load 22 false 1 (.t 21)), p (.mv 23 (.t 3)), p (.iaddr 24 6 (.t 22) (.t 23)), p (.faddr 25 4 (.t 24)), p (.load 26 true 2 (.t 25)), p (.call 27 85 [(.t 26)]), p (.iaddr 28 6 (.t 19) (.t 20)), p (.faddr 29 4 (.t 28)), p (.store 2 (.t 29) (.t 27))] (some [0, 1, 0, 0, 8, 0, 56, 120, 248, 504, 1023, 2047, 4095])) <|
  .region [p (.bin 30 .add .int (.t 15) (.i .i64 1)), p (.mv 15 (.t 30))] none
def c71 : FnC := ⟨1, 32, [.cell 2 true 5],
  .seq (.region [p (.box 1 5 (.t 0)), p (.alloc 2 [.t (.int .i64 0), .t (.int .i64 0), .t (.int .i64 0), .nilsl 6, .nilsl 2])] none) <|
  .seq (.region [p (.faddr 4 3 (.t 1)), p (.load 5 false 1 (.t 4)), p (.call 6 93 [(.t 5)]), p (.faddr 7 4 (.t 1)), p (.load 8 false 1 (.t 7)), p (.call 9 94 [(.t 8)]), p (.faddr 10 3 (.t 1)), p (.store 1 (.t 10) (.t 6)), p (.faddr 11 4 (.t 1)), p (.store 1 (.t 11) (.t 9))] (some [0, 1, 3, 0, 8, 31, 31, 127, 255, 511])) <|
  .seq (.seq (.region [p (.faddr 12 3 (.t 1)), p (.load 13 false 1 (.t 12)), p (.len 14 false (.t 13)), p (.mv 15 (.i .i64 0))] none) <|
  .block 0 <|
   .loop (.filt [1, 2, 14, 15] c71l0)) <|
  .seq (.region [p (.load 31 true 5 (.t 1)), p (.store 5 (.t 2) (.t 31))] none) <|
  .ret⟩
theorem ok71 : compF Try.prog 71 = some c71.strip := by kernel_rfl

/-- slices.DeleteFunc[[]posthouse/api.Gone,posthouse/api.Gone] -/
def c72l0 : AC :=
  .seq (.seq (.region [p (.mv 16 (.t 6)), p (.mv 17 (.t 0)), p (.len 18 false (.t 17)), p (.bin 19 .lss .int (.t 16) (.t 18))] none) <|
  .cond (.t 19) (.skip) <|
  .filt [0, 1, 5] <|
  .exit 0) <|
  .seq (.block 1 <|
   .seq (.region [p (.mv 22 (.t 0)), p (.mv 23 (.t 6)), p (.iaddr 24 2 (.t 22) (.t 23)), p (.load 25 true 2 (.t 24)), p (.alloc 7 [.t (.int .i64 0), .t (.int .i64 0)]), p (.store 2 (.t 7) (.t 25))] none) <|
   .seq (.region [p (.mv 26 (.t 1)), p (.load 27 true 2 (.t 7)), p (.callv 28 (.t 26) [(.t 27)]), p (.un 29 .not (.t 28))] none) <|
   .cond (.t 29) (.seq (.region [p (.mv 30 (.t 0)), p (.mv 31 (.t 5)), p (.load 32 true 2 (.t 7)), p (.iaddr 33 2 (.t 30) (.t 31)), p (.store 2 (.t 33) (.t 32))] none) <|
     .region [p (.mv 34 (.t 5)), p (.bin 35 .add .int (.t 34) (.i .i64 1)), p (.mv 5 (.t 35))] none) <|
   .skip) <|
  .region [p (.mv 20 (.t 6)), p (.bin 21 .add .int (.t 20) (.i .i64 1)), p (.mv 6 (.t 21))] none
def c72 : FnC := ⟨2, 42, [.tmp 4],
  .seq (.region [p (.mv 4 (.nil 2))] none) <|
  .seq (.region [p (.mv 8 (.t 0)), p (.mv 9 (.t 1)), p (.call 10 95 [(.t 8), (.t 9)]), p (.mv 5 (.t 10))] none) <|
  .seq (.seq (.region [p (.mv 11 (.t 5)), p (.bin 12 .eql .int (.t 11) (.i .i64 (-1)))] none) <|
  .cond (.t 12) (.seq (.region [p (.mv 13 (.t 0)), p (.mv 4 (.t 13))] none) <|
    .ret) <|
  .skip) <|
  .seq (.seq (.region [p (.mv 14 (.t 5)), p (.bin 15 .add .int (.t 14) (.i .i64 1)), p (.mv 6 (.t 15))] none) <|
  .block 0 <|
   .loop (.filt [0, 1, 5, 6] c72l0)) <|
  .seq (.region [p (.mv 36 (.t 0)), p (.mv 37 (.t 5)), p (.slc 38 false 2 (.t 36) (some (.t 37)) none none), p (.clr none 2 [(.int .i64 0), (.int .i64 0)] (.t 38))] none) <|
  .seq (.region [p (.mv 39 (.t 0)), p (.mv 40 (.t 5)), p (.slc 41 false 2 (.t 39) none (some (.t 40)) none), p (.mv 4 (.t 41))] none) <|
  .ret⟩
theorem ok72 : compF Try.prog 72 = some c72.strip := by kernel_rfl

/-- posthouse/compact.Trim$1 -/
def c73 : FnC := ⟨2, 8, [.tmp 3],
  .seq (.region [p (.box 2 2 (.t 0)), p (.mv 3 (.b false))] none) <|
  .seq (.region [p (.faddr 4 1 (.t 2)), p (.load 5 false 1 (.t 4)), p (.load 6 false 1 (.t 1)), p (.bin 7 .leq .int (.t 5) (.t 6)), p (.mv 3 (.t 7))] none) <|
  .ret⟩
theorem ok73 : compF Try.prog 73 = some c73.strip := by kernel_rfl

/-- posthouse/offline.valid -/
def c74 : FnC := ⟨1, 36, [.tmp 2],
  .seq (.region [p (.box 1 4 (.t 0)), p (.mv 2 (.i .i64 0))] none) <|
  .seq (.region [p (.mv 3 (.f 96))] none) <|
  .seq (.block 0 <|
   .seq (.region [p (.mv 5 (.t 3)), p (.faddr 6 1 (.t 1)), p (.load 7 false 1 (.t 6)), p (.callv 8 (.t 5) [(.t 7)]), p (.un 9 .not (.t 8)), p (.mv 10 (.t 9)), q 10 false (.mv 11 (.t 3)), q 10 false (.faddr 12 2 (.t 1)), q 10 false (.load 13 false 1 (.t 12)), q 10 false (.callv 14 (.t 11) [(.t 13)]), q 10 false (.un 15 .not (.t 14)), p (.pick 16 (.t 10) (.b true) (.t 15)), p (.mv 4 (.t 16))] none) <|
   .cond (.t 4) (.seq (.region [p (.mv 2 (.i .i64 3))] none) <|
     .ret) <|
   .seq (.region [p (.faddr 18 3 (.t 1)), p (.load 19 false 1 (.t 18)), p (.mv 20 (.t 19)), q 20 true (.faddr 21 1 (.t 1)), q 20 true (.load 22 false 1 (.t 21)), q 20 true (.faddr 23 2 (.t 1)), q 20 true (.load 24 false 1 (.t 23)), q 20 true (.bin 25 .add .int (.t 22) (.t 24)), q 20 true (.bin 26 .neq .int (.t 25) (.i .i64 0)), p (.pick 27 (.t 20) (.t 26) (.b false)), p (.mv 28 (.t 27)), q 28 false (.faddr 29 1 (.t 1)), q 28 false (.load 30 false 1 (.t 29)), q 28 false (.faddr 31 2 (.t 1)), q 28 false (.load 32 false 1 (.t 31)), q 28 false (.bin 33 .and .int (.t 30) (.t 32)), q 28 false (.bin 34 .neq .int (.t 33) (.i .i64 0)), p (.pick 35 (.t 28) (.b true) (.t 34)), p (.mv 17 (.t 35))] none) <|
   .cond (.t 17) (.seq (.region [p (.mv 2 (.i .i64 5))] none) <|
     .ret) <|
   .skip) <|
  .seq (.region [p (.mv 2 (.i .i64 0))] none) <|
  .ret⟩
theorem ok74 : compF Try.prog 74 = some c74.strip := by kernel_rfl

/-- posthouse/posthouseref2.MessageBytes -/
def c76 : FnC := ⟨1, 9, [.tmp 2],
  .seq (.region [p (.box 1 2 (.t 0)), p (.mv 2 (.nil 1))] none) <|
  .seq (.region [p (.faddr 3 0 (.t 1)), p (.load 4 false 1 (.t 3)), p (.call 5 97 [(.t 4)]), p (.faddr 6 1 (.t 1)), p (.load 7 false 1 (.t 6)), p (.app 8 1 1 (.t 5) (.t 7)), p (.mv 2 (.t 8))] (some [0, 1, 3, 0, 8, 31, 63])) <|
  .ret⟩
theorem ok76 : compF Try.prog 76 = some c76.strip := by kernel_rfl

/-- posthouse/header.Validate -/
def c77l0 : AC :=
  .seq (.region [p (.bin 14 .lss .int (.t 13) (.t 12))] none) <|
  .seq (.cond (.t 14) (.skip) <|
  .filt [2] <|
  .exit 0) <|
  .seq (.block 1 <|
   .seq (.region [p (.mv 15 (.t 13)), p (.iaddr 16 2 (.t 11) (.t 13)), p (.load 17 true 2 (.t 16)), p (.alloc 4 [.t (.str []), .t (.str [])]), p (.mv 3 (.t 15)), p (.store 2 (.t 4) (.t 17))] none) <|
   .seq (.region [p (.faddr 19 0 (.t 4)), p (.load 20 false 1 (.t 19)), p (.faddr 21 1 (.t 4)), p (.load 22 false 1 (.t 21)), p (.call 23 87 [(.t 20), (.t 22)]), p (.mv 18 (.t 23)), p (.ext 24 (.t 18) 0), p (.ext 25 (.t 18) 1), p (.alloc 6 [.t (.int .i64 0), .t (.int .i64 0)]), p (.mv 5 (.t 24)), p (.store 2 (.t 6) (.t 25))] none) <|
   .seq (.region [p (.load 26 true 2 (.t 6)), p (.call 27 45 [(.t 26)])] none) <|
   .cond (.t 27) (.seq (.region [p (.faddr 28 0 (.t 6)), p (.load 29 false 1 (.t 28)), p (.mv 30 (.t 3)), p (.call 31 48 [(.t 29), (.t 30)]), p (.store 2 (.t 2) (.t 31))] none) <|
     .filt [2] <|
     .ret) <|
   .skip) <|
  .region [p (.bin 32 .add .int (.t 13) (.i .i64 1)), p (.mv 13 (.t 32))] none
def c77 : FnC := ⟨1, 34, [.cell 2 true 2],
  .seq (.region [p (.alloc 2 [.t (.int .i64 0), .t (.int .i64 0)])] none) <|
  .seq (.seq (.region [p (.mv 7 (.t 0)), p (.len 8 false (.t 7)), p (.bin 9 .gtr .int (.t 8) (.i .i64 60))] none) <|
  .cond (.t 9) (.seq (.region [p (.call 10 48 [(.i .i64 2), (.i .i64 (-1))]), p (.store 2 (.t 2) (.t 10))] none) <|
    .ret) <|
  .skip) <|
  .seq (.seq (.region [p (.mv 11 (.t 0)), p (.len 12 false (.t 11)), p (.mv 13 (.i .i64 0))] none) <|
  .block 0 <|
   .loop (.filt [2, 11, 12, 13] c77l0)) <|
  .seq (.region [p (.call 33 53 []), p (.store 2 (.t 2) (.t 33))] none) <|
  .ret⟩
theorem ok77 : compF Try.prog 77 = some c77.strip := by kernel_rfl

/-- posthouse/message.body -/
def c78 : FnC := ⟨1, 12, [.cell 2 true 2],
  .seq (.region [p (.alloc 2 [.t (.int .i64 0), .t (.int .i64 0)])] none) <|
  .seq (.seq (.region [p (.mv 3 (.t 0)), p (.call 4 98 [(.t 3)])] none) <|
  .block 0 <|
   .seq (.region [p (.bin 6 .eql .int (.t 4) (.i .i64 11)), p (.mv 5 (.t 6))] none) <|
   .cond (.t 5) (.seq (.region [p (.call 7 48 [(.i .i64 11), (.i .i64 (-5))]), p (.store 2 (.t 2) (.t 7))] none) <|
     .ret) <|
   .seq (.region [p (.bin 9 .eql .int (.t 4) (.i .i64 1)), p (.mv 8 (.t 9))] none) <|
   .cond (.t 8) (.seq (.region [p (.call 10 48 [(.i .i64 1), (.i .i64 (-6))]), p (.store 2 (.t 2) (.t 10))] none) <|
     .ret) <|
   .skip) <|
  .seq (.region [p (.call 11 53 []), p (.store 2 (.t 2) (.t 11))] none) <|
  .ret⟩
theorem ok78 : compF Try.prog 78 = some c78.strip := by kernel_rfl

/-- posthouse/mailbox.between -/
def c79 : FnC := ⟨3, 15, [.tmp 6],
  .seq (.region [p (.mv 6 (.b false))] none) <|
  .seq (.region [p (.mv 7 (.t 0)), p (.mv 8 (.t 1)), p (.bin 9 .geq .int (.t 7) (.t 8)), p (.mv 10 (.t 9)), q 10 true (.mv 11 (.t 0)), q 10 true (.mv 12 (.t 2)), q 10 true (.bin 13 .leq .int (.t 11) (.t 12)), p (.pick 14 (.t 10) (.t 13) (.b false)), p (.mv 6 (.t 14))] none) <|
  .ret⟩
theorem ok79 : compF Try.prog 79 = some c79.strip := by kernel_rfl

/-- posthouse/basic.Time -/
def c80 : FnC := ⟨1, 9, [.tmp 2],
  .seq (.region [p (.mv 2 (.b false))] none) <|
  .seq (.region [p (.mv 3 (.t 0)), p (.bin 4 .geq .int (.t 3) (.i .i64 (-68719476736))), p (.mv 5 (.t 4)), q 5 true (.mv 6 (.t 0)), q 5 true (.bin 7 .leq .int (.t 6) (.i .i64 68719476736)), p (.pick 8 (.t 5) (.t 7) (.b false)), p (.mv 2 (.t 8))] none) <|
  .ret⟩
theorem ok80 : compF Try.prog 80 = some c80.strip := by kernel_rfl

/-- posthouse/mailbox.removed -/
def c81 : FnC := ⟨2, 62, [.tmp 4],
  .seq (.region [p (.box 2 5 (.t 0)), p (.mv 4 (.i .i64 0))] none) <|
  .seq (.region [p (.faddr 7 4 (.t 2)), p (.load 8 false 1 (.t 7)), p (.mv 9 (.t 1)), p (.iaddr 10 2 (.t 8) (.t 9)), p (.load 11 true 2 (.t 10)), p (.alloc 5 [.t (.int .i64 0), .t (.int .i64 0)]), p (.store 2 (.t 5) (.t 11))] none) <|
  .seq (.region [p (.mkfn 12 99 [(.t 5)]), p (.mv 6 (.t 12))] none) <|
  .seq (.block 0 <|
   .seq (.region [p (.faddr 14 0 (.t 5)), p (.load 15 false 1 (.t 14)), p (.faddr 16 0 (.t 2)), p (.load 17 false 1 (.t 16)), p (.bin 18 .sub .int (.t 17) (.i .i64 1)), p (.call 19 79 [(.t 15), (.i .i64 1), (.t 18)]), p (.un 20 .not (.t 19)), p (.mv 21 (.t 20)), q 21 false (.faddr 22 1 (.t 5)), q 21 false (.load 23 false 1 (.t 22)), q 21 false (.faddr 24 2 (.t 2)), q 21 false (.load 25 false 1 (.t 24)), q 21 false (.bin 26 .add .int (.t 25) (.i .i64 1)), q 21 false (.faddr 27 1 (.t 2)), q 21 false (.load 28 false 1 (.t 27)), q 21 false (.bin 29 .sub .int (.t 28) (.i .i64 1)), q 21 false (.call 30 79 [(.t 23), (.t 26), (.t 29)]), q 21 false (.un 31 .not (.t 30)), p (.pick 32 (.t 21) (.b true) (.t 31)), p (.mv 13 (.t 32))] none) <|
   .cond (.t 13) (.seq (.region [p (.mv 4 (.i .i64 3))] none) <|
     .ret) <|
   .seq (.region [p (.mv 34 (.t 1)), p (.bin 35 .gtr .int (.t 34) (.i .i64 0)), p (.mv 36 (.t 35)), q 36 true (.faddr 37 1 (.t 5)), q 36 true (.load 38 false 1 (.t 37)), q 36 true (.faddr 39 4 (.t 2)), q 36 true (.load 40 false 1 (.t 39)), q 36 true (.mv 41 (.t 1)), q 36 true (.bin 42 .sub .int (.t 41) (.i .i64 1)), q 36 true (.iaddr 43 2 (.t 40) (.t 42)), q 36 true (.faddr 44 1 (.t 43)), q 36 true (.load 45 false 1 (.t 44)), q 36 true (.bin 46 .leq .int (.t 38) (.t 45)), p (.pick 47 (.t 36) (.t 46) (.b false)), p (.mv 33 (.t 47))] (some [0, 1, 3, 7, 15, 7, 39, 7, 135, 487, 999, 2023, 4095, 8191, 16383])) <|
   .cond (.t 33) (.seq (.region [p (.mv 4 (.i .i64 19))] none) <|
     .ret) <|
   .seq (.region [p (.faddr 49 4 (.t 2)), p (.load 50 false 1 (.t 49)), p (.mv 51 (.t 1)), p (.slc 52 false 2 (.t 50) none (some (.t 51)) none), p (.mv 53 (.t 6)), p (.call 54 100 [(.t 52), (.t 53)]), p (.mv 55 (.t 54)), q 55 false (.load 56 true 5 (.t 2)), q 55 false (.faddr 57 0 (.t 5)), q 55 false (.load 58 false 1 (.t 57)), q 55 false (.call 59 83 [(.t 56), (.t 58)]), q 55 false (.bin 60 .geq .int (.t 59) (.i .i64 0)), p (.pick 61 (.t 55) (.b true) (.t 60)), p (.mv 48 (.t 61))] none) <|
   .cond (.t 48) (.seq (.region [p (.mv 4 (.i .i64 7))] none) <|
     .ret) <|
   .skip) <|
  .seq (.region [p (.mv 4 (.i .i64 0))] none) <|
  .ret⟩
theorem ok81 : compF Try.prog 81 = some c81.strip := by kernel_rfl

end Go.Proofs.Ytbempckmbfbjgaa.Code

namespace Go.Proofs.Ytbempckmbfbjgaa.Code
open Go.Ev
set_option maxRecDepth 100000

/-- posthouse/mailbox.change -/
def c82 : FnC := ⟨1, 87, [.cell 2 true 2],
  .seq (.region [p (.box 1 7 (.t 0)), p (.alloc 2 [.t (.int .i64 0), .t (.int .i64 0)])] none) <|
  .seq (.region [p (.faddr 7 2 (.t 1)), p (.load 8 false 1 (.t 7)), p (.faddr 9 3 (.t 1)), p (.load 10 false 1 (.t 9)), p (.build 11 [.t (.int .i64 0), .t (.int .i64 0)] [(0, 1, (.t 8)), (1, 1, (.t 10))]), p (.alloc 3 [.t (.int .i64 0), .t (.int .i64 0)]), p (.store 2 (.t 3) (.t 11))] none) <|
  .seq (.region [p (.faddr 12 5 (.t 1)), p (.faddr 13 0 (.t 12)), p (.load 14 false 1 (.t 13)), p (.len 15 false (.t 14)), p (.faddr 16 5 (.t 1)), p (.faddr 17 1 (.t 16)), p (.load 18 false 1 (.t 17)), p (.len 19 false (.t 18)), p (.bin 20 .add .int (.t 15) (.t 19)), p (.bin 21 .gtr .int (.t 20) (.i .i64 0)), p (.mv 4 (.t 21))] none) <|
  .seq (.region [p (.mv 5 (.b false))] none) <|
  .seq (.seq (.region [p (.faddr 22 0 (.t 1)), p (.load 23 false 1 (.t 22))] none) <|
  .block 0 <|
   .seq (.region [p (.bin 26 .eql .int (.t 23) (.i .i64 1)), p (.mv 25 (.t 26))] none) <|
   .cond (.t 25) (.region [p (.faddr 27 1 (.t 1)), p (.load 28 false 1 (.t 27)), p (.bin 29 .neq .int (.t 28) (.i .i64 0)), p (.mv 30 (.t 29)), q 30 false (.faddr 31 3 (.t 1)), q 30 false (.load 32 false 1 (.t 31)), q 30 false (.bin 33 .neq .int (.t 32) (.i .i64 0)), p (.pick 34 (.t 30) (.b true) (.t 33)), p (.mv 5 (.t 34))] none) <|
   .seq (.region [p (.bin 36 .eql .int (.t 23) (.i .i64 2)), p (.mv 35 (.t 36))] none) <|
   .cond (.t 35) (.region [p (.faddr 37 4 (.t 1)), p (.load 38 false 1 (.t 37)), p (.bin 39 .neq .int (.t 38) (.i .i64 0)), p (.mv 40 (.t 39)), q 40 false (.mv 41 (.t 4)), p (.pick 42 (.t 40) (.b true) (.t 41)), p (.mv 5 (.t 42))] none) <|
   .seq (.region [p (.bin 44 .eql .int (.t 23) (.i .i64 3)), p (.mv 43 (.t 44))] none) <|
   .cond (.t 43) (.region [p (.faddr 45 4 (.t 1)), p (.load 46 false 1 (.t 45)), p (.bin 47 .neq .int (.t 46) (.i .i64 0)), p (.mv 48 (.t 47)), q 48 false (.mv 49 (.t 4)), p (.pick 50 (.t 48) (.b true) (.t 49)), p (.mv 51 (.t 50)), q 51 false (.load 52 true 2 (.t 3)), q 51 false (.build 53 [.t (.int .i64 0), .t (.int .i64 0)] []), q 51 false (.bin 54 .neq (.agg [.i, .i]) (.t 52) (.t 53)), p (.pick 55 (.t 51) (.b true) (.t 54)), p (.mv 5 (.t 55))] none) <|
   .seq (.region [p (.call 24 48 [(.i .i64 4), (.i .i64 (-5))]), p (.store 2 (.t 2) (.t 24))] none) <|
   .ret) <|
  .seq (.seq (.region [p (.mv 56 (.t 5))] none) <|
  .cond (.t 56) (.seq (.region [p (.call 57 48 [(.i .i64 5), (.i .i64 (-5))]), p (.store 2 (.t 2) (.t 57))] none) <|
    .ret) <|
  .skip) <|
  .seq (.seq (.region [p (.faddr 58 2 (.t 1)), p (.load 59 false 1 (.t 58)), p (.call 60 79 [(.t 59), (.i .i64 0), (.i .i64 63)]), p (.un 61 .not (.t 60)), p (.mv 62 (.t 61)), q 62 false (.faddr 63 3 (.t 1)), q 62 false (.load 64 false 1 (.t 63)), q 62 false (.call 65 79 [(.t 64), (.i .i64 0), (.i .i64 63)]), q 62 false (.un 66 .not (.t 65)), p (.pick 67 (.t 62) (.b true) (.t 66)), p (.mv 68 (.t 67)), q 68 false (.faddr 69 4 (.t 1)), q 68 false (.load 70 false 1 (.t 69)), q 68 false (.call 71 80 [(.t 70)]), q 68 false (.un 72 .not (.t 71)), p (.pick 73 (.t 68) (.b true) (.t 72))] none) <|
  .cond (.t 73) (.seq (.region [p (.call 74 48 [(.i .i64 3), (.i .i64 (-5))]), p (.store 2 (.t 2) (.t 74))] none) <|
    .ret) <|
  .skip) <|
  .seq (.seq (.region [p (.faddr 75 0 (.t 1)), p (.load 76 false 1 (.t 75)), p (.bin 77 .eql .int (.t 76) (.i .i64 1))] none) <|
  .cond (.t 77) (.seq (.region [p (.faddr 78 5 (.t 1)), p (.load 79 true 2 (.t 78)), p (.call 80 47 [(.t 79)]), p (.alloc 6 [.t (.int .i64 0), .t (.int .i64 0)]), p (.store 2 (.t 6) (.t 80))] none) <|
    .seq (.region [p (.load 81 true 2 (.t 6)), p (.call 82 45 [(.t 81)])] none) <|
    .cond (.t 82) (.seq (.region [p (.faddr 83 0 (.t 6)), p (.load 84 false 1 (.t 83)), p (.call 85 48 [(.t 84), (.i .i64 (-6))]), p (.store 2 (.t 2) (.t 85))] none) <|
      .ret) <|
    .skip) <|
  .skip) <|
  .seq (.region [p (.call 86 53 []), p (.store 2 (.t 2) (.t 86))] none) <|
  .ret⟩
theorem ok82 : compF Try.prog 82 = some c82.strip := by kernel_rfl

/-- posthouse/mailbox.Find -/
def c83 : FnC := ⟨2, 9, [.tmp 4],
  .seq (.region [p (.box 2 5 (.t 0)), p (.box 3 1 (.t 1)), p (.mv 4 (.i .i64 0))] none) <|
  .seq (.region [p (.faddr 5 3 (.t 2)), p (.load 6 false 1 (.t 5)), p (.mkfn 7 102 [(.t 3)]), p (.call 8 101 [(.t 6), (.t 7)]), p (.mv 4 (.t 8))] none) <|
  .ret⟩
theorem ok83 : compF Try.prog 83 = some c83.strip := by kernel_rfl

/-- (*posthouse/mailbox.state).next -/
def c84 : FnC := ⟨1, 18, [.tmp 2],
  .seq (.region [p (.mv 2 (.i .i64 0))] none) <|
  .seq (.region [p (.mv 3 (.t 0)), p (.nilchk 4 (.t 3)), p (.faddr 5 0 (.t 4)), p (.faddr 6 1 (.t 5)), p (.load 7 false 1 (.t 6)), p (.bin 8 .add .int (.t 7) (.i .i64 1)), p (.nilchk 9 (.t 3)), p (.faddr 10 0 (.t 9)), p (.faddr 11 1 (.t 10)), p (.store 1 (.t 11) (.t 8))] none) <|
  .seq (.region [p (.mv 12 (.t 0)), p (.nilchk 13 (.t 12)), p (.faddr 14 0 (.t 13)), p (.faddr 15 1 (.t 14)), p (.load 16 false 1 (.t 15)), p (.bin 17 .sub .int (.t 16) (.i .i64 1)), p (.mv 2 (.t 17))] none) <|
  .ret⟩
theorem ok84 : compF Try.prog 84 = some c84.strip := by kernel_rfl

/-- posthouse/mailbox.CopyMessage -/
def c85 : FnC := ⟨1, 10, [.cell 2 true 2],
  .seq (.region [p (.box 1 2 (.t 0)), p (.alloc 2 [.nilsl 2, .nilsl 1])] none) <|
  .seq (.region [p (.faddr 3 0 (.t 1)), p (.load 4 false 1 (.t 3)), p (.call 5 103 [(.t 4)]), p (.faddr 6 1 (.t 1)), p (.load 7 false 1 (.t 6)), p (.call 8 104 [(.t 7)]), p (.build 9 [.nilsl 2, .nilsl 1] [(0, 1, (.t 5)), (1, 1, (.t 8))]), p (.store 2 (.t 2) (.t 9))] (some [0, 1, 3, 0, 8, 31, 63, 127])) <|
  .ret⟩
theorem ok85 : compF Try.prog 85 = some c85.strip := by kernel_rfl

/-- (*posthouse/mailbox.state).remove -/
def c86 : FnC := ⟨2, 69, [],
  .seq (.region [p (.mv 4 (.t 0)), p (.mv 5 (.t 0)), p (.nilchk 6 (.t 5)), p (.faddr 7 0 (.t 6)), p (.faddr 8 4 (.t 7)), p (.load 9 false 1 (.t 8)), p (.mv 10 (.t 0)), p (.nilchk 11 (.t 10)), p (.faddr 12 0 (.t 11)), p (.faddr 13 3 (.t 12)), p (.load 14 false 1 (.t 13)), p (.mv 15 (.t 1)), p (.iaddr 16 6 (.t 14) (.t 15)), p (.faddr 17 0 (.t 16)), p (.load 18 false 1 (.t 17)), p (.mv 19 (.t 0)), p (.call 20 84 [(.t 19)]), p (.build 21 [.t (.int .i64 0), .t (.int .i64 0)] [(0, 1, (.t 18)), (1, 1, (.t 20))]), p (.bsl 22 2 1 [(.int .i64 0), (.int .i64 0)] [(0, (.t 21))]), p (.app 23 2 16 (.t 9) (.t 22)), p (.nilchk 24 (.t 4)), p (.faddr 25 0 (.t 24)), p (.faddr 26 4 (.t 25)), p (.store 1 (.t 26) (.t 23))] (some [0, 0, 2, 6, 14, 30, 0, 64, 192, 448, 960, 0, 4032, 8128, 16320, 0, 32768, 131008, 262080, 524286, 1048575, 2097151, 4194303, 8388607])) <|
  .seq (.region [p (.mv 27 (.t 0)), p (.mv 28 (.t 0)), p (.nilchk 29 (.t 28)), p (.faddr 30 0 (.t 29)), p (.faddr 31 3 (.t 30)), p (.load 32 false 1 (.t 31)), p (.mv 33 (.t 1)), p (.mv 34 (.t 1)), p (.bin 35 .add .int (.t 34) (.i .i64 1)), p (.call 36 105 [(.t 32), (.t 33), (.t 35)]), p (.nilchk 37 (.t 27)), p (.faddr 38 0 (.t 37)), p (.faddr 39 3 (.t 38)), p (.store 1 (.t 39) (.t 36))] none) <|
  .seq (.region [p (.mv 40 (.t 0)), p (.nilchk 41 (.t 40)), p (.faddr 42 0 (.t 41)), p (.faddr 43 4 (.t 42)), p (.load 44 false 1 (.t 43)), p (.len 45 false (.t 44)), p (.bin 46 .gtr .int (.t 45) (.i .i64 400))] none) <|
  .cond (.t 46) (.seq (.region [p (.mv 47 (.t 0)), p (.mv 48 (.t 0)), p (.nilchk 49 (.t 48)), p (.faddr 50 0 (.t 49)), p (.faddr 51 4 (.t 50)), p (.load 52 false 1 (.t 51)), p (.iaddr 53 2 (.t 52) (.i .i64 0)), p (.faddr 54 1 (.t 53)), p (.load 55 false 1 (.t 54)), p (.nilchk 56 (.t 47)), p (.faddr 57 0 (.t 56)), p (.faddr 58 2 (.t 57)), p (.store 1 (.t 58) (.t 55))] none) <|
    .region [p (.mv 59 (.t 0)), p (.mv 60 (.t 0)), p (.nilchk 61 (.t 60)), p (.faddr 62 0 (.t 61)), p (.faddr 63 4 (.t 62)), p (.load 64 false 1 (.t 63)), p (.call 65 106 [(.t 64), (.i .i64 0), (.i .i64 1)]), p (.nilchk 66 (.t 59)), p (.faddr 67 0 (.t 66)), p (.faddr 68 4 (.t 67)), p (.store 1 (.t 68) (.t 65))] none) <|
  .skip⟩
theorem ok86 : compF Try.prog 86 = some c86.strip := by kernel_rfl

/-- posthouse/fold.Fold -/
def c87l0 : AC :=
  .own 8 1 800 <|
  .seq (.seq (.region [p (.mv 34 (.t 6)), p (.len 35 true (.t 34)), p (.bin 36 .gtr .int (.t 35) (.i .i64 78))] none) <|
  .cond (.t 36) (.skip) <|
  .filt [5, 6, 8] <|
  .exit 1) <|
  .block 2 <|
   .seq (.region [p (.mv 37 (.t 6)), p (.mv 38 (.t 7)), p (.call 39 109 [(.t 37), (.t 38)]), p (.mv 9 (.t 39))] none) <|
   .seq (.seq (.region [p (.mv 40 (.t 9)), p (.bin 41 .eql .int (.t 40) (.i .i64 0))] none) <|
   .cond (.t 41) (.filt [5, 6, 8] <|
     .exit 1) <|
   .skip) <|
   .seq (.region [p (.mv 42 (.t 8)), p (.mv 43 (.t 6)), p (.mv 44 (.t 9)), p (.slc 45 true 0 (.t 43) none (some (.t 44)) none), p (.bsl 46 1 1 [(.str [])] [(0, (.t 45))]), p (.app 47 1 16 (.t 42) (.t 46)), p (.mv 8 (.t 47))] none) <|
   .region [p (.mv 48 (.t 6)), p (.mv 49 (.t 9)), p (.slc 50 true 0 (.t 48) (some (.t 49)) none none), p (.mv 6 (.t 50)), p (.mv 7 (.i .i64 0))] none
def c87l1 : AC :=
  .seq (.region [p (.bin 58 .lss .int (.t 57) (.t 56))] none) <|
  .seq (.cond (.t 58) (.skip) <|
  .filt [5, 8] <|
  .exit 3) <|
  .seq (.block 4 <|
   .seq (.region [p (.mv 59 (.t 57)), p (.iaddr 60 1 (.t 55) (.t 57)), p (.load 61 false 1 (.t 60)), p (.mv 10 (.t 59)), p (.mv 11 (.t 61))] none) <|
   .seq (.region [p (.mv 62 (.t 11)), p (.len 63 true (.t 62)), p (.bin 64 .gtr .int (.t 63) (.i .i64 998))] none) <|
   .cond (.t 64) (.seq (.region [p (.mv 65 (.t 10)), p (.call 66 48 [(.i .i64 1), (.t 65)]), p (.mv 4 (.nil 1)), p (.store 2 (.t 5) (.t 66))] none) <|
     .filt [4, 5] <|
     .ret) <|
   .skip) <|
  .region [p (.bin 67 .add .int (.t 57) (.i .i64 1)), p (.mv 57 (.t 67))] none
def c87 : FnC := ⟨2, 70, [.tmp 4, .cell 5 true 2],
  .seq (.region [p (.mv 4 (.nil 1)), p (.alloc 5 [.t (.int .i64 0), .t (.int .i64 0)])] none) <|
  .seq (.block 0 <|
   .seq (.region [p (.mv 13 (.t 0)), p (.call 14 107 [(.t 13)]), p (.un 15 .not (.t 14)), p (.mv 12 (.t 15))] none) <|
   .cond (.t 12) (.seq (.region [p (.call 16 48 [(.i .i64 10), (.i .i64 (-1))]), p (.mv 4 (.nil 1)), p (.store 2 (.t 5) (.t 16))] none) <|
     .ret) <|
   .seq (.region [p (.mv 18 (.t 1)), p (.len 19 true (.t 18)), p (.bin 20 .gtr .int (.t 19) (.i .i64 4000)), p (.mv 17 (.t 20))] none) <|
   .cond (.t 17) (.seq (.region [p (.call 21 48 [(.i .i64 1), (.i .i64 (-1))]), p (.mv 4 (.nil 1)), p (.store 2 (.t 5) (.t 21))] none) <|
     .ret) <|
   .seq (.region [p (.mv 23 (.t 1)), p (.call 24 108 [(.t 23)]), p (.un 25 .not (.t 24)), p (.mv 22 (.t 25))] none) <|
   .cond (.t 22) (.seq (.region [p (.call 26 48 [(.i .i64 11), (.i .i64 (-1))]), p (.mv 4 (.nil 1)), p (.store 2 (.t 5) (.t 26))] none) <|
     .ret) <|
   .skip) <|
  .seq (.region [p (.mv 27 (.t 0)), p (.bin 28 .add .str (.t 27) (.s [58, 32])), p (.mv 29 (.t 1)), p (.bin 30 .add .str (.t 28) (.t 29)), p (.mv 31 (.t 0)), p (.len 32 true (.t 31)), p (.bin 33 .add .int (.t 32) (.i .i64 2)), p (.mv 6 (.t 30)), p (.mv 7 (.t 33))] none) <|
  .seq (.region [p (.mv 8 (.nil 1))] none) <|
  .seq (.block 1 <|
   .loop (.filt [5, 6, 7, 8] c87l0)) <|
  .seq (.region [p (.mv 51 (.t 8)), p (.mv 52 (.t 6)), p (.bsl 53 1 1 [(.str [])] [(0, (.t 52))]), p (.app 54 1 16 (.t 51) (.t 53)), p (.mv 8 (.t 54))] none) <|
  .seq (.seq (.region [p (.mv 55 (.t 8)), p (.len 56 false (.t 55)), p (.mv 57 (.i .i64 0))] none) <|
  .block 3 <|
   .loop (.filt [5, 8, 55, 56, 57] c87l1)) <|
  .seq (.region [p (.mv 68 (.t 8)), p (.call 69 53 []), p (.mv 4 (.t 68)), p (.store 2 (.t 5) (.t 69))] none) <|
  .ret⟩
theorem ok87 : compF Try.prog 87 = some c87.strip := by kernel_rfl

/-- slices.rotateRight[posthouse/api.Seen] -/
def c89 : FnC := ⟨2, 10, [],
  .region [p (.mv 4 (.t 0)), p (.mv 5 (.t 0)), p (.len 6 false (.t 5)), p (.mv 7 (.t 1)), p (.bin 8 .sub .int (.t 6) (.t 7)), p (.call 9 110 [(.t 4), (.t 8)])] none⟩
theorem ok89 : compF Try.prog 89 = some c89.strip := by kernel_rfl

/-- slices.IndexFunc[[]posthouse/api.Seen,posthouse/api.Seen] -/
def c90l0 : AC :=
  .seq (.region [p (.bin 9 .lss .int (.t 8) (.t 7))] none) <|
  .seq (.cond (.t 9) (.skip) <|
  .filt [0, 1] <|
  .exit 0) <|
  .seq (.block 1 <|
   .seq (.region [p (.mv 10 (.t 8)), p (.mv 5 (.t 10))] none) <|
   .seq (.region [p (.mv 11 (.t 1)), p (.mv 12 (.t 0)), p (.mv 13 (.t 5)), p (.iaddr 14 2 (.t 12) (.t 13)), p (.load 15 true 2 (.t 14)), p (.callv 16 (.t 11) [(.t 15)])] none) <|
   .cond (.t 16) (.seq (.region [p (.mv 17 (.t 5)), p (.mv 4 (.t 17))] none) <|
     .filt [0, 1, 4] <|
     .ret) <|
   .skip) <|
  .region [p (.bin 18 .add .int (.t 8) (.i .i64 1)), p (.mv 8 (.t 18))] none
def c90 : FnC := ⟨2, 19, [.tmp 4],
  .seq (.region [p (.mv 4 (.i .i64 0))] none) <|
  .seq (.seq (.region [p (.mv 6 (.t 0)), p (.len 7 false (.t 6)), p (.mv 8 (.i .i64 0))] none) <|
  .block 0 <|
   .loop (.filt [0, 1, 7, 8] c90l0)) <|
  .seq (.region [p (.mv 4 (.i .i64 (-1)))] none) <|
  .ret⟩
theorem ok90 : compF Try.prog 90 = some c90.strip := by kernel_rfl

/-- slices.Index[[]int,int] -/
def c91l0 : AC :=
  .seq (.region [p (.bin 9 .lss .int (.t 8) (.t 7))] none) <|
  .seq (.cond (.t 9) (.skip) <|
  .filt [0] <|
  .exit 0) <|
  .seq (.block 1 <|
   .seq (.region [p (.mv 10 (.t 8)), p (.mv 5 (.t 10))] none) <|
   .seq (.region [p (.mv 11 (.t 1)), p (.mv 12 (.t 0)), p (.mv 13 (.t 5)), p (.iaddr 14 1 (.t 12) (.t 13)), p (.load 15 false 1 (.t 14)), p (.bin 16 .eql .int (.t 11) (.t 15))] none) <|
   .cond (.t 16) (.seq (.region [p (.mv 17 (.t 5)), p (.mv 4 (.t 17))] none) <|
     .filt [0, 4] <|
     .ret) <|
   .skip) <|
  .region [p (.bin 18 .add .int (.t 8) (.i .i64 1)), p (.mv 8 (.t 18))] none
def c91 : FnC := ⟨2, 19, [.tmp 4],
  .seq (.region [p (.mv 4 (.i .i64 0))] none) <|
  .seq (.seq (.region [p (.mv 6 (.t 0)), p (.len 7 false (.t 6)), p (.mv 8 (.i .i64 0))] none) <|
  .block 0 <|
   .loop (.filt [0, 1, 7, 8] c91l0)) <|
  .seq (.region [p (.mv 4 (.i .i64 (-1)))] none) <|
  .ret⟩
theorem ok91 : compF Try.prog 91 = some c91.strip := by kernel_rfl

/-- posthouse/posthouseref2.MessageFault -/
def c92 : FnC := ⟨1, 30, [.cell 2 true 2],
  .seq (.region [p (.box 1 2 (.t 0)), p (.alloc 2 [.t (.int .i64 0), .t (.int .i64 0)])] none) <|
  .seq (.region [p (.faddr 4 0 (.t 1)), p (.load 5 false 1 (.t 4)), p (.call 6 111 [(.t 5)]), p (.alloc 3 [.t (.int .i64 0), .t (.int .i64 0)]), p (.store 2 (.t 3) (.t 6))] none) <|
  .seq (.seq (.region [p (.faddr 7 0 (.t 3)), p (.load 8 false 1 (.t 7)), p (.bin 9 .neq .int (.t 8) (.i .i64 0))] none) <|
  .cond (.t 9) (.seq (.region [p (.load 10 true 2 (.t 3)), p (.store 2 (.t 2) (.t 10))] none) <|
    .ret) <|
  .skip) <|
  .seq (.seq (.region [p (.faddr 11 1 (.t 1)), p (.load 12 false 1 (.t 11)), p (.len 13 false (.t 12)), p (.bin 14 .gtr .int (.t 13) (.i .i64 12000)), p (.mv 15 (.t 14)), q 15 false (.faddr 16 0 (.t 1)), q 15 false (.load 17 false 1 (.t 16)), q 15 false (.call 18 97 [(.t 17)]), q 15 false (.len 19 false (.t 18)), q 15 false (.faddr 20 1 (.t 1)), q 15 false (.load 21 false 1 (.t 20)), q 15 false (.len 22 false (.t 21)), q 15 false (.bin 23 .add .int (.t 19) (.t 22)), q 15 false (.bin 24 .gtr .int (.t 23) (.i .i64 12000)), p (.pick 25 (.t 15) (.b true) (.t 24))] (some [0, 1, 3, 7, 15, 31, 63, 127, 255, 31, 543, 1567, 4095, 8191, 16383])) <|
  .cond (.t 25) (.seq (.region [p (.call 26 112 [(.i .i64 1), (.i .i64 (-4))]), p (.store 2 (.t 2) (.t 26))] none) <|
    .ret) <|
  .skip) <|
  .seq (.region [p (.faddr 27 1 (.t 1)), p (.load 28 false 1 (.t 27)), p (.call 29 113 [(.t 28)]), p (.store 2 (.t 2) (.t 29))] none) <|
  .ret⟩
theorem ok92 : compF Try.prog 92 = some c92.strip := by kernel_rfl

/-- slices.IndexFunc[[]posthouse/api.Gone,posthouse/api.Gone] -/
def c95l0 : AC :=
  .seq (.region [p (.bin 9 .lss .int (.t 8) (.t 7))] none) <|
  .seq (.cond (.t 9) (.skip) <|
  .filt [0, 1] <|
  .exit 0) <|
  .seq (.block 1 <|
   .seq (.region [p (.mv 10 (.t 8)), p (.mv 5 (.t 10))] none) <|
   .seq (.region [p (.mv 11 (.t 1)), p (.mv 12 (.t 0)), p (.mv 13 (.t 5)), p (.iaddr 14 2 (.t 12) (.t 13)), p (.load 15 true 2 (.t 14)), p (.callv 16 (.t 11) [(.t 15)])] none) <|
   .cond (.t 16) (.seq (.region [p (.mv 17 (.t 5)), p (.mv 4 (.t 17))] none) <|
     .filt [0, 1, 4] <|
     .ret) <|
   .skip) <|
  .region [p (.bin 18 .add .int (.t 8) (.i .i64 1)), p (.mv 8 (.t 18))] none
def c95 : FnC := ⟨2, 19, [.tmp 4],
  .seq (.region [p (.mv 4 (.i .i64 0))] none) <|
  .seq (.seq (.region [p (.mv 6 (.t 0)), p (.len 7 false (.t 6)), p (.mv 8 (.i .i64 0))] none) <|
  .block 0 <|
   .loop (.filt [0, 1, 7, 8] c95l0)) <|
  .seq (.region [p (.mv 4 (.i .i64 (-1)))] none) <|
  .ret⟩
theorem ok95 : compF Try.prog 95 = some c95.strip := by kernel_rfl

/-- posthouse/offline.valid$1 -/
def c96 : FnC := ⟨1, 9, [.tmp 2],
  .seq (.region [p (.mv 2 (.b false))] none) <|
  .seq (.region [p (.mv 3 (.t 0)), p (.bin 4 .geq .int (.t 3) (.i .i64 0)), p (.mv 5 (.t 4)), q 5 true (.mv 6 (.t 0)), q 5 true (.bin 7 .leq .int (.t 6) (.i .i64 63)), p (.pick 8 (.t 5) (.t 7) (.b false)), p (.mv 2 (.t 8))] none) <|
  .ret⟩
theorem ok96 : compF Try.prog 96 = some c96.strip := by kernel_rfl

/-- posthouse/posthouseref1.HeaderBytes -/
def c97l0 : AC :=
  .seq (.seq (.region [p (.mv 24 (.t 6)), p (.mv 25 (.t 5)), p (.len 26 false (.t 25)), p (.bin 27 .lss .int (.t 24) (.t 26))] none) <|
  .cond (.t 27) (.skip) <|
  .filt [0, 3, 4] <|
  .exit 2) <|
  .seq (.block 3 <|
   .region [p (.mv 30 (.t 3)), p (.mv 31 (.t 5)), p (.mv 32 (.t 6)), p (.iaddr 33 1 (.t 31) (.t 32)), p (.load 34 false 1 (.t 33)), p (.bin 35 .add .str (.t 30) (.t 34)), p (.bin 36 .add .str (.t 35) (.s [13, 10])), p (.mv 3 (.t 36))] none) <|
  .region [p (.mv 28 (.t 6)), p (.bin 29 .add .int (.t 28) (.i .i64 1)), p (.mv 6 (.t 29))] none
def c97l1 : AC :=
  .seq (.seq (.region [p (.mv 7 (.t 4)), p (.mv 8 (.t 0)), p (.len 9 false (.t 8)), p (.bin 10 .lss .int (.t 7) (.t 9))] none) <|
  .cond (.t 10) (.skip) <|
  .filt [3] <|
  .exit 0) <|
  .seq (.block 1 <|
   .seq (.region [p (.mv 13 (.t 0)), p (.mv 14 (.t 4)), p (.iaddr 15 2 (.t 13) (.t 14)), p (.faddr 16 0 (.t 15)), p (.load 17 false 1 (.t 16)), p (.mv 18 (.t 0)), p (.mv 19 (.t 4)), p (.iaddr 20 2 (.t 18) (.t 19)), p (.faddr 21 1 (.t 20)), p (.load 22 false 1 (.t 21)), p (.call 23 114 [(.t 17), (.t 22)]), p (.mv 5 (.t 23))] (some [0, 0, 3, 7, 15, 0, 0, 96, 224, 480, 1023, 2047])) <|
   .seq (.region [p (.mv 6 (.i .i64 0))] none) <|
   .block 2 <|
    .loop (.filt [0, 3, 4, 5, 6] c97l0)) <|
  .region [p (.mv 11 (.t 4)), p (.bin 12 .add .int (.t 11) (.i .i64 1)), p (.mv 4 (.t 12))] none
def c97 : FnC := ⟨1, 40, [.tmp 2],
  .seq (.region [p (.mv 2 (.nil 1))] none) <|
  .seq (.region [p (.mv 3 (.s []))] none) <|
  .seq (.seq (.region [p (.mv 4 (.i .i64 0))] none) <|
  .block 0 <|
   .loop (.filt [0, 3, 4] c97l1)) <|
  .seq (.region [p (.mv 37 (.t 3)), p (.bin 38 .add .str (.t 37) (.s [13, 10])), p (.conv 39 .s2b (.t 38)), p (.mv 2 (.t 39))] none) <|
  .ret⟩
theorem ok97 : compF Try.prog 97 = some c97.strip := by kernel_rfl

/-- posthouse/basic.Body -/
def c98l0 : AC :=
  .seq (.seq (.region [p (.mv 6 (.t 4)), p (.mv 7 (.t 0)), p (.len 8 false (.t 7)), p (.bin 9 .lss .int (.t 6) (.t 8))] none) <|
  .cond (.t 9) (.skip) <|
  .filt [] <|
  .exit 0) <|
  .seq (.block 1 <|
   .seq (.region [p (.mv 12 (.t 0)), p (.mv 13 (.t 4)), p (.iaddr 14 1 (.t 12) (.t 13)), p (.load 15 false 1 (.t 14)), p (.mv 5 (.t 15))] none) <|
   .seq (.seq (.region [p (.mv 16 (.t 5)), p (.bin 17 .eql .int (.t 16) (.i .u8 13)), p (.mv 18 (.t 17)), q 18 true (.mv 19 (.t 4)), q 18 true (.bin 20 .add .int (.t 19) (.i .i64 1)), q 18 true (.mv 21 (.t 0)), q 18 true (.len 22 false (.t 21)), q 18 true (.bin 23 .lss .int (.t 20) (.t 22)), p (.pick 24 (.t 18) (.t 23) (.b false)), p (.mv 25 (.t 24)), q 25 true (.mv 26 (.t 0)), q 25 true (.mv 27 (.t 4)), q 25 true (.bin 28 .add .int (.t 27) (.i .i64 1)), q 25 true (.iaddr 29 1 (.t 26) (.t 28)), q 25 true (.load 30 false 1 (.t 29)), q 25 true (.bin 31 .eql .int (.t 30) (.i .u8 10)), p (.pick 32 (.t 25) (.t 31) (.b false))] none) <|
   .cond (.t 32) (.seq (.region [p (.mv 3 (.i .i64 0))] none) <|
     .seq (.region [p (.mv 33 (.t 4)), p (.bin 34 .add .int (.t 33) (.i .i64 1)), p (.mv 4 (.t 34))] none) <|
     .filt [0, 3, 4] <|
     .exit 1) <|
   .skip) <|
   .seq (.seq (.region [p (.mv 35 (.t 5)), p (.bin 36 .eql .int (.t 35) (.i .u8 13)), p (.mv 37 (.t 36)), q 37 false (.mv 38 (.t 5)), q 37 false (.bin 39 .eql .int (.t 38) (.i .u8 10)), p (.pick 40 (.t 37) (.b true) (.t 39))] none) <|
   .cond (.t 40) (.seq (.region [p (.mv 2 (.i .i64 11))] none) <|
     .filt [2] <|
     .ret) <|
   .skip) <|
   .seq (.region [p (.mv 41 (.t 3)), p (.bin 42 .add .int (.t 41) (.i .i64 1)), p (.mv 3 (.t 42))] none) <|
   .seq (.region [p (.mv 43 (.t 3)), p (.bin 44 .gtr .int (.t 43) (.i .i64 998))] none) <|
   .cond (.t 44) (.seq (.region [p (.mv 2 (.i .i64 1))] none) <|
     .filt [2] <|
     .ret) <|
   .skip) <|
  .region [p (.mv 10 (.t 4)), p (.bin 11 .add .int (.t 10) (.i .i64 1)), p (.mv 4 (.t 11))] none
def c98 : FnC := ⟨1, 45, [.tmp 2],
  .seq (.region [p (.mv 2 (.i .i64 0))] none) <|
  .seq (.region [p (.mv 3 (.i .i64 0))] none) <|
  .seq (.seq (.region [p (.mv 4 (.i .i64 0))] none) <|
  .block 0 <|
   .loop (.filt [0, 3, 4] c98l0)) <|
  .seq (.region [p (.mv 2 (.i .i64 0))] none) <|
  .ret⟩
theorem ok98 : compF Try.prog 98 = some c98.strip := by kernel_rfl

/-- posthouse/mailbox.removed$1 -/
def c99 : FnC := ⟨2, 9, [.tmp 3],
  .seq (.region [p (.box 2 2 (.t 0)), p (.mv 3 (.b false))] none) <|
  .seq (.region [p (.faddr 4 0 (.t 2)), p (.load 5 false 1 (.t 4)), p (.faddr 6 0 (.t 1)), p (.load 7 false 1 (.t 6)), p (.bin 8 .eql .int (.t 5) (.t 7)), p (.mv 3 (.t 8))] none) <|
  .ret⟩
theorem ok99 : compF Try.prog 99 = some c99.strip := by kernel_rfl

/-- slices.ContainsFunc[[]posthouse/api.Gone,posthouse/api.Gone] -/
def c100 : FnC := ⟨2, 9, [.tmp 4],
  .seq (.region [p (.mv 4 (.b false))] none) <|
  .seq (.region [p (.mv 5 (.t 0)), p (.mv 6 (.t 1)), p (.call 7 95 [(.t 5), (.t 6)]), p (.bin 8 .geq .int (.t 7) (.i .i64 0)), p (.mv 4 (.t 8))] none) <|
  .ret⟩
theorem ok100 : compF Try.prog 100 = some c100.strip := by kernel_rfl

/-- slices.IndexFunc[[]posthouse/api.Stored,posthouse/api.Stored] -/
def c101l0 : AC :=
  .seq (.region [p (.bin 9 .lss .int (.t 8) (.t 7))] none) <|
  .seq (.cond (.t 9) (.skip) <|
  .filt [0, 1] <|
  .exit 0) <|
  .seq (.block 1 <|
   .seq (.region [p (.mv 10 (.t 8)), p (.mv 5 (.t 10))] none) <|
   .seq (.region [p (.mv 11 (.t 1)), p (.mv 12 (.t 0)), p (.mv 13 (.t 5)), p (.iaddr 14 6 (.t 12) (.t 13)), p (.load 15 true 6 (.t 14)), p (.callv 16 (.t 11) [(.t 15)])] none) <|
   .cond (.t 16) (.seq (.region [p (.mv 17 (.t 5)), p (.mv 4 (.t 17))] none) <|
     .filt [0, 1, 4] <|
     .ret) <|
   .skip) <|
  .region [p (.bin 18 .add .int (.t 8) (.i .i64 1)), p (.mv 8 (.t 18))] none
def c101 : FnC := ⟨2, 19, [.tmp 4],
  .seq (.region [p (.mv 4 (.i .i64 0))] none) <|
  .seq (.seq (.region [p (.mv 6 (.t 0)), p (.len 7 false (.t 6)), p (.mv 8 (.i .i64 0))] none) <|
  .block 0 <|
   .loop (.filt [0, 1, 7, 8] c101l0)) <|
  .seq (.region [p (.mv 4 (.i .i64 (-1)))] none) <|
  .ret⟩
theorem ok101 : compF Try.prog 101 = some c101.strip := by kernel_rfl

/-- posthouse/mailbox.Find$1 -/
def c102 : FnC := ⟨2, 8, [.tmp 3],
  .seq (.region [p (.box 2 6 (.t 0)), p (.mv 3 (.b false))] none) <|
  .seq (.region [p (.faddr 4 0 (.t 2)), p (.load 5 false 1 (.t 4)), p (.load 6 false 1 (.t 1)), p (.bin 7 .eql .int (.t 5) (.t 6)), p (.mv 3 (.t 7))] none) <|
  .ret⟩
theorem ok102 : compF Try.prog 102 = some c102.strip := by kernel_rfl

/-- slices.Delete[[]posthouse/api.Stored,posthouse/api.Stored] -/
def c105 : FnC := ⟨3, 33, [.tmp 6],
  .seq (.region [p (.mv 6 (.nil 6))] none) <|
  .seq (.region [p (.mv 8 (.t 0)), p (.mv 9 (.t 1)), p (.mv 10 (.t 2)), p (.mv 11 (.t 0)), p (.len 12 false (.t 11)), p (.slc 13 false 6 (.t 8) (some (.t 9)) (some (.t 10)) (some (.t 12)))] none) <|
  .seq (.seq (.region [p (.mv 14 (.t 1)), p (.mv 15 (.t 2)), p (.bin 16 .eql .int (.t 14) (.t 15))] none) <|
  .cond (.t 16) (.seq (.region [p (.mv 17 (.t 0)), p (.mv 6 (.t 17))] none) <|
    .ret) <|
  .skip) <|
  .seq (.region [p (.mv 18 (.t 0)), p (.len 19 false (.t 18)), p (.mv 7 (.t 19))] none) <|
  .seq (.region [p (.mv 20 (.t 0)), p (.mv 21 (.t 1)), p (.slc 22 false 6 (.t 20) none (some (.t 21)) none), p (.mv 23 (.t 0)), p (.mv 24 (.t 2)), p (.slc 25 false 6 (.t 23) (some (.t 24)) none none), p (.app 26 6 80 (.t 22) (.t 25)), p (.mv 0 (.t 26))] (some [0, 0, 3, 0, 0, 24, 63, 127])) <|
  .seq (.region [p (.mv 27 (.t 0)), p (.mv 28 (.t 0)), p (.len 29 false (.t 28)), p (.mv 30 (.t 7)), p (.slc 31 false 6 (.t 27) (some (.t 29)) (some (.t 30)) none), p (.clr none 6 [(.int .i64 0), (.int .i64 0), (.int .i64 0), (.int .i64 0), (.sl 2 []), (.sl 1 [])] (.t 31))] none) <|
  .seq (.region [p (.mv 32 (.t 0)), p (.mv 6 (.t 32))] none) <|
  .ret⟩
theorem ok105 : compF Try.prog 105 = some c105.strip := by kernel_rfl

/-- slices.Delete[[]posthouse/api.Gone,posthouse/api.Gone] -/
def c106 : FnC := ⟨3, 33, [.tmp 6],
  .seq (.region [p (.mv 6 (.nil 2))] none) <|
  .seq (.region [p (.mv 8 (.t 0)), p (.mv 9 (.t 1)), p (.mv 10 (.t 2)), p (.mv 11 (.t 0)), p (.len 12 false (.t 11)), p (.slc 13 false 2 (.t 8) (some (.t 9)) (some (.t 10)) (some (.t 12)))] none) <|
  .seq (.seq (.region [p (.mv 14 (.t 1)), p (.mv 15 (.t 2)), p (.bin 16 .eql .int (.t 14) (.t 15))] none) <|
  .cond (.t 16) (.seq (.region [p (.mv 17 (.t 0)), p (.mv 6 (.t 17))] none) <|
    .ret) <|
  .skip) <|
  .seq (.region [p (.mv 18 (.t 0)), p (.len 19 false (.t 18)), p (.mv 7 (.t 19))] none) <|
  .seq (.region [p (.mv 20 (.t 0)), p (.mv 21 (.t 1)), p (.slc 22 false 2 (.t 20) none (some (.t 21)) none), p (.mv 23 (.t 0)), p (.mv 24 (.t 2)), p (.slc 25 false 2 (.t 23) (some (.t 24)) none none), p (.app 26 2 16 (.t 22) (.t 25)), p (.mv 0 (.t 26))] (some [0, 0, 3, 0, 0, 24, 63, 127])) <|
  .seq (.region [p (.mv 27 (.t 0)), p (.mv 28 (.t 0)), p (.len 29 false (.t 28)), p (.mv 30 (.t 7)), p (.slc 31 false 2 (.t 27) (some (.t 29)) (some (.t 30)) none), p (.clr none 2 [(.int .i64 0), (.int .i64 0)] (.t 31))] none) <|
  .seq (.region [p (.mv 32 (.t 0)), p (.mv 6 (.t 32))] none) <|
  .ret⟩
theorem ok106 : compF Try.prog 106 = some c106.strip := by kernel_rfl

/-- posthouse/fold.name -/
def c107 : FnC := ⟨1, 14, [.tmp 2],
  .seq (.region [p (.mv 2 (.b false))] none) <|
  .seq (.region [p (.mv 3 (.t 0)), p (.bin 4 .neq .str (.t 3) (.s [])), p (.mv 5 (.t 4)), q 5 true (.mv 6 (.t 0)), q 5 true (.len 7 true (.t 6)), q 5 true (.bin 8 .leq .int (.t 7) (.i .i64 60)), p (.pick 9 (.t 5) (.t 8) (.b false)), p (.mv 10 (.t 9)), q 10 true (.mv 11 (.t 0)), q 10 true (.call 12 115 [(.t 11), (.f 116)]), p (.pick 13 (.t 10) (.t 12) (.b false)), p (.mv 2 (.t 13))] none) <|
  .ret⟩
theorem ok107 : compF Try.prog 107 = some c107.strip := by kernel_rfl

/-- posthouse/fold.value -/
def c108 : FnC := ⟨1, 25, [.tmp 2],
  .seq (.region [p (.mv 2 (.b false))] none) <|
  .seq (.region [p (.mv 3 (.t 0)), p (.call 4 117 [(.t 3)]), p (.un 5 .not (.t 4)), p (.mv 6 (.t 5)), q 6 true (.mv 7 (.t 0)), q 6 true (.bin 8 .eql .str (.t 7) (.s [])), q 6 true (.mv 9 (.t 8)), q 9 false (.mv 10 (.t 0)), q 9 false (.idx 11 (.t 10) (.i .i64 0)), q 9 false (.call 12 118 [(.t 11)]), q 9 false (.un 13 .not (.t 12)), q 9 false (.mv 14 (.t 13)), q 14 true (.mv 15 (.t 0)), q 14 true (.mv 16 (.t 0)), q 14 true (.len 17 true (.t 16)), q 14 true (.bin 18 .sub .int (.t 17) (.i .i64 1)), q 14 true (.idx 19 (.t 15) (.t 18)), q 14 true (.call 20 118 [(.t 19)]), q 14 true (.un 21 .not (.t 20)), q 9 false (.pick 22 (.t 14) (.t 21) (.b false)), q 6 true (.pick 23 (.t 9) (.b true) (.t 22)), p (.pick 24 (.t 6) (.t 23) (.b false)), p (.mv 2 (.t 24))] none) <|
  .ret⟩
theorem ok108 : compF Try.prog 108 = some c108.strip := by kernel_rfl

/-- posthouse/fold.point -/
def c109l0 : AC :=
  .seq (.seq (.region [p (.mv 9 (.t 6)), p (.mv 10 (.t 0)), p (.len 11 true (.t 10)), p (.bin 12 .lss .int (.t 9) (.t 11))] none) <|
  .cond (.t 12) (.skip) <|
  .filt [5] <|
  .exit 0) <|
  .seq (.block 1 <|
   .seq (.seq (.region [p (.mv 15 (.t 0)), p (.mv 16 (.t 6)), p (.idx 17 (.t 15) (.t 16)), p (.call 18 118 [(.t 17)]), p (.un 19 .not (.t 18)), p (.mv 20 (.t 19)), q 20 false (.mv 21 (.t 0)), q 20 false (.mv 22 (.t 6)), q 20 false (.bin 23 .sub .int (.t 22) (.i .i64 1)), q 20 false (.idx 24 (.t 21) (.t 23)), q 20 false (.call 25 118 [(.t 24)]), p (.pick 26 (.t 20) (.b true) (.t 25))] none) <|
   .cond (.t 26) (.filt [0, 5, 6] <|
     .exit 1) <|
   .skip) <|
   .seq (.seq (.region [p (.mv 27 (.t 5)), p (.bin 28 .gtr .int (.t 27) (.i .i64 0)), p (.mv 29 (.t 28)), q 29 true (.mv 30 (.t 6)), q 29 true (.bin 31 .gtr .int (.t 30) (.i .i64 78)), p (.pick 32 (.t 29) (.t 31) (.b false))] none) <|
   .cond (.t 32) (.filt [5] <|
     .exit 0) <|
   .skip) <|
   .region [p (.mv 33 (.t 6)), p (.mv 5 (.t 33))] none) <|
  .region [p (.mv 13 (.t 6)), p (.bin 14 .add .int (.t 13) (.i .i64 1)), p (.mv 6 (.t 14))] none
def c109 : FnC := ⟨2, 35, [.tmp 4],
  .seq (.region [p (.mv 4 (.i .i64 0))] none) <|
  .seq (.region [p (.mv 5 (.i .i64 0))] none) <|
  .seq (.seq (.region [p (.mv 7 (.t 1)), p (.mxn 8 true [(.t 7), (.i .i64 1)]), p (.mv 6 (.t 8))] none) <|
  .block 0 <|
   .loop (.filt [0, 5, 6] c109l0)) <|
  .seq (.region [p (.mv 34 (.t 5)), p (.mv 4 (.t 34))] none) <|
  .ret⟩
theorem ok109 : compF Try.prog 109 = some c109.strip := by kernel_rfl

/-- slices.rotateLeft[posthouse/api.Seen] -/
def c110 : FnC := ⟨2, 14, [],
  .seq (.region [p (.mv 4 (.t 0)), p (.mv 5 (.t 1)), p (.slc 6 false 2 (.t 4) none (some (.t 5)) none), p (.call 7 119 [(.t 6)])] none) <|
  .seq (.region [p (.mv 8 (.t 0)), p (.mv 9 (.t 1)), p (.slc 10 false 2 (.t 8) (some (.t 9)) none none), p (.call 11 119 [(.t 10)])] none) <|
  .region [p (.mv 12 (.t 0)), p (.call 13 119 [(.t 12)])] none⟩
theorem ok110 : compF Try.prog 110 = some c110.strip := by kernel_rfl

/-- posthouse/posthouseref1.FieldsFault -/
def c111l0 : AC :=
  .seq (.seq (.region [p (.mv 9 (.t 3)), p (.mv 10 (.t 0)), p (.len 11 false (.t 10)), p (.bin 12 .lss .int (.t 9) (.t 11))] none) <|
  .cond (.t 12) (.skip) <|
  .filt [2] <|
  .exit 0) <|
  .seq (.block 1 <|
   .seq (.region [p (.mv 15 (.t 0)), p (.mv 16 (.t 3)), p (.iaddr 17 2 (.t 15) (.t 16)), p (.faddr 18 0 (.t 17)), p (.load 19 false 1 (.t 18)), p (.mv 20 (.t 0)), p (.mv 21 (.t 3)), p (.iaddr 22 2 (.t 20) (.t 21)), p (.faddr 23 1 (.t 22)), p (.load 24 false 1 (.t 23)), p (.call 25 120 [(.t 19), (.t 24)]), p (.alloc 4 [.t (.int .i64 0), .t (.int .i64 0)]), p (.store 2 (.t 4) (.t 25))] (some [0, 0, 3, 7, 15, 0, 0, 96, 224, 480, 1023, 0, 4095])) <|
   .seq (.region [p (.faddr 26 0 (.t 4)), p (.load 27 false 1 (.t 26)), p (.bin 28 .neq .int (.t 27) (.i .i64 0))] none) <|
   .cond (.t 28) (.seq (.region [p (.faddr 29 0 (.t 4)), p (.load 30 false 1 (.t 29)), p (.mv 31 (.t 3)), p (.call 32 112 [(.t 30), (.t 31)]), p (.store 2 (.t 2) (.t 32))] none) <|
     .filt [2] <|
     .ret) <|
   .skip) <|
  .region [p (.mv 13 (.t 3)), p (.bin 14 .add .int (.t 13) (.i .i64 1)), p (.mv 3 (.t 14))] none
def c111 : FnC := ⟨1, 34, [.cell 2 true 2],
  .seq (.region [p (.alloc 2 [.t (.int .i64 0), .t (.int .i64 0)])] none) <|
  .seq (.seq (.region [p (.mv 5 (.t 0)), p (.len 6 false (.t 5)), p (.bin 7 .gtr .int (.t 6) (.i .i64 60))] none) <|
  .cond (.t 7) (.seq (.region [p (.call 8 112 [(.i .i64 2), (.i .i64 (-1))]), p (.store 2 (.t 2) (.t 8))] none) <|
    .ret) <|
  .skip) <|
  .seq (.seq (.region [p (.mv 3 (.i .i64 0))] none) <|
  .block 0 <|
   .loop (.filt [0, 2, 3] c111l0)) <|
  .seq (.region [p (.build 33 [.t (.int .i64 0), .t (.int .i64 0)] []), p (.store 2 (.t 2) (.t 33))] none) <|
  .ret⟩
theorem ok111 : compF Try.prog 111 = some c111.strip := by kernel_rfl

/-- posthouse/posthouseref1.At -/
def c112 : FnC := ⟨2, 8, [.cell 4 true 2],
  .seq (.region [p (.alloc 4 [.t (.int .i64 0), .t (.int .i64 0)])] none) <|
  .seq (.region [p (.mv 5 (.t 0)), p (.mv 6 (.t 1)), p (.build 7 [.t (.int .i64 0), .t (.int .i64 0)] [(0, 1, (.t 5)), (1, 1, (.t 6))]), p (.store 2 (.t 4) (.t 7))] none) <|
  .ret⟩
theorem ok112 : compF Try.prog 112 = some c112.strip := by kernel_rfl

/-- posthouse/posthouseref2.BodyFault -/
def c113l0 : AC :=
  .seq (.seq (.region [p (.mv 5 (.t 4)), p (.mv 6 (.t 0)), p (.len 7 false (.t 6)), p (.bin 8 .lss .int (.t 5) (.t 7))] none) <|
  .cond (.t 8) (.skip) <|
  .filt [2] <|
  .exit 0) <|
  .seq (.block 1 <|
   .seq (.seq (.region [p (.mv 11 (.t 0)), p (.mv 12 (.t 4)), p (.call 13 121 [(.t 11), (.t 12)])] none) <|
   .cond (.t 13) (.seq (.region [p (.mv 14 (.t 4)), p (.bin 15 .add .int (.t 14) (.i .i64 1)), p (.mv 4 (.t 15))] none) <|
     .seq (.region [p (.mv 16 (.t 4)), p (.bin 17 .add .int (.t 16) (.i .i64 1)), p (.mv 3 (.t 17))] none) <|
     .filt [0, 2, 3, 4] <|
     .exit 1) <|
   .skip) <|
   .seq (.seq (.region [p (.mv 18 (.t 0)), p (.mv 19 (.t 4)), p (.iaddr 20 1 (.t 18) (.t 19)), p (.load 21 false 1 (.t 20)), p (.bin 22 .eql .int (.t 21) (.i .u8 13)), p (.mv 23 (.t 22)), q 23 false (.mv 24 (.t 0)), q 23 false (.mv 25 (.t 4)), q 23 false (.iaddr 26 1 (.t 24) (.t 25)), q 23 false (.load 27 false 1 (.t 26)), q 23 false (.bin 28 .eql .int (.t 27) (.i .u8 10)), p (.pick 29 (.t 23) (.b true) (.t 28))] none) <|
   .cond (.t 29) (.seq (.region [p (.call 30 112 [(.i .i64 11), (.i .i64 (-5))]), p (.store 2 (.t 2) (.t 30))] none) <|
     .filt [2] <|
     .ret) <|
   .skip) <|
   .seq (.region [p (.mv 31 (.t 4)), p (.mv 32 (.t 3)), p (.bin 33 .sub .int (.t 31) (.t 32)), p (.bin 34 .geq .int (.t 33) (.i .i64 998))] none) <|
   .cond (.t 34) (.seq (.region [p (.call 35 112 [(.i .i64 1), (.i .i64 (-6))]), p (.store 2 (.t 2) (.t 35))] none) <|
     .filt [2] <|
     .ret) <|
   .skip) <|
  .region [p (.mv 9 (.t 4)), p (.bin 10 .add .int (.t 9) (.i .i64 1)), p (.mv 4 (.t 10))] none
def c113 : FnC := ⟨1, 37, [.cell 2 true 2],
  .seq (.region [p (.alloc 2 [.t (.int .i64 0), .t (.int .i64 0)])] none) <|
  .seq (.region [p (.mv 3 (.i .i64 0))] none) <|
  .seq (.seq (.region [p (.mv 4 (.i .i64 0))] none) <|
  .block 0 <|
   .loop (.filt [0, 2, 3, 4] c113l0)) <|
  .seq (.region [p (.build 36 [.t (.int .i64 0), .t (.int .i64 0)] []), p (.store 2 (.t 2) (.t 36))] none) <|
  .ret⟩
theorem ok113 : compF Try.prog 113 = some c113.strip := by kernel_rfl

/-- posthouse/posthouseref1.Folded -/
def c114l0 : AC :=
  .own 6 1 600 <|
  .seq (.seq (.region [p (.mv 20 (.t 7)), p (.mv 21 (.t 5)), p (.len 22 true (.t 21)), p (.bin 23 .lss .int (.t 20) (.t 22))] none) <|
  .cond (.t 23) (.skip) <|
  .filt [5, 6] <|
  .exit 0) <|
  .seq (.block 1 <|
   .seq (.region [p (.mv 26 (.t 5)), p (.mv 27 (.t 7)), p (.idx 28 (.t 26) (.t 27)), p (.call 29 122 [(.t 28)]), p (.mv 30 (.t 29)), q 30 true (.mv 31 (.t 5)), q 30 true (.mv 32 (.t 7)), q 30 true (.bin 33 .sub .int (.t 32) (.i .i64 1)), q 30 true (.idx 34 (.t 31) (.t 33)), q 30 true (.call 35 122 [(.t 34)]), q 30 true (.un 36 .not (.t 35)), p (.pick 37 (.t 30) (.t 36) (.b false))] none) <|
   .cond (.t 37) (.region [p (.mv 38 (.t 6)), p (.mv 39 (.t 7)), p (.bsl 40 1 1 [(.int .i64 0)] [(0, (.t 39))]), p (.app 41 1 8 (.t 38) (.t 40)), p (.mv 6 (.t 41))] none) <|
   .skip) <|
  .region [p (.mv 24 (.t 7)), p (.bin 25 .add .int (.t 24) (.i .i64 1)), p (.mv 7 (.t 25))] none
def c114l1 : AC :=
  .seq (.seq (.region [p (.mv 47 (.t 11)), p (.mv 48 (.t 6)), p (.len 49 false (.t 48)), p (.bin 50 .lss .int (.t 47) (.t 49))] none) <|
  .cond (.t 50) (.skip) <|
  .filt [5, 6, 8, 9, 10] <|
  .exit 4) <|
  .seq (.block 5 <|
   .seq (.region [p (.mv 53 (.t 6)), p (.mv 54 (.t 11)), p (.iaddr 55 1 (.t 53) (.t 54)), p (.load 56 false 1 (.t 55)), p (.mv 12 (.t 56))] none) <|
   .seq (.region [p (.mv 57 (.t 12)), p (.mv 58 (.t 9)), p (.bin 59 .gtr .int (.t 57) (.t 58)), p (.mv 60 (.t 59)), q 60 true (.mv 61 (.t 12)), q 60 true (.mv 62 (.t 9)), q 60 true (.bin 63 .sub .int (.t 61) (.t 62)), q 60 true (.bin 64 .leq .int (.t 63) (.i .i64 78)), q 60 true (.mv 65 (.t 64)), q 65 false (.mv 66 (.t 10)), q 65 false (.bin 67 .lss .int (.t 66) (.i .i64 0)), q 60 true (.pick 68 (.t 65) (.b true) (.t 67)), p (.pick 69 (.t 60) (.t 68) (.b false))] none) <|
   .cond (.t 69) (.region [p (.mv 70 (.t 12)), p (.mv 10 (.t 70))] none) <|
   .skip) <|
  .region [p (.mv 51 (.t 11)), p (.bin 52 .add .int (.t 51) (.i .i64 1)), p (.mv 11 (.t 52))] none
def c114l2 : AC :=
  .own 8 1 800 <|
  .seq (.seq (.region [p (.mv 42 (.t 5)), p (.len 43 true (.t 42)), p (.mv 44 (.t 9)), p (.bin 45 .sub .int (.t 43) (.t 44)), p (.bin 46 .gtr .int (.t 45) (.i .i64 78))] none) <|
  .cond (.t 46) (.skip) <|
  .filt [5, 8, 9] <|
  .exit 2) <|
  .block 3 <|
   .seq (.region [p (.mv 10 (.i .i64 (-1)))] none) <|
   .seq (.seq (.region [p (.mv 11 (.i .i64 0))] none) <|
   .block 4 <|
    .loop (.filt [5, 6, 8, 9, 10, 11] c114l1)) <|
   .seq (.seq (.region [p (.mv 71 (.t 10)), p (.bin 72 .lss .int (.t 71) (.i .i64 0))] none) <|
   .cond (.t 72) (.filt [5, 8, 9] <|
     .exit 2) <|
   .skip) <|
   .seq (.region [p (.mv 73 (.t 8)), p (.mv 74 (.t 5)), p (.mv 75 (.t 9)), p (.mv 76 (.t 10)), p (.slc 77 true 0 (.t 74) (some (.t 75)) (some (.t 76)) none), p (.bsl 78 1 1 [(.str [])] [(0, (.t 77))]), p (.app 79 1 16 (.t 73) (.t 78)), p (.mv 8 (.t 79))] none) <|
   .region [p (.mv 80 (.t 10)), p (.mv 9 (.t 80))] none
def c114 : FnC := ⟨2, 87, [.tmp 4],
  .seq (.region [p (.mv 4 (.nil 1))] none) <|
  .seq (.region [p (.mv 13 (.t 0)), p (.bin 14 .add .str (.t 13) (.s [58, 32])), p (.mv 15 (.t 1)), p (.bin 16 .add .str (.t 14) (.t 15)), p (.mv 5 (.t 16))] none) <|
  .seq (.region [p (.mv 6 (.nil 1))] none) <|
  .seq (.seq (.region [p (.mv 17 (.t 0)), p (.len 18 true (.t 17)), p (.bin 19 .add .int (.t 18) (.i .i64 3)), p (.mv 7 (.t 19))] none) <|
  .block 0 <|
   .loop (.filt [5, 6, 7] c114l0)) <|
  .seq (.region [p (.mv 8 (.nil 1))] none) <|
  .seq (.region [p (.mv 9 (.i .i64 0))] none) <|
  .seq (.block 2 <|
   .loop (.filt [5, 6, 8, 9] c114l2)) <|
  .seq (.region [p (.mv 81 (.t 8)), p (.mv 82 (.t 5)), p (.mv 83 (.t 9)), p (.slc 84 true 0 (.t 82) (some (.t 83)) none none), p (.bsl 85 1 1 [(.str [])] [(0, (.t 84))]), p (.app 86 1 16 (.t 81) (.t 85)), p (.mv 4 (.t 86))] none) <|
  .ret⟩
theorem ok114 : compF Try.prog 114 = some c114.strip := by kernel_rfl

/-- posthouse/basic.All -/
def c115l0 : AC :=
  .seq (.region [p (.bin 9 .lss .int (.t 8) (.t 7))] none) <|
  .seq (.cond (.t 9) (.skip) <|
  .filt [1] <|
  .exit 0) <|
  .seq (.block 1 <|
   .seq (.region [p (.mv 10 (.t 8)), p (.mv 5 (.t 10))] none) <|
   .seq (.region [p (.mv 11 (.t 1)), p (.mv 12 (.t 0)), p (.mv 13 (.t 5)), p (.idx 14 (.t 12) (.t 13)), p (.callv 15 (.t 11) [(.t 14)]), p (.un 16 .not (.t 15))] none) <|
   .cond (.t 16) (.seq (.region [p (.mv 4 (.b false))] none) <|
     .filt [1, 4] <|
     .ret) <|
   .skip) <|
  .region [p (.bin 17 .add .int (.t 8) (.i .i64 1)), p (.mv 8 (.t 17))] none
def c115 : FnC := ⟨2, 18, [.tmp 4],
  .seq (.region [p (.mv 4 (.b false))] none) <|
  .seq (.seq (.region [p (.mv 6 (.t 0)), p (.len 7 true (.t 6)), p (.mv 8 (.i .i64 0))] none) <|
  .block 0 <|
   .loop (.filt [0, 1, 7, 8] c115l0)) <|
  .seq (.region [p (.mv 4 (.b true))] none) <|
  .ret⟩
theorem ok115 : compF Try.prog 115 = some c115.strip := by kernel_rfl

/-- posthouse/fold.name$1 -/
def c116 : FnC := ⟨1, 13, [.tmp 2],
  .seq (.region [p (.mv 2 (.b false))] none) <|
  .seq (.region [p (.mv 3 (.t 0)), p (.bin 4 .geq .int (.t 3) (.i .u8 33)), p (.mv 5 (.t 4)), q 5 true (.mv 6 (.t 0)), q 5 true (.bin 7 .leq .int (.t 6) (.i .u8 126)), p (.pick 8 (.t 5) (.t 7) (.b false)), p (.mv 9 (.t 8)), q 9 true (.mv 10 (.t 0)), q 9 true (.bin 11 .neq .int (.t 10) (.i .u8 58)), p (.pick 12 (.t 9) (.t 11) (.b false)), p (.mv 2 (.t 12))] none) <|
  .ret⟩
theorem ok116 : compF Try.prog 116 = some c116.strip := by kernel_rfl

/-- posthouse/fold.ends -/
def c117 : FnC := ⟨1, 5, [.tmp 2],
  .seq (.region [p (.mv 2 (.b false))] none) <|
  .seq (.region [p (.mv 3 (.t 0)), p (.call 4 123 [(.t 3), (.s [13, 10, 0])]), p (.mv 2 (.t 4))] none) <|
  .ret⟩
theorem ok117 : compF Try.prog 117 = some c117.strip := by kernel_rfl

/-- posthouse/basic.Blank -/
def c118 : FnC := ⟨1, 9, [.tmp 2],
  .seq (.region [p (.mv 2 (.b false))] none) <|
  .seq (.region [p (.mv 3 (.t 0)), p (.bin 4 .eql .int (.t 3) (.i .u8 32)), p (.mv 5 (.t 4)), q 5 false (.mv 6 (.t 0)), q 5 false (.bin 7 .eql .int (.t 6) (.i .u8 9)), p (.pick 8 (.t 5) (.b true) (.t 7)), p (.mv 2 (.t 8))] none) <|
  .ret⟩
theorem ok118 : compF Try.prog 118 = some c118.strip := by kernel_rfl

/-- slices.Reverse[[]posthouse/api.Seen,posthouse/api.Seen] -/
def c119l0 : AC :=
  .seq (.seq (.region [p (.mv 7 (.t 2)), p (.mv 8 (.t 3)), p (.bin 9 .lss .int (.t 7) (.t 8))] none) <|
  .cond (.t 9) (.skip) <|
  .filt [0] <|
  .exit 0) <|
  .seq (.block 1 <|
   .region [p (.mv 14 (.t 0)), p (.mv 15 (.t 2)), p (.mv 16 (.t 0)), p (.mv 17 (.t 3)), p (.mv 18 (.t 0)), p (.mv 19 (.t 3)), p (.iaddr 20 2 (.t 18) (.t 19)), p (.load 21 true 2 (.t 20)), p (.mv 22 (.t 0)), p (.mv 23 (.t 2)), p (.iaddr 24 2 (.t 22) (.t 23)), p (.load 25 true 2 (.t 24)), p (.iaddr 26 2 (.t 14) (.t 15)), p (.store 2 (.t 26) (.t 21)), p (.iaddr 27 2 (.t 16) (.t 17)), p (.store 2 (.t 27) (.t 25))] (some [0, 0, 0, 0, 0, 0, 48, 112, 0, 0, 768, 1792, 4083, 8179, 16383, 32767])) <|
  .region [p (.mv 10 (.t 2)), p (.bin 11 .add .int (.t 10) (.i .i64 1)), p (.mv 12 (.t 3)), p (.bin 13 .sub .int (.t 12) (.i .i64 1)), p (.mv 2 (.t 11)), p (.mv 3 (.t 13))] none
def c119 : FnC := ⟨1, 28, [],
  .seq (.region [p (.mv 4 (.t 0)), p (.len 5 false (.t 4)), p (.bin 6 .sub .int (.t 5) (.i .i64 1)), p (.mv 2 (.i .i64 0)), p (.mv 3 (.t 6))] none) <|
  .block 0 <|
   .loop (.filt [0, 2, 3] c119l0)⟩
theorem ok119 : compF Try.prog 119 = some c119.strip := by kernel_rfl

/-- posthouse/posthouseref1.FoldFault -/
def c120l0 : AC :=
  .seq (.seq (.region [p (.mv 18 (.t 6)), p (.mv 19 (.t 5)), p (.len 20 false (.t 19)), p (.bin 21 .lss .int (.t 18) (.t 20))] none) <|
  .cond (.t 21) (.skip) <|
  .filt [4] <|
  .exit 0) <|
  .seq (.block 1 <|
   .seq (.region [p (.mv 24 (.t 5)), p (.mv 25 (.t 6)), p (.iaddr 26 1 (.t 24) (.t 25)), p (.load 27 false 1 (.t 26)), p (.len 28 true (.t 27)), p (.bin 29 .gtr .int (.t 28) (.i .i64 998))] none) <|
   .cond (.t 29) (.seq (.region [p (.mv 30 (.t 6)), p (.call 31 112 [(.i .i64 1), (.t 30)]), p (.store 2 (.t 4) (.t 31))] none) <|
     .filt [4] <|
     .ret) <|
   .skip) <|
  .region [p (.mv 22 (.t 6)), p (.bin 23 .add .int (.t 22) (.i .i64 1)), p (.mv 6 (.t 23))] none
def c120 : FnC := ⟨2, 33, [.cell 4 true 2],
  .seq (.region [p (.alloc 4 [.t (.int .i64 0), .t (.int .i64 0)])] none) <|
  .seq (.seq (.region [p (.mv 7 (.t 0)), p (.mv 8 (.t 1)), p (.call 9 124 [(.t 7), (.t 8)]), p (.bin 10 .neq .int (.t 9) (.i .i64 0))] none) <|
  .cond (.t 10) (.seq (.region [p (.mv 11 (.t 0)), p (.mv 12 (.t 1)), p (.call 13 124 [(.t 11), (.t 12)]), p (.call 14 112 [(.t 13), (.i .i64 (-1))]), p (.store 2 (.t 4) (.t 14))] none) <|
    .ret) <|
  .skip) <|
  .seq (.region [p (.mv 15 (.t 0)), p (.mv 16 (.t 1)), p (.call 17 114 [(.t 15), (.t 16)]), p (.mv 5 (.t 17))] none) <|
  .seq (.seq (.region [p (.mv 6 (.i .i64 0))] none) <|
  .block 0 <|
   .loop (.filt [4, 5, 6] c120l0)) <|
  .seq (.region [p (.build 32 [.t (.int .i64 0), .t (.int .i64 0)] []), p (.store 2 (.t 4) (.t 32))] none) <|
  .ret⟩
theorem ok120 : compF Try.prog 120 = some c120.strip := by kernel_rfl

/-- posthouse/posthouseref1.Crlf -/
def c121 : FnC := ⟨2, 25, [.tmp 4],
  .seq (.region [p (.mv 4 (.b false))] none) <|
  .seq (.region [p (.mv 5 (.t 1)), p (.bin 6 .add .int (.t 5) (.i .i64 1)), p (.mv 7 (.t 0)), p (.len 8 false (.t 7)), p (.bin 9 .lss .int (.t 6) (.t 8)), p (.mv 10 (.t 9)), q 10 true (.mv 11 (.t 0)), q 10 true (.mv 12 (.t 1)), q 10 true (.iaddr 13 1 (.t 11) (.t 12)), q 10 true (.load 14 false 1 (.t 13)), q 10 true (.bin 15 .eql .int (.t 14) (.i .u8 13)), p (.pick 16 (.t 10) (.t 15) (.b false)), p (.mv 17 (.t 16)), q 17 true (.mv 18 (.t 0)), q 17 true (.mv 19 (.t 1)), q 17 true (.bin 20 .add .int (.t 19) (.i .i64 1)), q 17 true (.iaddr 21 1 (.t 18) (.t 20)), q 17 true (.load 22 false 1 (.t 21)), q 17 true (.bin 23 .eql .int (.t 22) (.i .u8 10)), p (.pick 24 (.t 17) (.t 23) (.b false)), p (.mv 4 (.t 24))] none) <|
  .ret⟩
theorem ok121 : compF Try.prog 121 = some c121.strip := by kernel_rfl

/-- posthouse/posthouseref1.Blank -/
def c122 : FnC := ⟨1, 9, [.tmp 2],
  .seq (.region [p (.mv 2 (.b false))] none) <|
  .seq (.region [p (.mv 3 (.t 0)), p (.bin 4 .eql .int (.t 3) (.i .u8 32)), p (.mv 5 (.t 4)), q 5 false (.mv 6 (.t 0)), q 5 false (.bin 7 .eql .int (.t 6) (.i .u8 9)), p (.pick 8 (.t 5) (.b true) (.t 7)), p (.mv 2 (.t 8))] none) <|
  .ret⟩
theorem ok122 : compF Try.prog 122 = some c122.strip := by kernel_rfl

/-- strings.ContainsAny -/
def c123 : FnC := ⟨2, 9, [.tmp 4],
  .seq (.region [p (.mv 4 (.b false))] none) <|
  .seq (.region [p (.mv 5 (.t 0)), p (.mv 6 (.t 1)), p (.call 7 125 [(.t 5), (.t 6)]), p (.bin 8 .geq .int (.t 7) (.i .i64 0)), p (.mv 4 (.t 8))] none) <|
  .ret⟩
theorem ok123 : compF Try.prog 123 = some c123.strip := by kernel_rfl

/-- posthouse/posthouseref1.FieldCode -/
def c124l0 : AC :=
  .seq (.seq (.region [p (.mv 12 (.t 5)), p (.mv 13 (.t 1)), p (.len 14 true (.t 13)), p (.bin 15 .lss .int (.t 12) (.t 14))] none) <|
  .cond (.t 15) (.skip) <|
  .filt [1] <|
  .exit 0) <|
  .seq (.block 1 <|
   .seq (.region [p (.mv 18 (.t 1)), p (.mv 19 (.t 5)), p (.idx 20 (.t 18) (.t 19)), p (.call 21 127 [(.t 20), (.s [13, 10, 0])])] none) <|
   .cond (.t 21) (.seq (.region [p (.mv 4 (.i .i64 11))] none) <|
     .filt [4] <|
     .ret) <|
   .skip) <|
  .region [p (.mv 16 (.t 5)), p (.bin 17 .add .int (.t 16) (.i .i64 1)), p (.mv 5 (.t 17))] none
def c124 : FnC := ⟨2, 26, [.tmp 4],
  .seq (.region [p (.mv 4 (.i .i64 0))] none) <|
  .seq (.seq (.region [p (.mv 6 (.t 0)), p (.call 7 126 [(.t 6)]), p (.un 8 .not (.t 7))] none) <|
  .cond (.t 8) (.seq (.region [p (.mv 4 (.i .i64 10))] none) <|
    .ret) <|
  .skip) <|
  .seq (.seq (.region [p (.mv 9 (.t 1)), p (.len 10 true (.t 9)), p (.bin 11 .gtr .int (.t 10) (.i .i64 4000))] none) <|
  .cond (.t 11) (.seq (.region [p (.mv 4 (.i .i64 1))] none) <|
    .ret) <|
  .skip) <|
  .seq (.seq (.region [p (.mv 5 (.i .i64 0))] none) <|
  .block 0 <|
   .loop (.filt [1, 5] c124l0)) <|
  .seq (.seq (.region [p (.mv 22 (.t 1)), p (.call 23 128 [(.t 22)]), p (.mv 24 (.t 1)), p (.bin 25 .neq .str (.t 23) (.t 24))] none) <|
  .cond (.t 25) (.seq (.region [p (.mv 4 (.i .i64 11))] none) <|
    .ret) <|
  .skip) <|
  .seq (.region [p (.mv 4 (.i .i64 0))] none) <|
  .ret⟩
theorem ok124 : compF Try.prog 124 = some c124.strip := by kernel_rfl

/-- posthouse/posthouseref1.FieldName -/
def c126l0 : AC :=
  .seq (.seq (.region [p (.mv 4 (.t 3)), p (.mv 5 (.t 0)), p (.len 6 true (.t 5)), p (.bin 7 .lss .int (.t 4) (.t 6))] none) <|
  .cond (.t 7) (.skip) <|
  .filt [0] <|
  .exit 0) <|
  .seq (.block 1 <|
   .seq (.region [p (.mv 10 (.t 0)), p (.mv 11 (.t 3)), p (.idx 12 (.t 10) (.t 11)), p (.conv 13 (.int .i64) (.t 12)), p (.call 14 133 [(.t 13), (.i .i64 33), (.i .i64 126)]), p (.un 15 .not (.t 14)), p (.mv 16 (.t 15)), q 16 false (.mv 17 (.t 0)), q 16 false (.mv 18 (.t 3)), q 16 false (.idx 19 (.t 17) (.t 18)), q 16 false (.bin 20 .eql .int (.t 19) (.i .u8 58)), p (.pick 21 (.t 16) (.b true) (.t 20))] none) <|
   .cond (.t 21) (.seq (.region [p (.mv 2 (.b false))] none) <|
     .filt [2] <|
     .ret) <|
   .skip) <|
  .region [p (.mv 8 (.t 3)), p (.bin 9 .add .int (.t 8) (.i .i64 1)), p (.mv 3 (.t 9))] none
def c126 : FnC := ⟨1, 25, [.tmp 2],
  .seq (.region [p (.mv 2 (.b false))] none) <|
  .seq (.seq (.region [p (.mv 3 (.i .i64 0))] none) <|
  .block 0 <|
   .loop (.filt [0, 3] c126l0)) <|
  .seq (.region [p (.mv 22 (.t 0)), p (.len 23 true (.t 22)), p (.call 24 133 [(.t 23), (.i .i64 1), (.i .i64 60)]), p (.mv 2 (.t 24))] none) <|
  .ret⟩
theorem ok126 : compF Try.prog 126 = some c126.strip := by kernel_rfl

/-- posthouse/posthouseref1.OneOf -/
def c127l0 : AC :=
  .seq (.seq (.region [p (.mv 6 (.t 5)), p (.mv 7 (.t 1)), p (.len 8 true (.t 7)), p (.bin 9 .lss .int (.t 6) (.t 8))] none) <|
  .cond (.t 9) (.skip) <|
  .filt [] <|
  .exit 0) <|
  .seq (.block 1 <|
   .seq (.region [p (.mv 12 (.t 1)), p (.mv 13 (.t 5)), p (.idx 14 (.t 12) (.t 13)), p (.mv 15 (.t 0)), p (.bin 16 .eql .int (.t 14) (.t 15))] none) <|
   .cond (.t 16) (.seq (.region [p (.mv 4 (.b true))] none) <|
     .filt [4] <|
     .ret) <|
   .skip) <|
  .region [p (.mv 10 (.t 5)), p (.bin 11 .add .int (.t 10) (.i .i64 1)), p (.mv 5 (.t 11))] none
def c127 : FnC := ⟨2, 17, [.tmp 4],
  .seq (.region [p (.mv 4 (.b false))] none) <|
  .seq (.seq (.region [p (.mv 5 (.i .i64 0))] none) <|
  .block 0 <|
   .loop (.filt [0, 1, 5] c127l0)) <|
  .seq (.region [p (.mv 4 (.b false))] none) <|
  .ret⟩
theorem ok127 : compF Try.prog 127 = some c127.strip := by kernel_rfl

/-- posthouse/posthouseref1.Trim -/
def c128l0 : AC :=
  .seq (.seq (.region [p (.mv 3 (.t 0)), p (.len 4 true (.t 3)), p (.bin 5 .gtr .int (.t 4) (.i .i64 0)), p (.mv 6 (.t 5)), q 6 true (.mv 7 (.t 0)), q 6 true (.idx 8 (.t 7) (.i .i64 0)), q 6 true (.call 9 122 [(.t 8)]), p (.pick 10 (.t 6) (.t 9) (.b false))] none) <|
  .cond (.t 10) (.skip) <|
  .filt [0] <|
  .exit 0) <|
  .block 1 <|
   .region [p (.mv 11 (.t 0)), p (.slc 12 true 0 (.t 11) (some (.i .i64 1)) none none), p (.mv 0 (.t 12))] none
def c128l1 : AC :=
  .seq (.seq (.region [p (.mv 13 (.t 0)), p (.len 14 true (.t 13)), p (.bin 15 .gtr .int (.t 14) (.i .i64 0)), p (.mv 16 (.t 15)), q 16 true (.mv 17 (.t 0)), q 16 true (.mv 18 (.t 0)), q 16 true (.len 19 true (.t 18)), q 16 true (.bin 20 .sub .int (.t 19) (.i .i64 1)), q 16 true (.idx 21 (.t 17) (.t 20)), q 16 true (.call 22 122 [(.t 21)]), p (.pick 23 (.t 16) (.t 22) (.b false))] none) <|
  .cond (.t 23) (.skip) <|
  .filt [0] <|
  .exit 2) <|
  .block 3 <|
   .region [p (.mv 24 (.t 0)), p (.mv 25 (.t 0)), p (.len 26 true (.t 25)), p (.bin 27 .sub .int (.t 26) (.i .i64 1)), p (.slc 28 true 0 (.t 24) none (some (.t 27)) none), p (.mv 0 (.t 28))] none
def c128 : FnC := ⟨1, 30, [.tmp 2],
  .seq (.region [p (.mv 2 (.s []))] none) <|
  .seq (.block 0 <|
   .loop (.filt [0] c128l0)) <|
  .seq (.block 2 <|
   .loop (.filt [0] c128l1)) <|
  .seq (.region [p (.mv 29 (.t 0)), p (.mv 2 (.t 29))] none) <|
  .ret⟩
theorem ok128 : compF Try.prog 128 = some c128.strip := by kernel_rfl

/-- strings.shouldUseASCIISet -/
def c130 : FnC := ⟨1, 5, [.tmp 2],
  .seq (.region [p (.mv 2 (.b false))] none) <|
  .seq (.region [p (.mv 3 (.t 0)), p (.bin 4 .gtr .int (.t 3) (.i .i64 8)), p (.mv 2 (.t 4))] none) <|
  .ret⟩
theorem ok130 : compF Try.prog 130 = some c130.strip := by kernel_rfl

/-- posthouse/posthouseref1.In -/
def c133 : FnC := ⟨3, 15, [.tmp 6],
  .seq (.region [p (.mv 6 (.b false))] none) <|
  .seq (.region [p (.mv 7 (.t 0)), p (.mv 8 (.t 1)), p (.bin 9 .geq .int (.t 7) (.t 8)), p (.mv 10 (.t 9)), q 10 true (.mv 11 (.t 0)), q 10 true (.mv 12 (.t 2)), q 10 true (.bin 13 .leq .int (.t 11) (.t 12)), p (.pick 14 (.t 10) (.t 13) (.b false)), p (.mv 6 (.t 14))] none) <|
  .ret⟩
theorem ok133 : compF Try.prog 133 = some c133.strip := by kernel_rfl

/-- strings.IndexByte -/
def c134 : FnC := ⟨2, 8, [.tmp 4],
  .seq (.region [p (.mv 4 (.i .i64 0))] none) <|
  .seq (.region [p (.mv 5 (.t 0)), p (.mv 6 (.t 1)), p (.call 7 138 [(.t 5), (.t 6)]), p (.mv 4 (.t 7))] none) <|
  .ret⟩
theorem ok134 : compF Try.prog 134 = some c134.strip := by kernel_rfl

/-- unicode/utf8.ValidRune -/
def c135 : FnC := ⟨1, 17, [.tmp 2],
  .seq (.region [p (.mv 2 (.b false))] none) <|
  .seq (.block 0 <|
   .seq (.region [p (.mv 4 (.t 0)), p (.bin 5 .leq .int (.i .i32 0) (.t 4)), p (.mv 6 (.t 5)), q 6 true (.mv 7 (.t 0)), q 6 true (.bin 8 .lss .int (.t 7) (.i .i32 55296)), p (.pick 9 (.t 6) (.t 8) (.b false)), p (.mv 3 (.t 9))] none) <|
   .cond (.t 3) (.seq (.region [p (.mv 2 (.b true))] none) <|
     .ret) <|
   .seq (.region [p (.mv 11 (.t 0)), p (.bin 12 .lss .int (.i .i32 57343) (.t 11)), p (.mv 13 (.t 12)), q 13 true (.mv 14 (.t 0)), q 13 true (.bin 15 .leq .int (.t 14) (.i .i32 1114111)), p (.pick 16 (.t 13) (.t 15) (.b false)), p (.mv 10 (.t 16))] none) <|
   .cond (.t 10) (.seq (.region [p (.mv 2 (.b true))] none) <|
     .ret) <|
   .skip) <|
  .seq (.region [p (.mv 2 (.b false))] none) <|
  .ret⟩
theorem ok135 : compF Try.prog 135 = some c135.strip := by kernel_rfl

/-- internal/bytealg.Cutover -/
def c136 : FnC := ⟨1, 6, [.tmp 2],
  .seq (.region [p (.mv 2 (.i .i64 0))] none) <|
  .seq (.region [p (.mv 3 (.t 0)), p (.bin 4 .add .int (.t 3) (.i .i64 16)), p (.bin 5 .quo .int (.t 4) (.i .i64 8)), p (.mv 2 (.t 5))] none) <|
  .ret⟩
theorem ok136 : compF Try.prog 136 = some c136.strip := by kernel_rfl

/-- internal/stringslite.IndexByte -/
def c138 : FnC := ⟨2, 8, [.tmp 4],
  .seq (.region [p (.mv 4 (.i .i64 0))] none) <|
  .seq (.region [p (.mv 5 (.t 0)), p (.mv 6 (.t 1)), p (.call 7 139 [(.t 5), (.t 6)]), p (.mv 4 (.t 7))] none) <|
  .ret⟩
theorem ok138 : compF Try.prog 138 = some c138.strip := by kernel_rfl

end Go.Proofs.Ytbempckmbfbjgaa.Code

namespace Go.Proofs.Ytbempckmbfbjgaa.Code
open Go.Ev
set_option maxRecDepth 100000
def look : List (Nat × FnC) → Tab
  | [], _ => none
  | (n, c) :: l, f => if f = n then some c else look l f
def Fit : List (Nat × FnC) → Prop
  | [] => True
  | p :: l => compF Try.prog p.1 = some p.2.strip ∧ Fit l
theorem look_ok : ∀ {l : List (Nat × FnC)}, Fit l → TabOK Try.prog (look l)
  | [], _ => fun f fc h => by cases h
  | p :: l, hl => fun f fc h => by
    simp only [look] at h
    split at h
    · rename_i hf
      injection h with h
      subst h hf
      exact hl.1
    · exact look_ok hl.2 f fc h
def tabL : List (Nat × FnC) := [(3, c3), (4, c4), (5, c5), (6, c6), (7, c7), (8, c8), (9, c9), (10, c10), (11, c11), (12, c12), (13, c13), (14, c14), (15, c15), (16, c16), (17, c17), (18, c18), (19, c19), (20, c20), (21, c21), (22, c22), (23, c23), (24, c24), (25, c25), (26, c26), (27, c27), (28, c28), (29, c29), (30, c30), (31, c31), (32, c32), (33, c33), (34, c34), (35, c35), (36, c36), (37, c37), (38, c38), (39, c39), (41, c41), (42, c42), (43, c43), (44, c44), (45, c45), (46, c46), (47, c47), (48, c48), (49, c49), (50, c50), (51, c51), (52, c52), (53, c53), (54, c54), (55, c55), (56, c56), (57, c57), (58, c58), (60, c60), (61, c61), (63, c63), (64, c64), (65, c65), (66, c66), (67, c67), (68, c68), (69, c69), (70, c70), (71, c71), (72, c72), (73, c73), (74, c74), (76, c76), (77, c77), (78, c78), (79, c79), (80, c80), (81, c81), (82, c82), (83, c83), (84, c84), (85, c85), (86, c86), (87, c87), (89, c89), (90, c90), (91, c91), (92, c92), (95, c95), (96, c96), (97, c97), (98, c98), (99, c99), (100, c100), (101, c101), (102, c102), (105, c105), (106, c106), (107, c107), (108, c108), (109, c109), (110, c110), (111, c111), (112, c112), (113, c113), (114, c114), (115, c115), (116, c116), (117, c117), (118, c118), (119, c119), (120, c120), (121, c121), (122, c122), (123, c123), (124, c124), (126, c126), (127, c127), (128, c128), (130, c130), (133, c133), (134, c134), (135, c135), (136, c136), (138, c138)]
def tab : Tab := look tabL
theorem tab_ok : TabOK Try.prog tab := look_ok ⟨ok3, ok4, ok5, ok6, ok7, ok8, ok9, ok10, ok11, ok12, ok13, ok14, ok15, ok16, ok17, ok18, ok19, ok20, ok21, ok22, ok23, ok24, ok25, ok26, ok27, ok28, ok29, ok30, ok31, ok32, ok33, ok34, ok35, ok36, ok37, ok38, ok39, ok41, ok42, ok43, ok44, ok45, ok46, ok47, ok48, ok49, ok50, ok51, ok52, ok53, ok54, ok55, ok56, ok57, ok58, ok60, ok61, ok63, ok64, ok65, ok66, ok67, ok68, ok69, ok70, ok71, ok72, ok73, ok74, ok76, ok77, ok78, ok79, ok80, ok81, ok82, ok83, ok84, ok85, ok86, ok87, ok89, ok90, ok91, ok92, ok95, ok96, ok97, ok98, ok99, ok100, ok101, ok102, ok105, ok106, ok107, ok108, ok109, ok110, ok111, ok112, ok113, ok114, ok115, ok116, ok117, ok118, ok119, ok120, ok121, ok122, ok123, ok124, ok126, ok127, ok128, ok130, ok133, ok134, ok135, ok136, ok138, trivial⟩
theorem tab3 : tab 3 = some c3 := rfl
theorem tab4 : tab 4 = some c4 := rfl
theorem tab5 : tab 5 = some c5 := rfl
theorem tab6 : tab 6 = some c6 := rfl
theorem tab7 : tab 7 = some c7 := rfl
theorem tab8 : tab 8 = some c8 := rfl
theorem tab9 : tab 9 = some c9 := rfl
theorem tab10 : tab 10 = some c10 := rfl
theorem tab11 : tab 11 = some c11 := rfl
theorem tab12 : tab 12 = some c12 := rfl
theorem tab13 : tab 13 = some c13 := rfl
theorem tab14 : tab 14 = some c14 := rfl
theorem tab15 : tab 15 = some c15 := rfl
theorem tab16 : tab 16 = some c16 := rfl
theorem tab17 : tab 17 = some c17 := rfl
theorem tab18 : tab 18 = some c18 := rfl
theorem tab19 : tab 19 = some c19 := rfl
theorem tab20 : tab 20 = some c20 := rfl
theorem tab21 : tab 21 = some c21 := rfl
theorem tab22 : tab 22 = some c22 := rfl
theorem tab23 : tab 23 = some c23 := rfl
theorem tab24 : tab 24 = some c24 := rfl
theorem tab25 : tab 25 = some c25 := rfl
theorem tab26 : tab 26 = some c26 := rfl
theorem tab27 : tab 27 = some c27 := rfl
theorem tab28 : tab 28 = some c28 := rfl
theorem tab29 : tab 29 = some c29 := rfl
theorem tab30 : tab 30 = some c30 := rfl
theorem tab31 : tab 31 = some c31 := rfl
theorem tab32 : tab 32 = some c32 := rfl
theorem tab33 : tab 33 = some c33 := rfl
theorem tab34 : tab 34 = some c34 := rfl
theorem tab35 : tab 35 = some c35 := rfl
theorem tab36 : tab 36 = some c36 := rfl
theorem tab37 : tab 37 = some c37 := rfl
theorem tab38 : tab 38 = some c38 := rfl
theorem tab39 : tab 39 = some c39 := rfl
theorem tab41 : tab 41 = some c41 := rfl
theorem tab42 : tab 42 = some c42 := rfl
theorem tab43 : tab 43 = some c43 := rfl
theorem tab44 : tab 44 = some c44 := rfl
theorem tab45 : tab 45 = some c45 := rfl
theorem tab46 : tab 46 = some c46 := rfl
theorem tab47 : tab 47 = some c47 := rfl
theorem tab48 : tab 48 = some c48 := rfl
theorem tab49 : tab 49 = some c49 := rfl
theorem tab50 : tab 50 = some c50 := rfl
theorem tab51 : tab 51 = some c51 := rfl
theorem tab52 : tab 52 = some c52 := rfl
theorem tab53 : tab 53 = some c53 := rfl
theorem tab54 : tab 54 = some c54 := rfl
theorem tab55 : tab 55 = some c55 := rfl
theorem tab56 : tab 56 = some c56 := rfl
theorem tab57 : tab 57 = some c57 := rfl
theorem tab58 : tab 58 = some c58 := rfl
theorem tab60 : tab 60 = some c60 := rfl
theorem tab61 : tab 61 = some c61 := rfl
theorem tab63 : tab 63 = some c63 := rfl
theorem tab64 : tab 64 = some c64 := rfl
theorem tab65 : tab 65 = some c65 := rfl
theorem tab66 : tab 66 = some c66 := rfl
theorem tab67 : tab 67 = some c67 := rfl
theorem tab68 : tab 68 = some c68 := rfl
theorem tab69 : tab 69 = some c69 := rfl
theorem tab70 : tab 70 = some c70 := rfl
theorem tab71 : tab 71 = some c71 := rfl
theorem tab72 : tab 72 = some c72 := rfl
theorem tab73 : tab 73 = some c73 := rfl
theorem tab74 : tab 74 = some c74 := rfl
theorem tab76 : tab 76 = some c76 := rfl
theorem tab77 : tab 77 = some c77 := rfl
theorem tab78 : tab 78 = some c78 := rfl
theorem tab79 : tab 79 = some c79 := rfl
theorem tab80 : tab 80 = some c80 := rfl
theorem tab81 : tab 81 = some c81 := rfl
theorem tab82 : tab 82 = some c82 := rfl
theorem tab83 : tab 83 = some c83 := rfl
theorem tab84 : tab 84 = some c84 := rfl
theorem tab85 : tab 85 = some c85 := rfl
theorem tab86 : tab 86 = some c86 := rfl
theorem tab87 : tab 87 = some c87 := rfl
theorem tab89 : tab 89 = some c89 := rfl
theorem tab90 : tab 90 = some c90 := rfl
theorem tab91 : tab 91 = some c91 := rfl
theorem tab92 : tab 92 = some c92 := rfl
theorem tab95 : tab 95 = some c95 := rfl
theorem tab96 : tab 96 = some c96 := rfl
theorem tab97 : tab 97 = some c97 := rfl
theorem tab98 : tab 98 = some c98 := rfl
theorem tab99 : tab 99 = some c99 := rfl
theorem tab100 : tab 100 = some c100 := rfl
theorem tab101 : tab 101 = some c101 := rfl
theorem tab102 : tab 102 = some c102 := rfl
theorem tab105 : tab 105 = some c105 := rfl
theorem tab106 : tab 106 = some c106 := rfl
theorem tab107 : tab 107 = some c107 := rfl
theorem tab108 : tab 108 = some c108 := rfl
theorem tab109 : tab 109 = some c109 := rfl
theorem tab110 : tab 110 = some c110 := rfl
theorem tab111 : tab 111 = some c111 := rfl
theorem tab112 : tab 112 = some c112 := rfl
theorem tab113 : tab 113 = some c113 := rfl
theorem tab114 : tab 114 = some c114 := rfl
theorem tab115 : tab 115 = some c115 := rfl
theorem tab116 : tab 116 = some c116 := rfl
theorem tab117 : tab 117 = some c117 := rfl
theorem tab118 : tab 118 = some c118 := rfl
theorem tab119 : tab 119 = some c119 := rfl
theorem tab120 : tab 120 = some c120 := rfl
theorem tab121 : tab 121 = some c121 := rfl
theorem tab122 : tab 122 = some c122 := rfl
theorem tab123 : tab 123 = some c123 := rfl
theorem tab124 : tab 124 = some c124 := rfl
theorem tab126 : tab 126 = some c126 := rfl
theorem tab127 : tab 127 = some c127 := rfl
theorem tab128 : tab 128 = some c128 := rfl
theorem tab130 : tab 130 = some c130 := rfl
theorem tab133 : tab 133 = some c133 := rfl
theorem tab134 : tab 134 = some c134 := rfl
theorem tab135 : tab 135 = some c135 := rfl
theorem tab136 : tab 136 = some c136 := rfl
theorem tab138 : tab 138 = some c138 := rfl
end Go.Proofs.Ytbempckmbfbjgaa.Code
